/-
  No cell of these rows narrows 'for every input' (looked for: loops, veiled, ifaces, maps, wideKeys, modest, calm, conditions, laid).
  DERIVED. THE GIVEN ROWS OF THIS SEAT. 14 by the template 'for every input the law returns true; each argument reads behind the call as it read before'; 0 by the template 'total and deterministic' (their statements: YtafncmgijbkomaaTotals.lean).
  GIVEN WITH THE SEED: the statements are not yours to turn. If you find one false, say at which input.
  Laid BY PROGRAM, IN A SANDBOX (cutbox-rows.mjs): the forced cells as the released guide's own fill.sh prints them over the translation de38878e086a9936… (all of the seat's roots in one cut). By AI agents, Wed Nov 11 2026. No macro, syntax, notation, axiom, sorry.
-/
import Derived.Test.YtafncmgijbkomaaChecked
import GoSem.Claim
import GoSem.ClaimJoined
import GoSem.ClaimMapViews
import Derived.JoinedTies
import Derived.KernelRfl
namespace Go.Proofs.Ytafncmgijbkomaa
/- THE CELL 'sum', in the pinned program and in every row, IS THE sha256 OF THE DUMP (.gsa) THAT YtafncmgijbkomaaProg.lean LOADS. Nothing in Lean hashes anything: it is a label: what it is worth is what the hold of that sum in a sandbox is worth. -/
noncomputable def Try.pinned : Pinned := { name := "ytafncmgijbkomaa", sum := "de38878e086a9936e03bc63b2adb9115fe4adaf467866f727d200ebfa46ff271", checked := Try.checked }
namespace Rows
def none {H : Type} : Left H := { results := [], args := [] }

/-- 'quinellalaw10.TapeSets': WHATEVER THE INPUT: true; the input reads as it did. -/
def tapeSetsSpec : ChangeSpec := { name := "tapeSets", fn := fun _ => fun
  | [d1, d2] => { results := [.lit (.bool true)], args := [d1, d2] }
  | _ => none }
def tapeSetsRow : OpenClaim := { program := "ytafncmgijbkomaa", sum := "de38878e086a9936e03bc63b2adb9115fe4adaf467866f727d200ebfa46ff271", func := "quinella/quinellalaw10.TapeSets", spec := "tapeSets", unfollowed := true, recurses := true, plainKeys := false, apart := false }
def TapeSetsSaid : Prop := tapeSetsRow.holds Try.pinned (OpenSpec.ofChange tapeSetsSpec)

/-- ITS FALSE NEIGHBOUR: 'it returns false'. Refute it at one input. -/
def tapeSetsWrong : ChangeSpec := { name := "tapeSets", fn := fun _ => fun
  | [d1, d2] => { results := [.lit (.bool false)], args := [d1, d2] }
  | _ => none }
def TapeSetsWrongFalsely : Prop := tapeSetsRow.holds Try.pinned (OpenSpec.ofChange tapeSetsWrong)

/-- 'quinellalaw10.TapeFewests': WHATEVER THE INPUT: true; the input reads as it did. -/
def tapeFewestsSpec : ChangeSpec := { name := "tapeFewests", fn := fun _ => fun
  | [d1, d2] => { results := [.lit (.bool true)], args := [d1, d2] }
  | _ => none }
def tapeFewestsRow : OpenClaim := { program := "ytafncmgijbkomaa", sum := "de38878e086a9936e03bc63b2adb9115fe4adaf467866f727d200ebfa46ff271", func := "quinella/quinellalaw10.TapeFewests", spec := "tapeFewests", unfollowed := true, recurses := true, plainKeys := false, apart := false }
def TapeFewestsSaid : Prop := tapeFewestsRow.holds Try.pinned (OpenSpec.ofChange tapeFewestsSpec)

/-- ITS FALSE NEIGHBOUR: 'it returns false'. Refute it at one input. -/
def tapeFewestsWrong : ChangeSpec := { name := "tapeFewests", fn := fun _ => fun
  | [d1, d2] => { results := [.lit (.bool false)], args := [d1, d2] }
  | _ => none }
def TapeFewestsWrongFalsely : Prop := tapeFewestsRow.holds Try.pinned (OpenSpec.ofChange tapeFewestsWrong)

/-- 'quinellalaw10.TapeNights': WHATEVER THE INPUT: true; the input reads as it did. -/
def tapeNightsSpec : ChangeSpec := { name := "tapeNights", fn := fun _ => fun
  | [d1, d2, d3] => { results := [.lit (.bool true)], args := [d1, d2, d3] }
  | _ => none }
def tapeNightsRow : OpenClaim := { program := "ytafncmgijbkomaa", sum := "de38878e086a9936e03bc63b2adb9115fe4adaf467866f727d200ebfa46ff271", func := "quinella/quinellalaw10.TapeNights", spec := "tapeNights", unfollowed := true, recurses := true, plainKeys := false, apart := false }
def TapeNightsSaid : Prop := tapeNightsRow.holds Try.pinned (OpenSpec.ofChange tapeNightsSpec)

/-- ITS FALSE NEIGHBOUR: 'it returns false'. Refute it at one input. -/
def tapeNightsWrong : ChangeSpec := { name := "tapeNights", fn := fun _ => fun
  | [d1, d2, d3] => { results := [.lit (.bool false)], args := [d1, d2, d3] }
  | _ => none }
def TapeNightsWrongFalsely : Prop := tapeNightsRow.holds Try.pinned (OpenSpec.ofChange tapeNightsWrong)

/-- 'quinellalaw10.TapePulls': WHATEVER THE INPUT: true; the input reads as it did. -/
def tapePullsSpec : ChangeSpec := { name := "tapePulls", fn := fun _ => fun
  | [d1, d2, d3] => { results := [.lit (.bool true)], args := [d1, d2, d3] }
  | _ => none }
def tapePullsRow : OpenClaim := { program := "ytafncmgijbkomaa", sum := "de38878e086a9936e03bc63b2adb9115fe4adaf467866f727d200ebfa46ff271", func := "quinella/quinellalaw10.TapePulls", spec := "tapePulls", unfollowed := true, recurses := true, plainKeys := false, apart := false }
def TapePullsSaid : Prop := tapePullsRow.holds Try.pinned (OpenSpec.ofChange tapePullsSpec)

/-- ITS FALSE NEIGHBOUR: 'it returns false'. Refute it at one input. -/
def tapePullsWrong : ChangeSpec := { name := "tapePulls", fn := fun _ => fun
  | [d1, d2, d3] => { results := [.lit (.bool false)], args := [d1, d2, d3] }
  | _ => none }
def TapePullsWrongFalsely : Prop := tapePullsRow.holds Try.pinned (OpenSpec.ofChange tapePullsWrong)

/-- 'quinellalaw10.TapeKinds': WHATEVER THE INPUT: true; the input reads as it did. -/
def tapeKindsSpec : ChangeSpec := { name := "tapeKinds", fn := fun _ => fun
  | [d1, d2, d3, d4] => { results := [.lit (.bool true)], args := [d1, d2, d3, d4] }
  | _ => none }
def tapeKindsRow : OpenClaim := { program := "ytafncmgijbkomaa", sum := "de38878e086a9936e03bc63b2adb9115fe4adaf467866f727d200ebfa46ff271", func := "quinella/quinellalaw10.TapeKinds", spec := "tapeKinds", unfollowed := true, recurses := true, plainKeys := false, apart := false }
def TapeKindsSaid : Prop := tapeKindsRow.holds Try.pinned (OpenSpec.ofChange tapeKindsSpec)

/-- ITS FALSE NEIGHBOUR: 'it returns false'. Refute it at one input. -/
def tapeKindsWrong : ChangeSpec := { name := "tapeKinds", fn := fun _ => fun
  | [d1, d2, d3, d4] => { results := [.lit (.bool false)], args := [d1, d2, d3, d4] }
  | _ => none }
def TapeKindsWrongFalsely : Prop := tapeKindsRow.holds Try.pinned (OpenSpec.ofChange tapeKindsWrong)

/-- 'quinellalaw10.TapeShown': WHATEVER THE INPUT: true; the input reads as it did. -/
def tapeShownSpec : ChangeSpec := { name := "tapeShown", fn := fun _ => fun
  | [d1, d2, d3] => { results := [.lit (.bool true)], args := [d1, d2, d3] }
  | _ => none }
def tapeShownRow : OpenClaim := { program := "ytafncmgijbkomaa", sum := "de38878e086a9936e03bc63b2adb9115fe4adaf467866f727d200ebfa46ff271", func := "quinella/quinellalaw10.TapeShown", spec := "tapeShown", unfollowed := true, recurses := true, plainKeys := false, apart := false }
def TapeShownSaid : Prop := tapeShownRow.holds Try.pinned (OpenSpec.ofChange tapeShownSpec)

/-- ITS FALSE NEIGHBOUR: 'it returns false'. Refute it at one input. -/
def tapeShownWrong : ChangeSpec := { name := "tapeShown", fn := fun _ => fun
  | [d1, d2, d3] => { results := [.lit (.bool false)], args := [d1, d2, d3] }
  | _ => none }
def TapeShownWrongFalsely : Prop := tapeShownRow.holds Try.pinned (OpenSpec.ofChange tapeShownWrong)

/-- 'quinellalaw10.TapeCounted': WHATEVER THE INPUT: true; the input reads as it did. -/
def tapeCountedSpec : ChangeSpec := { name := "tapeCounted", fn := fun _ => fun
  | [d1, d2, d3] => { results := [.lit (.bool true)], args := [d1, d2, d3] }
  | _ => none }
def tapeCountedRow : OpenClaim := { program := "ytafncmgijbkomaa", sum := "de38878e086a9936e03bc63b2adb9115fe4adaf467866f727d200ebfa46ff271", func := "quinella/quinellalaw10.TapeCounted", spec := "tapeCounted", unfollowed := true, recurses := true, plainKeys := false, apart := false }
def TapeCountedSaid : Prop := tapeCountedRow.holds Try.pinned (OpenSpec.ofChange tapeCountedSpec)

/-- ITS FALSE NEIGHBOUR: 'it returns false'. Refute it at one input. -/
def tapeCountedWrong : ChangeSpec := { name := "tapeCounted", fn := fun _ => fun
  | [d1, d2, d3] => { results := [.lit (.bool false)], args := [d1, d2, d3] }
  | _ => none }
def TapeCountedWrongFalsely : Prop := tapeCountedRow.holds Try.pinned (OpenSpec.ofChange tapeCountedWrong)

/-- 'quinellalaw10.TapeHeld': WHATEVER THE INPUT: true; the input reads as it did. -/
def tapeHeldSpec : ChangeSpec := { name := "tapeHeld", fn := fun _ => fun
  | [d1, d2, d3, d4, d5] => { results := [.lit (.bool true)], args := [d1, d2, d3, d4, d5] }
  | _ => none }
def tapeHeldRow : OpenClaim := { program := "ytafncmgijbkomaa", sum := "de38878e086a9936e03bc63b2adb9115fe4adaf467866f727d200ebfa46ff271", func := "quinella/quinellalaw10.TapeHeld", spec := "tapeHeld", unfollowed := true, recurses := true, plainKeys := false, apart := false }
def TapeHeldSaid : Prop := tapeHeldRow.holds Try.pinned (OpenSpec.ofChange tapeHeldSpec)

/-- ITS FALSE NEIGHBOUR: 'it returns false'. Refute it at one input. -/
def tapeHeldWrong : ChangeSpec := { name := "tapeHeld", fn := fun _ => fun
  | [d1, d2, d3, d4, d5] => { results := [.lit (.bool false)], args := [d1, d2, d3, d4, d5] }
  | _ => none }
def TapeHeldWrongFalsely : Prop := tapeHeldRow.holds Try.pinned (OpenSpec.ofChange tapeHeldWrong)

/-- 'quinellalaw10.TapeMore': WHATEVER THE INPUT: true; the input reads as it did. -/
def tapeMoreSpec : ChangeSpec := { name := "tapeMore", fn := fun _ => fun
  | [d1, d2, d3, d4, d5] => { results := [.lit (.bool true)], args := [d1, d2, d3, d4, d5] }
  | _ => none }
def tapeMoreRow : OpenClaim := { program := "ytafncmgijbkomaa", sum := "de38878e086a9936e03bc63b2adb9115fe4adaf467866f727d200ebfa46ff271", func := "quinella/quinellalaw10.TapeMore", spec := "tapeMore", unfollowed := true, recurses := true, plainKeys := false, apart := false }
def TapeMoreSaid : Prop := tapeMoreRow.holds Try.pinned (OpenSpec.ofChange tapeMoreSpec)

/-- ITS FALSE NEIGHBOUR: 'it returns false'. Refute it at one input. -/
def tapeMoreWrong : ChangeSpec := { name := "tapeMore", fn := fun _ => fun
  | [d1, d2, d3, d4, d5] => { results := [.lit (.bool false)], args := [d1, d2, d3, d4, d5] }
  | _ => none }
def TapeMoreWrongFalsely : Prop := tapeMoreRow.holds Try.pinned (OpenSpec.ofChange tapeMoreWrong)

/-- 'quinellalaw10.TapeTwo': WHATEVER THE INPUT: true; the input reads as it did. -/
def tapeTwoSpec : ChangeSpec := { name := "tapeTwo", fn := fun _ => fun
  | [d] => { results := [.lit (.bool true)], args := [d] }
  | _ => none }
def tapeTwoRow : OpenClaim := { program := "ytafncmgijbkomaa", sum := "de38878e086a9936e03bc63b2adb9115fe4adaf467866f727d200ebfa46ff271", func := "quinella/quinellalaw10.TapeTwo", spec := "tapeTwo", unfollowed := true, recurses := true, plainKeys := false, apart := false }
def TapeTwoSaid : Prop := tapeTwoRow.holds Try.pinned (OpenSpec.ofChange tapeTwoSpec)

/-- ITS FALSE NEIGHBOUR: 'it returns false'. Refute it at one input. -/
def tapeTwoWrong : ChangeSpec := { name := "tapeTwo", fn := fun _ => fun
  | [d] => { results := [.lit (.bool false)], args := [d] }
  | _ => none }
def TapeTwoWrongFalsely : Prop := tapeTwoRow.holds Try.pinned (OpenSpec.ofChange tapeTwoWrong)

/-- 'quinellalaw10.TapeTurned': WHATEVER THE INPUT: true; the input reads as it did. -/
def tapeTurnedSpec : ChangeSpec := { name := "tapeTurned", fn := fun _ => fun
  | [d1, d2, d3] => { results := [.lit (.bool true)], args := [d1, d2, d3] }
  | _ => none }
def tapeTurnedRow : OpenClaim := { program := "ytafncmgijbkomaa", sum := "de38878e086a9936e03bc63b2adb9115fe4adaf467866f727d200ebfa46ff271", func := "quinella/quinellalaw10.TapeTurned", spec := "tapeTurned", unfollowed := true, recurses := true, plainKeys := false, apart := false }
def TapeTurnedSaid : Prop := tapeTurnedRow.holds Try.pinned (OpenSpec.ofChange tapeTurnedSpec)

/-- ITS FALSE NEIGHBOUR: 'it returns false'. Refute it at one input. -/
def tapeTurnedWrong : ChangeSpec := { name := "tapeTurned", fn := fun _ => fun
  | [d1, d2, d3] => { results := [.lit (.bool false)], args := [d1, d2, d3] }
  | _ => none }
def TapeTurnedWrongFalsely : Prop := tapeTurnedRow.holds Try.pinned (OpenSpec.ofChange tapeTurnedWrong)

/-- 'quinellalaw10.TapeWrong': WHATEVER THE INPUT: true; the input reads as it did. -/
def tapeWrongSpec : ChangeSpec := { name := "tapeWrong", fn := fun _ => fun
  | [d1, d2] => { results := [.lit (.bool true)], args := [d1, d2] }
  | _ => none }
def tapeWrongRow : OpenClaim := { program := "ytafncmgijbkomaa", sum := "de38878e086a9936e03bc63b2adb9115fe4adaf467866f727d200ebfa46ff271", func := "quinella/quinellalaw10.TapeWrong", spec := "tapeWrong", unfollowed := true, recurses := true, plainKeys := false, apart := false }
def TapeWrongSaid : Prop := tapeWrongRow.holds Try.pinned (OpenSpec.ofChange tapeWrongSpec)

/-- ITS FALSE NEIGHBOUR: 'it returns false'. Refute it at one input. -/
def tapeWrongWrong : ChangeSpec := { name := "tapeWrong", fn := fun _ => fun
  | [d1, d2] => { results := [.lit (.bool false)], args := [d1, d2] }
  | _ => none }
def TapeWrongWrongFalsely : Prop := tapeWrongRow.holds Try.pinned (OpenSpec.ofChange tapeWrongWrong)

/-- 'quinellalaw10.TapeLonger': WHATEVER THE INPUT: true; the input reads as it did. -/
def tapeLongerSpec : ChangeSpec := { name := "tapeLonger", fn := fun _ => fun
  | [d1, d2, d3] => { results := [.lit (.bool true)], args := [d1, d2, d3] }
  | _ => none }
def tapeLongerRow : OpenClaim := { program := "ytafncmgijbkomaa", sum := "de38878e086a9936e03bc63b2adb9115fe4adaf467866f727d200ebfa46ff271", func := "quinella/quinellalaw10.TapeLonger", spec := "tapeLonger", unfollowed := true, recurses := true, plainKeys := false, apart := false }
def TapeLongerSaid : Prop := tapeLongerRow.holds Try.pinned (OpenSpec.ofChange tapeLongerSpec)

/-- ITS FALSE NEIGHBOUR: 'it returns false'. Refute it at one input. -/
def tapeLongerWrong : ChangeSpec := { name := "tapeLonger", fn := fun _ => fun
  | [d1, d2, d3] => { results := [.lit (.bool false)], args := [d1, d2, d3] }
  | _ => none }
def TapeLongerWrongFalsely : Prop := tapeLongerRow.holds Try.pinned (OpenSpec.ofChange tapeLongerWrong)

/-- 'quinellalaw10.TapeKnown': WHATEVER THE INPUT: true; the input reads as it did. -/
def tapeKnownSpec : ChangeSpec := { name := "tapeKnown", fn := fun _ => fun
  | [] => { results := [.lit (.bool true)], args := [] }
  | _ => none }
def tapeKnownRow : OpenClaim := { program := "ytafncmgijbkomaa", sum := "de38878e086a9936e03bc63b2adb9115fe4adaf467866f727d200ebfa46ff271", func := "quinella/quinellalaw10.TapeKnown", spec := "tapeKnown", unfollowed := true, recurses := true, plainKeys := false, apart := false }
def TapeKnownSaid : Prop := tapeKnownRow.holds Try.pinned (OpenSpec.ofChange tapeKnownSpec)

/-- ITS FALSE NEIGHBOUR: 'it returns false'. Refute it at one input. -/
def tapeKnownWrong : ChangeSpec := { name := "tapeKnown", fn := fun _ => fun
  | [] => { results := [.lit (.bool false)], args := [] }
  | _ => none }
def TapeKnownWrongFalsely : Prop := tapeKnownRow.holds Try.pinned (OpenSpec.ofChange tapeKnownWrong)

/- THE SECOND FORM. 'bulk': how many values and letters a reading holds, each counted each time it is reached (what is shared counts as often as it is met; a slice's spare places count too). A statement '..UptoSaid' is the law's where the arguments, and the package variables that the reading takes, are together of bulk at most 1048576: NARROWER than '..Said'. Prove '..Said' where nothing that the law and all that it calls make is longer than what came in: it says more and counts as full. Else prove '..UptoSaid'. A law counts once. -/
mutual
def uptoBulk {H : Type} : DataW H → Nat
  | .lit (.string bytes) => bytes.length + 1
  | .lit _ => 1
  | .nil => 1
  | .ptr d => uptoBulk d + 1
  | .slice elems spare => uptoBulkAll elems + uptoBulkAll spare + 1
  | .agg parts => uptoBulkAll parts + 1
  | .iface _ d => uptoBulk d + 1
  | .map entries => uptoBulkEntries entries + 1
  | .held _ => 1
def uptoBulkAll {H : Type} : List (DataW H) → Nat
  | [] => 0
  | d :: r => uptoBulk d + uptoBulkAll r
def uptoBulkEntries {H : Type} : List (Lit × DataW H) → Nat
  | [] => 0
  | x :: r => uptoBulkEntry x + uptoBulkEntries r
def uptoBulkEntry {H : Type} : Lit × DataW H → Nat
  | (.string bytes, d) => bytes.length + uptoBulk d + 1
  | (_, d) => uptoBulk d + 1
 end
def uptoSmall : (H : Type) → List (DataW H) → Bool := fun _ ds => decide (uptoBulkAll ds ≤ 1048576)
def OpenSpec.upto (s : _root_.Go.ChangeSpec) : _root_.Go.OpenSpec := { _root_.Go.OpenSpec.ofChange s with cond := some uptoSmall }

/-- 'quinellalaw10.TapeSets', WHERE WHAT IT READS IS OF BULK AT MOST 1048576: true; the input reads as it did. -/
def tapeSetsUptoRow : OpenClaim := { program := "ytafncmgijbkomaa", sum := "de38878e086a9936e03bc63b2adb9115fe4adaf467866f727d200ebfa46ff271", func := "quinella/quinellalaw10.TapeSets", spec := "tapeSets", unfollowed := true, recurses := true, plainKeys := false, apart := false, narrowed := true }
def TapeSetsUptoSaid : Prop := tapeSetsUptoRow.holds Try.pinned (OpenSpec.upto tapeSetsSpec)

/-- 'quinellalaw10.TapeFewests', WHERE WHAT IT READS IS OF BULK AT MOST 1048576: true; the input reads as it did. -/
def tapeFewestsUptoRow : OpenClaim := { program := "ytafncmgijbkomaa", sum := "de38878e086a9936e03bc63b2adb9115fe4adaf467866f727d200ebfa46ff271", func := "quinella/quinellalaw10.TapeFewests", spec := "tapeFewests", unfollowed := true, recurses := true, plainKeys := false, apart := false, narrowed := true }
def TapeFewestsUptoSaid : Prop := tapeFewestsUptoRow.holds Try.pinned (OpenSpec.upto tapeFewestsSpec)

/-- 'quinellalaw10.TapeNights', WHERE WHAT IT READS IS OF BULK AT MOST 1048576: true; the input reads as it did. -/
def tapeNightsUptoRow : OpenClaim := { program := "ytafncmgijbkomaa", sum := "de38878e086a9936e03bc63b2adb9115fe4adaf467866f727d200ebfa46ff271", func := "quinella/quinellalaw10.TapeNights", spec := "tapeNights", unfollowed := true, recurses := true, plainKeys := false, apart := false, narrowed := true }
def TapeNightsUptoSaid : Prop := tapeNightsUptoRow.holds Try.pinned (OpenSpec.upto tapeNightsSpec)

/-- 'quinellalaw10.TapePulls', WHERE WHAT IT READS IS OF BULK AT MOST 1048576: true; the input reads as it did. -/
def tapePullsUptoRow : OpenClaim := { program := "ytafncmgijbkomaa", sum := "de38878e086a9936e03bc63b2adb9115fe4adaf467866f727d200ebfa46ff271", func := "quinella/quinellalaw10.TapePulls", spec := "tapePulls", unfollowed := true, recurses := true, plainKeys := false, apart := false, narrowed := true }
def TapePullsUptoSaid : Prop := tapePullsUptoRow.holds Try.pinned (OpenSpec.upto tapePullsSpec)

/-- 'quinellalaw10.TapeKinds', WHERE WHAT IT READS IS OF BULK AT MOST 1048576: true; the input reads as it did. -/
def tapeKindsUptoRow : OpenClaim := { program := "ytafncmgijbkomaa", sum := "de38878e086a9936e03bc63b2adb9115fe4adaf467866f727d200ebfa46ff271", func := "quinella/quinellalaw10.TapeKinds", spec := "tapeKinds", unfollowed := true, recurses := true, plainKeys := false, apart := false, narrowed := true }
def TapeKindsUptoSaid : Prop := tapeKindsUptoRow.holds Try.pinned (OpenSpec.upto tapeKindsSpec)

/-- 'quinellalaw10.TapeShown', WHERE WHAT IT READS IS OF BULK AT MOST 1048576: true; the input reads as it did. -/
def tapeShownUptoRow : OpenClaim := { program := "ytafncmgijbkomaa", sum := "de38878e086a9936e03bc63b2adb9115fe4adaf467866f727d200ebfa46ff271", func := "quinella/quinellalaw10.TapeShown", spec := "tapeShown", unfollowed := true, recurses := true, plainKeys := false, apart := false, narrowed := true }
def TapeShownUptoSaid : Prop := tapeShownUptoRow.holds Try.pinned (OpenSpec.upto tapeShownSpec)

/-- 'quinellalaw10.TapeCounted', WHERE WHAT IT READS IS OF BULK AT MOST 1048576: true; the input reads as it did. -/
def tapeCountedUptoRow : OpenClaim := { program := "ytafncmgijbkomaa", sum := "de38878e086a9936e03bc63b2adb9115fe4adaf467866f727d200ebfa46ff271", func := "quinella/quinellalaw10.TapeCounted", spec := "tapeCounted", unfollowed := true, recurses := true, plainKeys := false, apart := false, narrowed := true }
def TapeCountedUptoSaid : Prop := tapeCountedUptoRow.holds Try.pinned (OpenSpec.upto tapeCountedSpec)

/-- 'quinellalaw10.TapeHeld', WHERE WHAT IT READS IS OF BULK AT MOST 1048576: true; the input reads as it did. -/
def tapeHeldUptoRow : OpenClaim := { program := "ytafncmgijbkomaa", sum := "de38878e086a9936e03bc63b2adb9115fe4adaf467866f727d200ebfa46ff271", func := "quinella/quinellalaw10.TapeHeld", spec := "tapeHeld", unfollowed := true, recurses := true, plainKeys := false, apart := false, narrowed := true }
def TapeHeldUptoSaid : Prop := tapeHeldUptoRow.holds Try.pinned (OpenSpec.upto tapeHeldSpec)

/-- 'quinellalaw10.TapeMore', WHERE WHAT IT READS IS OF BULK AT MOST 1048576: true; the input reads as it did. -/
def tapeMoreUptoRow : OpenClaim := { program := "ytafncmgijbkomaa", sum := "de38878e086a9936e03bc63b2adb9115fe4adaf467866f727d200ebfa46ff271", func := "quinella/quinellalaw10.TapeMore", spec := "tapeMore", unfollowed := true, recurses := true, plainKeys := false, apart := false, narrowed := true }
def TapeMoreUptoSaid : Prop := tapeMoreUptoRow.holds Try.pinned (OpenSpec.upto tapeMoreSpec)

/-- 'quinellalaw10.TapeTwo', WHERE WHAT IT READS IS OF BULK AT MOST 1048576: true; the input reads as it did. -/
def tapeTwoUptoRow : OpenClaim := { program := "ytafncmgijbkomaa", sum := "de38878e086a9936e03bc63b2adb9115fe4adaf467866f727d200ebfa46ff271", func := "quinella/quinellalaw10.TapeTwo", spec := "tapeTwo", unfollowed := true, recurses := true, plainKeys := false, apart := false, narrowed := true }
def TapeTwoUptoSaid : Prop := tapeTwoUptoRow.holds Try.pinned (OpenSpec.upto tapeTwoSpec)

/-- 'quinellalaw10.TapeTurned', WHERE WHAT IT READS IS OF BULK AT MOST 1048576: true; the input reads as it did. -/
def tapeTurnedUptoRow : OpenClaim := { program := "ytafncmgijbkomaa", sum := "de38878e086a9936e03bc63b2adb9115fe4adaf467866f727d200ebfa46ff271", func := "quinella/quinellalaw10.TapeTurned", spec := "tapeTurned", unfollowed := true, recurses := true, plainKeys := false, apart := false, narrowed := true }
def TapeTurnedUptoSaid : Prop := tapeTurnedUptoRow.holds Try.pinned (OpenSpec.upto tapeTurnedSpec)

/-- 'quinellalaw10.TapeWrong', WHERE WHAT IT READS IS OF BULK AT MOST 1048576: true; the input reads as it did. -/
def tapeWrongUptoRow : OpenClaim := { program := "ytafncmgijbkomaa", sum := "de38878e086a9936e03bc63b2adb9115fe4adaf467866f727d200ebfa46ff271", func := "quinella/quinellalaw10.TapeWrong", spec := "tapeWrong", unfollowed := true, recurses := true, plainKeys := false, apart := false, narrowed := true }
def TapeWrongUptoSaid : Prop := tapeWrongUptoRow.holds Try.pinned (OpenSpec.upto tapeWrongSpec)

/-- 'quinellalaw10.TapeLonger', WHERE WHAT IT READS IS OF BULK AT MOST 1048576: true; the input reads as it did. -/
def tapeLongerUptoRow : OpenClaim := { program := "ytafncmgijbkomaa", sum := "de38878e086a9936e03bc63b2adb9115fe4adaf467866f727d200ebfa46ff271", func := "quinella/quinellalaw10.TapeLonger", spec := "tapeLonger", unfollowed := true, recurses := true, plainKeys := false, apart := false, narrowed := true }
def TapeLongerUptoSaid : Prop := tapeLongerUptoRow.holds Try.pinned (OpenSpec.upto tapeLongerSpec)

/-- 'quinellalaw10.TapeKnown', WHERE WHAT IT READS IS OF BULK AT MOST 1048576: true; the input reads as it did. -/
def tapeKnownUptoRow : OpenClaim := { program := "ytafncmgijbkomaa", sum := "de38878e086a9936e03bc63b2adb9115fe4adaf467866f727d200ebfa46ff271", func := "quinella/quinellalaw10.TapeKnown", spec := "tapeKnown", unfollowed := true, recurses := true, plainKeys := false, apart := false, narrowed := true }
def TapeKnownUptoSaid : Prop := tapeKnownUptoRow.holds Try.pinned (OpenSpec.upto tapeKnownSpec)

end Rows
end Go.Proofs.Ytafncmgijbkomaa
