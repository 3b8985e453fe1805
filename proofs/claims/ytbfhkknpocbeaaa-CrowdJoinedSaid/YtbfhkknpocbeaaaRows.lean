/-
  No cell of these rows narrows 'for every input' (looked for: loops, veiled, ifaces, maps, wideKeys, modest, calm, conditions, laid).
  DERIVED. THE GIVEN ROWS OF THIS SEAT. 13 by the template 'for every input the law returns true; each argument reads behind the call as it read before'; 0 by the template 'total and deterministic' (their statements: YtbfhkknpocbeaaaTotals.lean).
  GIVEN WITH THE SEED: the statements are not yours to turn. If you find one false, say at which input.
  Laid BY PROGRAM, IN A SANDBOX (cutbox-rows.mjs): the forced cells as the released guide's own fill.sh prints them over the translation e06cfaf1b9f2ec6a… (all of the seat's roots in one cut). By AI agents, Wed Nov 11 2026. No macro, syntax, notation, axiom, sorry.
-/
import Derived.Test.YtbfhkknpocbeaaaChecked
import GoSem.Claim
import GoSem.ClaimJoined
import GoSem.ClaimMapViews
import Derived.JoinedTies
import Derived.KernelRfl
namespace Go.Proofs.Ytbfhkknpocbeaaa
/- THE CELL 'sum', in the pinned program and in every row, IS THE sha256 OF THE DUMP (.gsa) THAT YtbfhkknpocbeaaaProg.lean LOADS. Nothing in Lean hashes anything: it is a label: what it is worth is what the hold of that sum in a sandbox is worth. -/
noncomputable def Try.pinned : Pinned := { name := "ytbfhkknpocbeaaa", sum := "e06cfaf1b9f2ec6afeb80c4068ecf52f11fda06496c191da769a91ca3bcd8621", checked := Try.checked }
namespace Rows
def none {H : Type} : Left H := { results := [], args := [] }

/-- 'quinellalaw09.CrowdHalls': WHATEVER THE INPUT: true; the input reads as it did. -/
def crowdHallsSpec : ChangeSpec := { name := "crowdHalls", fn := fun _ => fun
  | [d1, d2, d3] => { results := [.lit (.bool true)], args := [d1, d2, d3] }
  | _ => none }
def crowdHallsRow : OpenClaim := { program := "ytbfhkknpocbeaaa", sum := "e06cfaf1b9f2ec6afeb80c4068ecf52f11fda06496c191da769a91ca3bcd8621", func := "quinella/quinellalaw09.CrowdHalls", spec := "crowdHalls", unfollowed := true, recurses := true, plainKeys := false, apart := false }
def CrowdHallsSaid : Prop := crowdHallsRow.holds Try.pinned (OpenSpec.ofChange crowdHallsSpec)

/-- ITS FALSE NEIGHBOUR: 'it returns false'. Refute it at one input. -/
def crowdHallsWrong : ChangeSpec := { name := "crowdHalls", fn := fun _ => fun
  | [d1, d2, d3] => { results := [.lit (.bool false)], args := [d1, d2, d3] }
  | _ => none }
def CrowdHallsWrongFalsely : Prop := crowdHallsRow.holds Try.pinned (OpenSpec.ofChange crowdHallsWrong)

/-- 'quinellalaw09.CrowdMachines': WHATEVER THE INPUT: true; the input reads as it did. -/
def crowdMachinesSpec : ChangeSpec := { name := "crowdMachines", fn := fun _ => fun
  | [d1, d2, d3] => { results := [.lit (.bool true)], args := [d1, d2, d3] }
  | _ => none }
def crowdMachinesRow : OpenClaim := { program := "ytbfhkknpocbeaaa", sum := "e06cfaf1b9f2ec6afeb80c4068ecf52f11fda06496c191da769a91ca3bcd8621", func := "quinella/quinellalaw09.CrowdMachines", spec := "crowdMachines", unfollowed := true, recurses := true, plainKeys := false, apart := false }
def CrowdMachinesSaid : Prop := crowdMachinesRow.holds Try.pinned (OpenSpec.ofChange crowdMachinesSpec)

/-- ITS FALSE NEIGHBOUR: 'it returns false'. Refute it at one input. -/
def crowdMachinesWrong : ChangeSpec := { name := "crowdMachines", fn := fun _ => fun
  | [d1, d2, d3] => { results := [.lit (.bool false)], args := [d1, d2, d3] }
  | _ => none }
def CrowdMachinesWrongFalsely : Prop := crowdMachinesRow.holds Try.pinned (OpenSpec.ofChange crowdMachinesWrong)

/-- 'quinellalaw09.CrowdServes': WHATEVER THE INPUT: true; the input reads as it did. -/
def crowdServesSpec : ChangeSpec := { name := "crowdServes", fn := fun _ => fun
  | [d1, d2, d3] => { results := [.lit (.bool true)], args := [d1, d2, d3] }
  | _ => none }
def crowdServesRow : OpenClaim := { program := "ytbfhkknpocbeaaa", sum := "e06cfaf1b9f2ec6afeb80c4068ecf52f11fda06496c191da769a91ca3bcd8621", func := "quinella/quinellalaw09.CrowdServes", spec := "crowdServes", unfollowed := true, recurses := true, plainKeys := false, apart := false }
def CrowdServesSaid : Prop := crowdServesRow.holds Try.pinned (OpenSpec.ofChange crowdServesSpec)

/-- ITS FALSE NEIGHBOUR: 'it returns false'. Refute it at one input. -/
def crowdServesWrong : ChangeSpec := { name := "crowdServes", fn := fun _ => fun
  | [d1, d2, d3] => { results := [.lit (.bool false)], args := [d1, d2, d3] }
  | _ => none }
def CrowdServesWrongFalsely : Prop := crowdServesRow.holds Try.pinned (OpenSpec.ofChange crowdServesWrong)

/-- 'quinellalaw09.CrowdLates': WHATEVER THE INPUT: true; the input reads as it did. -/
def crowdLatesSpec : ChangeSpec := { name := "crowdLates", fn := fun _ => fun
  | [d1, d2, d3, d4] => { results := [.lit (.bool true)], args := [d1, d2, d3, d4] }
  | _ => none }
def crowdLatesRow : OpenClaim := { program := "ytbfhkknpocbeaaa", sum := "e06cfaf1b9f2ec6afeb80c4068ecf52f11fda06496c191da769a91ca3bcd8621", func := "quinella/quinellalaw09.CrowdLates", spec := "crowdLates", unfollowed := true, recurses := true, plainKeys := false, apart := false }
def CrowdLatesSaid : Prop := crowdLatesRow.holds Try.pinned (OpenSpec.ofChange crowdLatesSpec)

/-- ITS FALSE NEIGHBOUR: 'it returns false'. Refute it at one input. -/
def crowdLatesWrong : ChangeSpec := { name := "crowdLates", fn := fun _ => fun
  | [d1, d2, d3, d4] => { results := [.lit (.bool false)], args := [d1, d2, d3, d4] }
  | _ => none }
def CrowdLatesWrongFalsely : Prop := crowdLatesRow.holds Try.pinned (OpenSpec.ofChange crowdLatesWrong)

/-- 'quinellalaw09.CrowdEither': WHATEVER THE INPUT: true; the input reads as it did. -/
def crowdEitherSpec : ChangeSpec := { name := "crowdEither", fn := fun _ => fun
  | [d1, d2, d3, d4, d5] => { results := [.lit (.bool true)], args := [d1, d2, d3, d4, d5] }
  | _ => none }
def crowdEitherRow : OpenClaim := { program := "ytbfhkknpocbeaaa", sum := "e06cfaf1b9f2ec6afeb80c4068ecf52f11fda06496c191da769a91ca3bcd8621", func := "quinella/quinellalaw09.CrowdEither", spec := "crowdEither", unfollowed := true, recurses := true, plainKeys := false, apart := false }
def CrowdEitherSaid : Prop := crowdEitherRow.holds Try.pinned (OpenSpec.ofChange crowdEitherSpec)

/-- ITS FALSE NEIGHBOUR: 'it returns false'. Refute it at one input. -/
def crowdEitherWrong : ChangeSpec := { name := "crowdEither", fn := fun _ => fun
  | [d1, d2, d3, d4, d5] => { results := [.lit (.bool false)], args := [d1, d2, d3, d4, d5] }
  | _ => none }
def CrowdEitherWrongFalsely : Prop := crowdEitherRow.holds Try.pinned (OpenSpec.ofChange crowdEitherWrong)

/-- 'quinellalaw09.CrowdServed': WHATEVER THE INPUT: true; the input reads as it did. -/
def crowdServedSpec : ChangeSpec := { name := "crowdServed", fn := fun _ => fun
  | [d1, d2, d3] => { results := [.lit (.bool true)], args := [d1, d2, d3] }
  | _ => none }
def crowdServedRow : OpenClaim := { program := "ytbfhkknpocbeaaa", sum := "e06cfaf1b9f2ec6afeb80c4068ecf52f11fda06496c191da769a91ca3bcd8621", func := "quinella/quinellalaw09.CrowdServed", spec := "crowdServed", unfollowed := true, recurses := true, plainKeys := false, apart := false }
def CrowdServedSaid : Prop := crowdServedRow.holds Try.pinned (OpenSpec.ofChange crowdServedSpec)

/-- ITS FALSE NEIGHBOUR: 'it returns false'. Refute it at one input. -/
def crowdServedWrong : ChangeSpec := { name := "crowdServed", fn := fun _ => fun
  | [d1, d2, d3] => { results := [.lit (.bool false)], args := [d1, d2, d3] }
  | _ => none }
def CrowdServedWrongFalsely : Prop := crowdServedRow.holds Try.pinned (OpenSpec.ofChange crowdServedWrong)

/-- 'quinellalaw09.CrowdProved': WHATEVER THE INPUT: true; the input reads as it did. -/
def crowdProvedSpec : ChangeSpec := { name := "crowdProved", fn := fun _ => fun
  | [d1, d2, d3, d4] => { results := [.lit (.bool true)], args := [d1, d2, d3, d4] }
  | _ => none }
def crowdProvedRow : OpenClaim := { program := "ytbfhkknpocbeaaa", sum := "e06cfaf1b9f2ec6afeb80c4068ecf52f11fda06496c191da769a91ca3bcd8621", func := "quinella/quinellalaw09.CrowdProved", spec := "crowdProved", unfollowed := true, recurses := true, plainKeys := false, apart := false }
def CrowdProvedSaid : Prop := crowdProvedRow.holds Try.pinned (OpenSpec.ofChange crowdProvedSpec)

/-- ITS FALSE NEIGHBOUR: 'it returns false'. Refute it at one input. -/
def crowdProvedWrong : ChangeSpec := { name := "crowdProved", fn := fun _ => fun
  | [d1, d2, d3, d4] => { results := [.lit (.bool false)], args := [d1, d2, d3, d4] }
  | _ => none }
def CrowdProvedWrongFalsely : Prop := crowdProvedRow.holds Try.pinned (OpenSpec.ofChange crowdProvedWrong)

/-- 'quinellalaw09.CrowdSooner': WHATEVER THE INPUT: true; the input reads as it did. -/
def crowdSoonerSpec : ChangeSpec := { name := "crowdSooner", fn := fun _ => fun
  | [d1, d2, d3, d4] => { results := [.lit (.bool true)], args := [d1, d2, d3, d4] }
  | _ => none }
def crowdSoonerRow : OpenClaim := { program := "ytbfhkknpocbeaaa", sum := "e06cfaf1b9f2ec6afeb80c4068ecf52f11fda06496c191da769a91ca3bcd8621", func := "quinella/quinellalaw09.CrowdSooner", spec := "crowdSooner", unfollowed := true, recurses := true, plainKeys := false, apart := false }
def CrowdSoonerSaid : Prop := crowdSoonerRow.holds Try.pinned (OpenSpec.ofChange crowdSoonerSpec)

/-- ITS FALSE NEIGHBOUR: 'it returns false'. Refute it at one input. -/
def crowdSoonerWrong : ChangeSpec := { name := "crowdSooner", fn := fun _ => fun
  | [d1, d2, d3, d4] => { results := [.lit (.bool false)], args := [d1, d2, d3, d4] }
  | _ => none }
def CrowdSoonerWrongFalsely : Prop := crowdSoonerRow.holds Try.pinned (OpenSpec.ofChange crowdSoonerWrong)

/-- 'quinellalaw09.CrowdJoined': WHATEVER THE INPUT: true; the input reads as it did. -/
def crowdJoinedSpec : ChangeSpec := { name := "crowdJoined", fn := fun _ => fun
  | [d1, d2] => { results := [.lit (.bool true)], args := [d1, d2] }
  | _ => none }
def crowdJoinedRow : OpenClaim := { program := "ytbfhkknpocbeaaa", sum := "e06cfaf1b9f2ec6afeb80c4068ecf52f11fda06496c191da769a91ca3bcd8621", func := "quinella/quinellalaw09.CrowdJoined", spec := "crowdJoined", unfollowed := true, recurses := true, plainKeys := false, apart := false }
def CrowdJoinedSaid : Prop := crowdJoinedRow.holds Try.pinned (OpenSpec.ofChange crowdJoinedSpec)

/-- ITS FALSE NEIGHBOUR: 'it returns false'. Refute it at one input. -/
def crowdJoinedWrong : ChangeSpec := { name := "crowdJoined", fn := fun _ => fun
  | [d1, d2] => { results := [.lit (.bool false)], args := [d1, d2] }
  | _ => none }
def CrowdJoinedWrongFalsely : Prop := crowdJoinedRow.holds Try.pinned (OpenSpec.ofChange crowdJoinedWrong)

/-- 'quinellalaw09.CrowdLater': WHATEVER THE INPUT: true; the input reads as it did. -/
def crowdLaterSpec : ChangeSpec := { name := "crowdLater", fn := fun _ => fun
  | [d1, d2, d3] => { results := [.lit (.bool true)], args := [d1, d2, d3] }
  | _ => none }
def crowdLaterRow : OpenClaim := { program := "ytbfhkknpocbeaaa", sum := "e06cfaf1b9f2ec6afeb80c4068ecf52f11fda06496c191da769a91ca3bcd8621", func := "quinella/quinellalaw09.CrowdLater", spec := "crowdLater", unfollowed := true, recurses := true, plainKeys := false, apart := false }
def CrowdLaterSaid : Prop := crowdLaterRow.holds Try.pinned (OpenSpec.ofChange crowdLaterSpec)

/-- ITS FALSE NEIGHBOUR: 'it returns false'. Refute it at one input. -/
def crowdLaterWrong : ChangeSpec := { name := "crowdLater", fn := fun _ => fun
  | [d1, d2, d3] => { results := [.lit (.bool false)], args := [d1, d2, d3] }
  | _ => none }
def CrowdLaterWrongFalsely : Prop := crowdLaterRow.holds Try.pinned (OpenSpec.ofChange crowdLaterWrong)

/-- 'quinellalaw09.CrowdRoomed': WHATEVER THE INPUT: true; the input reads as it did. -/
def crowdRoomedSpec : ChangeSpec := { name := "crowdRoomed", fn := fun _ => fun
  | [d1, d2, d3] => { results := [.lit (.bool true)], args := [d1, d2, d3] }
  | _ => none }
def crowdRoomedRow : OpenClaim := { program := "ytbfhkknpocbeaaa", sum := "e06cfaf1b9f2ec6afeb80c4068ecf52f11fda06496c191da769a91ca3bcd8621", func := "quinella/quinellalaw09.CrowdRoomed", spec := "crowdRoomed", unfollowed := true, recurses := true, plainKeys := false, apart := false }
def CrowdRoomedSaid : Prop := crowdRoomedRow.holds Try.pinned (OpenSpec.ofChange crowdRoomedSpec)

/-- ITS FALSE NEIGHBOUR: 'it returns false'. Refute it at one input. -/
def crowdRoomedWrong : ChangeSpec := { name := "crowdRoomed", fn := fun _ => fun
  | [d1, d2, d3] => { results := [.lit (.bool false)], args := [d1, d2, d3] }
  | _ => none }
def CrowdRoomedWrongFalsely : Prop := crowdRoomedRow.holds Try.pinned (OpenSpec.ofChange crowdRoomedWrong)

/-- 'quinellalaw09.CrowdTurned': WHATEVER THE INPUT: true; the input reads as it did. -/
def crowdTurnedSpec : ChangeSpec := { name := "crowdTurned", fn := fun _ => fun
  | [d1, d2, d3] => { results := [.lit (.bool true)], args := [d1, d2, d3] }
  | _ => none }
def crowdTurnedRow : OpenClaim := { program := "ytbfhkknpocbeaaa", sum := "e06cfaf1b9f2ec6afeb80c4068ecf52f11fda06496c191da769a91ca3bcd8621", func := "quinella/quinellalaw09.CrowdTurned", spec := "crowdTurned", unfollowed := true, recurses := true, plainKeys := false, apart := false }
def CrowdTurnedSaid : Prop := crowdTurnedRow.holds Try.pinned (OpenSpec.ofChange crowdTurnedSpec)

/-- ITS FALSE NEIGHBOUR: 'it returns false'. Refute it at one input. -/
def crowdTurnedWrong : ChangeSpec := { name := "crowdTurned", fn := fun _ => fun
  | [d1, d2, d3] => { results := [.lit (.bool false)], args := [d1, d2, d3] }
  | _ => none }
def CrowdTurnedWrongFalsely : Prop := crowdTurnedRow.holds Try.pinned (OpenSpec.ofChange crowdTurnedWrong)

/-- 'quinellalaw09.CrowdKnown': WHATEVER THE INPUT: true; the input reads as it did. -/
def crowdKnownSpec : ChangeSpec := { name := "crowdKnown", fn := fun _ => fun
  | [] => { results := [.lit (.bool true)], args := [] }
  | _ => none }
def crowdKnownRow : OpenClaim := { program := "ytbfhkknpocbeaaa", sum := "e06cfaf1b9f2ec6afeb80c4068ecf52f11fda06496c191da769a91ca3bcd8621", func := "quinella/quinellalaw09.CrowdKnown", spec := "crowdKnown", unfollowed := true, recurses := true, plainKeys := false, apart := false }
def CrowdKnownSaid : Prop := crowdKnownRow.holds Try.pinned (OpenSpec.ofChange crowdKnownSpec)

/-- ITS FALSE NEIGHBOUR: 'it returns false'. Refute it at one input. -/
def crowdKnownWrong : ChangeSpec := { name := "crowdKnown", fn := fun _ => fun
  | [] => { results := [.lit (.bool false)], args := [] }
  | _ => none }
def CrowdKnownWrongFalsely : Prop := crowdKnownRow.holds Try.pinned (OpenSpec.ofChange crowdKnownWrong)

/- THE SECOND FORM. 'bulk': how many values and letters a reading holds, each counted each time it is reached (what is shared counts as often as it is met; a slice's spare places count too). A statement '..UptoSaid' is the law's where the arguments, and the package variables that the reading takes, are together of bulk at most 1048576: NARROWER than '..Said'. Prove '..Said' where nothing that the law and all that it calls make is longer than what came in: it says more and counts as full. Else prove '..UptoSaid'. A law counts once. -/
mutual
def uptoBulk {H : Type} : DataW H → Nat
  | .lit (.string bytes) => bytes.length + 1
  | .lit _ => 1
  | .nil => 1
  | .ptr d => uptoBulk d + 1
  | .slice elems spare => uptoBulkAll elems + uptoBulkAll spare + 1
  | .agg parts => uptoBulkAll parts + 1
  | .iface _ d => uptoBulk d + 1
  | .map entries => uptoBulkEntries entries + 1
  | .held _ => 1
def uptoBulkAll {H : Type} : List (DataW H) → Nat
  | [] => 0
  | d :: r => uptoBulk d + uptoBulkAll r
def uptoBulkEntries {H : Type} : List (Lit × DataW H) → Nat
  | [] => 0
  | x :: r => uptoBulkEntry x + uptoBulkEntries r
def uptoBulkEntry {H : Type} : Lit × DataW H → Nat
  | (.string bytes, d) => bytes.length + uptoBulk d + 1
  | (_, d) => uptoBulk d + 1
 end
def uptoSmall : (H : Type) → List (DataW H) → Bool := fun _ ds => decide (uptoBulkAll ds ≤ 1048576)
def OpenSpec.upto (s : _root_.Go.ChangeSpec) : _root_.Go.OpenSpec := { _root_.Go.OpenSpec.ofChange s with cond := some uptoSmall }

/-- 'quinellalaw09.CrowdHalls', WHERE WHAT IT READS IS OF BULK AT MOST 1048576: true; the input reads as it did. -/
def crowdHallsUptoRow : OpenClaim := { program := "ytbfhkknpocbeaaa", sum := "e06cfaf1b9f2ec6afeb80c4068ecf52f11fda06496c191da769a91ca3bcd8621", func := "quinella/quinellalaw09.CrowdHalls", spec := "crowdHalls", unfollowed := true, recurses := true, plainKeys := false, apart := false, narrowed := true }
def CrowdHallsUptoSaid : Prop := crowdHallsUptoRow.holds Try.pinned (OpenSpec.upto crowdHallsSpec)

/-- 'quinellalaw09.CrowdMachines', WHERE WHAT IT READS IS OF BULK AT MOST 1048576: true; the input reads as it did. -/
def crowdMachinesUptoRow : OpenClaim := { program := "ytbfhkknpocbeaaa", sum := "e06cfaf1b9f2ec6afeb80c4068ecf52f11fda06496c191da769a91ca3bcd8621", func := "quinella/quinellalaw09.CrowdMachines", spec := "crowdMachines", unfollowed := true, recurses := true, plainKeys := false, apart := false, narrowed := true }
def CrowdMachinesUptoSaid : Prop := crowdMachinesUptoRow.holds Try.pinned (OpenSpec.upto crowdMachinesSpec)

/-- 'quinellalaw09.CrowdServes', WHERE WHAT IT READS IS OF BULK AT MOST 1048576: true; the input reads as it did. -/
def crowdServesUptoRow : OpenClaim := { program := "ytbfhkknpocbeaaa", sum := "e06cfaf1b9f2ec6afeb80c4068ecf52f11fda06496c191da769a91ca3bcd8621", func := "quinella/quinellalaw09.CrowdServes", spec := "crowdServes", unfollowed := true, recurses := true, plainKeys := false, apart := false, narrowed := true }
def CrowdServesUptoSaid : Prop := crowdServesUptoRow.holds Try.pinned (OpenSpec.upto crowdServesSpec)

/-- 'quinellalaw09.CrowdLates', WHERE WHAT IT READS IS OF BULK AT MOST 1048576: true; the input reads as it did. -/
def crowdLatesUptoRow : OpenClaim := { program := "ytbfhkknpocbeaaa", sum := "e06cfaf1b9f2ec6afeb80c4068ecf52f11fda06496c191da769a91ca3bcd8621", func := "quinella/quinellalaw09.CrowdLates", spec := "crowdLates", unfollowed := true, recurses := true, plainKeys := false, apart := false, narrowed := true }
def CrowdLatesUptoSaid : Prop := crowdLatesUptoRow.holds Try.pinned (OpenSpec.upto crowdLatesSpec)

/-- 'quinellalaw09.CrowdEither', WHERE WHAT IT READS IS OF BULK AT MOST 1048576: true; the input reads as it did. -/
def crowdEitherUptoRow : OpenClaim := { program := "ytbfhkknpocbeaaa", sum := "e06cfaf1b9f2ec6afeb80c4068ecf52f11fda06496c191da769a91ca3bcd8621", func := "quinella/quinellalaw09.CrowdEither", spec := "crowdEither", unfollowed := true, recurses := true, plainKeys := false, apart := false, narrowed := true }
def CrowdEitherUptoSaid : Prop := crowdEitherUptoRow.holds Try.pinned (OpenSpec.upto crowdEitherSpec)

/-- 'quinellalaw09.CrowdServed', WHERE WHAT IT READS IS OF BULK AT MOST 1048576: true; the input reads as it did. -/
def crowdServedUptoRow : OpenClaim := { program := "ytbfhkknpocbeaaa", sum := "e06cfaf1b9f2ec6afeb80c4068ecf52f11fda06496c191da769a91ca3bcd8621", func := "quinella/quinellalaw09.CrowdServed", spec := "crowdServed", unfollowed := true, recurses := true, plainKeys := false, apart := false, narrowed := true }
def CrowdServedUptoSaid : Prop := crowdServedUptoRow.holds Try.pinned (OpenSpec.upto crowdServedSpec)

/-- 'quinellalaw09.CrowdProved', WHERE WHAT IT READS IS OF BULK AT MOST 1048576: true; the input reads as it did. -/
def crowdProvedUptoRow : OpenClaim := { program := "ytbfhkknpocbeaaa", sum := "e06cfaf1b9f2ec6afeb80c4068ecf52f11fda06496c191da769a91ca3bcd8621", func := "quinella/quinellalaw09.CrowdProved", spec := "crowdProved", unfollowed := true, recurses := true, plainKeys := false, apart := false, narrowed := true }
def CrowdProvedUptoSaid : Prop := crowdProvedUptoRow.holds Try.pinned (OpenSpec.upto crowdProvedSpec)

/-- 'quinellalaw09.CrowdSooner', WHERE WHAT IT READS IS OF BULK AT MOST 1048576: true; the input reads as it did. -/
def crowdSoonerUptoRow : OpenClaim := { program := "ytbfhkknpocbeaaa", sum := "e06cfaf1b9f2ec6afeb80c4068ecf52f11fda06496c191da769a91ca3bcd8621", func := "quinella/quinellalaw09.CrowdSooner", spec := "crowdSooner", unfollowed := true, recurses := true, plainKeys := false, apart := false, narrowed := true }
def CrowdSoonerUptoSaid : Prop := crowdSoonerUptoRow.holds Try.pinned (OpenSpec.upto crowdSoonerSpec)

/-- 'quinellalaw09.CrowdJoined', WHERE WHAT IT READS IS OF BULK AT MOST 1048576: true; the input reads as it did. -/
def crowdJoinedUptoRow : OpenClaim := { program := "ytbfhkknpocbeaaa", sum := "e06cfaf1b9f2ec6afeb80c4068ecf52f11fda06496c191da769a91ca3bcd8621", func := "quinella/quinellalaw09.CrowdJoined", spec := "crowdJoined", unfollowed := true, recurses := true, plainKeys := false, apart := false, narrowed := true }
def CrowdJoinedUptoSaid : Prop := crowdJoinedUptoRow.holds Try.pinned (OpenSpec.upto crowdJoinedSpec)

/-- 'quinellalaw09.CrowdLater', WHERE WHAT IT READS IS OF BULK AT MOST 1048576: true; the input reads as it did. -/
def crowdLaterUptoRow : OpenClaim := { program := "ytbfhkknpocbeaaa", sum := "e06cfaf1b9f2ec6afeb80c4068ecf52f11fda06496c191da769a91ca3bcd8621", func := "quinella/quinellalaw09.CrowdLater", spec := "crowdLater", unfollowed := true, recurses := true, plainKeys := false, apart := false, narrowed := true }
def CrowdLaterUptoSaid : Prop := crowdLaterUptoRow.holds Try.pinned (OpenSpec.upto crowdLaterSpec)

/-- 'quinellalaw09.CrowdRoomed', WHERE WHAT IT READS IS OF BULK AT MOST 1048576: true; the input reads as it did. -/
def crowdRoomedUptoRow : OpenClaim := { program := "ytbfhkknpocbeaaa", sum := "e06cfaf1b9f2ec6afeb80c4068ecf52f11fda06496c191da769a91ca3bcd8621", func := "quinella/quinellalaw09.CrowdRoomed", spec := "crowdRoomed", unfollowed := true, recurses := true, plainKeys := false, apart := false, narrowed := true }
def CrowdRoomedUptoSaid : Prop := crowdRoomedUptoRow.holds Try.pinned (OpenSpec.upto crowdRoomedSpec)

/-- 'quinellalaw09.CrowdTurned', WHERE WHAT IT READS IS OF BULK AT MOST 1048576: true; the input reads as it did. -/
def crowdTurnedUptoRow : OpenClaim := { program := "ytbfhkknpocbeaaa", sum := "e06cfaf1b9f2ec6afeb80c4068ecf52f11fda06496c191da769a91ca3bcd8621", func := "quinella/quinellalaw09.CrowdTurned", spec := "crowdTurned", unfollowed := true, recurses := true, plainKeys := false, apart := false, narrowed := true }
def CrowdTurnedUptoSaid : Prop := crowdTurnedUptoRow.holds Try.pinned (OpenSpec.upto crowdTurnedSpec)

/-- 'quinellalaw09.CrowdKnown', WHERE WHAT IT READS IS OF BULK AT MOST 1048576: true; the input reads as it did. -/
def crowdKnownUptoRow : OpenClaim := { program := "ytbfhkknpocbeaaa", sum := "e06cfaf1b9f2ec6afeb80c4068ecf52f11fda06496c191da769a91ca3bcd8621", func := "quinella/quinellalaw09.CrowdKnown", spec := "crowdKnown", unfollowed := true, recurses := true, plainKeys := false, apart := false, narrowed := true }
def CrowdKnownUptoSaid : Prop := crowdKnownUptoRow.holds Try.pinned (OpenSpec.upto crowdKnownSpec)

end Rows
end Go.Proofs.Ytbfhkknpocbeaaa
