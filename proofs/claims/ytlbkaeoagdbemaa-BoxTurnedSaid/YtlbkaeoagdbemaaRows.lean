/-
  No cell of these rows narrows 'for every input' (looked for: loops, veiled, ifaces, maps, wideKeys, modest, calm, conditions, laid).
  DERIVED. THE GIVEN ROWS OF THIS SEAT. 15 by the template 'for every input the law returns true; each argument reads behind the call as it read before'; 0 by the template 'total and deterministic' (their statements: YtlbkaeoagdbemaaTotals.lean).
  GIVEN WITH THE SEED: the statements are not yours to turn. If you find one false, say at which input.
  Laid BY PROGRAM, IN A SANDBOX (cutbox-rows.mjs): the forced cells as the released guide's own fill.sh prints them over the translation e3c753419e933051… (all of the seat's roots in one cut). By AI agents, Wed Nov 11 2026. No macro, syntax, notation, axiom, sorry.
-/
import Derived.Test.YtlbkaeoagdbemaaChecked
import GoSem.Claim
import GoSem.ClaimJoined
import GoSem.ClaimMapViews
import Derived.JoinedTies
import Derived.KernelRfl
namespace Go.Proofs.Ytlbkaeoagdbemaa
/- THE CELL 'sum', in the pinned program and in every row, IS THE sha256 OF THE DUMP (.gsa) THAT YtlbkaeoagdbemaaProg.lean LOADS. Nothing in Lean hashes anything: it is a label: what it is worth is what the hold of that sum in a sandbox is worth. -/
noncomputable def Try.pinned : Pinned := { name := "ytlbkaeoagdbemaa", sum := "e3c753419e933051d89d30eda5b090a46b47a6f7c8f15b13b22c57d2ee8f0b93", checked := Try.checked }
namespace Rows
def none {H : Type} : Left H := { results := [], args := [] }

/-- 'quinellalaw08.BoxCards': WHATEVER THE INPUT: true; the input reads as it did. -/
def boxCardsSpec : ChangeSpec := { name := "boxCards", fn := fun _ => fun
  | [d1, d2] => { results := [.lit (.bool true)], args := [d1, d2] }
  | _ => none }
def boxCardsRow : OpenClaim := { program := "ytlbkaeoagdbemaa", sum := "e3c753419e933051d89d30eda5b090a46b47a6f7c8f15b13b22c57d2ee8f0b93", func := "quinella/quinellalaw08.BoxCards", spec := "boxCards", unfollowed := true, recurses := true, plainKeys := false, apart := false }
def BoxCardsSaid : Prop := boxCardsRow.holds Try.pinned (OpenSpec.ofChange boxCardsSpec)

/-- ITS FALSE NEIGHBOUR: 'it returns false'. Refute it at one input. -/
def boxCardsWrong : ChangeSpec := { name := "boxCards", fn := fun _ => fun
  | [d1, d2] => { results := [.lit (.bool false)], args := [d1, d2] }
  | _ => none }
def BoxCardsWrongFalsely : Prop := boxCardsRow.holds Try.pinned (OpenSpec.ofChange boxCardsWrong)

/-- 'quinellalaw08.BoxSizes': WHATEVER THE INPUT: true; the input reads as it did. -/
def boxSizesSpec : ChangeSpec := { name := "boxSizes", fn := fun _ => fun
  | [d1, d2, d3] => { results := [.lit (.bool true)], args := [d1, d2, d3] }
  | _ => none }
def boxSizesRow : OpenClaim := { program := "ytlbkaeoagdbemaa", sum := "e3c753419e933051d89d30eda5b090a46b47a6f7c8f15b13b22c57d2ee8f0b93", func := "quinella/quinellalaw08.BoxSizes", spec := "boxSizes", unfollowed := true, recurses := true, plainKeys := false, apart := false }
def BoxSizesSaid : Prop := boxSizesRow.holds Try.pinned (OpenSpec.ofChange boxSizesSpec)

/-- ITS FALSE NEIGHBOUR: 'it returns false'. Refute it at one input. -/
def boxSizesWrong : ChangeSpec := { name := "boxSizes", fn := fun _ => fun
  | [d1, d2, d3] => { results := [.lit (.bool false)], args := [d1, d2, d3] }
  | _ => none }
def BoxSizesWrongFalsely : Prop := boxSizesRow.holds Try.pinned (OpenSpec.ofChange boxSizesWrong)

/-- 'quinellalaw08.BoxMaps': WHATEVER THE INPUT: true; the input reads as it did. -/
def boxMapsSpec : ChangeSpec := { name := "boxMaps", fn := fun _ => fun
  | [d1, d2, d3] => { results := [.lit (.bool true)], args := [d1, d2, d3] }
  | _ => none }
def boxMapsRow : OpenClaim := { program := "ytlbkaeoagdbemaa", sum := "e3c753419e933051d89d30eda5b090a46b47a6f7c8f15b13b22c57d2ee8f0b93", func := "quinella/quinellalaw08.BoxMaps", spec := "boxMaps", unfollowed := true, recurses := true, plainKeys := false, apart := false }
def BoxMapsSaid : Prop := boxMapsRow.holds Try.pinned (OpenSpec.ofChange boxMapsSpec)

/-- ITS FALSE NEIGHBOUR: 'it returns false'. Refute it at one input. -/
def boxMapsWrong : ChangeSpec := { name := "boxMaps", fn := fun _ => fun
  | [d1, d2, d3] => { results := [.lit (.bool false)], args := [d1, d2, d3] }
  | _ => none }
def BoxMapsWrongFalsely : Prop := boxMapsRow.holds Try.pinned (OpenSpec.ofChange boxMapsWrong)

/-- 'quinellalaw08.BoxCounts': WHATEVER THE INPUT: true; the input reads as it did. -/
def boxCountsSpec : ChangeSpec := { name := "boxCounts", fn := fun _ => fun
  | [d1, d2] => { results := [.lit (.bool true)], args := [d1, d2] }
  | _ => none }
def boxCountsRow : OpenClaim := { program := "ytlbkaeoagdbemaa", sum := "e3c753419e933051d89d30eda5b090a46b47a6f7c8f15b13b22c57d2ee8f0b93", func := "quinella/quinellalaw08.BoxCounts", spec := "boxCounts", unfollowed := true, recurses := true, plainKeys := false, apart := false }
def BoxCountsSaid : Prop := boxCountsRow.holds Try.pinned (OpenSpec.ofChange boxCountsSpec)

/-- ITS FALSE NEIGHBOUR: 'it returns false'. Refute it at one input. -/
def boxCountsWrong : ChangeSpec := { name := "boxCounts", fn := fun _ => fun
  | [d1, d2] => { results := [.lit (.bool false)], args := [d1, d2] }
  | _ => none }
def BoxCountsWrongFalsely : Prop := boxCountsRow.holds Try.pinned (OpenSpec.ofChange boxCountsWrong)

/-- 'quinellalaw08.BoxPays': WHATEVER THE INPUT: true; the input reads as it did. -/
def boxPaysSpec : ChangeSpec := { name := "boxPays", fn := fun _ => fun
  | [d1, d2, d3, d4, d5] => { results := [.lit (.bool true)], args := [d1, d2, d3, d4, d5] }
  | _ => none }
def boxPaysRow : OpenClaim := { program := "ytlbkaeoagdbemaa", sum := "e3c753419e933051d89d30eda5b090a46b47a6f7c8f15b13b22c57d2ee8f0b93", func := "quinella/quinellalaw08.BoxPays", spec := "boxPays", unfollowed := true, recurses := true, plainKeys := false, apart := false }
def BoxPaysSaid : Prop := boxPaysRow.holds Try.pinned (OpenSpec.ofChange boxPaysSpec)

/-- ITS FALSE NEIGHBOUR: 'it returns false'. Refute it at one input. -/
def boxPaysWrong : ChangeSpec := { name := "boxPays", fn := fun _ => fun
  | [d1, d2, d3, d4, d5] => { results := [.lit (.bool false)], args := [d1, d2, d3, d4, d5] }
  | _ => none }
def BoxPaysWrongFalsely : Prop := boxPaysRow.holds Try.pinned (OpenSpec.ofChange boxPaysWrong)

/-- 'quinellalaw08.BoxMapped': WHATEVER THE INPUT: true; the input reads as it did. -/
def boxMappedSpec : ChangeSpec := { name := "boxMapped", fn := fun _ => fun
  | [d1, d2, d3, d4] => { results := [.lit (.bool true)], args := [d1, d2, d3, d4] }
  | _ => none }
def boxMappedRow : OpenClaim := { program := "ytlbkaeoagdbemaa", sum := "e3c753419e933051d89d30eda5b090a46b47a6f7c8f15b13b22c57d2ee8f0b93", func := "quinella/quinellalaw08.BoxMapped", spec := "boxMapped", unfollowed := true, recurses := true, plainKeys := false, apart := false }
def BoxMappedSaid : Prop := boxMappedRow.holds Try.pinned (OpenSpec.ofChange boxMappedSpec)

/-- ITS FALSE NEIGHBOUR: 'it returns false'. Refute it at one input. -/
def boxMappedWrong : ChangeSpec := { name := "boxMapped", fn := fun _ => fun
  | [d1, d2, d3, d4] => { results := [.lit (.bool false)], args := [d1, d2, d3, d4] }
  | _ => none }
def BoxMappedWrongFalsely : Prop := boxMappedRow.holds Try.pinned (OpenSpec.ofChange boxMappedWrong)

/-- 'quinellalaw08.BoxCut': WHATEVER THE INPUT: true; the input reads as it did. -/
def boxCutSpec : ChangeSpec := { name := "boxCut", fn := fun _ => fun
  | [d1, d2, d3, d4, d5, d6] => { results := [.lit (.bool true)], args := [d1, d2, d3, d4, d5, d6] }
  | _ => none }
def boxCutRow : OpenClaim := { program := "ytlbkaeoagdbemaa", sum := "e3c753419e933051d89d30eda5b090a46b47a6f7c8f15b13b22c57d2ee8f0b93", func := "quinella/quinellalaw08.BoxCut", spec := "boxCut", unfollowed := true, recurses := true, plainKeys := false, apart := false }
def BoxCutSaid : Prop := boxCutRow.holds Try.pinned (OpenSpec.ofChange boxCutSpec)

/-- ITS FALSE NEIGHBOUR: 'it returns false'. Refute it at one input. -/
def boxCutWrong : ChangeSpec := { name := "boxCut", fn := fun _ => fun
  | [d1, d2, d3, d4, d5, d6] => { results := [.lit (.bool false)], args := [d1, d2, d3, d4, d5, d6] }
  | _ => none }
def BoxCutWrongFalsely : Prop := boxCutRow.holds Try.pinned (OpenSpec.ofChange boxCutWrong)

/-- 'quinellalaw08.BoxTurned': WHATEVER THE INPUT: true; the input reads as it did. -/
def boxTurnedSpec : ChangeSpec := { name := "boxTurned", fn := fun _ => fun
  | [d1, d2, d3, d4, d5] => { results := [.lit (.bool true)], args := [d1, d2, d3, d4, d5] }
  | _ => none }
def boxTurnedRow : OpenClaim := { program := "ytlbkaeoagdbemaa", sum := "e3c753419e933051d89d30eda5b090a46b47a6f7c8f15b13b22c57d2ee8f0b93", func := "quinella/quinellalaw08.BoxTurned", spec := "boxTurned", unfollowed := true, recurses := true, plainKeys := false, apart := false }
def BoxTurnedSaid : Prop := boxTurnedRow.holds Try.pinned (OpenSpec.ofChange boxTurnedSpec)

/-- ITS FALSE NEIGHBOUR: 'it returns false'. Refute it at one input. -/
def boxTurnedWrong : ChangeSpec := { name := "boxTurned", fn := fun _ => fun
  | [d1, d2, d3, d4, d5] => { results := [.lit (.bool false)], args := [d1, d2, d3, d4, d5] }
  | _ => none }
def BoxTurnedWrongFalsely : Prop := boxTurnedRow.holds Try.pinned (OpenSpec.ofChange boxTurnedWrong)

/-- 'quinellalaw08.BoxMore': WHATEVER THE INPUT: true; the input reads as it did. -/
def boxMoreSpec : ChangeSpec := { name := "boxMore", fn := fun _ => fun
  | [d1, d2, d3] => { results := [.lit (.bool true)], args := [d1, d2, d3] }
  | _ => none }
def boxMoreRow : OpenClaim := { program := "ytlbkaeoagdbemaa", sum := "e3c753419e933051d89d30eda5b090a46b47a6f7c8f15b13b22c57d2ee8f0b93", func := "quinella/quinellalaw08.BoxMore", spec := "boxMore", unfollowed := true, recurses := true, plainKeys := false, apart := false }
def BoxMoreSaid : Prop := boxMoreRow.holds Try.pinned (OpenSpec.ofChange boxMoreSpec)

/-- ITS FALSE NEIGHBOUR: 'it returns false'. Refute it at one input. -/
def boxMoreWrong : ChangeSpec := { name := "boxMore", fn := fun _ => fun
  | [d1, d2, d3] => { results := [.lit (.bool false)], args := [d1, d2, d3] }
  | _ => none }
def BoxMoreWrongFalsely : Prop := boxMoreRow.holds Try.pinned (OpenSpec.ofChange boxMoreWrong)

/-- 'quinellalaw08.BoxIdle': WHATEVER THE INPUT: true; the input reads as it did. -/
def boxIdleSpec : ChangeSpec := { name := "boxIdle", fn := fun _ => fun
  | [d1, d2, d3] => { results := [.lit (.bool true)], args := [d1, d2, d3] }
  | _ => none }
def boxIdleRow : OpenClaim := { program := "ytlbkaeoagdbemaa", sum := "e3c753419e933051d89d30eda5b090a46b47a6f7c8f15b13b22c57d2ee8f0b93", func := "quinella/quinellalaw08.BoxIdle", spec := "boxIdle", unfollowed := true, recurses := true, plainKeys := false, apart := false }
def BoxIdleSaid : Prop := boxIdleRow.holds Try.pinned (OpenSpec.ofChange boxIdleSpec)

/-- ITS FALSE NEIGHBOUR: 'it returns false'. Refute it at one input. -/
def boxIdleWrong : ChangeSpec := { name := "boxIdle", fn := fun _ => fun
  | [d1, d2, d3] => { results := [.lit (.bool false)], args := [d1, d2, d3] }
  | _ => none }
def BoxIdleWrongFalsely : Prop := boxIdleRow.holds Try.pinned (OpenSpec.ofChange boxIdleWrong)

/-- 'quinellalaw08.BoxBehind': WHATEVER THE INPUT: true; the input reads as it did. -/
def boxBehindSpec : ChangeSpec := { name := "boxBehind", fn := fun _ => fun
  | [d1, d2, d3, d4] => { results := [.lit (.bool true)], args := [d1, d2, d3, d4] }
  | _ => none }
def boxBehindRow : OpenClaim := { program := "ytlbkaeoagdbemaa", sum := "e3c753419e933051d89d30eda5b090a46b47a6f7c8f15b13b22c57d2ee8f0b93", func := "quinella/quinellalaw08.BoxBehind", spec := "boxBehind", unfollowed := true, recurses := true, plainKeys := false, apart := false }
def BoxBehindSaid : Prop := boxBehindRow.holds Try.pinned (OpenSpec.ofChange boxBehindSpec)

/-- ITS FALSE NEIGHBOUR: 'it returns false'. Refute it at one input. -/
def boxBehindWrong : ChangeSpec := { name := "boxBehind", fn := fun _ => fun
  | [d1, d2, d3, d4] => { results := [.lit (.bool false)], args := [d1, d2, d3, d4] }
  | _ => none }
def BoxBehindWrongFalsely : Prop := boxBehindRow.holds Try.pinned (OpenSpec.ofChange boxBehindWrong)

/-- 'quinellalaw08.BoxPaid': WHATEVER THE INPUT: true; the input reads as it did. -/
def boxPaidSpec : ChangeSpec := { name := "boxPaid", fn := fun _ => fun
  | [d1, d2, d3, d4] => { results := [.lit (.bool true)], args := [d1, d2, d3, d4] }
  | _ => none }
def boxPaidRow : OpenClaim := { program := "ytlbkaeoagdbemaa", sum := "e3c753419e933051d89d30eda5b090a46b47a6f7c8f15b13b22c57d2ee8f0b93", func := "quinella/quinellalaw08.BoxPaid", spec := "boxPaid", unfollowed := true, recurses := true, plainKeys := false, apart := false }
def BoxPaidSaid : Prop := boxPaidRow.holds Try.pinned (OpenSpec.ofChange boxPaidSpec)

/-- ITS FALSE NEIGHBOUR: 'it returns false'. Refute it at one input. -/
def boxPaidWrong : ChangeSpec := { name := "boxPaid", fn := fun _ => fun
  | [d1, d2, d3, d4] => { results := [.lit (.bool false)], args := [d1, d2, d3, d4] }
  | _ => none }
def BoxPaidWrongFalsely : Prop := boxPaidRow.holds Try.pinned (OpenSpec.ofChange boxPaidWrong)

/-- 'quinellalaw08.BoxWrong': WHATEVER THE INPUT: true; the input reads as it did. -/
def boxWrongSpec : ChangeSpec := { name := "boxWrong", fn := fun _ => fun
  | [d1, d2, d3, d4] => { results := [.lit (.bool true)], args := [d1, d2, d3, d4] }
  | _ => none }
def boxWrongRow : OpenClaim := { program := "ytlbkaeoagdbemaa", sum := "e3c753419e933051d89d30eda5b090a46b47a6f7c8f15b13b22c57d2ee8f0b93", func := "quinella/quinellalaw08.BoxWrong", spec := "boxWrong", unfollowed := true, recurses := true, plainKeys := false, apart := false }
def BoxWrongSaid : Prop := boxWrongRow.holds Try.pinned (OpenSpec.ofChange boxWrongSpec)

/-- ITS FALSE NEIGHBOUR: 'it returns false'. Refute it at one input. -/
def boxWrongWrong : ChangeSpec := { name := "boxWrong", fn := fun _ => fun
  | [d1, d2, d3, d4] => { results := [.lit (.bool false)], args := [d1, d2, d3, d4] }
  | _ => none }
def BoxWrongWrongFalsely : Prop := boxWrongRow.holds Try.pinned (OpenSpec.ofChange boxWrongWrong)

/-- 'quinellalaw08.BoxJoined': WHATEVER THE INPUT: true; the input reads as it did. -/
def boxJoinedSpec : ChangeSpec := { name := "boxJoined", fn := fun _ => fun
  | [d1, d2, d3, d4] => { results := [.lit (.bool true)], args := [d1, d2, d3, d4] }
  | _ => none }
def boxJoinedRow : OpenClaim := { program := "ytlbkaeoagdbemaa", sum := "e3c753419e933051d89d30eda5b090a46b47a6f7c8f15b13b22c57d2ee8f0b93", func := "quinella/quinellalaw08.BoxJoined", spec := "boxJoined", unfollowed := true, recurses := true, plainKeys := false, apart := false }
def BoxJoinedSaid : Prop := boxJoinedRow.holds Try.pinned (OpenSpec.ofChange boxJoinedSpec)

/-- ITS FALSE NEIGHBOUR: 'it returns false'. Refute it at one input. -/
def boxJoinedWrong : ChangeSpec := { name := "boxJoined", fn := fun _ => fun
  | [d1, d2, d3, d4] => { results := [.lit (.bool false)], args := [d1, d2, d3, d4] }
  | _ => none }
def BoxJoinedWrongFalsely : Prop := boxJoinedRow.holds Try.pinned (OpenSpec.ofChange boxJoinedWrong)

/-- 'quinellalaw08.BoxKnown': WHATEVER THE INPUT: true; the input reads as it did. -/
def boxKnownSpec : ChangeSpec := { name := "boxKnown", fn := fun _ => fun
  | [] => { results := [.lit (.bool true)], args := [] }
  | _ => none }
def boxKnownRow : OpenClaim := { program := "ytlbkaeoagdbemaa", sum := "e3c753419e933051d89d30eda5b090a46b47a6f7c8f15b13b22c57d2ee8f0b93", func := "quinella/quinellalaw08.BoxKnown", spec := "boxKnown", unfollowed := true, recurses := true, plainKeys := false, apart := false }
def BoxKnownSaid : Prop := boxKnownRow.holds Try.pinned (OpenSpec.ofChange boxKnownSpec)

/-- ITS FALSE NEIGHBOUR: 'it returns false'. Refute it at one input. -/
def boxKnownWrong : ChangeSpec := { name := "boxKnown", fn := fun _ => fun
  | [] => { results := [.lit (.bool false)], args := [] }
  | _ => none }
def BoxKnownWrongFalsely : Prop := boxKnownRow.holds Try.pinned (OpenSpec.ofChange boxKnownWrong)

/- THE SECOND FORM. 'bulk': how many values and letters a reading holds, each counted each time it is reached (what is shared counts as often as it is met; a slice's spare places count too). A statement '..UptoSaid' is the law's where the arguments, and the package variables that the reading takes, are together of bulk at most 1048576: NARROWER than '..Said'. Prove '..Said' where nothing that the law and all that it calls make is longer than what came in: it says more and counts as full. Else prove '..UptoSaid'. A law counts once. -/
mutual
def uptoBulk {H : Type} : DataW H → Nat
  | .lit (.string bytes) => bytes.length + 1
  | .lit _ => 1
  | .nil => 1
  | .ptr d => uptoBulk d + 1
  | .slice elems spare => uptoBulkAll elems + uptoBulkAll spare + 1
  | .agg parts => uptoBulkAll parts + 1
  | .iface _ d => uptoBulk d + 1
  | .map entries => uptoBulkEntries entries + 1
  | .held _ => 1
def uptoBulkAll {H : Type} : List (DataW H) → Nat
  | [] => 0
  | d :: r => uptoBulk d + uptoBulkAll r
def uptoBulkEntries {H : Type} : List (Lit × DataW H) → Nat
  | [] => 0
  | x :: r => uptoBulkEntry x + uptoBulkEntries r
def uptoBulkEntry {H : Type} : Lit × DataW H → Nat
  | (.string bytes, d) => bytes.length + uptoBulk d + 1
  | (_, d) => uptoBulk d + 1
 end
def uptoSmall : (H : Type) → List (DataW H) → Bool := fun _ ds => decide (uptoBulkAll ds ≤ 1048576)
def OpenSpec.upto (s : _root_.Go.ChangeSpec) : _root_.Go.OpenSpec := { _root_.Go.OpenSpec.ofChange s with cond := some uptoSmall }

/-- 'quinellalaw08.BoxCards', WHERE WHAT IT READS IS OF BULK AT MOST 1048576: true; the input reads as it did. -/
def boxCardsUptoRow : OpenClaim := { program := "ytlbkaeoagdbemaa", sum := "e3c753419e933051d89d30eda5b090a46b47a6f7c8f15b13b22c57d2ee8f0b93", func := "quinella/quinellalaw08.BoxCards", spec := "boxCards", unfollowed := true, recurses := true, plainKeys := false, apart := false, narrowed := true }
def BoxCardsUptoSaid : Prop := boxCardsUptoRow.holds Try.pinned (OpenSpec.upto boxCardsSpec)

/-- 'quinellalaw08.BoxSizes', WHERE WHAT IT READS IS OF BULK AT MOST 1048576: true; the input reads as it did. -/
def boxSizesUptoRow : OpenClaim := { program := "ytlbkaeoagdbemaa", sum := "e3c753419e933051d89d30eda5b090a46b47a6f7c8f15b13b22c57d2ee8f0b93", func := "quinella/quinellalaw08.BoxSizes", spec := "boxSizes", unfollowed := true, recurses := true, plainKeys := false, apart := false, narrowed := true }
def BoxSizesUptoSaid : Prop := boxSizesUptoRow.holds Try.pinned (OpenSpec.upto boxSizesSpec)

/-- 'quinellalaw08.BoxMaps', WHERE WHAT IT READS IS OF BULK AT MOST 1048576: true; the input reads as it did. -/
def boxMapsUptoRow : OpenClaim := { program := "ytlbkaeoagdbemaa", sum := "e3c753419e933051d89d30eda5b090a46b47a6f7c8f15b13b22c57d2ee8f0b93", func := "quinella/quinellalaw08.BoxMaps", spec := "boxMaps", unfollowed := true, recurses := true, plainKeys := false, apart := false, narrowed := true }
def BoxMapsUptoSaid : Prop := boxMapsUptoRow.holds Try.pinned (OpenSpec.upto boxMapsSpec)

/-- 'quinellalaw08.BoxCounts', WHERE WHAT IT READS IS OF BULK AT MOST 1048576: true; the input reads as it did. -/
def boxCountsUptoRow : OpenClaim := { program := "ytlbkaeoagdbemaa", sum := "e3c753419e933051d89d30eda5b090a46b47a6f7c8f15b13b22c57d2ee8f0b93", func := "quinella/quinellalaw08.BoxCounts", spec := "boxCounts", unfollowed := true, recurses := true, plainKeys := false, apart := false, narrowed := true }
def BoxCountsUptoSaid : Prop := boxCountsUptoRow.holds Try.pinned (OpenSpec.upto boxCountsSpec)

/-- 'quinellalaw08.BoxPays', WHERE WHAT IT READS IS OF BULK AT MOST 1048576: true; the input reads as it did. -/
def boxPaysUptoRow : OpenClaim := { program := "ytlbkaeoagdbemaa", sum := "e3c753419e933051d89d30eda5b090a46b47a6f7c8f15b13b22c57d2ee8f0b93", func := "quinella/quinellalaw08.BoxPays", spec := "boxPays", unfollowed := true, recurses := true, plainKeys := false, apart := false, narrowed := true }
def BoxPaysUptoSaid : Prop := boxPaysUptoRow.holds Try.pinned (OpenSpec.upto boxPaysSpec)

/-- 'quinellalaw08.BoxMapped', WHERE WHAT IT READS IS OF BULK AT MOST 1048576: true; the input reads as it did. -/
def boxMappedUptoRow : OpenClaim := { program := "ytlbkaeoagdbemaa", sum := "e3c753419e933051d89d30eda5b090a46b47a6f7c8f15b13b22c57d2ee8f0b93", func := "quinella/quinellalaw08.BoxMapped", spec := "boxMapped", unfollowed := true, recurses := true, plainKeys := false, apart := false, narrowed := true }
def BoxMappedUptoSaid : Prop := boxMappedUptoRow.holds Try.pinned (OpenSpec.upto boxMappedSpec)

/-- 'quinellalaw08.BoxCut', WHERE WHAT IT READS IS OF BULK AT MOST 1048576: true; the input reads as it did. -/
def boxCutUptoRow : OpenClaim := { program := "ytlbkaeoagdbemaa", sum := "e3c753419e933051d89d30eda5b090a46b47a6f7c8f15b13b22c57d2ee8f0b93", func := "quinella/quinellalaw08.BoxCut", spec := "boxCut", unfollowed := true, recurses := true, plainKeys := false, apart := false, narrowed := true }
def BoxCutUptoSaid : Prop := boxCutUptoRow.holds Try.pinned (OpenSpec.upto boxCutSpec)

/-- 'quinellalaw08.BoxTurned', WHERE WHAT IT READS IS OF BULK AT MOST 1048576: true; the input reads as it did. -/
def boxTurnedUptoRow : OpenClaim := { program := "ytlbkaeoagdbemaa", sum := "e3c753419e933051d89d30eda5b090a46b47a6f7c8f15b13b22c57d2ee8f0b93", func := "quinella/quinellalaw08.BoxTurned", spec := "boxTurned", unfollowed := true, recurses := true, plainKeys := false, apart := false, narrowed := true }
def BoxTurnedUptoSaid : Prop := boxTurnedUptoRow.holds Try.pinned (OpenSpec.upto boxTurnedSpec)

/-- 'quinellalaw08.BoxMore', WHERE WHAT IT READS IS OF BULK AT MOST 1048576: true; the input reads as it did. -/
def boxMoreUptoRow : OpenClaim := { program := "ytlbkaeoagdbemaa", sum := "e3c753419e933051d89d30eda5b090a46b47a6f7c8f15b13b22c57d2ee8f0b93", func := "quinella/quinellalaw08.BoxMore", spec := "boxMore", unfollowed := true, recurses := true, plainKeys := false, apart := false, narrowed := true }
def BoxMoreUptoSaid : Prop := boxMoreUptoRow.holds Try.pinned (OpenSpec.upto boxMoreSpec)

/-- 'quinellalaw08.BoxIdle', WHERE WHAT IT READS IS OF BULK AT MOST 1048576: true; the input reads as it did. -/
def boxIdleUptoRow : OpenClaim := { program := "ytlbkaeoagdbemaa", sum := "e3c753419e933051d89d30eda5b090a46b47a6f7c8f15b13b22c57d2ee8f0b93", func := "quinella/quinellalaw08.BoxIdle", spec := "boxIdle", unfollowed := true, recurses := true, plainKeys := false, apart := false, narrowed := true }
def BoxIdleUptoSaid : Prop := boxIdleUptoRow.holds Try.pinned (OpenSpec.upto boxIdleSpec)

/-- 'quinellalaw08.BoxBehind', WHERE WHAT IT READS IS OF BULK AT MOST 1048576: true; the input reads as it did. -/
def boxBehindUptoRow : OpenClaim := { program := "ytlbkaeoagdbemaa", sum := "e3c753419e933051d89d30eda5b090a46b47a6f7c8f15b13b22c57d2ee8f0b93", func := "quinella/quinellalaw08.BoxBehind", spec := "boxBehind", unfollowed := true, recurses := true, plainKeys := false, apart := false, narrowed := true }
def BoxBehindUptoSaid : Prop := boxBehindUptoRow.holds Try.pinned (OpenSpec.upto boxBehindSpec)

/-- 'quinellalaw08.BoxPaid', WHERE WHAT IT READS IS OF BULK AT MOST 1048576: true; the input reads as it did. -/
def boxPaidUptoRow : OpenClaim := { program := "ytlbkaeoagdbemaa", sum := "e3c753419e933051d89d30eda5b090a46b47a6f7c8f15b13b22c57d2ee8f0b93", func := "quinella/quinellalaw08.BoxPaid", spec := "boxPaid", unfollowed := true, recurses := true, plainKeys := false, apart := false, narrowed := true }
def BoxPaidUptoSaid : Prop := boxPaidUptoRow.holds Try.pinned (OpenSpec.upto boxPaidSpec)

/-- 'quinellalaw08.BoxWrong', WHERE WHAT IT READS IS OF BULK AT MOST 1048576: true; the input reads as it did. -/
def boxWrongUptoRow : OpenClaim := { program := "ytlbkaeoagdbemaa", sum := "e3c753419e933051d89d30eda5b090a46b47a6f7c8f15b13b22c57d2ee8f0b93", func := "quinella/quinellalaw08.BoxWrong", spec := "boxWrong", unfollowed := true, recurses := true, plainKeys := false, apart := false, narrowed := true }
def BoxWrongUptoSaid : Prop := boxWrongUptoRow.holds Try.pinned (OpenSpec.upto boxWrongSpec)

/-- 'quinellalaw08.BoxJoined', WHERE WHAT IT READS IS OF BULK AT MOST 1048576: true; the input reads as it did. -/
def boxJoinedUptoRow : OpenClaim := { program := "ytlbkaeoagdbemaa", sum := "e3c753419e933051d89d30eda5b090a46b47a6f7c8f15b13b22c57d2ee8f0b93", func := "quinella/quinellalaw08.BoxJoined", spec := "boxJoined", unfollowed := true, recurses := true, plainKeys := false, apart := false, narrowed := true }
def BoxJoinedUptoSaid : Prop := boxJoinedUptoRow.holds Try.pinned (OpenSpec.upto boxJoinedSpec)

/-- 'quinellalaw08.BoxKnown', WHERE WHAT IT READS IS OF BULK AT MOST 1048576: true; the input reads as it did. -/
def boxKnownUptoRow : OpenClaim := { program := "ytlbkaeoagdbemaa", sum := "e3c753419e933051d89d30eda5b090a46b47a6f7c8f15b13b22c57d2ee8f0b93", func := "quinella/quinellalaw08.BoxKnown", spec := "boxKnown", unfollowed := true, recurses := true, plainKeys := false, apart := false, narrowed := true }
def BoxKnownUptoSaid : Prop := boxKnownUptoRow.holds Try.pinned (OpenSpec.upto boxKnownSpec)

end Rows
end Go.Proofs.Ytlbkaeoagdbemaa
