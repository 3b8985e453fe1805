/-
  No cell of these rows narrows 'for every input' (looked for: loops, veiled, ifaces, maps, wideKeys, modest, calm, conditions, laid).
  DERIVED. THE GIVEN ROWS OF THIS SEAT. 13 by the template 'for every input the law returns true; each argument reads behind the call as it read before'; 0 by the template 'total and deterministic' (their statements: YtgjfejpibielaaaTotals.lean).
  GIVEN WITH THE SEED: the statements are not yours to turn. If you find one false, say at which input.
  Laid BY PROGRAM, IN A SANDBOX (cutbox-rows.mjs): the forced cells as the released guide's own fill.sh prints them over the translation 0914c86bee445ff4… (all of the seat's roots in one cut). By AI agents, Wed Nov 11 2026. No macro, syntax, notation, axiom, sorry.
-/
import Derived.Test.YtgjfejpibielaaaChecked
import GoSem.Claim
import GoSem.ClaimJoined
import GoSem.ClaimMapViews
import Derived.JoinedTies
import Derived.KernelRfl
namespace Go.Proofs.Ytgjfejpibielaaa
/- THE CELL 'sum', in the pinned program and in every row, IS THE sha256 OF THE DUMP (.gsa) THAT YtgjfejpibielaaaProg.lean LOADS. Nothing in Lean hashes anything: it is a label: what it is worth is what the hold of that sum in a sandbox is worth. -/
noncomputable def Try.pinned : Pinned := { name := "ytgjfejpibielaaa", sum := "0914c86bee445ff402b97d1f7e106163cf50694e8f0d9ca3a9f51e2bbe05fd93", checked := Try.checked }
namespace Rows
def none {H : Type} : Left H := { results := [], args := [] }

/-- 'quinellalaw06.TicketDays': WHATEVER THE INPUT: true; the input reads as it did. -/
def ticketDaysSpec : ChangeSpec := { name := "ticketDays", fn := fun _ => fun
  | [d1, d2, d3] => { results := [.lit (.bool true)], args := [d1, d2, d3] }
  | _ => none }
def ticketDaysRow : OpenClaim := { program := "ytgjfejpibielaaa", sum := "0914c86bee445ff402b97d1f7e106163cf50694e8f0d9ca3a9f51e2bbe05fd93", func := "quinella/quinellalaw06.TicketDays", spec := "ticketDays", unfollowed := true, recurses := true, plainKeys := false, apart := false }
def TicketDaysSaid : Prop := ticketDaysRow.holds Try.pinned (OpenSpec.ofChange ticketDaysSpec)

/-- ITS FALSE NEIGHBOUR: 'it returns false'. Refute it at one input. -/
def ticketDaysWrong : ChangeSpec := { name := "ticketDays", fn := fun _ => fun
  | [d1, d2, d3] => { results := [.lit (.bool false)], args := [d1, d2, d3] }
  | _ => none }
def TicketDaysWrongFalsely : Prop := ticketDaysRow.holds Try.pinned (OpenSpec.ofChange ticketDaysWrong)

/-- 'quinellalaw06.TicketFits': WHATEVER THE INPUT: true; the input reads as it did. -/
def ticketFitsSpec : ChangeSpec := { name := "ticketFits", fn := fun _ => fun
  | [d1, d2, d3] => { results := [.lit (.bool true)], args := [d1, d2, d3] }
  | _ => none }
def ticketFitsRow : OpenClaim := { program := "ytgjfejpibielaaa", sum := "0914c86bee445ff402b97d1f7e106163cf50694e8f0d9ca3a9f51e2bbe05fd93", func := "quinella/quinellalaw06.TicketFits", spec := "ticketFits", unfollowed := true, recurses := true, plainKeys := false, apart := false }
def TicketFitsSaid : Prop := ticketFitsRow.holds Try.pinned (OpenSpec.ofChange ticketFitsSpec)

/-- ITS FALSE NEIGHBOUR: 'it returns false'. Refute it at one input. -/
def ticketFitsWrong : ChangeSpec := { name := "ticketFits", fn := fun _ => fun
  | [d1, d2, d3] => { results := [.lit (.bool false)], args := [d1, d2, d3] }
  | _ => none }
def TicketFitsWrongFalsely : Prop := ticketFitsRow.holds Try.pinned (OpenSpec.ofChange ticketFitsWrong)

/-- 'quinellalaw06.TicketFinds': WHATEVER THE INPUT: true; the input reads as it did. -/
def ticketFindsSpec : ChangeSpec := { name := "ticketFinds", fn := fun _ => fun
  | [d1, d2, d3] => { results := [.lit (.bool true)], args := [d1, d2, d3] }
  | _ => none }
def ticketFindsRow : OpenClaim := { program := "ytgjfejpibielaaa", sum := "0914c86bee445ff402b97d1f7e106163cf50694e8f0d9ca3a9f51e2bbe05fd93", func := "quinella/quinellalaw06.TicketFinds", spec := "ticketFinds", unfollowed := true, recurses := true, plainKeys := false, apart := false }
def TicketFindsSaid : Prop := ticketFindsRow.holds Try.pinned (OpenSpec.ofChange ticketFindsSpec)

/-- ITS FALSE NEIGHBOUR: 'it returns false'. Refute it at one input. -/
def ticketFindsWrong : ChangeSpec := { name := "ticketFinds", fn := fun _ => fun
  | [d1, d2, d3] => { results := [.lit (.bool false)], args := [d1, d2, d3] }
  | _ => none }
def TicketFindsWrongFalsely : Prop := ticketFindsRow.holds Try.pinned (OpenSpec.ofChange ticketFindsWrong)

/-- 'quinellalaw06.TicketNears': WHATEVER THE INPUT: true; the input reads as it did. -/
def ticketNearsSpec : ChangeSpec := { name := "ticketNears", fn := fun _ => fun
  | [d1, d2] => { results := [.lit (.bool true)], args := [d1, d2] }
  | _ => none }
def ticketNearsRow : OpenClaim := { program := "ytgjfejpibielaaa", sum := "0914c86bee445ff402b97d1f7e106163cf50694e8f0d9ca3a9f51e2bbe05fd93", func := "quinella/quinellalaw06.TicketNears", spec := "ticketNears", unfollowed := true, recurses := true, plainKeys := false, apart := false }
def TicketNearsSaid : Prop := ticketNearsRow.holds Try.pinned (OpenSpec.ofChange ticketNearsSpec)

/-- ITS FALSE NEIGHBOUR: 'it returns false'. Refute it at one input. -/
def ticketNearsWrong : ChangeSpec := { name := "ticketNears", fn := fun _ => fun
  | [d1, d2] => { results := [.lit (.bool false)], args := [d1, d2] }
  | _ => none }
def TicketNearsWrongFalsely : Prop := ticketNearsRow.holds Try.pinned (OpenSpec.ofChange ticketNearsWrong)

/-- 'quinellalaw06.TicketClaims': WHATEVER THE INPUT: true; the input reads as it did. -/
def ticketClaimsSpec : ChangeSpec := { name := "ticketClaims", fn := fun _ => fun
  | [d1, d2, d3, d4] => { results := [.lit (.bool true)], args := [d1, d2, d3, d4] }
  | _ => none }
def ticketClaimsRow : OpenClaim := { program := "ytgjfejpibielaaa", sum := "0914c86bee445ff402b97d1f7e106163cf50694e8f0d9ca3a9f51e2bbe05fd93", func := "quinella/quinellalaw06.TicketClaims", spec := "ticketClaims", unfollowed := true, recurses := true, plainKeys := false, apart := false }
def TicketClaimsSaid : Prop := ticketClaimsRow.holds Try.pinned (OpenSpec.ofChange ticketClaimsSpec)

/-- ITS FALSE NEIGHBOUR: 'it returns false'. Refute it at one input. -/
def ticketClaimsWrong : ChangeSpec := { name := "ticketClaims", fn := fun _ => fun
  | [d1, d2, d3, d4] => { results := [.lit (.bool false)], args := [d1, d2, d3, d4] }
  | _ => none }
def TicketClaimsWrongFalsely : Prop := ticketClaimsRow.holds Try.pinned (OpenSpec.ofChange ticketClaimsWrong)

/-- 'quinellalaw06.TicketPaid': WHATEVER THE INPUT: true; the input reads as it did. -/
def ticketPaidSpec : ChangeSpec := { name := "ticketPaid", fn := fun _ => fun
  | [d1, d2, d3, d4, d5] => { results := [.lit (.bool true)], args := [d1, d2, d3, d4, d5] }
  | _ => none }
def ticketPaidRow : OpenClaim := { program := "ytgjfejpibielaaa", sum := "0914c86bee445ff402b97d1f7e106163cf50694e8f0d9ca3a9f51e2bbe05fd93", func := "quinella/quinellalaw06.TicketPaid", spec := "ticketPaid", unfollowed := true, recurses := true, plainKeys := false, apart := false }
def TicketPaidSaid : Prop := ticketPaidRow.holds Try.pinned (OpenSpec.ofChange ticketPaidSpec)

/-- ITS FALSE NEIGHBOUR: 'it returns false'. Refute it at one input. -/
def ticketPaidWrong : ChangeSpec := { name := "ticketPaid", fn := fun _ => fun
  | [d1, d2, d3, d4, d5] => { results := [.lit (.bool false)], args := [d1, d2, d3, d4, d5] }
  | _ => none }
def TicketPaidWrongFalsely : Prop := ticketPaidRow.holds Try.pinned (OpenSpec.ofChange ticketPaidWrong)

/-- 'quinellalaw06.TicketBack': WHATEVER THE INPUT: true; the input reads as it did. -/
def ticketBackSpec : ChangeSpec := { name := "ticketBack", fn := fun _ => fun
  | [d1, d2, d3] => { results := [.lit (.bool true)], args := [d1, d2, d3] }
  | _ => none }
def ticketBackRow : OpenClaim := { program := "ytgjfejpibielaaa", sum := "0914c86bee445ff402b97d1f7e106163cf50694e8f0d9ca3a9f51e2bbe05fd93", func := "quinella/quinellalaw06.TicketBack", spec := "ticketBack", unfollowed := true, recurses := true, plainKeys := false, apart := false }
def TicketBackSaid : Prop := ticketBackRow.holds Try.pinned (OpenSpec.ofChange ticketBackSpec)

/-- ITS FALSE NEIGHBOUR: 'it returns false'. Refute it at one input. -/
def ticketBackWrong : ChangeSpec := { name := "ticketBack", fn := fun _ => fun
  | [d1, d2, d3] => { results := [.lit (.bool false)], args := [d1, d2, d3] }
  | _ => none }
def TicketBackWrongFalsely : Prop := ticketBackRow.holds Try.pinned (OpenSpec.ofChange ticketBackWrong)

/-- 'quinellalaw06.TicketSure': WHATEVER THE INPUT: true; the input reads as it did. -/
def ticketSureSpec : ChangeSpec := { name := "ticketSure", fn := fun _ => fun
  | [d1, d2] => { results := [.lit (.bool true)], args := [d1, d2] }
  | _ => none }
def ticketSureRow : OpenClaim := { program := "ytgjfejpibielaaa", sum := "0914c86bee445ff402b97d1f7e106163cf50694e8f0d9ca3a9f51e2bbe05fd93", func := "quinella/quinellalaw06.TicketSure", spec := "ticketSure", unfollowed := true, recurses := true, plainKeys := false, apart := false }
def TicketSureSaid : Prop := ticketSureRow.holds Try.pinned (OpenSpec.ofChange ticketSureSpec)

/-- ITS FALSE NEIGHBOUR: 'it returns false'. Refute it at one input. -/
def ticketSureWrong : ChangeSpec := { name := "ticketSure", fn := fun _ => fun
  | [d1, d2] => { results := [.lit (.bool false)], args := [d1, d2] }
  | _ => none }
def TicketSureWrongFalsely : Prop := ticketSureRow.holds Try.pinned (OpenSpec.ofChange ticketSureWrong)

/-- 'quinellalaw06.TicketParted': WHATEVER THE INPUT: true; the input reads as it did. -/
def ticketPartedSpec : ChangeSpec := { name := "ticketParted", fn := fun _ => fun
  | [d1, d2, d3, d4, d5, d6] => { results := [.lit (.bool true)], args := [d1, d2, d3, d4, d5, d6] }
  | _ => none }
def ticketPartedRow : OpenClaim := { program := "ytgjfejpibielaaa", sum := "0914c86bee445ff402b97d1f7e106163cf50694e8f0d9ca3a9f51e2bbe05fd93", func := "quinella/quinellalaw06.TicketParted", spec := "ticketParted", unfollowed := true, recurses := true, plainKeys := false, apart := false }
def TicketPartedSaid : Prop := ticketPartedRow.holds Try.pinned (OpenSpec.ofChange ticketPartedSpec)

/-- ITS FALSE NEIGHBOUR: 'it returns false'. Refute it at one input. -/
def ticketPartedWrong : ChangeSpec := { name := "ticketParted", fn := fun _ => fun
  | [d1, d2, d3, d4, d5, d6] => { results := [.lit (.bool false)], args := [d1, d2, d3, d4, d5, d6] }
  | _ => none }
def TicketPartedWrongFalsely : Prop := ticketPartedRow.holds Try.pinned (OpenSpec.ofChange ticketPartedWrong)

/-- 'quinellalaw06.TicketMore': WHATEVER THE INPUT: true; the input reads as it did. -/
def ticketMoreSpec : ChangeSpec := { name := "ticketMore", fn := fun _ => fun
  | [d1, d2, d3, d4, d5, d6] => { results := [.lit (.bool true)], args := [d1, d2, d3, d4, d5, d6] }
  | _ => none }
def ticketMoreRow : OpenClaim := { program := "ytgjfejpibielaaa", sum := "0914c86bee445ff402b97d1f7e106163cf50694e8f0d9ca3a9f51e2bbe05fd93", func := "quinella/quinellalaw06.TicketMore", spec := "ticketMore", unfollowed := true, recurses := true, plainKeys := false, apart := false }
def TicketMoreSaid : Prop := ticketMoreRow.holds Try.pinned (OpenSpec.ofChange ticketMoreSpec)

/-- ITS FALSE NEIGHBOUR: 'it returns false'. Refute it at one input. -/
def ticketMoreWrong : ChangeSpec := { name := "ticketMore", fn := fun _ => fun
  | [d1, d2, d3, d4, d5, d6] => { results := [.lit (.bool false)], args := [d1, d2, d3, d4, d5, d6] }
  | _ => none }
def TicketMoreWrongFalsely : Prop := ticketMoreRow.holds Try.pinned (OpenSpec.ofChange ticketMoreWrong)

/-- 'quinellalaw06.TicketNear': WHATEVER THE INPUT: true; the input reads as it did. -/
def ticketNearSpec : ChangeSpec := { name := "ticketNear", fn := fun _ => fun
  | [d1, d2, d3, d4, d5] => { results := [.lit (.bool true)], args := [d1, d2, d3, d4, d5] }
  | _ => none }
def ticketNearRow : OpenClaim := { program := "ytgjfejpibielaaa", sum := "0914c86bee445ff402b97d1f7e106163cf50694e8f0d9ca3a9f51e2bbe05fd93", func := "quinella/quinellalaw06.TicketNear", spec := "ticketNear", unfollowed := true, recurses := true, plainKeys := false, apart := false }
def TicketNearSaid : Prop := ticketNearRow.holds Try.pinned (OpenSpec.ofChange ticketNearSpec)

/-- ITS FALSE NEIGHBOUR: 'it returns false'. Refute it at one input. -/
def ticketNearWrong : ChangeSpec := { name := "ticketNear", fn := fun _ => fun
  | [d1, d2, d3, d4, d5] => { results := [.lit (.bool false)], args := [d1, d2, d3, d4, d5] }
  | _ => none }
def TicketNearWrongFalsely : Prop := ticketNearRow.holds Try.pinned (OpenSpec.ofChange ticketNearWrong)

/-- 'quinellalaw06.TicketChecked': WHATEVER THE INPUT: true; the input reads as it did. -/
def ticketCheckedSpec : ChangeSpec := { name := "ticketChecked", fn := fun _ => fun
  | [d1, d2, d3] => { results := [.lit (.bool true)], args := [d1, d2, d3] }
  | _ => none }
def ticketCheckedRow : OpenClaim := { program := "ytgjfejpibielaaa", sum := "0914c86bee445ff402b97d1f7e106163cf50694e8f0d9ca3a9f51e2bbe05fd93", func := "quinella/quinellalaw06.TicketChecked", spec := "ticketChecked", unfollowed := true, recurses := true, plainKeys := false, apart := false }
def TicketCheckedSaid : Prop := ticketCheckedRow.holds Try.pinned (OpenSpec.ofChange ticketCheckedSpec)

/-- ITS FALSE NEIGHBOUR: 'it returns false'. Refute it at one input. -/
def ticketCheckedWrong : ChangeSpec := { name := "ticketChecked", fn := fun _ => fun
  | [d1, d2, d3] => { results := [.lit (.bool false)], args := [d1, d2, d3] }
  | _ => none }
def TicketCheckedWrongFalsely : Prop := ticketCheckedRow.holds Try.pinned (OpenSpec.ofChange ticketCheckedWrong)

/-- 'quinellalaw06.TicketKnown': WHATEVER THE INPUT: true; the input reads as it did. -/
def ticketKnownSpec : ChangeSpec := { name := "ticketKnown", fn := fun _ => fun
  | [] => { results := [.lit (.bool true)], args := [] }
  | _ => none }
def ticketKnownRow : OpenClaim := { program := "ytgjfejpibielaaa", sum := "0914c86bee445ff402b97d1f7e106163cf50694e8f0d9ca3a9f51e2bbe05fd93", func := "quinella/quinellalaw06.TicketKnown", spec := "ticketKnown", unfollowed := true, recurses := true, plainKeys := false, apart := false }
def TicketKnownSaid : Prop := ticketKnownRow.holds Try.pinned (OpenSpec.ofChange ticketKnownSpec)

/-- ITS FALSE NEIGHBOUR: 'it returns false'. Refute it at one input. -/
def ticketKnownWrong : ChangeSpec := { name := "ticketKnown", fn := fun _ => fun
  | [] => { results := [.lit (.bool false)], args := [] }
  | _ => none }
def TicketKnownWrongFalsely : Prop := ticketKnownRow.holds Try.pinned (OpenSpec.ofChange ticketKnownWrong)

/- THE SECOND FORM. 'bulk': how many values and letters a reading holds, each counted each time it is reached (what is shared counts as often as it is met; a slice's spare places count too). A statement '..UptoSaid' is the law's where the arguments, and the package variables that the reading takes, are together of bulk at most 1048576: NARROWER than '..Said'. Prove '..Said' where nothing that the law and all that it calls make is longer than what came in: it says more and counts as full. Else prove '..UptoSaid'. A law counts once. -/
mutual
def uptoBulk {H : Type} : DataW H → Nat
  | .lit (.string bytes) => bytes.length + 1
  | .lit _ => 1
  | .nil => 1
  | .ptr d => uptoBulk d + 1
  | .slice elems spare => uptoBulkAll elems + uptoBulkAll spare + 1
  | .agg parts => uptoBulkAll parts + 1
  | .iface _ d => uptoBulk d + 1
  | .map entries => uptoBulkEntries entries + 1
  | .held _ => 1
def uptoBulkAll {H : Type} : List (DataW H) → Nat
  | [] => 0
  | d :: r => uptoBulk d + uptoBulkAll r
def uptoBulkEntries {H : Type} : List (Lit × DataW H) → Nat
  | [] => 0
  | x :: r => uptoBulkEntry x + uptoBulkEntries r
def uptoBulkEntry {H : Type} : Lit × DataW H → Nat
  | (.string bytes, d) => bytes.length + uptoBulk d + 1
  | (_, d) => uptoBulk d + 1
 end
def uptoSmall : (H : Type) → List (DataW H) → Bool := fun _ ds => decide (uptoBulkAll ds ≤ 1048576)
def OpenSpec.upto (s : _root_.Go.ChangeSpec) : _root_.Go.OpenSpec := { _root_.Go.OpenSpec.ofChange s with cond := some uptoSmall }

/-- 'quinellalaw06.TicketDays', WHERE WHAT IT READS IS OF BULK AT MOST 1048576: true; the input reads as it did. -/
def ticketDaysUptoRow : OpenClaim := { program := "ytgjfejpibielaaa", sum := "0914c86bee445ff402b97d1f7e106163cf50694e8f0d9ca3a9f51e2bbe05fd93", func := "quinella/quinellalaw06.TicketDays", spec := "ticketDays", unfollowed := true, recurses := true, plainKeys := false, apart := false, narrowed := true }
def TicketDaysUptoSaid : Prop := ticketDaysUptoRow.holds Try.pinned (OpenSpec.upto ticketDaysSpec)

/-- 'quinellalaw06.TicketFits', WHERE WHAT IT READS IS OF BULK AT MOST 1048576: true; the input reads as it did. -/
def ticketFitsUptoRow : OpenClaim := { program := "ytgjfejpibielaaa", sum := "0914c86bee445ff402b97d1f7e106163cf50694e8f0d9ca3a9f51e2bbe05fd93", func := "quinella/quinellalaw06.TicketFits", spec := "ticketFits", unfollowed := true, recurses := true, plainKeys := false, apart := false, narrowed := true }
def TicketFitsUptoSaid : Prop := ticketFitsUptoRow.holds Try.pinned (OpenSpec.upto ticketFitsSpec)

/-- 'quinellalaw06.TicketFinds', WHERE WHAT IT READS IS OF BULK AT MOST 1048576: true; the input reads as it did. -/
def ticketFindsUptoRow : OpenClaim := { program := "ytgjfejpibielaaa", sum := "0914c86bee445ff402b97d1f7e106163cf50694e8f0d9ca3a9f51e2bbe05fd93", func := "quinella/quinellalaw06.TicketFinds", spec := "ticketFinds", unfollowed := true, recurses := true, plainKeys := false, apart := false, narrowed := true }
def TicketFindsUptoSaid : Prop := ticketFindsUptoRow.holds Try.pinned (OpenSpec.upto ticketFindsSpec)

/-- 'quinellalaw06.TicketNears', WHERE WHAT IT READS IS OF BULK AT MOST 1048576: true; the input reads as it did. -/
def ticketNearsUptoRow : OpenClaim := { program := "ytgjfejpibielaaa", sum := "0914c86bee445ff402b97d1f7e106163cf50694e8f0d9ca3a9f51e2bbe05fd93", func := "quinella/quinellalaw06.TicketNears", spec := "ticketNears", unfollowed := true, recurses := true, plainKeys := false, apart := false, narrowed := true }
def TicketNearsUptoSaid : Prop := ticketNearsUptoRow.holds Try.pinned (OpenSpec.upto ticketNearsSpec)

/-- 'quinellalaw06.TicketClaims', WHERE WHAT IT READS IS OF BULK AT MOST 1048576: true; the input reads as it did. -/
def ticketClaimsUptoRow : OpenClaim := { program := "ytgjfejpibielaaa", sum := "0914c86bee445ff402b97d1f7e106163cf50694e8f0d9ca3a9f51e2bbe05fd93", func := "quinella/quinellalaw06.TicketClaims", spec := "ticketClaims", unfollowed := true, recurses := true, plainKeys := false, apart := false, narrowed := true }
def TicketClaimsUptoSaid : Prop := ticketClaimsUptoRow.holds Try.pinned (OpenSpec.upto ticketClaimsSpec)

/-- 'quinellalaw06.TicketPaid', WHERE WHAT IT READS IS OF BULK AT MOST 1048576: true; the input reads as it did. -/
def ticketPaidUptoRow : OpenClaim := { program := "ytgjfejpibielaaa", sum := "0914c86bee445ff402b97d1f7e106163cf50694e8f0d9ca3a9f51e2bbe05fd93", func := "quinella/quinellalaw06.TicketPaid", spec := "ticketPaid", unfollowed := true, recurses := true, plainKeys := false, apart := false, narrowed := true }
def TicketPaidUptoSaid : Prop := ticketPaidUptoRow.holds Try.pinned (OpenSpec.upto ticketPaidSpec)

/-- 'quinellalaw06.TicketBack', WHERE WHAT IT READS IS OF BULK AT MOST 1048576: true; the input reads as it did. -/
def ticketBackUptoRow : OpenClaim := { program := "ytgjfejpibielaaa", sum := "0914c86bee445ff402b97d1f7e106163cf50694e8f0d9ca3a9f51e2bbe05fd93", func := "quinella/quinellalaw06.TicketBack", spec := "ticketBack", unfollowed := true, recurses := true, plainKeys := false, apart := false, narrowed := true }
def TicketBackUptoSaid : Prop := ticketBackUptoRow.holds Try.pinned (OpenSpec.upto ticketBackSpec)

/-- 'quinellalaw06.TicketSure', WHERE WHAT IT READS IS OF BULK AT MOST 1048576: true; the input reads as it did. -/
def ticketSureUptoRow : OpenClaim := { program := "ytgjfejpibielaaa", sum := "0914c86bee445ff402b97d1f7e106163cf50694e8f0d9ca3a9f51e2bbe05fd93", func := "quinella/quinellalaw06.TicketSure", spec := "ticketSure", unfollowed := true, recurses := true, plainKeys := false, apart := false, narrowed := true }
def TicketSureUptoSaid : Prop := ticketSureUptoRow.holds Try.pinned (OpenSpec.upto ticketSureSpec)

/-- 'quinellalaw06.TicketParted', WHERE WHAT IT READS IS OF BULK AT MOST 1048576: true; the input reads as it did. -/
def ticketPartedUptoRow : OpenClaim := { program := "ytgjfejpibielaaa", sum := "0914c86bee445ff402b97d1f7e106163cf50694e8f0d9ca3a9f51e2bbe05fd93", func := "quinella/quinellalaw06.TicketParted", spec := "ticketParted", unfollowed := true, recurses := true, plainKeys := false, apart := false, narrowed := true }
def TicketPartedUptoSaid : Prop := ticketPartedUptoRow.holds Try.pinned (OpenSpec.upto ticketPartedSpec)

/-- 'quinellalaw06.TicketMore', WHERE WHAT IT READS IS OF BULK AT MOST 1048576: true; the input reads as it did. -/
def ticketMoreUptoRow : OpenClaim := { program := "ytgjfejpibielaaa", sum := "0914c86bee445ff402b97d1f7e106163cf50694e8f0d9ca3a9f51e2bbe05fd93", func := "quinella/quinellalaw06.TicketMore", spec := "ticketMore", unfollowed := true, recurses := true, plainKeys := false, apart := false, narrowed := true }
def TicketMoreUptoSaid : Prop := ticketMoreUptoRow.holds Try.pinned (OpenSpec.upto ticketMoreSpec)

/-- 'quinellalaw06.TicketNear', WHERE WHAT IT READS IS OF BULK AT MOST 1048576: true; the input reads as it did. -/
def ticketNearUptoRow : OpenClaim := { program := "ytgjfejpibielaaa", sum := "0914c86bee445ff402b97d1f7e106163cf50694e8f0d9ca3a9f51e2bbe05fd93", func := "quinella/quinellalaw06.TicketNear", spec := "ticketNear", unfollowed := true, recurses := true, plainKeys := false, apart := false, narrowed := true }
def TicketNearUptoSaid : Prop := ticketNearUptoRow.holds Try.pinned (OpenSpec.upto ticketNearSpec)

/-- 'quinellalaw06.TicketChecked', WHERE WHAT IT READS IS OF BULK AT MOST 1048576: true; the input reads as it did. -/
def ticketCheckedUptoRow : OpenClaim := { program := "ytgjfejpibielaaa", sum := "0914c86bee445ff402b97d1f7e106163cf50694e8f0d9ca3a9f51e2bbe05fd93", func := "quinella/quinellalaw06.TicketChecked", spec := "ticketChecked", unfollowed := true, recurses := true, plainKeys := false, apart := false, narrowed := true }
def TicketCheckedUptoSaid : Prop := ticketCheckedUptoRow.holds Try.pinned (OpenSpec.upto ticketCheckedSpec)

/-- 'quinellalaw06.TicketKnown', WHERE WHAT IT READS IS OF BULK AT MOST 1048576: true; the input reads as it did. -/
def ticketKnownUptoRow : OpenClaim := { program := "ytgjfejpibielaaa", sum := "0914c86bee445ff402b97d1f7e106163cf50694e8f0d9ca3a9f51e2bbe05fd93", func := "quinella/quinellalaw06.TicketKnown", spec := "ticketKnown", unfollowed := true, recurses := true, plainKeys := false, apart := false, narrowed := true }
def TicketKnownUptoSaid : Prop := ticketKnownUptoRow.holds Try.pinned (OpenSpec.upto ticketKnownSpec)

end Rows
end Go.Proofs.Ytgjfejpibielaaa
