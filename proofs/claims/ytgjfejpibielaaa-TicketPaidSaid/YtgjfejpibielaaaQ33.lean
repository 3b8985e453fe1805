/- Proved here: the reference: how many fit, and which, a part of the proofs about the ticket laws. Conditions: those that each theorem names, no others. -/
import Derived.Test.YtgjfejpibielaaaQ32
import Derived.WalkKit
import Derived.WalkSpells
import Derived.WalkLawsBesides
import Derived.Below
import Derived.Deep.QuietTactic
import Derived.BigQuiet
import Derived.Deep.Light
set_option linter.unusedSimpArgs false
set_option linter.unusedVariables false
namespace Go.Proofs.Ytgjfejpibielaaa
open Go.RowKit Go.Maps Go.Shelf
attribute [local go_sem] Oper.semAt_some World.cell?_setCell_far
/-- the code of an index, or the error -/
def findR (l : List Nat) (x : Int) : Value := if x < 0 ∨ (l.length : Int) ≤ x then .tuple #[.int .i64 0, .int .i64 3] else .tuple #[.int .i64 (l.getD x.toNat 0 : Nat), .int .i64 0]
end Go.Proofs.Ytgjfejpibielaaa
