/- Proved here: the reference: letters that are sure, a part of the proofs about the ticket laws. Conditions: those that each theorem names, no others. -/
import Derived.Test.YtgjfejpibielaaaQ35
import Derived.WalkKit
import Derived.WalkSpells
import Derived.WalkLawsBesides
import Derived.Below
import Derived.Deep.QuietTactic
import Derived.BigQuiet
import Derived.Deep.Light
set_option linter.unusedSimpArgs false
set_option linter.unusedVariables false
namespace Go.Proofs.Ytgjfejpibielaaa
open Go.RowKit Go.Maps Go.Shelf
attribute [local go_sem] Oper.semAt_some World.cell?_setCell_far
/-- the letters that some words have at a place -/
def orK (l : List (List Nat)) (p : Nat) : Nat := l.foldl (fun a w => a ||| 2 ^ (w.getD p 0)) 0
theorem orK_snoc (l : List (List Nat)) (w : List Nat) (p : Nat) : orK (l ++ [w]) p = orK l p ||| 2 ^ (w.getD p 0) := by unfold orK; rw [List.foldl_append]; rfl
def orL (n : Nat) (l : List (List Nat)) : List Nat := (List.range n).map (orK l)
theorem orL_len (n : Nat) (l : List (List Nat)) : (orL n l).length = n := by unfold orL; simp
theorem orL_at (n : Nat) (l : List (List Nat)) (p : Nat) (h : p < n) : (orL n l)[p]'(by rw [orL_len]; exact h) = orK l p := by unfold orL; simp
end Go.Proofs.Ytgjfejpibielaaa
