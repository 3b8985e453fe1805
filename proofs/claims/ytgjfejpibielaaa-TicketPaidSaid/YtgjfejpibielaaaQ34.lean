/- Proved here: the reference: kinds, how many codes, the code of a number; the reference: the number of a word, a part of the proofs about the ticket laws. Conditions: those that each theorem names, no others. -/
import Derived.Test.YtgjfejpibielaaaQ33
import Derived.WalkKit
import Derived.WalkSpells
import Derived.WalkLawsBesides
import Derived.Below
import Derived.Deep.QuietTactic
import Derived.BigQuiet
import Derived.Deep.Light
set_option linter.unusedSimpArgs false
set_option linter.unusedVariables false
namespace Go.Proofs.Ytgjfejpibielaaa
open Go.RowKit Go.Maps Go.Shelf
attribute [local go_sem] Oper.semAt_some World.cell?_setCell_far
/-- the code of a number, or the error -/
def codeR (l : List (List Nat)) (x : Int) : Value := if x < 0 ∨ (l.length : Int) ≤ x then .tuple #[.string ⟨#[]⟩, .int .i64 3] else .tuple #[.string (strW (l.getD x.toNat [])), .int .i64 0]
end Go.Proofs.Ytgjfejpibielaaa
namespace Go.Proofs.Ytgjfejpibielaaa
open Go.RowKit Go.Maps Go.Shelf
attribute [local go_sem] Oper.semAt_some World.cell?_setCell_far
theorem less_strW : ∀ (v w : List Nat), (∀ x, x ∈ v → x < 100) → (∀ x, x ∈ w → x < 100) → Op.bytesLess (strW v).toList (strW w).toList = Tt.ltW v w := by
 have cons : ∀ (a : Nat) (v : List Nat), (strW (a :: v)).toList = unb a :: (strW v).toList := fun a v => by
  rw [ByteArray.toList_eq, ByteArray.toList_eq]
  rfl
 have nil : (strW []).toList = [] := by rw [ByteArray.toList_eq]; rfl
 intro v
 induction v with
 | nil => intro w _ _; cases w with
   | nil => rw [nil]; rfl
   | cons b w => rw [nil, cons]; rfl
 | cons a v ih =>
   intro w hv hw
   cases w with
   | nil => rw [nil, cons]; rfl
   | cons b w =>
     have ha := hv a (by simp)
     have hb := hw b (by simp)
     have h1 := unb_val ha
     have h2 := unb_val hb
     rw [cons, cons]
     simp only [Op.bytesLess, Tt.ltW, ih w (fun x hx => hv x (by simp [hx])) (fun x hx => hw x (by simp [hx]))]
     have e1 : decide (unb a < unb b) = decide (a < b) := by
      by_cases h : a < b <;> simp [h, UInt8.lt_iff_toNat_lt, h1, h2]
     have e2 : (unb a == unb b) = decide (a = b) := by
      by_cases h : a = b
      · subst h; simp
      · rw [decide_eq_false h, beq_eq_false_iff_ne]
        intro e
        rw [e, h2] at h1
        omega
     rw [e1, e2]
/-- the number of a word, or the error -/
def numR (L rest : Nat) (K : List Nat) (s : ByteArray) : Value :=
 if isW L K.length s = false then .tuple #[.int .i64 0, .int .i64 8]
 else if eqNb (-1) (lw s) = true then .tuple #[.int .i64 0, .int .i64 16]
 else if Tt.sumW L K 0 (lw s) ≠ rest then .tuple #[.int .i64 0, .int .i64 14]
 else .tuple #[.int .i64 (((Tt.codes L rest K).takeWhile fun v => Tt.ltW v (lw s)).length : Nat), .int .i64 0]
end Go.Proofs.Ytgjfejpibielaaa
