/- Proved here: letters of some windows, by numbers, a part of the proofs about the tape laws. Conditions: those that each theorem names, no others. -/
import Derived.Test.YtafncmgijbkomaaP30
import Derived.WalkKit
import Derived.WalkSpells
import Derived.WalkLawsBesides
import Derived.Below
import Derived.Deep.QuietTactic
import Derived.BigQuiet
import Derived.Deep.Light
import Derived.Test.YtafncmgijbkomaaF2
import Derived.Test.YtafncmgijbkomaaE2

set_option linter.unusedSimpArgs false
set_option linter.unusedVariables false
namespace Go.Proofs.Ytafncmgijbkomaa
open Go.RowKit Go.Maps Go.Lib
theorem unlt_cat (l m : List Int) : unlt (l ++ m) = unlt l ++ unlt m := by
  apply ByteArray.ext
  simp [unlt]
/-- letters of some windows, by numbers -/
def lettersI (W : Nat) (xs : List Int) : List Int := xs.map (fun x => x % (W : Int))
set_option maxRecDepth 100000 in
set_option maxHeartbeats 4000000 in
theorem letters_any (W : Nat) (h1 : 1 ≤ W) (h2 : W ≤ 5) (P : Option Addr) (xs : List Int) (d : Nat) (w : World) (hP : NL .u8 255 w P xs) (hl : xs.length ≤ 1000) : Calls Try.prog 44 #[.int .i64 (W : Nat), .slice P xs.length d] w (Gives w (.string (unlt (lettersI W xs)))) := by
  have hW0 : ((W : Nat) : Int) ≠ 0 := by omega
  go_enter Try.func44, Try.ntmps44
  go_wp2
  go_loopw [5, 6] (fun o i wr => ∃ k : Nat, k ≤ xs.length ∧ i = .int .i64 (k : Nat) ∧ (∃ s : ByteArray, o = .string s ∧ s.size = k ∧ Hid (s = unlt (lettersI W (xs.take k)))) ∧ Grew w wr) (fun _ i _ => xs.length - (intOf i).toNat)
  case atStart => exact ⟨0, Nat.zero_le _, rfl, ⟨⟨#[]⟩, rfl, rfl, hide rfl⟩, grew_refl _⟩
  case round =>
    obtain ⟨k, hk, rfl, ⟨s, rfl, hs, HS⟩, hb⟩ := hrel
    replace hb := hb.below
    have hzr := hb.size
    (try simp only [zz] at hzr)
    have hltr : ∀ b, b < w.heap.size → b < wr.heap.size := fun b hb => (by (first | omega | (simp only [zz] at *; omega)))
    have hcr : ∀ b o, b < w.heap.size → wr.cell? ⟨b, o, none⟩ = w.cell? ⟨b, o, none⟩ := old_cell (by (repeat (first | exact Below.refl _ _ | assumption | refine below_drewN ?_ _ | refine below_drew ?_ | refine below_gr ?_ ?_ _ | refine below_alloc ?_ ?_ _ | refine Below.setCell ?_ ?_ _ | refine below_step ?_ (by assumption) ?_ | omega | (simp only [zz] at *; omega))))
    by_cases hlt : k < xs.length
    · obtain ⟨⟨pb, po, rfl, hpb, _, cp⟩, hr⟩ := (hP.ext hb) k xs[k] (by simp [hlt])
      obtain ⟨y, hy, hy5⟩ : ∃ y : Nat, xs[k] % (W : Int) = (y : Nat) ∧ y < 5 := by
        have e1 := Int.emod_nonneg xs[k] hW0
        have e2 := Int.emod_lt_of_pos xs[k] (show 0 < ((W : Nat) : Int) by omega)
        exact ⟨(xs[k] % (W : Int)).toNat, by omega, by omega⟩
      have HN : Hid (unlt (lettersI W (xs.take (k + 1))) = unlt (lettersI W (xs.take k)) ++ unlt [((y : Nat) : Int)]) := hide (by
        rw [take_snoc _ _ hlt, lettersI, List.map_append, ← unlt_cat, List.map_cons, List.map_nil, hy]; rfl)
      generalize xs[k] = x at *
      have hz1 : (unlt [((y : Nat) : Int)]).size = 1 := unlt_size _
      have hc2 := back_bytes (W := wr.alloc (.cells #[.int .u8 (97 + (y : Int))] 5)) (A := some ⟨wr.heap.size, 0, none⟩) (c := 1) (l := [((y : Nat) : Int)]) (by
        have := rd_new1 wr (.int .u8 (97 + (y : Int))) 5
        rw [show (97 : Int) + (y : Int) = (y : Int) + 97 by omega] at this ⊢
        exact this) (by simp; omega) (by simp)
      simp only [List.length_cons, List.length_nil, Nat.zero_add] at hc2
      have hsz9 : ¬ 9223372036854775807 < s.size + (unlt [((y : Nat) : Int)]).size := by omega
      have hk0 : (0 : Int) ≤ (k : Int) := by omega
      have hki : (k : Int) < (xs.length : Nat) := by omega
      have hs1 : (s ++ unlt [((y : Nat) : Int)]).size = k + 1 := by rw [ByteArray.size_append]; omega
      clear hz1
      replace hs := hide hs
      go_wp2
      exact ⟨⟨k + 1, by omega, by go_num, ⟨_, rfl, hs1, hide (by rw [HN.out, ← HS.out])⟩, grew_of (by (repeat (first | exact Below.refl _ _ | assumption | refine below_drewN ?_ _ | refine below_drew ?_ | refine below_gr ?_ ?_ _ | refine below_alloc ?_ ?_ _ | refine Below.setCell ?_ ?_ _ | refine below_step ?_ (by assumption) ?_ | omega | (simp only [zz] at *; omega))))⟩, by simp [intOf]; omega⟩
    · have hkl : k = xs.length := by omega
      have HE := hide (show s = unlt (lettersI W xs) by have h := HS.out; rwa [hkl, List.take_length] at h)
      go_wp2
      go_ret
      exact gives_of ((by rw [HE.out]; rfl)) (by (repeat (first | exact Below.refl _ _ | assumption | refine below_drewN ?_ _ | refine below_drew ?_ | refine below_gr ?_ ?_ _ | refine below_alloc ?_ ?_ _ | refine Below.setCell ?_ ?_ _ | refine below_step ?_ (by assumption) ?_ | omega | (simp only [zz] at *; omega))))
end Go.Proofs.Ytafncmgijbkomaa
