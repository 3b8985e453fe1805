/- Proved here: what is left of a night, a part of the proofs about the tape laws. Conditions: those that each theorem names, no others. -/
import Derived.Test.YtafncmgijbkomaaP30
import Derived.WalkKit
import Derived.WalkSpells
import Derived.WalkLawsBesides
import Derived.Below
import Derived.Deep.QuietTactic
import Derived.BigQuiet
import Derived.Deep.Light

set_option linter.unusedSimpArgs false
set_option linter.unusedVariables false
namespace Go.Proofs.Ytafncmgijbkomaa
open Go.RowKit Go.Maps Go.Lib
theorem lt_cat (a b : ByteArray) : lt (a ++ b) = lt a ++ lt b := by
  unfold lt
  rw [ByteArray.data_append, Array.toList_append, List.map_append]
theorem lt_piece (s : ByteArray) (k : Nat) (hk : k < s.size) : lt (s.extract k (k + 1)) = [(lt s)[k]'(by rw [lt_len]; exact hk)] := by
  apply List.ext_getElem?
  intro i
  have h1 : (lt (s.extract k (k + 1))).length = 1 := by rw [lt_len, ByteArray.size_extract]; omega
  match i with
  | 0 =>
    rw [lt_at _ 0 (by rw [ByteArray.size_extract]; omega), List.getElem?_cons_zero, lt_get _ _ hk]
    congr 3
    simp [ByteArray.getElem_extract]
  | i + 1 => rw [List.getElem?_eq_none (by omega), List.getElem?_eq_none (by simp)]
set_option maxRecDepth 100000 in
set_option maxHeartbeats 4000000 in
theorem left_any (s : ByteArray) (hs : s.size ≤ 1000) (x : Int) (hx : 0 ≤ x ∧ x ≤ 4294967295) (w : World) : Calls Try.prog 46 #[.string s, .int .u32 x] w (fun e w' => ∃ r : ByteArray, e = .returned (.string r) ∧ Grew w w' ∧ r.size ≤ 8 ∧ (lt r).Sublist (lt s)) := by
  go_enter Try.func46, Try.ntmps46
  go_wp2
  go_loopw [5, 6] (fun o i wr => ∃ (k : Nat) (r : ByteArray), k ≤ s.size ∧ i = .int .i64 (k : Nat) ∧ o = .string r ∧ r.size ≤ 8 ∧ Hid ((lt r).Sublist ((lt s).take k)) ∧ Grew w wr) (fun _ i _ => s.size - (intOf i).toNat)
  case atStart => exact ⟨0, ⟨#[]⟩, Nat.zero_le _, rfl, rfl, by decide, hide (by simp [lt]), grew_refl _⟩
  case round =>
    obtain ⟨k, r, hk, rfl, rfl, hr8, HS, hb⟩ := hrel
    replace hb := hb.below
    have hzr := hb.size
    (try simp only [zz] at hzr)
    have hltr : ∀ b, b < w.heap.size → b < wr.heap.size := fun b hb => (by (first | omega | (simp only [zz] at *; omega)))
    have hcr : ∀ b o, b < w.heap.size → wr.cell? ⟨b, o, none⟩ = w.cell? ⟨b, o, none⟩ := old_cell (by (repeat (first | exact Below.refl _ _ | assumption | refine below_drewN ?_ _ | refine below_drew ?_ | refine below_gr ?_ ?_ _ | refine below_alloc ?_ ?_ _ | refine Below.setCell ?_ ?_ _ | refine below_step ?_ (by assumption) ?_ | omega | (simp only [zz] at *; omega))))
    have hEX := hide (fun (e : Value) (w' : World) (he : e = .string r) (hg : Grew w w') => (show ∃ r : ByteArray, e = .string r ∧ Grew w w' ∧ r.size ≤ 8 ∧ (lt r).Sublist (lt s) from ⟨r, he, hg, hr8, HS.out.trans (List.take_sublist _ _)⟩))
    by_cases hlt : k < s.size
    · have hlti : (k : Int) < (s.size : Nat) := by omega
      by_cases hr : r.size < 8
      · have hri : (r.size : Int) < 8 := by omega
        have HN : Hid ((lt (r ++ s.extract k (k + 1))).Sublist ((lt s).take (k + 1))) := hide (by
          rw [lt_cat, lt_piece s k hlt, List.take_succ_eq_append_getElem (by rw [lt_len]; exact hlt)]
          exact HS.out.append (List.Sublist.refl _))
        have HK : Hid ((lt r).Sublist ((lt s).take (k + 1))) := hide (HS.out.trans (List.take_sublist_take_left (by omega)))
        have hpz : (s.extract k (k + 1)).size = 1 := by rw [ByteArray.size_extract]; omega
        have hcat : ¬ 9223372036854775807 < r.size + (s.extract k (k + 1)).size := by omega
        have hps : (r ++ s.extract k (k + 1)).size ≤ 8 := by rw [ByteArray.size_append]; omega
        have hk0 : (0 : Int) ≤ (k : Int) := by omega
        have hk1 : (0 : Int) ≤ (k : Int) + 1 := by omega
        have hk2 : (k : Int) ≤ (k : Int) + 1 := by omega
        have hk3 : (k : Int) + 1 ≤ (s.size : Nat) := by omega
        clear hpz
        go_wp2
        all_goals first
          | exact ⟨⟨k + 1, _, by omega, by go_num, rfl, hps, HN, grew_of (by (repeat (first | exact Below.refl _ _ | assumption | refine below_drewN ?_ _ | refine below_drew ?_ | refine below_gr ?_ ?_ _ | refine below_alloc ?_ ?_ _ | refine Below.setCell ?_ ?_ _ | refine below_step ?_ (by assumption) ?_ | omega | (simp only [zz] at *; omega))))⟩, by simp [intOf]; omega⟩
          | exact ⟨⟨k + 1, r, by omega, by go_num, rfl, hr8, HK, grew_of (by (repeat (first | exact Below.refl _ _ | assumption | refine below_drewN ?_ _ | refine below_drew ?_ | refine below_gr ?_ ?_ _ | refine below_alloc ?_ ?_ _ | refine Below.setCell ?_ ?_ _ | refine below_step ?_ (by assumption) ?_ | omega | (simp only [zz] at *; omega))))⟩, by simp [intOf]; omega⟩
      · have hri : ¬ (r.size : Int) < 8 := by omega
        go_wp2
        go_ret
        exact ⟨_, rfl, grew_of (by (repeat (first | exact Below.refl _ _ | assumption | refine below_drewN ?_ _ | refine below_drew ?_ | refine below_gr ?_ ?_ _ | refine below_alloc ?_ ?_ _ | refine Below.setCell ?_ ?_ _ | refine below_step ?_ (by assumption) ?_ | omega | (simp only [zz] at *; omega)))), hr8, HS.out.trans (List.take_sublist _ _)⟩
    · have hlti : ¬ (k : Int) < (s.size : Nat) := by omega
      go_wp2
      go_ret
      exact ⟨_, rfl, grew_of (by (repeat (first | exact Below.refl _ _ | assumption | refine below_drewN ?_ _ | refine below_drew ?_ | refine below_gr ?_ ?_ _ | refine below_alloc ?_ ?_ _ | refine Below.setCell ?_ ?_ _ | refine below_step ?_ (by assumption) ?_ | omega | (simp only [zz] at *; omega)))), hr8, HS.out.trans (List.take_sublist _ _)⟩
end Go.Proofs.Ytafncmgijbkomaa
