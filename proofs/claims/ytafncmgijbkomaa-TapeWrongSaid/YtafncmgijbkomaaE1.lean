/- Proved here: what a right table proves, a part of the proofs about the tape laws. Conditions: those that each theorem names, no others. -/
import Derived.Test.YtafncmgijbkomaaP30
import Derived.WalkKit
import Derived.WalkSpells
import Derived.WalkLawsBesides
import Derived.Below
import Derived.Deep.QuietTactic
import Derived.BigQuiet
import Derived.Deep.Light

set_option linter.unusedSimpArgs false
set_option linter.unusedVariables false
namespace Go.Proofs.Ytafncmgijbkomaa
open Go.RowKit Go.Maps Go.Lib
/-! the table of the bounds is right -/
theorem right_of {W : Nat} {ts : List (List Int)} {xs : List Int} (hl : xs.length = Tm.prodP ts) (h0 : xs.getD (xs.length - 1) 0 = 0) (ha : tabAll W ts xs = true) : xs.getD 0 0 ≤ Tm.fewN W ts ∨ ¬ (0 < W ∧ Tm.lettersOk W ts) := by
  by_cases hW : 0 < W ∧ Tm.lettersOk W ts
  · refine .inl ?_
    have hR : Tm.Right W ts (fun n => xs.getD n 0) := by
      refine ⟨?_, fun p hp c hc => ?_⟩
      · have := Tm.idx_last ts
        show xs.getD (Tm.idxP ts (Tm.lastPl ts) 0) 0 = 0
        rw [show Tm.idxP ts (Tm.lastPl ts) 0 = xs.length - 1 by omega, h0]
      · have hi := (Tm.idx_lin hp 0).2
        have h1 := List.all_eq_true.1 ha _ (List.mem_range.2 hi)
        have h2 := of_decide_eq_true (List.all_eq_true.1 h1 c (List.mem_range.2 hc))
        rw [Tm.place_idx hp] at h2
        exact h2
    have := Tm.right_le hR (Tm.zero_is ts) (n := Tm.fewN W ts) (by rw [Tm.rem_zero]; exact (Tm.fewN_spec hW.1 hW.2 _).2 (Nat.le_refl _))
    rwa [Tm.idx_zero] at this
  · exact .inr hW
theorem bdsL_get {W : Nat} {ts : List (List Int)} {n : Nat} (h : n < Tm.prodP ts) : (bdsL W ts).getD n 0 = Tm.bdVal W ts n := by
  simp [bdsL, List.getD_eq_getElem?_getD, h]
theorem tab_own {W : Int} {ts : List ByteArray} (hc : chkSet W ts = 0) : tabR W ts (bdsL W.toNat (lts ts)) = (((Tm.fewN W.toNat (lts ts) : Nat) : Int), 0) := by
  obtain ⟨hW1, hW2, h0, h3, hs, hf, _, hlo⟩ := chk_val hc
  have hW : 0 < W.toNat := by omega
  have hp := Tm.prod_pos (lts ts)
  have ht := small_total hs h3
  have hE : tabE W ts (bdsL W.toNat (lts ts)) = 0 := by
    have h1 : withinB 0 24 (bdsL W.toNat (lts ts)) = true := by
      unfold withinB
      rw [Bool.not_eq_true', List.any_eq_false]
      intro x hx
      obtain ⟨n, hn, rfl⟩ := List.mem_map.1 hx
      rw [List.mem_range] at hn
      have h4 := Tm.rem_less _ (Tm.place_is hn).1
      have h5 := Tm.fewN_total hW (Tm.ok_less h4 hlo)
      have h6 := Tm.total_less h4
      rw [show Tm.bdVal W.toNat (lts ts) n = ((Tm.fewN W.toNat (Tm.remP (lts ts) (Tm.placeP (lts ts) n)) : Nat) : Int) from rfl]
      unfold outB
      rw [decide_eq_false (by omega), decide_eq_false (by omega)]
      simp
    have h2 : (bdsL W.toNat (lts ts)).getD ((bdsL W.toNat (lts ts)).length - 1) 0 = 0 := by
      rw [bdsL_len, bdsL_get (by omega)]
      refine Tm.bd_last hW hlo (by omega) ?_
      have := Tm.idx_last (lts ts)
      rw [show Tm.prodP (lts ts) - 1 = Tm.idxP (lts ts) (Tm.lastPl (lts ts)) 0 by omega, Tm.place_idx (Tm.last_is _)]
    unfold tabE
    rw [if_neg (by simp [hc]), if_neg (by simp [bdsL_len]), if_neg (by simp [h1]), if_neg (by rw [h2]; simp)]
  have hA : tabAll W.toNat (lts ts) (bdsL W.toNat (lts ts)) = true := by
    refine List.all_eq_true.2 (fun n hn => List.all_eq_true.2 (fun c hcc => decide_eq_true ?_))
    rw [List.mem_range] at hn hcc
    obtain ⟨hpl, hi⟩ := Tm.place_is hn
    have hnx := Tm.next_is hpl (c : Int)
    rw [bdsL_get hn, bdsL_get (Tm.idx_lin hnx 0).2]
    unfold Tm.bdVal
    rw [Tm.place_idx hnx, Tm.rem_next]
    have := Tm.fewN_next hW (Tm.ok_less (Tm.rem_less _ hpl) hlo) hcc
    omega
  unfold tabR
  rw [if_neg (by simp [hE]), if_pos hA, bdsL_get hp]
  have h7 := Tm.place_idx (Tm.zero_is (lts ts))
  rw [Tm.idx_zero] at h7
  unfold Tm.bdVal
  rw [h7, Tm.rem_zero]
/-- a right table proves no more than the fewest impulses -/
theorem tab_proves {W : Int} {ts : List ByteArray} (hc : chkSet W ts = 0) (xs : List Int) (he : (tabR W ts xs).2 = 0) : (tabR W ts xs).1 ≤ (Tm.fewN W.toNat (lts ts) : Nat) := by
  obtain ⟨hW1, hW2, h0, h3, hs, hf, _, hlo⟩ := chk_val hc
  unfold tabR at he ⊢
  by_cases hE : tabE W ts xs = 0
  · rw [if_neg (by simp [hE])] at he ⊢
    by_cases hA : tabAll W.toNat (lts ts) xs = true
    · rw [if_pos hA]
      unfold tabE at hE
      rw [if_neg (by simp [hc])] at hE
      by_cases hl : xs.length = Tm.prodP (lts ts)
      · rw [if_neg (by simp [hl])] at hE
        split at hE
        · simp at hE
        · split at hE
          · simp at hE
          · rename_i _ h2
            rcases right_of hl (by simpa using h2) hA with h | h
            · exact h
            · exact absurd ⟨by omega, hlo⟩ h
      · rw [if_pos (by simpa using hl)] at hE
        simp at hE
    · rw [if_neg hA] at he
      simp at he
  · rw [if_pos (by simpa using hE)] at he
    exact absurd he hE
end Go.Proofs.Ytafncmgijbkomaa
