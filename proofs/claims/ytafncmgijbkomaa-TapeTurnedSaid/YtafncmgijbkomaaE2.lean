/- Proved here: counts and pulls of valid tapes, a part of the proofs about the tape laws. Conditions: those that each theorem names, no others. -/
import Derived.Test.YtafncmgijbkomaaP30
import Derived.WalkKit
import Derived.WalkSpells
import Derived.WalkLawsBesides
import Derived.Below
import Derived.Deep.QuietTactic
import Derived.BigQuiet
import Derived.Deep.Light
import Derived.Test.YtafncmgijbkomaaD7

set_option linter.unusedSimpArgs false
set_option linter.unusedVariables false
namespace Go.Proofs.Ytafncmgijbkomaa
open Go.RowKit Go.Maps Go.Lib
theorem open_fine {W : Int} {ts : List ByteArray} (hc : chkSet W ts = 0) {lg : Nat} (h : lg ≤ 20) : openE W ts (lg : Nat) = 0 := by
  have h1 : withinB 0 20 [((lg : Nat) : Int)] = true := by
    simp [withinB, outB]
    omega
  unfold openE
  rw [if_neg (by simp [hc]), if_neg (by simp [h1])]
theorem count_fine {W : Int} {ts : List ByteArray} (hc : chkSet W ts = 0) {lg : Nat} (h : lg ≤ 20) : countR W ts (lg : Nat) = if 1099511627776 < Tm.cntC W.toNat lg (lts ts) then ((0 : Int), (4 : Int)) else (((Tm.cntC W.toNat lg (lts ts) : Nat) : Int), (0 : Int)) := by
  simp [countR, open_fine hc h]
theorem pulls_none {W : Int} {ts : List ByteArray} (hc : chkSet W ts = 0) {lg b : Nat} (h : lg ≤ 20) (hb : isWin W b = true) (h0 : lg < Tm.fewN W.toNat (lts ts)) : pullsA W ts (lg : Nat) b = (((0 : Int), (0 : Int)), (24 : Int)) := by
  obtain ⟨hW1, hW2, _, _, _, _, _, hlo⟩ := chk_val hc
  have h1 : Tm.cntC W.toNat lg (lts ts) = 0 := by
    rcases Nat.eq_zero_or_pos (Tm.cntC W.toNat lg (lts ts)) with e | e
    · exact e
    · have := (Tm.fewN_spec (by omega) hlo lg).1 ((Tm.cntC_pos _ _ _).1 e)
      omega
  simp [pullsA, open_fine hc h, hb, h1]
theorem pulls_some {W : Int} {ts : List ByteArray} (hc : chkSet W ts = 0) {lg b : Nat} (h : lg ≤ 20) (hb : isWin W b = true) (h0 : Tm.fewN W.toNat (lts ts) ≤ lg) : pullsA W ts (lg : Nat) b = (Tm.pullsP W.toNat ((b : Int) - 97) lg (lts ts), (0 : Int)) ∧ Tm.hasN W.toNat lg (lts ts) = true := by
  obtain ⟨hW1, hW2, _, _, _, _, _, hlo⟩ := chk_val hc
  have h2 := (Tm.fewN_spec (W := W.toNat) (by omega) hlo lg).2 h0
  have h1 := (Tm.cntC_pos W.toNat lg (lts ts)).2 h2
  refine ⟨?_, h2⟩
  simp [pullsA, open_fine hc h, hb, show Tm.cntC W.toNat lg (lts ts) ≠ 0 by omega]
theorem longer_plain {W : Int} {ts : List ByteArray} (hc : chkSet W ts = 0) {n b : Nat} (hn : n < 20) (hb : isWin W b = true) :
    ∃ a e2 c e3 p1 p2 e4 q1 q2 e5 : Int, countR W ts (n : Nat) = (a, e2) ∧ countR W ts ((n + 1 : Nat) : Nat) = (c, e3) ∧ pullsA W ts (n : Nat) b = ((p1, p2), e4) ∧ pullsA W ts ((n + 1 : Nat) : Nat) b = ((q1, q2), e5) ∧
      ((e2 = 0 ∧ e3 = 0) ∨ (e2 = 0 ∧ e3 = 4) ∨ (e2 = 4 ∧ e3 = 4)) ∧ 0 ≤ a ∧ a ≤ 1099511627776 ∧
      (e3 = 0 → a * W ≤ c ∧ (0 < c ↔ Tm.fewN W.toNat (lts ts) ≤ n + 1)) ∧ (e2 = 0 → (0 < a ↔ Tm.fewN W.toNat (lts ts) ≤ n)) ∧
      (n < Tm.fewN W.toNat (lts ts) → e4 = 24 ∧ ((e5 = 0 ∧ Tm.fewN W.toNat (lts ts) ≤ n + 1) ∨ (e5 = 24 ∧ ¬ Tm.fewN W.toNat (lts ts) ≤ n + 1))) ∧
      (Tm.fewN W.toNat (lts ts) ≤ n → e4 = 0 ∧ e5 = 0 ∧ p2 + 1 ≤ q2 ∧ q2 ≤ (n : Int) + 1 ∧ 0 ≤ q1 ∧ q1 ≤ p1 + (if W = 1 then 1 else 0) ∧ p1 ≤ 20 ∧ 0 ≤ p1 ∧ 0 ≤ p2) := by
  obtain ⟨hW1, hW2, _, _, _, _, _, hlo⟩ := chk_val hc
  have hW : 0 < W.toNat := by omega
  have h1 := count_fine hc (lg := n) (by omega)
  have h2 := count_fine hc (lg := n + 1) (by omega)
  have m1 := cntC_most W.toNat n (lts ts)
  have m2 := cntC_most W.toNat (n + 1) (lts ts)
  have hlng := Tm.cntU_longer W.toNat n (lts ts)
  have q1 := Tm.cntC_eq W.toNat n (lts ts)
  have q2 := Tm.cntC_eq W.toNat (n + 1) (lts ts)
  unfold Tm.most at q1 q2
  have c1 : 0 < Tm.cntC W.toNat n (lts ts) ↔ Tm.fewN W.toNat (lts ts) ≤ n := (Tm.cntC_pos _ _ _).trans (Tm.fewN_spec hW hlo n)
  have c2 : 0 < Tm.cntC W.toNat (n + 1) (lts ts) ↔ Tm.fewN W.toNat (lts ts) ≤ n + 1 := (Tm.cntC_pos _ _ _).trans (Tm.fewN_spec hW hlo (n + 1))
  have hUW : Tm.cntU W.toNat n (lts ts) ≤ Tm.cntU W.toNat n (lts ts) * W.toNat := Nat.le_mul_of_pos_right _ hW
  have key : Tm.cntC W.toNat (n + 1) (lts ts) ≤ 1099511627776 → Tm.cntC W.toNat n (lts ts) ≤ 1099511627776 ∧ (((Tm.cntC W.toNat n (lts ts) : Nat) : Int) * W ≤ (Tm.cntC W.toNat (n + 1) (lts ts) : Nat)) := fun h => by
    refine ⟨by omega, ?_⟩
    have e1 : Tm.cntC W.toNat n (lts ts) = Tm.cntU W.toNat n (lts ts) := by omega
    have e2 : Tm.cntC W.toNat (n + 1) (lts ts) = Tm.cntU W.toNat (n + 1) (lts ts) := by omega
    rw [e1, e2]
    have : W = ((W.toNat : Nat) : Int) := by omega
    rw [this, ← Int.natCast_mul]
    simp only [Int.toNat_natCast]
    omega
  generalize Tm.cntC W.toNat n (lts ts) = C1 at *
  generalize Tm.cntC W.toNat (n + 1) (lts ts) = C2 at *
  have HP : ∃ p1 p2 e4 x1 x2 e5 : Int, pullsA W ts (n : Nat) b = ((p1, p2), e4) ∧ pullsA W ts ((n + 1 : Nat) : Nat) b = ((x1, x2), e5) ∧ (n < Tm.fewN W.toNat (lts ts) → e4 = 24 ∧ ((e5 = 0 ∧ Tm.fewN W.toNat (lts ts) ≤ n + 1) ∨ (e5 = 24 ∧ ¬ Tm.fewN W.toNat (lts ts) ≤ n + 1))) ∧
      (Tm.fewN W.toNat (lts ts) ≤ n → e4 = 0 ∧ e5 = 0 ∧ p2 + 1 ≤ x2 ∧ x2 ≤ (n : Int) + 1 ∧ 0 ≤ x1 ∧ x1 ≤ p1 + (if W = 1 then 1 else 0) ∧ p1 ≤ 20 ∧ 0 ≤ p1 ∧ 0 ≤ p2) := by
    rcases Nat.lt_or_ge n (Tm.fewN W.toNat (lts ts)) with h | h
    · rcases Nat.lt_or_ge (n + 1) (Tm.fewN W.toNat (lts ts)) with h' | h'
      · exact ⟨_, _, _, _, _, _, pulls_none hc (by omega) hb h, pulls_none hc (by omega) hb h', fun _ => ⟨rfl, .inr ⟨rfl, by omega⟩⟩, fun g => by omega⟩
      · obtain ⟨p, -⟩ := pulls_some hc (lg := n + 1) (by omega) hb h'
        exact ⟨_, _, _, _, _, _, pulls_none hc (by omega) hb h, p, fun _ => ⟨rfl, .inl ⟨rfl, h'⟩⟩, fun g => by omega⟩
    · obtain ⟨p, k1⟩ := pulls_some hc (lg := n) (by omega) hb h
      obtain ⟨q, k2⟩ := pulls_some hc (lg := n + 1) (by omega) hb (by omega)
      have hw : 0 ≤ (b : Int) - 97 ∧ (b : Int) - 97 < (W.toNat : Int) := by
        simp [isWin] at hb
        omega
      have w1 : (if W.toNat = 1 then (1 : Int) else 0) = if W = 1 then 1 else 0 := by
        by_cases g : W = 1
        · rw [if_pos (by omega), if_pos g]
        · rw [if_neg (by omega), if_neg g]
      obtain ⟨r1, r2, r3⟩ := Tm.pullsP_ends (w := (b : Int) - 97) (show n ≤ 20 by omega) k1
      obtain ⟨s1, s2, s3⟩ := Tm.pullsP_ends (w := (b : Int) - 97) (show n + 1 ≤ 20 by omega) k2
      obtain ⟨t1, t2, t3, t4⟩ := Tm.ends_longer hw r1 s1
      rw [w1] at t4
      obtain ⟨⟨_, a1, a2⟩, ⟨_, a3, a4⟩, a5⟩ := r1
      have a6 := a5 _ a1
      refine ⟨_, _, _, _, _, _, p, q, fun g => by omega, fun _ => ⟨rfl, rfl, t1, t2, t3, t4, by omega, r3, by omega⟩⟩
  obtain ⟨p1, p2, e4, x1, x2, e5, hp, hx, g1, g2⟩ := HP
  by_cases k2 : 1099511627776 < C2
  · rw [if_pos k2] at h2
    by_cases k1 : 1099511627776 < C1
    · rw [if_pos k1] at h1
      exact ⟨_, _, _, _, p1, p2, e4, x1, x2, e5, h1, h2, hp, hx, .inr (.inr ⟨rfl, rfl⟩), by omega, by omega, by simp, by simp, g1, g2⟩
    · rw [if_neg k1] at h1
      exact ⟨_, _, _, _, p1, p2, e4, x1, x2, e5, h1, h2, hp, hx, .inr (.inl ⟨rfl, rfl⟩), by omega, by omega, by simp, fun _ => by omega, g1, g2⟩
  · obtain ⟨k1, k3⟩ := key (by omega)
    rw [if_neg k2] at h2
    rw [if_neg (by omega)] at h1
    exact ⟨_, _, _, _, p1, p2, e4, x1, x2, e5, h1, h2, hp, hx, .inl ⟨rfl, rfl⟩, by omega, by omega, fun _ => ⟨k3, by omega⟩, fun _ => by omega, g1, g2⟩
/-- the window that a number names -/
theorem win_of {W : Int} (h1 : 1 ≤ W) (h2 : W ≤ 5) (v : Nat) : ∃ b : Nat, wrap64 (97 + (v : Int) % W) % 256 = (b : Nat) ∧ b < 256 ∧ isWin W b = true ∧ (b : Int) = 97 + (v : Int) % W := by
  have e1 := Int.emod_nonneg (v : Int) (show W ≠ 0 by omega)
  have e2 := Int.emod_lt_of_pos (v : Int) (show 0 < W by omega)
  have e3 : wrap64 (97 + (v : Int) % W) = 97 + (v : Int) % W := IntWalk.wrap64_in _ (by omega)
  refine ⟨(97 + (v : Int) % W).toNat, by rw [e3]; omega, by omega, ?_, by omega⟩
  unfold isWin
  rw [Bool.and_eq_true, decide_eq_true_eq, decide_eq_true_eq]
  omega
end Go.Proofs.Ytafncmgijbkomaa
