/- Proved here: the tapes that can be wrong, a part of the proofs about the tape laws. Conditions: those that each theorem names, no others. -/
import Derived.Test.YtafncmgijbkomaaP30
import Derived.WalkKit
import Derived.WalkSpells
import Derived.WalkLawsBesides
import Derived.Below
import Derived.Deep.QuietTactic
import Derived.BigQuiet
import Derived.Deep.Light
import Derived.Test.YtafncmgijbkomaaE4
import Derived.Test.YtafncmgijbkomaaP22

set_option linter.unusedSimpArgs false
set_option linter.unusedVariables false
namespace Go.Proofs.Ytafncmgijbkomaa
open Go.RowKit Go.Maps Go.Lib
theorem oth_chk {W : Int} {ts : List ByteArray} (hc : chkSet W ts = 0) (l : List Int) (h0 : 0 < (othB ts l ts.length).length) : chkSet W (othB ts l ts.length) = 0 := by
  obtain ⟨hW1, hW2, _, h3, hs, hf, _, hlo⟩ := chk_val hc
  exact chk_of hW1 hW2 h0 (Nat.le_trans (othB_len _ _ _) h3) (sub_small (othB_mem (Nat.le_refl _)) hs) (sub_ok (othB_mem (Nat.le_refl _)) hlo)
theorem few_nil (W : Nat) : Tm.fewN W [] = 0 := rfl
theorem can_all {W : Nat} (ts : List (List Int)) (n : Nat) : canB W ts (n : Nat) (List.range ts.length) = true := by
  unfold canB
  rw [Tm.others_all, few_nil]
  simp
/-- the tapes that can be wrong -/
theorem wrong_fine {W : Int} {ts : List ByteArray} (hc : chkSet W ts = 0) {n : Nat} (hn : n ≤ 20) : ∃ L : List Nat, wrgR W ts (n : Nat) = (natI L, 0) ∧ L = Tm.wrongR ts.length (canB W.toNat (lts ts) (n : Nat)) ∧ L.length ≤ ts.length ∧ (∀ i, (h : i < L.length) → L[i] < ts.length) ∧ (∀ i, (h : i + 1 < L.length) → L[i] < L[i + 1]) ∧ Tm.fewN W.toNat (lts (othB ts (natI L) ts.length)) ≤ n ∧
    ∀ b, b < 2 ^ ts.length → (Tm.bitsL ts.length b).length < L.length → n < Tm.fewN W.toNat (lts (othB ts (natI (Tm.bitsL ts.length b)) ts.length)) ∧ 0 < (othB ts (natI (Tm.bitsL ts.length b)) ts.length).length := by
  obtain ⟨hW1, hW2, h0, h3, hs, hf, _, hlo⟩ := chk_val hc
  have hr : (lts ts).length = ts.length := by simp [lts]
  have hA := can_all (W := W.toNat) (lts ts) n
  rw [hr] at hA
  obtain ⟨g1, g2, b0, hb0, g3⟩ := Tm.wrong_ok h0 h3 hA
  refine ⟨_, by simp [wrgR, open_fine hc hn], rfl, ?_, ?_, ?_, ?_, fun b hb hl => ?_⟩
  · rw [g3, ← bitK_all]; exact bitK_len _ _
  · intro i h
    exact Tm.bitsL_lt (b := b0) _ (by rw [← g3]; exact List.getElem_mem h)
  · intro i h
    have hp := Tm.bitsL_sorted ts.length b0
    rw [← g3] at hp
    exact List.pairwise_iff_getElem.1 hp i (i + 1) (by omega) h (by omega)
  · have := of_decide_eq_true g1
    rw [othB_lts]
    omega
  · have h5 := g2 b hb hl
    unfold canB at h5
    rw [decide_eq_false_iff_not, ← othB_lts] at h5
    refine ⟨by omega, ?_⟩
    rcases Nat.eq_zero_or_pos (othB ts (natI (Tm.bitsL ts.length b)) ts.length).length with h6 | h6
    · rw [List.eq_nil_of_length_eq_zero h6] at h5
      exact absurd (show ((Tm.fewN W.toNat (lts []) : Nat) : Int) ≤ (n : Nat) by rw [show lts [] = [] from rfl, few_nil]; omega) h5
    · exact h6
theorem wrong_more {W : Int} {ts : List ByteArray} (hc : chkSet W ts = 0) (n : Nat) : (Tm.wrongR ts.length (canB W.toNat (lts ts) ((n + 1 : Nat) : Int))).length ≤ (Tm.wrongR ts.length (canB W.toNat (lts ts) (n : Nat))).length := by
  obtain ⟨hW1, hW2, h0, h3, hs, hf, _, hlo⟩ := chk_val hc
  have hA := can_all (W := W.toNat) (lts ts) n
  rw [show (lts ts).length = ts.length by simp [lts]] at hA
  refine Tm.wrong_mono h0 h3 hA (fun l hl => ?_)
  unfold canB at hl ⊢
  have := of_decide_eq_true hl
  exact decide_eq_true (by omega)
end Go.Proofs.Ytafncmgijbkomaa
