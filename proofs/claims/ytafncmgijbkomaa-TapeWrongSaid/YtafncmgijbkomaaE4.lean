/- Proved here: the nights of a length by their first impulse, a part of the proofs about the tape laws. Conditions: those that each theorem names, no others. -/
import Derived.Test.YtafncmgijbkomaaP30
import Derived.WalkKit
import Derived.WalkSpells
import Derived.WalkLawsBesides
import Derived.Below
import Derived.Deep.QuietTactic
import Derived.BigQuiet
import Derived.Deep.Light
import Derived.Test.YtafncmgijbkomaaE3
import Derived.Test.YtafncmgijbkomaaP26

set_option linter.unusedSimpArgs false
set_option linter.unusedVariables false
namespace Go.Proofs.Ytafncmgijbkomaa
open Go.RowKit Go.Maps Go.Lib
theorem chk_of {W : Int} {ts : List ByteArray} (h1 : 1 ≤ W) (h2 : W ≤ 5) (h3 : 0 < ts.length) (h4 : ts.length ≤ 3) (h5 : Small ts) (h6 : Tm.lettersOk W.toNat (lts ts)) : chkSet W ts = 0 := by
  unfold chkSet
  rw [if_neg (by simp [withinB, outB]; omega), if_neg (by simp [withinB, outB]; omega), if_neg (by
    simp only [List.any_eq_true, not_exists, decide_eq_true_eq, not_and]
    intro s hs
    obtain ⟨k, hk, rfl⟩ := List.getElem_of_mem hs
    have := h5 k hk
    omega), if_neg (by
    simp only [List.any_eq_true, not_exists, not_and, Bool.not_eq_true', Bool.not_eq_false']
    intro s hs
    rw [Bool.not_eq_false]
    refine isS_iff.2 (fun x hx => ?_)
    have := h6 (lt s) (List.mem_map.2 ⟨s, hs, rfl⟩) x hx
    omega)]
theorem bh_chk {W : Int} {ts : List ByteArray} (hc : chkSet W ts = 0) (win : Int) : chkSet W (bhL win ts) = 0 := by
  obtain ⟨hW1, hW2, h0, h3, hs, hf, _, hlo⟩ := chk_val hc
  exact chk_of hW1 hW2 (by rw [bhL_len]; exact h0) (by rw [bhL_len]; exact h3) (bhL_small hs) (by rw [bhL_lts]; exact Tm.ok_behs hlo)
/-- no night has this index -/
theorem night_none {W : Int} {ts : List ByteArray} (hc : chkSet W ts = 0) {lg : Nat} (h : lg ≤ 20) {i : Int} (hi : ((Tm.cntC W.toNat lg (lts ts) : Nat) : Int) ≤ i ∨ 1099511627776 < i) : nightR W ts (lg : Nat) i = (⟨#[]⟩, 3) := by
  unfold nightR
  rw [if_neg (by rw [open_fine hc h]; simp), if_pos (by simp only [Int.toNat_natCast]; omega), unlt_nil]
/-- two nights, one behind the other -/
theorem night_two {W : Int} {ts : List ByteArray} {lg i : Nat} {a b : ByteArray} (ha : (Tm.nights W.toNat lg (lts ts))[i]? = some (lt a)) (hb : (Tm.nights W.toNat lg (lts ts))[i + 1]? = some (lt b)) : Op.bytesLess b.toList a.toList = false ∧ (b.toList == a.toList) = false := by
  have h := Tm.nights_lt ha hb
  refine ⟨?_, ?_⟩
  · rw [lss_lt]
    cases g : Tm.ltS (lt b) (lt a) with
    | false => rfl
    | true => exact absurd (Tm.ltS_trans h g) (by rw [Tm.ltS_irrefl]; simp)
  · rw [beq_eq_false_iff_ne]
    intro e
    have e2 : Op.bytesLess a.toList b.toList = Op.bytesLess b.toList b.toList := by rw [e]
    rw [lss_lt, lss_lt, h, Tm.ltS_irrefl] at e2
    exact absurd e2 (by simp)
def sumB (W n : Nat) (ts : List (List Int)) (k : Nat) : Nat := ((List.range k).map (fun c => Tm.cntC W n (Tm.behs ((c : Nat) : Int) ts))).sum
theorem sumB_succ (W n : Nat) (ts : List (List Int)) (k : Nat) : sumB W n ts (k + 1) = sumB W n ts k + Tm.cntC W n (Tm.behs ((k : Nat) : Int) ts) := by
  simp [sumB, List.range_succ]
theorem sumB_le (W n : Nat) (ts : List (List Int)) {k m : Nat} (h : k ≤ m) : sumB W n ts k ≤ sumB W n ts m := by
  induction h with
  | refl => exact Nat.le_refl _
  | step _ ih => rw [sumB_succ]; omega
/-- the nights of a length by their first impulse -/
theorem sum_fine {W : Int} {ts : List ByteArray} (hc : chkSet W ts = 0) {n : Nat} (h : n + 1 ≤ 20) (hC : Tm.cntC W.toNat (n + 1) (lts ts) ≤ 1099511627776) :
    sumB W.toNat n (lts ts) W.toNat = Tm.cntC W.toNat (n + 1) (lts ts) ∧ ∀ k, k < W.toNat → countR W (bhL ((k : Nat) : Int) ts) (n : Nat) = (((Tm.cntC W.toNat n (Tm.behs ((k : Nat) : Int) (lts ts)) : Nat) : Int), (0 : Int)) := by
  obtain ⟨h1, h2⟩ := Tm.cntC_sum (W := W.toNat) (n := n) (ts := lts ts) (by unfold Tm.most; omega)
  refine ⟨h1.symm, fun k hk => ?_⟩
  rw [count_fine (bh_chk hc _) (by omega), bhL_lts, if_neg (by have := h2 k hk; unfold Tm.most at this; omega)]
end Go.Proofs.Ytafncmgijbkomaa
