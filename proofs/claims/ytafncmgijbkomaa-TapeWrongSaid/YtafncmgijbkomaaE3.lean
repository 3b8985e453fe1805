/- Proved here: nights of valid tapes, a part of the proofs about the tape laws. Conditions: those that each theorem names, no others. -/
import Derived.Test.YtafncmgijbkomaaP30
import Derived.WalkKit
import Derived.WalkSpells
import Derived.WalkLawsBesides
import Derived.Below
import Derived.Deep.QuietTactic
import Derived.BigQuiet
import Derived.Deep.Light
import Derived.Test.YtafncmgijbkomaaD10
import Derived.Test.YtafncmgijbkomaaD11
import Derived.Test.YtafncmgijbkomaaE1

set_option linter.unusedSimpArgs false
set_option linter.unusedVariables false
namespace Go.Proofs.Ytafncmgijbkomaa
open Go.RowKit Go.Maps Go.Lib
theorem isS_unlt {W : Int} (h5 : W ≤ 5) {l : List Int} (h : ∀ x, x ∈ l → 0 ≤ x ∧ x < W) : isS W (unlt l) = true := by
  rw [isS_iff, lt_unlt (fun x hx => by have := h x hx; omega)]
  exact h
theorem has_fine {W : Int} {ts : List ByteArray} (hc : chkSet W ts = 0) {s : ByteArray} (h : s.size ≤ 20) (hs : isS W s = true) : hasR W ts s = (Tm.hasS (lt s) (lts ts), (0 : Int)) := by
  simp [hasR, hc, hs, show ¬ 20 < s.size by omega]
/-- a night that Night returns -/
theorem night_fine {W : Int} {ts : List ByteArray} (hc : chkSet W ts = 0) {lg i : Nat} (h : lg ≤ 20) (hi : i < Tm.cntC W.toNat lg (lts ts)) (hM : i ≤ 1099511627776) : ∃ s : ByteArray, nightR W ts (lg : Nat) (i : Nat) = (s, 0) ∧ (Tm.nights W.toNat lg (lts ts))[i]? = some (lt s) ∧ s.size = lg ∧ isS W s = true ∧ Tm.hasS (lt s) (lts ts) = true := by
  obtain ⟨hW1, hW2, _, _, _, _, _, hlo⟩ := chk_val hc
  have q1 := Tm.cntC_eq W.toNat lg (lts ts)
  unfold Tm.most at q1
  have hn := Tm.nightA_eq W.toNat lg (lts ts) i (by rw [Tm.nights_len]; omega) (by unfold Tm.most; omega)
  have hm := Tm.nights_mem.1 (List.mem_of_getElem? hn)
  have e1 : lt (unlt (Tm.nightA W.toNat lg (lts ts) i)) = Tm.nightA W.toNat lg (lts ts) i := lt_unlt (fun x hx => by have := hm.2.1 x hx; omega)
  refine ⟨unlt (Tm.nightA W.toNat lg (lts ts) i), ?_, by rw [e1]; exact hn, by rw [unlt_size]; exact hm.1, isS_unlt hW2 (fun x hx => by have := hm.2.1 x hx; omega), by rw [e1]; exact hm.2.2⟩
  unfold nightR
  rw [if_neg (by rw [open_fine hc h]; simp), if_neg (by simp only [Int.toNat_natCast]; omega)]
  simp
theorem few_le {W : Int} {ts : List ByteArray} (hc : chkSet W ts = 0) : Tm.fewN W.toNat (lts ts) ≤ 24 := by
  obtain ⟨hW1, hW2, _, h3, hs, _, _, hlo⟩ := chk_val hc
  have := Tm.fewN_total (W := W.toNat) (by omega) hlo
  have := small_total hs h3
  omega
theorem few_cnt {W : Int} {ts : List ByteArray} (hc : chkSet W ts = 0) (lg : Nat) : 0 < Tm.cntC W.toNat lg (lts ts) ↔ Tm.fewN W.toNat (lts ts) ≤ lg := by
  obtain ⟨hW1, hW2, _, _, _, _, _, hlo⟩ := chk_val hc
  exact (Tm.cntC_pos _ _ _).trans (Tm.fewN_spec (by omega) hlo lg)
theorem count_none {W : Int} {ts : List ByteArray} (hc : chkSet W ts = 0) {lg : Nat} (h : lg ≤ 20) (hl : lg < Tm.fewN W.toNat (lts ts)) : countR W ts (lg : Nat) = ((0 : Int), (0 : Int)) := by
  have h1 := few_cnt hc lg
  have h0 : Tm.cntC W.toNat lg (lts ts) = 0 := by omega
  rw [count_fine hc h, h0]
  simp
theorem letters_in {W : Nat} (h1 : 1 ≤ W) (xs : List Int) : ∀ x, x ∈ lettersI W xs → 0 ≤ x ∧ x < (W : Int) := fun x hx => by
  obtain ⟨y, _, rfl⟩ := List.mem_map.1 hx
  exact ⟨Int.emod_nonneg y (by omega), Int.emod_lt_of_pos y (by omega)⟩
/-- a string that has the tapes has no fewer letters than the fewest impulses -/
theorem few_has {W : Int} {ts : List ByteArray} (hc : chkSet W ts = 0) {s : ByteArray} (hs : isS W s = true) (hh : Tm.hasS (lt s) (lts ts) = true) : Tm.fewN W.toNat (lts ts) ≤ s.size := by
  obtain ⟨hW1, hW2, _, _, _, _, _, hlo⟩ := chk_val hc
  refine (Tm.fewN_spec (W := W.toNat) (by omega) hlo _).1 (Tm.hasN_iff.2 ⟨lt s, lt_len s, fun x hx => ?_, hh⟩)
  have := isS_iff.1 hs x hx
  omega
end Go.Proofs.Ytafncmgijbkomaa
