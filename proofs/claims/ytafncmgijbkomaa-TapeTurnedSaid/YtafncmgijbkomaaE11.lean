/- Proved here: tapes that are turned, a part of the proofs about the tape laws. Conditions: those that each theorem names, no others. -/
import Derived.Test.YtafncmgijbkomaaP30
import Derived.WalkKit
import Derived.WalkSpells
import Derived.WalkLawsBesides
import Derived.Below
import Derived.Deep.QuietTactic
import Derived.BigQuiet
import Derived.Deep.Light
import Derived.Test.YtafncmgijbkomaaE2

set_option linter.unusedSimpArgs false
set_option linter.unusedVariables false
namespace Go.Proofs.Ytafncmgijbkomaa
open Go.RowKit Go.Maps Go.Lib
/-- tapes that are turned: the fewest, the nights, the common string and the pulls -/
theorem chk_turn {W : Int} {ts ss : List ByteArray} {f : List Int → List Int} (hc : chkSet W ts = 0) (hT : Tm.Turn W.toNat f) (hl : lts ss = (lts ts).map f) (hz : ∀ k, (h : k < ss.length) → ss[k].size ≤ 8) : chkSet W ss = 0 := by
  obtain ⟨hW1, hW2, h0, h3, hs, hf, _, hlo⟩ := chk_val hc
  have hn : ss.length = ts.length := by
    have := congrArg List.length hl
    simpa [lts] using this
  have hlo2 : Tm.lettersOk W.toNat (lts ss) := by rw [hl]; exact hT.letters hlo
  unfold chkSet
  rw [if_neg (by simp [withinB, outB]; omega), if_neg (by simp [withinB, outB]; omega), if_neg (by
    simp only [List.any_eq_true, not_exists, decide_eq_true_eq, not_and]
    intro s hs
    obtain ⟨k, hk, rfl⟩ := List.getElem_of_mem hs
    have := hz k hk
    omega), if_neg (by
    simp only [List.any_eq_true, not_exists, not_and, Bool.not_eq_true', Bool.not_eq_false']
    intro s hs
    rw [Bool.not_eq_false]
    refine isS_iff.2 (fun x hx => ?_)
    have := hlo2 (lt s) (List.mem_map.2 ⟨s, hs, rfl⟩) x hx
    omega)]
theorem turn_plain {W : Int} {ts ss : List ByteArray} {f : List Int → List Int} (hc : chkSet W ts = 0) (hT : Tm.Turn W.toNat f) (hl : lts ss = (lts ts).map f) (hz : ∀ k, (h : k < ss.length) → ss[k].size ≤ 8) {n b d : Nat} (hn : n ≤ 20) (hb : isWin W b = true) (hd : isWin W d = true) (hm : ∀ s, Tm.manyS ((d : Int) - 97) (f s) = Tm.manyS ((b : Int) - 97) s) :
    fewR W ss = fewR W ts ∧ countR W ss (n : Nat) = countR W ts (n : Nat) ∧ (∃ u v : ByteArray, comR W ts = (u, 0) ∧ comR W ss = (v, 0) ∧ v.size = u.size) ∧ pullsA W ss (n : Nat) d = pullsA W ts (n : Nat) b := by
  have hcs := chk_turn hc hT hl hz
  obtain ⟨hW1, hW2, h0, h3, hs, hf, _, hlo⟩ := chk_val hc
  have hlo2 := (chk_val hcs).2.2.2.2.2.2.2
  have hW : 0 < W.toNat := by omega
  have e1 : Tm.fewN W.toNat (lts ss) = Tm.fewN W.toNat (lts ts) := by rw [hl]; exact hT.few hW hlo
  have e2 : Tm.cntC W.toNat n (lts ss) = Tm.cntC W.toNat n (lts ts) := by rw [hl]; exact hT.cntC n (lts ts)
  have hne : lts ts ≠ [] := fun g => by
    have h1 : (lts ts).length = 0 := by rw [g]; rfl
    rw [lts, List.length_map] at h1
    omega
  have hb1 := comV_best (W := W.toNat) (by omega) (ts := lts ts) hne hlo
  have hb2 := comV_best (W := W.toNat) (by omega) (ts := lts ss) (fun g => hne (by rw [hl] at g; simpa using g)) hlo2
  have e3 := hT.best hb1 (by rw [← hl]; exact hb2)
  rw [lt_len, lt_len] at e3
  refine ⟨by simp [fewR, hc, hcs, e1], by rw [count_fine hcs hn, count_fine hc hn, e2], ⟨_, _, by simp [comR, hc], by simp [comR, hcs], e3⟩, ?_⟩
  rcases Nat.lt_or_ge n (Tm.fewN W.toNat (lts ts)) with h | h
  · rw [pulls_none hc hn hb h, pulls_none hcs hn hd (by omega)]
  · obtain ⟨p, k1⟩ := pulls_some hc hn hb h
    obtain ⟨q, k2⟩ := pulls_some hcs hn hd (by omega)
    obtain ⟨r1, -⟩ := Tm.pullsP_ends (w := (b : Int) - 97) hn k1
    obtain ⟨s1, -⟩ := Tm.pullsP_ends (w := (d : Int) - 97) hn k2
    rw [p, q]
    have := hT.ends hm r1
    rw [← hl] at this
    rw [this.unique s1]
end Go.Proofs.Ytafncmgijbkomaa
