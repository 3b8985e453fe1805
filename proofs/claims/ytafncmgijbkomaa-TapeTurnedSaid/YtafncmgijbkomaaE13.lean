/- Proved here: tapes read from their ends, and tapes with two windows exchanged, a part of the proofs about the tape laws. Conditions: those that each theorem names, no others. -/
import Derived.Test.YtafncmgijbkomaaP30
import Derived.WalkKit
import Derived.WalkSpells
import Derived.WalkLawsBesides
import Derived.Below
import Derived.Deep.QuietTactic
import Derived.BigQuiet
import Derived.Deep.Light
import Derived.Test.YtafncmgijbkomaaE12
import Derived.Test.YtafncmgijbkomaaD17

set_option linter.unusedSimpArgs false
set_option linter.unusedVariables false
namespace Go.Proofs.Ytafncmgijbkomaa
open Go.RowKit Go.Maps Go.Lib
def revB (s : ByteArray) : ByteArray := unlt (lt s).reverse
def swpB (a b : Int) (s : ByteArray) : ByteArray := unlt ((lt s).map (Tm.swapL a b))
theorem unlt_two (l m : List Int) : unlt (l ++ m) = unlt l ++ unlt m := by
  apply ByteArray.ext
  simp [unlt]
theorem rev_step {s : ByteArray} {j : Nat} {y : Int} (h : (lt s)[j]? = some y) : unlt ((lt s).take (j + 1)).reverse = unlt [y] ++ unlt ((lt s).take j).reverse := by
  obtain ⟨hj, e⟩ := List.getElem?_eq_some_iff.1 h
  rw [List.take_succ_eq_append_getElem hj, List.reverse_append, ← unlt_two, e]
  rfl
theorem swp_step {s : ByteArray} {a b : Int} {j : Nat} {y : Int} (h : (lt s)[j]? = some y) : unlt (((lt s).take (j + 1)).map (Tm.swapL a b)) = unlt (((lt s).take j).map (Tm.swapL a b)) ++ unlt [Tm.swapL a b y] := by
  obtain ⟨hj, e⟩ := List.getElem?_eq_some_iff.1 h
  rw [List.take_succ_eq_append_getElem hj, List.map_append, ← unlt_two, e]
  rfl
theorem lt_revB {s : ByteArray} (h : ∀ x, x ∈ lt s → 0 ≤ x ∧ x < 5) : lt (revB s) = (lt s).reverse := lt_unlt (fun x hx => h x (List.mem_reverse.1 hx))
theorem lt_swpB {a b : Int} (ha : 0 ≤ a ∧ a < 5) (hb : 0 ≤ b ∧ b < 5) {s : ByteArray} (h : ∀ x, x ∈ lt s → 0 ≤ x ∧ x < 5) : lt (swpB a b s) = (lt s).map (Tm.swapL a b) := lt_unlt (fun x hx => by
  obtain ⟨y, hy, rfl⟩ := List.mem_map.1 hx
  have := h y hy
  unfold Tm.swapL
  split
  · exact hb
  · split
    · exact ha
    · exact this)
theorem revB_size (s : ByteArray) : (revB s).size = s.size := by rw [revB, unlt_size, List.length_reverse, lt_len]
theorem swpB_size (a b : Int) (s : ByteArray) : (swpB a b s).size = s.size := by rw [swpB, unlt_size, List.length_map, lt_len]
theorem lts_map {f : ByteArray → ByteArray} {g : List Int → List Int} {ts : List ByteArray} (h : ∀ s, s ∈ ts → lt (f s) = g (lt s)) : lts (ts.map f) = (lts ts).map g := by
  unfold lts
  rw [List.map_map, List.map_map]
  exact List.map_congr_left (fun s hs => h s hs)
theorem win_nat {W : Int} {b : Nat} (h5 : W ≤ 5) (h : isWin W b = true) : ∃ a : Nat, b = 97 + a ∧ a < 5 := by
  simp [isWin] at h
  exact ⟨b - 97, by omega, by omega⟩
/-- both turns of valid tapes -/
theorem turned_plain {W : Int} {ts : List ByteArray} (hc : chkSet W ts = 0) {n b1 b2 : Nat} (hn : n ≤ 20) (h1 : isWin W b1 = true) (h2 : isWin W b2 = true) :
    ∃ (f : Nat) (cc e3 p1 p2 e4 : Int) (u v x : ByteArray), fewR W ts = (((f : Nat) : Int), 0) ∧ countR W ts (n : Nat) = (cc, e3) ∧ (e3 = 0 ∨ e3 = 4) ∧ comR W ts = (u, 0) ∧ pullsA W ts (n : Nat) b1 = ((p1, p2), e4) ∧
      chkSet W (ts.map revB) = 0 ∧ fewR W (ts.map revB) = (((f : Nat) : Int), 0) ∧ countR W (ts.map revB) (n : Nat) = (cc, e3) ∧ comR W (ts.map revB) = (v, 0) ∧ v.size = u.size ∧ pullsA W (ts.map revB) (n : Nat) b1 = ((p1, p2), e4) ∧
      chkSet W (ts.map (swpB ((b1 : Int) - 97) ((b2 : Int) - 97))) = 0 ∧ fewR W (ts.map (swpB ((b1 : Int) - 97) ((b2 : Int) - 97))) = (((f : Nat) : Int), 0) ∧ countR W (ts.map (swpB ((b1 : Int) - 97) ((b2 : Int) - 97))) (n : Nat) = (cc, e3) ∧ comR W (ts.map (swpB ((b1 : Int) - 97) ((b2 : Int) - 97))) = (x, 0) ∧ x.size = u.size ∧ pullsA W (ts.map (swpB ((b1 : Int) - 97) ((b2 : Int) - 97))) (n : Nat) b2 = ((p1, p2), e4) := by
  obtain ⟨hW1, hW2, _, _, hs, _, _, hlo⟩ := chk_val hc
  have hin : ∀ s, s ∈ ts → ∀ x, x ∈ lt s → 0 ≤ x ∧ x < 5 := fun s hs x hx => by
    have := hlo (lt s) (List.mem_map.2 ⟨s, hs, rfl⟩) x hx
    omega
  have w1 : 0 ≤ (b1 : Int) - 97 ∧ (b1 : Int) - 97 < (W.toNat : Int) := by simp [isWin] at h1; omega
  have w2 : 0 ≤ (b2 : Int) - 97 ∧ (b2 : Int) - 97 < (W.toNat : Int) := by simp [isWin] at h2; omega
  have e1 : lts (ts.map revB) = (lts ts).map List.reverse := lts_map (fun s hs => lt_revB (hin s hs))
  have e2 : lts (ts.map (swpB ((b1 : Int) - 97) ((b2 : Int) - 97))) = (lts ts).map (List.map (Tm.swapL ((b1 : Int) - 97) ((b2 : Int) - 97))) := lts_map (fun s hs => lt_swpB (by omega) (by omega) (hin s hs))
  have z1 : ∀ k, (h : k < (ts.map revB).length) → (ts.map revB)[k].size ≤ 8 := fun k hk => by
    rw [List.getElem_map, revB_size]
    exact hs k (by simpa using hk)
  have z2 : ∀ k, (h : k < (ts.map (swpB ((b1 : Int) - 97) ((b2 : Int) - 97))).length) → (ts.map (swpB ((b1 : Int) - 97) ((b2 : Int) - 97)))[k].size ≤ 8 := fun k hk => by
    rw [List.getElem_map, swpB_size]
    exact hs k (by simpa using hk)
  obtain ⟨a1, a2, ⟨u, v, a3, a4, a5⟩, a6⟩ := turn_plain hc (Tm.turn_rev _) e1 z1 hn h1 h1 (fun s => Tm.many_rev _ s)
  obtain ⟨c1, c2, ⟨u', x, c3, c4, c5⟩, c6⟩ := turn_plain hc (Tm.turn_swap w1 w2) e2 z2 hn h1 h2 (fun s => Tm.many_swap _ _ s)
  obtain rfl : u' = u := by rw [a3] at c3; exact (Prod.mk.inj c3).1.symm
  have k1 := count_fine hc (lg := n) hn
  have hE : (countR W ts (n : Nat)).2 = 0 ∨ (countR W ts (n : Nat)).2 = 4 := by
    rw [k1]
    split
    · exact .inr rfl
    · exact .inl rfl
  have f1 : fewR W ts = (((Tm.fewN W.toNat (lts ts) : Nat) : Int), 0) := by simp [fewR, hc]
  exact ⟨_, _, _, _, _, _, _, _, _, f1, rfl, hE, a3, rfl, chk_turn hc (Tm.turn_rev _) e1 z1, by rw [a1, f1], a2, a4, a5, a6, chk_turn hc (Tm.turn_swap w1 w2) e2 z2, by rw [c1, f1], c2, c4, c5, c6⟩
end Go.Proofs.Ytafncmgijbkomaa
