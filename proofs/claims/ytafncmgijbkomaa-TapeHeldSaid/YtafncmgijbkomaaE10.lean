/- Proved here: tapes that were left of a night, a part of the proofs about the tape laws. Conditions: those that each theorem names, no others. -/
import Derived.Test.YtafncmgijbkomaaP30
import Derived.WalkKit
import Derived.WalkSpells
import Derived.WalkLawsBesides
import Derived.Below
import Derived.Deep.QuietTactic
import Derived.BigQuiet
import Derived.Deep.Light
import Derived.Test.YtafncmgijbkomaaE8

set_option linter.unusedSimpArgs false
set_option linter.unusedVariables false
namespace Go.Proofs.Ytafncmgijbkomaa
open Go.RowKit Go.Maps Go.Lib
theorem chk_held {W : Int} {ts : List ByteArray} (h1 : 1 ≤ W) (h2 : W ≤ 5) (h3 : 0 < ts.length) (h4 : ts.length ≤ 3) (h5 : Small ts) (h6 : Tm.lettersOk W.toNat (lts ts)) : chkSet W ts = 0 := by
  unfold chkSet
  rw [if_neg (by simp [withinB, outB]; omega), if_neg (by simp [withinB, outB]; omega), if_neg (by
    simp only [List.any_eq_true, not_exists, decide_eq_true_eq, not_and]
    intro s hs
    obtain ⟨k, hk, rfl⟩ := List.getElem_of_mem hs
    have := h5 k hk
    omega), if_neg (by
    simp only [List.any_eq_true, not_exists, not_and, Bool.not_eq_true', Bool.not_eq_false']
    intro s hs
    rw [Bool.not_eq_false]
    refine isS_iff.2 (fun x hx => ?_)
    have := h6 (lt s) (List.mem_map.2 ⟨s, hs, rfl⟩) x hx
    omega)]
/-- tapes that were left of a night -/
theorem held_chk {W : Int} {ts : List ByteArray} {s : ByteArray} (h1 : 1 ≤ W) (h5 : W ≤ 5) (h0 : 0 < ts.length) (h3 : ts.length ≤ 3) (hs : ∀ x, x ∈ lt s → 0 ≤ x ∧ x < W) (hsub : ∀ t, t ∈ ts → t.size ≤ 8 ∧ (lt t).Sublist (lt s)) : chkSet W ts = 0 ∧ lt s ∈ Tm.nights W.toNat s.size (lts ts) := by
  refine ⟨chk_held h1 h5 h0 h3 (fun k hk => (hsub _ (List.getElem_mem hk)).1) (fun t ht x hx => ?_), Tm.mem_nights.2 ⟨lt_len s, fun x hx => by have := hs x hx; omega, fun t ht => ?_⟩⟩
  · obtain ⟨u, hu, rfl⟩ := List.mem_map.1 ht
    have := hs x ((hsub u hu).2.subset hx)
    omega
  · obtain ⟨u, hu, rfl⟩ := List.mem_map.1 ht
    exact (hsub u hu).2
theorem befB_bfr {a b : Int} {i j : Nat} (hi : 0 < i) (hj : 0 < j) (s : List Int) : befB s a i b j = Tm.bfr a i b j s := by
  have h := Tm.bfr_iff (a := a) (b := b) hi hj (s := s)
  rw [Bool.eq_iff_iff, h]
  unfold befB
  simp only [Bool.and_eq_true, decide_eq_true_eq]
theorem held_plain {W : Int} {ts : List ByteArray} {s : ByteArray} (hc : chkSet W ts = 0) (hn : s.size ≤ 20) (hm : lt s ∈ Tm.nights W.toNat s.size (lts ts)) {b b1 b2 m1 m2 : Nat} (hb : isWin W b = true) (hb1 : isWin W b1 = true) (hb2 : isWin W b2 = true) (hm1 : m1 < 20) (hm2 : m2 < 20) :
    ∃ (f : Nat) (cc e p1 p2 k j : Int) (bf : Bool), hasR W ts s = (true, 0) ∧ fewR W ts = (((f : Nat) : Int), 0) ∧ f ≤ s.size ∧ wrgR W ts (s.size : Nat) = ([], 0) ∧ countR W ts (s.size : Nat) = (cc, e) ∧ ((e = 0 ∧ 1 ≤ cc) ∨ e = 4) ∧
      pullsA W ts (s.size : Nat) b = ((p1, p2), 0) ∧ p1 ≤ (Tm.manyS ((b : Int) - 97) (lt s) : Nat) ∧ ((Tm.manyS ((b : Int) - 97) (lt s) : Nat) : Int) ≤ p2 ∧
      kindA W ts (s.size : Nat) b1 (1 + (m1 : Nat)) b2 (1 + (m2 : Nat)) = (k, 0) ∧ kindA W ts (s.size : Nat) b2 (1 + (m2 : Nat)) b1 (1 + (m1 : Nat)) = (j, 0) ∧ befB (lt s) ((b1 : Int) - 97) (1 + m1) ((b2 : Int) - 97) (1 + m2) = bf ∧
      ((k = 0 ∧ bf = false) ∨ k = 1 ∨ (k = 2 ∧ bf = true ∧ j = 0)) := by
  obtain ⟨hW1, hW2, h0, h3, _, _, _, hlo⟩ := chk_val hc
  obtain ⟨g1, g2, g3⟩ := Tm.mem_nights.1 hm
  have hsb : isS W s = true := isS_iff.2 (fun x hx => by have := g2 x hx; omega)
  have hhs : Tm.hasS (lt s) (lts ts) = true := (Tm.hasS_sub _ _).2 g3
  have hN : Tm.hasN W.toNat s.size (lts ts) = true := Tm.hasN_mem.2 ⟨_, hm⟩
  have hf : Tm.fewN W.toNat (lts ts) ≤ s.size := (Tm.fewN_spec (by omega) hlo _).1 hN
  have hwr : wrgR W ts (s.size : Nat) = ([], 0) := by
    have hP : canB W.toNat (lts ts) (s.size : Nat) [] = true := by
      unfold canB
      rw [Tm.others_nil]
      exact decide_eq_true (by omega)
    unfold wrgR
    rw [if_neg (by rw [open_fine hc hn]; simp)]
    have : Tm.wrongR ts.length (canB W.toNat (lts ts) (s.size : Nat)) = [] := by
      unfold Tm.wrongR Tm.listsR
      rw [List.find?_cons_of_pos (by simp [hP])]
      rfl
    rw [this]
    rfl
  have h1 := count_fine hc (lg := s.size) hn
  have hcp := (few_nights hc s.size).2 hf
  have HC : ∃ cc e : Int, countR W ts (s.size : Nat) = (cc, e) ∧ ((e = 0 ∧ 1 ≤ cc) ∨ e = 4) := by
    by_cases k1 : 1099511627776 < Tm.cntC W.toNat s.size (lts ts)
    · rw [if_pos k1] at h1
      exact ⟨_, _, h1, .inr rfl⟩
    · rw [if_neg k1] at h1
      exact ⟨_, _, h1, .inl ⟨rfl, by omega⟩⟩
  obtain ⟨cc, e, H1, H2⟩ := HC
  obtain ⟨p, k1⟩ := pulls_some hc hn hb hf
  obtain ⟨⟨r1, r2, r3⟩, -⟩ := Tm.pullsP_ends (w := (b : Int) - 97) hn k1
  have hw12 : withinB 1 20 [(1 : Int) + (m1 : Nat), 1 + (m2 : Nat)] = true := by simp [withinB, outB]; omega
  have hw21 : withinB 1 20 [(1 : Int) + (m2 : Nat), 1 + (m1 : Nat)] = true := by simp [withinB, outB]; omega
  have q1 := kind_some hc hn hb1 hb2 hw12 hf
  have q2 := kind_some hc hn hb2 hb1 hw21 hf
  have t1 : ((1 : Int) + (m1 : Nat)).toNat = 1 + m1 := by omega
  have t2 : ((1 : Int) + (m2 : Nat)).toNat = 1 + m2 := by omega
  rw [t1, t2] at q1 q2
  have hne := nights_some hc hf
  have c1 := Tm.kind_count (Tm.nights W.toNat s.size (lts ts)) (Tm.bfr ((b1 : Int) - 97) (1 + m1) ((b2 : Int) - 97) (1 + m2)) hne
  have c2 := Tm.kind_count (Tm.nights W.toNat s.size (lts ts)) (Tm.bfr ((b2 : Int) - 97) (1 + m2) ((b1 : Int) - 97) (1 + m1)) hne
  refine ⟨_, cc, e, _, _, _, _, _, by simp [hasR, hc, hsb, hhs, show ¬ 20 < s.size by omega], by simp [fewR, hc], hf, hwr, H1, H2, p, (r3 _ hm).1, (r3 _ hm).2, q1, q2, befB_bfr (by omega) (by omega) _, ?_⟩
  rw [c1, c2]
  by_cases z0 : (Tm.nights W.toNat s.size (lts ts)).countP (Tm.bfr ((b1 : Int) - 97) (1 + m1) ((b2 : Int) - 97) (1 + m2)) = 0
  · rw [if_pos z0]
    exact .inl ⟨rfl, by simpa using List.countP_eq_zero.1 z0 _ hm⟩
  · rw [if_neg z0]
    by_cases z1 : (Tm.nights W.toNat s.size (lts ts)).countP (Tm.bfr ((b1 : Int) - 97) (1 + m1) ((b2 : Int) - 97) (1 + m2)) < (Tm.nights W.toNat s.size (lts ts)).length
    · rw [if_pos z1]
      exact .inr (.inl rfl)
    · rw [if_neg z1]
      have hall := List.countP_eq_length.1 (Nat.le_antisymm List.countP_le_length (Nat.le_of_not_lt z1))
      have hz2 : (Tm.nights W.toNat s.size (lts ts)).countP (Tm.bfr ((b2 : Int) - 97) (1 + m2) ((b1 : Int) - 97) (1 + m1)) = 0 := List.countP_eq_zero.2 (fun x hx => by
        rw [Tm.bfr_not (by omega) (by omega) (hall x hx)]
        simp)
      rw [if_pos hz2]
      exact .inr (.inr ⟨rfl, hall _ hm, rfl⟩)
end Go.Proofs.Ytafncmgijbkomaa
