/- Proved here: one tape more, a part of the proofs about the tape laws. Conditions: those that each theorem names, no others. -/
import Derived.Test.YtafncmgijbkomaaP30
import Derived.WalkKit
import Derived.WalkSpells
import Derived.WalkLawsBesides
import Derived.Below
import Derived.Deep.QuietTactic
import Derived.BigQuiet
import Derived.Deep.Light
import Derived.Test.YtafncmgijbkomaaE2

set_option linter.unusedSimpArgs false
set_option linter.unusedVariables false
namespace Go.Proofs.Ytafncmgijbkomaa
open Go.RowKit Go.Maps Go.Lib
theorem few_top {W : Int} {ts : List ByteArray} (hc : chkSet W ts = 0) : Tm.fewN W.toNat (lts ts) ≤ 24 := by
  obtain ⟨hW1, hW2, _, h3, hs, _, _, hlo⟩ := chk_val hc
  have := Tm.fewN_total (W := W.toNat) (by omega) hlo
  have := small_total hs h3
  omega
theorem few_nights {W : Int} {ts : List ByteArray} (hc : chkSet W ts = 0) (lg : Nat) : 0 < Tm.cntC W.toNat lg (lts ts) ↔ Tm.fewN W.toNat (lts ts) ≤ lg := by
  obtain ⟨hW1, hW2, _, _, _, _, _, hlo⟩ := chk_val hc
  exact (Tm.cntC_pos _ _ _).trans (Tm.fewN_spec (by omega) hlo lg)
theorem kind_none {W : Int} {ts : List ByteArray} (hc : chkSet W ts = 0) {lg b1 b2 : Nat} {n1 n2 : Int} (h : lg ≤ 20) (hb1 : isWin W b1 = true) (hb2 : isWin W b2 = true) (hn : withinB 1 20 [n1, n2] = true) (h0 : lg < Tm.fewN W.toNat (lts ts)) : kindA W ts (lg : Nat) b1 n1 b2 n2 = ((0 : Int), (24 : Int)) := by
  have h1 := few_nights hc lg
  simp [kindA, open_fine hc h, hb1, hb2, hn, show Tm.cntC W.toNat lg (lts ts) = 0 by omega]
theorem kind_some {W : Int} {ts : List ByteArray} (hc : chkSet W ts = 0) {lg b1 b2 : Nat} {n1 n2 : Int} (h : lg ≤ 20) (hb1 : isWin W b1 = true) (hb2 : isWin W b2 = true) (hn : withinB 1 20 [n1, n2] = true) (h0 : Tm.fewN W.toNat (lts ts) ≤ lg) :
    kindA W ts (lg : Nat) b1 n1 b2 n2 = (((Tm.kindN (Tm.bits (Tm.nights W.toNat lg (lts ts)) (Tm.bfr ((b1 : Int) - 97) n1.toNat ((b2 : Int) - 97) n2.toNat)) : Nat) : Int), (0 : Int)) := by
  have h1 := few_nights hc lg
  simp only [kindA, open_fine hc h, hb1, hb2, hn, Int.toNat_natCast, ne_eq, not_true_eq_false, if_false, Bool.true_eq_false, or_self, show Tm.cntC W.toNat lg (lts ts) ≠ 0 by omega]
  rw [Tm.endsP_eq]
  rfl
theorem nights_some {W : Int} {ts : List ByteArray} (hc : chkSet W ts = 0) {lg : Nat} (h0 : Tm.fewN W.toNat (lts ts) ≤ lg) : Tm.nights W.toNat lg (lts ts) ≠ [] := fun e => by
  have h1 := few_nights hc lg
  have h2 := Tm.cntC_eq W.toNat lg (lts ts)
  rw [← Tm.nights_len, e] at h2
  simp at h2
  omega
/-- one tape more -/
theorem more_plain {W : Int} {ts : List ByteArray} {m : ByteArray} (hc : chkSet W ts = 0) (hx : chkSet W (ts ++ [m]) = 0) {n b b1 b2 : Nat} {n1 n2 : Int} (hn : n ≤ 20) (hb : isWin W b = true) (hb1 : isWin W b1 = true) (hb2 : isWin W b2 = true) (hn12 : withinB 1 20 [n1, n2] = true) :
    ∃ (f g : Nat) (c e3 d e4 : Int) (u v : ByteArray) (p1 p2 e5 q1 q2 e6 k e7 j e8 : Int), fewR W ts = (((f : Nat) : Int), 0) ∧ fewR W (ts ++ [m]) = (((g : Nat) : Int), 0) ∧ countR W ts (n : Nat) = (c, e3) ∧ countR W (ts ++ [m]) (n : Nat) = (d, e4) ∧
      comR W ts = (u, 0) ∧ comR W (ts ++ [m]) = (v, 0) ∧ pullsA W ts (n : Nat) b = ((p1, p2), e5) ∧ pullsA W (ts ++ [m]) (n : Nat) b = ((q1, q2), e6) ∧ kindA W ts (n : Nat) b1 n1 b2 n2 = (k, e7) ∧ kindA W (ts ++ [m]) (n : Nat) b1 n1 b2 n2 = (j, e8) ∧
      f ≤ g ∧ g ≤ f + m.size ∧ f ≤ 24 ∧ m.size ≤ 8 ∧ v.size ≤ u.size ∧ ((e3 = 0 ∧ e4 = 0 ∧ d ≤ c) ∨ (e3 = 4 ∧ e4 = 0) ∨ (e3 = 4 ∧ e4 = 4)) ∧
      ((n < f ∧ n < g ∧ e5 = 24 ∧ e6 = 24 ∧ e7 = 24 ∧ e8 = 24) ∨ (f ≤ n ∧ n < g ∧ e5 = 0 ∧ e6 = 24 ∧ e7 = 0 ∧ e8 = 24) ∨ (f ≤ n ∧ g ≤ n ∧ e5 = 0 ∧ e6 = 0 ∧ e7 = 0 ∧ e8 = 0 ∧ p1 ≤ q1 ∧ q2 ≤ p2 ∧ q1 ≤ q2 ∧ (k = 1 ∨ j = k))) := by
  obtain ⟨hW1, hW2, _, _, hs, _, _, hlo⟩ := chk_val hc
  obtain ⟨_, _, _, _, hsx, _, _, hlox⟩ := chk_val hx
  have hW : 0 < W.toNat := by omega
  have e : lts (ts ++ [m]) = lts ts ++ [lt m] := by simp [lts]
  have hsub : ∀ t, t ∈ lts ts → t ∈ lts (ts ++ [m]) := fun t ht => by rw [e]; exact List.mem_append_left _ ht
  have hfg : Tm.fewN W.toNat (lts ts) ≤ Tm.fewN W.toNat (lts (ts ++ [m])) := Tm.few_sub hW hsub hlox
  have hgm : Tm.fewN W.toNat (lts (ts ++ [m])) ≤ Tm.fewN W.toNat (lts ts) + m.size := by
    have := Tm.few_more (W := W.toNat) hW (ts := lts ts) (m := lt m) (by rw [← e]; exact hlox)
    rw [lt_len] at this
    rwa [e]
  have hm8 : m.size ≤ 8 := by
    have := hsx ts.length (by simp)
    simpa using this
  have hne : lts ts ≠ [] := fun g => by
    have h0 := (chk_val hc).2.2.1
    have h1 : (lts ts).length = 0 := by rw [g]; rfl
    rw [lts, List.length_map] at h1
    omega
  have hb1' := comV_best (W := W.toNat) (by omega) (ts := lts ts) hne hlo
  have hb2' := comV_best (W := W.toNat) (by omega) (ts := lts (ts ++ [m])) (by simp [lts]) hlox
  have hcom := Tm.best_sub hsub hb1' hb2'
  rw [lt_len, lt_len] at hcom
  have hnsub : ∀ s, s ∈ Tm.nights W.toNat n (lts (ts ++ [m])) → s ∈ Tm.nights W.toNat n (lts ts) := fun s => Tm.nights_sub hsub
  have h1 := count_fine hc (lg := n) (by omega)
  have h2 := count_fine hx (lg := n) (by omega)
  have hcu := Tm.cntU_sub (W := W.toNat) (n := n) hsub
  have q1 := Tm.cntC_eq W.toNat n (lts ts)
  have q2 := Tm.cntC_eq W.toNat n (lts (ts ++ [m]))
  unfold Tm.most at q1 q2
  have HC : ∃ c e3 d e4 : Int, countR W ts (n : Nat) = (c, e3) ∧ countR W (ts ++ [m]) (n : Nat) = (d, e4) ∧ ((e3 = 0 ∧ e4 = 0 ∧ d ≤ c) ∨ (e3 = 4 ∧ e4 = 0) ∨ (e3 = 4 ∧ e4 = 4)) := by
    by_cases k1 : 1099511627776 < Tm.cntC W.toNat n (lts ts)
    · rw [if_pos k1] at h1
      by_cases k2 : 1099511627776 < Tm.cntC W.toNat n (lts (ts ++ [m]))
      · rw [if_pos k2] at h2
        exact ⟨_, _, _, _, h1, h2, .inr (.inr ⟨rfl, rfl⟩)⟩
      · rw [if_neg k2] at h2
        exact ⟨_, _, _, _, h1, h2, .inr (.inl ⟨rfl, rfl⟩)⟩
    · rw [if_neg k1] at h1
      have k2 : ¬ 1099511627776 < Tm.cntC W.toNat n (lts (ts ++ [m])) := by omega
      rw [if_neg k2] at h2
      exact ⟨_, _, _, _, h1, h2, .inl ⟨rfl, rfl, by omega⟩⟩
  obtain ⟨c, e3, d, e4, H3, H4, H5⟩ := HC
  have hle := few_top hc
  have HR : ∃ p1 p2 e5 q1 q2 e6 k e7 j e8 : Int, pullsA W ts (n : Nat) b = ((p1, p2), e5) ∧ pullsA W (ts ++ [m]) (n : Nat) b = ((q1, q2), e6) ∧ kindA W ts (n : Nat) b1 n1 b2 n2 = (k, e7) ∧ kindA W (ts ++ [m]) (n : Nat) b1 n1 b2 n2 = (j, e8) ∧
      ((n < Tm.fewN W.toNat (lts ts) ∧ n < Tm.fewN W.toNat (lts (ts ++ [m])) ∧ e5 = 24 ∧ e6 = 24 ∧ e7 = 24 ∧ e8 = 24) ∨ (Tm.fewN W.toNat (lts ts) ≤ n ∧ n < Tm.fewN W.toNat (lts (ts ++ [m])) ∧ e5 = 0 ∧ e6 = 24 ∧ e7 = 0 ∧ e8 = 24) ∨ (Tm.fewN W.toNat (lts ts) ≤ n ∧ Tm.fewN W.toNat (lts (ts ++ [m])) ≤ n ∧ e5 = 0 ∧ e6 = 0 ∧ e7 = 0 ∧ e8 = 0 ∧ p1 ≤ q1 ∧ q2 ≤ p2 ∧ q1 ≤ q2 ∧ (k = 1 ∨ j = k))) := by
    rcases Nat.lt_or_ge n (Tm.fewN W.toNat (lts ts)) with h | h
    · exact ⟨_, _, _, _, _, _, _, _, _, _, pulls_none hc hn hb h, pulls_none hx hn hb (by omega), kind_none hc hn hb1 hb2 hn12 h, kind_none hx hn hb1 hb2 hn12 (by omega), .inl ⟨h, by omega, rfl, rfl, rfl, rfl⟩⟩
    · rcases Nat.lt_or_ge n (Tm.fewN W.toNat (lts (ts ++ [m]))) with h' | h'
      · exact ⟨_, _, _, _, _, _, _, _, _, _, (pulls_some hc hn hb h).1, pulls_none hx hn hb h', kind_some hc hn hb1 hb2 hn12 h, kind_none hx hn hb1 hb2 hn12 h', .inr (.inl ⟨h, h', rfl, rfl, rfl, rfl⟩)⟩
      · obtain ⟨p, k1⟩ := pulls_some hc hn hb h
        obtain ⟨q, k2⟩ := pulls_some hx hn hb h'
        obtain ⟨r1, -⟩ := Tm.pullsP_ends (w := (b : Int) - 97) hn k1
        obtain ⟨s1, -⟩ := Tm.pullsP_ends (w := (b : Int) - 97) hn k2
        obtain ⟨t1, t2, t3⟩ := Tm.ends_sub hnsub r1 s1
        refine ⟨_, _, _, _, _, _, _, _, _, _, p, q, kind_some hc hn hb1 hb2 hn12 h, kind_some hx hn hb1 hb2 hn12 h', .inr (.inr ⟨h, h', rfl, rfl, rfl, rfl, t1, t2, t3, ?_⟩)⟩
        rcases Tm.kind_sub (p := Tm.bfr ((b1 : Int) - 97) n1.toNat ((b2 : Int) - 97) n2.toNat) hnsub (nights_some hx h') with g | g
        · exact .inl (by rw [g]; rfl)
        · exact .inr (by rw [g])
  obtain ⟨p1, p2, e5, x1, x2, e6, k, e7, j, e8, g1, g2, g3, g4, g5⟩ := HR
  exact ⟨_, _, c, e3, d, e4, _, _, p1, p2, e5, x1, x2, e6, k, e7, j, e8, by simp [fewR, hc], by simp [fewR, hx], H3, H4, by simp [comR, hc], by simp [comR, hx], g1, g2, g3, g4, hfg, hgm, hle, hm8, hcom, H5, g5⟩
end Go.Proofs.Ytafncmgijbkomaa
