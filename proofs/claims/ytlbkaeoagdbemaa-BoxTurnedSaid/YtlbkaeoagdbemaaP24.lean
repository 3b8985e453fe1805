/- Proved here: which parts are a map, a part of the proofs about the box laws. Conditions: those that each theorem names, no others. -/
import Derived.Test.YtlbkaeoagdbemaaP23
import Derived.WalkKit
import Derived.WalkSpells
import Derived.WalkLawsBesides
import Derived.Below
import Derived.Deep.QuietTactic
import Derived.BigQuiet
import Derived.Deep.Light
set_option linter.unusedSimpArgs false
set_option linter.unusedVariables false
namespace Go.Proofs.Ytlbkaeoagdbemaa
open Go.RowKit Go.Maps
/-- the tests of parts, one by one -/
def m2B (ps : List Bm.Tk) (k : Nat) : Bool := ((tz ps).take k).any (meetN (ps.getD k ([], 0)).1)
def m3B (ts ps : List Bm.Tk) (k : Nat) : Bool := (tz ts).any (crossN (ps.getD k ([], 0)).1)
def m4B (ts ps : List Bm.Tk) (k : Nat) : Bool := decide (unitsB ts (ps.getD k ([], 0)).1 ≠ (ps.getD k ([], 0)).2)
def sizesTo (ps : List Bm.Tk) (k : Nat) : Nat := Bm.sumTo (fun i => Bm.size (ps.getD i ([], 0)).1) k
/-- what a map comes to -/
def mapR (R : List Nat) (ts ps : List Bm.Tk) : Int :=
  if (List.range ps.length).any (m2B ps) = true then 11
  else if (List.range ps.length).any (m3B ts ps) = true then 16
  else if (List.range ps.length).any (m4B ts ps) = true then 14
  else if sizesTo ps ps.length ≠ Bm.size (allP R) then 14 else 0
theorem any_at {f : Nat → Bool} {n k : Nat} (h : k < n) (hf : f k = true) : (List.range n).any f = true := List.any_eq_true.2 ⟨k, List.mem_range.2 h, hf⟩
theorem none_succ {f : Nat → Bool} {k : Nat} (h : (List.range k).any f = false) (hf : f k = false) : (List.range (k + 1)).any f = false := by
  rw [List.range_succ, List.any_append, h]; simp [hf]
theorem tz_boxy {n : Nat} {ts : List Bm.Tk} (h : ∀ t, t ∈ ts → t.1.length = n ∧ ∀ s, s ∈ t.1 → s < 64) : ∀ t, t ∈ tz ts → boxy n t := fun t ht => by
  obtain ⟨x, hx, rfl⟩ := List.mem_map.1 ht
  exact ⟨x.1, rfl, (h x hx).1, (h x hx).2⟩
theorem Tks.take {w : World} {D : Option Addr} {ts : List Tz} (h : Tks w D ts) (n : Nat) : Tks w D (ts.take n) := fun k t hk => by
  refine h k t ?_
  rw [List.getElem?_take] at hk
  split at hk
  · exact hk
  · simp at hk
theorem no_neg (ps : List Bm.Tk) : (tz ps).any negB = false := by
  rw [List.any_eq_false]
  intro t ht
  obtain ⟨x, hx, rfl⟩ := List.mem_map.1 ht
  simp [negB]
theorem sizes_succ {ps : List Bm.Tk} {k : Nat} (hk : k < ps.length) : sizesTo ps (k + 1) = sizesTo ps k + Bm.size ps[k].1 := by
  unfold sizesTo; rw [Bm.sumTo_succ, getD_at _ _ hk]
theorem sizes_le {ps : List Bm.Tk} (h : ∀ p, p ∈ ps → Bm.size p.1 ≤ 7776) (k : Nat) (hk : k ≤ ps.length) : sizesTo ps k ≤ k * 7776 :=
  Bm.sumTo_le _ k 7776 (fun j hj => by rw [getD_at _ _ (by omega : j < ps.length)]; exact h _ (List.getElem_mem _))
theorem allP_lt {R : List Nat} {ts : List Bm.Tk} (hok : Ok R ts) : ∀ s, s ∈ allP R → s < 64 := fun s hs => by
  obtain ⟨n, hn, rfl⟩ := List.mem_map.1 hs
  have h6 := hok.r6 n hn
  have := Nat.pow_le_pow_right (n := 2) (by omega) h6
  omega
theorem boxes_fine {R : List Nat} {ts ps : List Bm.Tk} (_ : Ok R ts) (hps : ∀ t, t ∈ ps → Bm.isBox R t.1 = true) : areB (zs R) (tz ps) = 0 := by
  have hlen : ∀ t, t ∈ ps → t.1.length = R.length := fun t ht => Bm.isBox_len (hps t ht)
  have hodd : ∀ t, t ∈ ps → oddB (zs R) (zs t.1) = false := fun t ht => by
    have hb := hps t ht
    unfold oddB
    simp only [Bool.not_eq_false', List.all_eq_true, decide_eq_true_eq]
    intro p hp
    obtain ⟨k, hk, rfl⟩ := List.getElem_of_mem hp
    have hkR : k < R.length := by simp [zs] at hk; omega
    have hkS : k < t.1.length := by rw [hlen t ht]; exact hkR
    have := Bm.isBox_at hb k hkR
    rw [getD_at _ _ hkS, getD_at _ _ hkR] at this
    have hp : 1 ≤ 2 ^ R[k] := Nat.one_le_two_pow
    simp only [List.getElem_zip, zs_at _ _ hkR, zs_at _ _ hkS, Int.toNat_natCast, pow_nat]
    omega
  unfold areB
  rw [if_neg, if_neg]
  · simp only [Bool.not_eq_true, List.any_eq_false]
    intro t ht
    obtain ⟨t', ht', rfl⟩ := List.mem_map.1 ht
    simp [oddT, hodd t' ht']
  · simp only [Bool.not_eq_true, List.any_eq_false]
    intro t ht
    obtain ⟨t', ht', rfl⟩ := List.mem_map.1 ht
    simp [shortB, zs_len, hlen t' ht']
/-- boxes, as the numbers of a parts' list -/
theorem boxes_nat {R : List Nat} {ps : List Tz} (h1 : areB (zs R) ps = 0) (h2 : ps.any negB = false) : ∃ ps' : List Bm.Tk, ps = tz ps' ∧ ∀ t, t ∈ ps' → Bm.isBox R t.1 = true := by
  unfold areB at h1
  split at h1
  · simp at h1
  · rename_i h3
    split at h1
    · simp at h1
    · rename_i h4
      simp only [Bool.not_eq_true, List.any_eq_false] at h2 h3 h4
      refine tz_lift (fun t => Bm.isBox R t.1 = true) ps (fun t ht => ?_)
      obtain ⟨S, u⟩ := t
      have h5 := h2 _ ht
      have h6 := h3 _ ht
      have h7 := h4 _ ht
      obtain ⟨S', e, hS'⟩ := box_nat (R := R) (S := S) (by simpa [shortB] using h6) (by simpa [oddT] using h7)
      refine ⟨(S', u.toNat), ?_, hS'⟩
      have h5' : 0 ≤ u := by simpa [negB] using h5
      rw [e]
      congr 1
      show u = ((u.toNat : Nat) : Int)
      omega
set_option maxRecDepth 100000 in
set_option maxHeartbeats 8000000 in
theorem cmap_ok (A : Option Addr) (R : List Nat) (rc : Nat) (B : Option Addr) (ts : List Bm.Tk) (d : Nat) (D : Option Addr) (ps : List Bm.Tk) (dd : Nat) (w : World) (hA : I64 w A (zs R)) (hB : Tks w B (tz ts)) (hD : Tks w D (tz ps)) (hdd : ps.length ≤ dd) (h7 : ps.length ≤ 7776) (hps : ∀ t, t ∈ ps → Bm.isBox R t.1 = true) (hok : Ok R ts) :
    Calls Try.prog 30 #[.agg #[.slice A R.length rc], .slice B ts.length d, .slice D ps.length dd] w (Gives w (.int .i64 (mapR R ts ps))) := by
  have hlb : ¬ (7776 : Int) < (ps.length : Int) := by omega
  have HOP := hide (fun w' (h1 : I64 w' A (zs R)) (h2 : Tks w' B (tz ts)) => opens_n A R rc B ts d w' h1 h2 hok)
  have HPB : Hid (∀ p, p ∈ ps → p.1.length = R.length ∧ ∀ s, s ∈ p.1 → s < 64) := hide (fun p hp => ⟨Bm.isBox_len (hps p hp), box64 hok.r6 (hps p hp)⟩)
  have HTB : Hid (∀ p, p ∈ ts → p.1.length = R.length ∧ ∀ s, s ∈ p.1 → s < 64) := hide (fun p hp => ⟨hok.htl p hp, hok.ht6 p hp⟩)
  have hR5 := hok.h5
  have HAB := hide (fun w' (h : Tks w' D (tz ps)) (h' : I64 w' A (zs R)) => areBoxes_any D (tz ps) dd w' h (by rw [tz_len]; omega) A (zs R) rc h' (by rw [zs_len]; omega) (fun t ht => by
    obtain ⟨x, hx, rfl⟩ := List.mem_map.1 ht
    have := (HPB.out x hx).1
    simp only [zs_len]; omega) (okR hok))
  rw [zs_len, tz_len, boxes_fine hok hps] at HAB
  have HNG := hide (fun w' (h : Tks w' D (tz ps)) => containsM1_any D (tz ps) dd w' h (by rw [tz_len]; omega))
  rw [tz_len, no_neg] at HNG
  have HV := hide (show mapR R ts ps = if (List.range ps.length).any (m2B ps) = true then 11 else if (List.range ps.length).any (m3B ts ps) = true then 16 else if (List.range ps.length).any (m4B ts ps) = true then 14 else if sizesTo ps ps.length ≠ Bm.size (allP R) then 14 else 0 from rfl)
  have HM2 := hide (fun (k : Nat) (S : Option Addr) (P : List Nat) (sc b : Nat) (w' : World) (h1 : Tks w' D (tz ps)) (hk : k < ps.length) (hP : ps[k].1 = P) (hb0 : b < w'.heap.size) (hc : w'.cell? ⟨b, 0, none⟩ = some (.slice S P.length sc)) (hC : I64 w' S (zs P)) => by
    have hp := HPB.out ps[k] (List.getElem_mem hk)
    rw [hP] at hp
    have := containsM2_any D ((tz ps).take k) dd w' (h1.take k) (by rw [List.length_take, tz_len]; omega) S P sc b hb0 hc hC (by omega) hp.2 (fun t ht => by rw [hp.1]; exact tz_boxy HPB.out t (List.mem_of_mem_take ht))
    rw [show ((tz ps).take k).length = k by rw [List.length_take, tz_len]; omega, show ((tz ps).take k).any (meetN P) = m2B ps k by unfold m2B; rw [getD_at _ _ hk, hP]] at this
    exact this)
  have HM3 := hide (fun (k : Nat) (S : Option Addr) (P : List Nat) (sc b : Nat) (w' : World) (h1 : Tks w' B (tz ts)) (hk : k < ps.length) (hP : ps[k].1 = P) (hb0 : b < w'.heap.size) (hc : w'.cell? ⟨b, 0, none⟩ = some (.slice S P.length sc)) (hC : I64 w' S (zs P)) => by
    have hp := HPB.out ps[k] (List.getElem_mem hk)
    rw [hP] at hp
    have := containsM3_any B (tz ts) d w' h1 (by rw [tz_len]; have := hok.t10; omega) S P sc b hb0 hc hC (by omega) hp.2 (fun t ht => by rw [hp.1]; exact tz_boxy HTB.out t ht)
    rw [tz_len, show (tz ts).any (crossN P) = m3B ts ps k by unfold m3B; rw [getD_at _ _ hk, hP]] at this
    exact this)
  have HSZ := hide (fun (S : Option Addr) (P : List Nat) (sc : Nat) (w' : World) (hp : P.length = R.length ∧ ∀ s, s ∈ P → s < 64) (h : I64 w' S (zs P)) => size_any S P sc w' h (by omega) hp.2)
  have HUN := hide (fun s w' (S : Option Addr) (P : List Nat) (sc : Nat) (h : SheetAt w' s A (zs R) rc B (tz ts) d) (hp : P.length = R.length ∧ ∀ s, s ∈ P → s < 64) (h2 : I64 w' S (zs P)) => units_any s A R rc B ts d w' h hok.h5 hok.r6 hok.t10 hok.hu hok.htl hok.ht6 S P sc h2 hp.1 hp.2)
  have HAL := hide (fun s w' (h : SheetAt w' s A (zs R) rc B (tz ts) d) => all_any s A R rc B (tz ts) d w' h hok.h5 hok.r6)
  have hR5i : (R.length : Int) ≤ 5 := by omega
  have h7i : (ps.length : Int) ≤ 7776 := by omega
  have HSL := hide (sizes_le (ps := ps) (fun p hp => by have := size_le p.1 5 (by have := (HPB.out p hp).1; omega); omega))
  clear hps
  go_enter Try.func30, Try.ntmps30
  go_wp2_with (first
    | (go_at_call 61; refine (HOP.out _ (hA.ext (by (repeat (first | exact Below.refl _ _ | assumption | refine below_drewN ?_ _ | refine below_drew ?_ | refine below_gr ?_ ?_ _ | refine below_alloc ?_ ?_ _ | refine Below.setCell ?_ ?_ _ | refine below_step ?_ (by assumption) ?_ | omega | (simp only [zz] at *; omega))))) (hB.ext (by (repeat (first | exact Below.refl _ _ | assumption | refine below_drewN ?_ _ | refine below_drew ?_ | refine below_gr ?_ ?_ _ | refine below_alloc ?_ ?_ _ | refine Below.setCell ?_ ?_ _ | refine below_step ?_ (by assumption) ?_ | omega | (simp only [zz] at *; omega)))))).mono ?_; rintro e w1 ⟨s, rfl, hb1, hs1, hS1⟩; replace hb1 := ex_below hb1; have hz1 := hb1.size; (try simp only [World.size_alloc] at hz1); have hc1 := own_cell hb1 (b := w.heap.size) (by (first | omega | (simp only [zz]; omega) | (simp only [zz] at *; omega) | (simp; done) | (simp; omega))))
    | (go_at_call 57; refine (HAB.out _ (hD.ext (by (repeat (first | exact Below.refl _ _ | assumption | refine below_drewN ?_ _ | refine below_drew ?_ | refine below_gr ?_ ?_ _ | refine below_alloc ?_ ?_ _ | refine Below.setCell ?_ ?_ _ | refine below_step ?_ (by assumption) ?_ | omega | (simp only [zz] at *; omega))))) (hA.ext (by (repeat (first | exact Below.refl _ _ | assumption | refine below_drewN ?_ _ | refine below_drew ?_ | refine below_gr ?_ ?_ _ | refine below_alloc ?_ ?_ _ | refine Below.setCell ?_ ?_ _ | refine below_step ?_ (by assumption) ?_ | omega | (simp only [zz] at *; omega)))))).mono ?_; rintro e w2 ⟨rfl, hb1⟩; replace hb1 := ex_below hb1; have hz1 := hb1.size; (try simp only [zz] at hz1); have hs1 : w.heap.size < w2.heap.size := (by (first | omega | (simp only [zz] at *; omega))); have ho1 := own_cell hb1 (b := w.heap.size) (by (first | omega | (simp only [zz] at *; omega))); have hq1 := own_frozen hb1 (b := w.heap.size) (by (first | omega | (simp only [zz] at *; omega))); have hlt1 : ∀ b, b < w.heap.size → b < w2.heap.size := fun b hb => (by (first | omega | (simp only [zz] at *; omega))); have hc1 : ∀ b o, b < w.heap.size → w2.cell? ⟨b, o, none⟩ = w.cell? ⟨b, o, none⟩ := old_cell (by (repeat (first | exact Below.refl _ _ | assumption | refine below_drewN ?_ _ | refine below_drew ?_ | refine below_gr ?_ ?_ _ | refine below_alloc ?_ ?_ _ | refine Below.setCell ?_ ?_ _ | refine below_step ?_ (by assumption) ?_ | omega | (simp only [zz] at *; omega)))))
    | (go_at_call 58; refine (HNG.out _ (hD.ext (by (repeat (first | exact Below.refl _ _ | assumption | refine below_drewN ?_ _ | refine below_drew ?_ | refine below_gr ?_ ?_ _ | refine below_alloc ?_ ?_ _ | refine Below.setCell ?_ ?_ _ | refine below_step ?_ (by assumption) ?_ | omega | (simp only [zz] at *; omega)))))).mono ?_; rintro e w3 ⟨rfl, hb3⟩; replace hb3 := ex_below hb3; have hz3 := hb3.size))

  have hbw3 : Below w.heap.size w w3 := by (repeat (first | exact Below.refl _ _ | assumption | (refine below_gr ?_ (by (first | omega | (simp only [zz] at *; omega))) _) | (refine below_alloc ?_ (by (first | omega | (simp only [zz] at *; omega))) _) | (refine Below.setCell ?_ (by (first | omega | (simp only [zz] at *; omega))) _) | refine below_drewN ?_ _ | refine below_drew ?_ | (refine below_step ?_ (by assumption) (by (first | omega | (simp only [zz] at *; omega))))))
  have hS3 : SheetAt w3 s A (zs R) rc B (tz ts) d := hS1.ext (hb1.trans (hb3.mono hb1.size))
  have hB3 := hB.ext hbw3
  have hD3 := hD.ext hbw3
  clear hb1 hb3
  go_loopw [41] (fun t41 wr => ∃ k : Nat, k ≤ ps.length ∧ t41 = .int .i64 k ∧ (List.range k).any (m2B ps) = false ∧ Below w3.heap.size w3 wr) (fun t41 _ => ps.length - (intOf t41).toNat)
  case atStart => exact ⟨0, Nat.zero_le _, rfl, rfl, Below.refl _ _⟩
  case round =>
    obtain ⟨k, hk, rfl, hall, hb⟩ := hrel
    have hzr := hb.size
    by_cases hlt : k < ps.length
    · have hD1 := hD3.ext hb
      have hB1 := hB3.ext hb
      obtain ⟨tb, to, rfl, htb⟩ := hD1.form (by rw [tz_len]; omega)
      obtain ⟨S, sc, q0, q1, q2, hSx⟩ := hD1.at (k := k) (by rw [tz_len]; exact hlt)
      simp only [tz_at _ _ hlt, zs_len] at q0 q1 q2 hSx
      obtain ⟨P, hPe⟩ : ∃ P, ps[k].1 = P := ⟨_, rfl⟩
      rw [hPe] at q0 q2 hSx
      have hkd : (k : Int) ≤ (dd : Int) := by omega
      have HMk := hide (fun b w' h1 hb0 hc hC => HM2.out k S P sc b w' h1 hlt hPe hb0 hc hC)
      clear hPe
      cases hmm : m2B ps k
      · rw [hmm] at HMk
        have HMM := hide hmm
        clear hmm
        go_wp2_with (go_at_call 58; refine (HMk.out _ _ (hD1.ext (by (repeat (first | exact Below.refl _ _ | assumption | refine below_drewN ?_ _ | refine below_drew ?_ | refine below_gr ?_ ?_ _ | refine below_alloc ?_ ?_ _ | refine Below.setCell ?_ ?_ _ | refine below_step ?_ (by assumption) ?_ | omega | (simp only [zz] at *; omega))))) (by (first | omega | (simp only [zz]; omega) | (simp only [zz] at *; omega) | (simp; done) | (simp; omega))) (obj_at (heap_alloc_new _ _) 0 _ rfl) (hSx.ext (by (repeat (first | exact Below.refl _ _ | assumption | refine below_drewN ?_ _ | refine below_drew ?_ | refine below_gr ?_ ?_ _ | refine below_alloc ?_ ?_ _ | refine Below.setCell ?_ ?_ _ | refine below_step ?_ (by assumption) ?_ | omega | (simp only [zz] at *; omega)))))).mono ?_; rintro e w5 ⟨rfl, hb5⟩; replace hb5 := ex_below hb5; have hz5 := hb5.size)
        exact ⟨⟨k + 1, by omega, by go_num, none_succ hall HMM.out, by (repeat (first | exact Below.refl _ _ | assumption | (refine below_gr ?_ (by (first | omega | (simp only [zz] at *; omega))) _) | (refine below_alloc ?_ (by (first | omega | (simp only [zz] at *; omega))) _) | (refine Below.setCell ?_ (by (first | omega | (simp only [zz] at *; omega))) _) | refine below_drewN ?_ _ | refine below_drew ?_ | (refine below_step ?_ (by assumption) (by (first | omega | (simp only [zz] at *; omega))))))⟩, by simp [intOf]; omega⟩
      · rw [hmm] at HMk
        have HMM := hide hmm
        clear hmm
        go_wp2_with (go_at_call 58; refine (HMk.out _ _ (hD1.ext (by (repeat (first | exact Below.refl _ _ | assumption | refine below_drewN ?_ _ | refine below_drew ?_ | refine below_gr ?_ ?_ _ | refine below_alloc ?_ ?_ _ | refine Below.setCell ?_ ?_ _ | refine below_step ?_ (by assumption) ?_ | omega | (simp only [zz] at *; omega))))) (by (first | omega | (simp only [zz]; omega) | (simp only [zz] at *; omega) | (simp; done) | (simp; omega))) (obj_at (heap_alloc_new _ _) 0 _ rfl) (hSx.ext (by (repeat (first | exact Below.refl _ _ | assumption | refine below_drewN ?_ _ | refine below_drew ?_ | refine below_gr ?_ ?_ _ | refine below_alloc ?_ ?_ _ | refine Below.setCell ?_ ?_ _ | refine below_step ?_ (by assumption) ?_ | omega | (simp only [zz] at *; omega)))))).mono ?_; rintro e w5 ⟨rfl, hb5⟩; replace hb5 := ex_below hb5; have hz5 := hb5.size)
        go_ret
        exact gives_of (v_int (by rw [HV.out, if_pos (any_at hlt HMM.out)])) (by (repeat (first | exact Below.refl _ _ | assumption | refine below_drewN ?_ _ | refine below_drew ?_ | refine below_gr ?_ ?_ _ | refine below_alloc ?_ ?_ _ | refine Below.setCell ?_ ?_ _ | refine below_step ?_ (by assumption) ?_ | omega | (simp only [zz] at *; omega))))
    · have hkn : k = ps.length := by omega
      rw [hkn] at hall
      have H2 := hide hall
      clear hall hkn
      go_wp2
      clear hlt
      go_loopw [54] (fun t54 wr => ∃ k : Nat, k ≤ ps.length ∧ t54 = .int .i64 k ∧ (List.range k).any (m3B ts ps) = false ∧ Below w3.heap.size w3 wr) (fun t54 _ => ps.length - (intOf t54).toNat)
      case atStart => exact ⟨0, Nat.zero_le _, rfl, rfl, hb⟩
      case round =>
        clear hb hzr
        obtain ⟨k, hk, rfl, hall, hb⟩ := hrel
        have hzr := hb.size
        by_cases hlt : k < ps.length
        · have hD1 := hD3.ext hb
          have hB1 := hB3.ext hb
          obtain ⟨tb, to, rfl, htb⟩ := hD1.form (by rw [tz_len]; omega)
          obtain ⟨S, sc, q0, q1, q2, hSx⟩ := hD1.at (k := k) (by rw [tz_len]; exact hlt)
          simp only [tz_at _ _ hlt, zs_len] at q0 q1 q2 hSx
          obtain ⟨P, hPe⟩ : ∃ P, ps[k].1 = P := ⟨_, rfl⟩
          rw [hPe] at q0 q2 hSx
          have hkd : (k : Int) ≤ (dd : Int) := by omega
          have HMk := hide (fun b w' h1 hb0 hc hC => HM3.out k S P sc b w' h1 hlt hPe hb0 hc hC)
          clear hPe
          cases hmm : m3B ts ps k
          · rw [hmm] at HMk
            have HMM := hide hmm
            clear hmm
            go_wp2_with (go_at_call 58; refine (HMk.out _ _ (hB1.ext (by (repeat (first | exact Below.refl _ _ | assumption | refine below_drewN ?_ _ | refine below_drew ?_ | refine below_gr ?_ ?_ _ | refine below_alloc ?_ ?_ _ | refine Below.setCell ?_ ?_ _ | refine below_step ?_ (by assumption) ?_ | omega | (simp only [zz] at *; omega))))) (by (first | omega | (simp only [zz]; omega) | (simp only [zz] at *; omega) | (simp; done) | (simp; omega))) (obj_at (heap_alloc_new _ _) 0 _ rfl) (hSx.ext (by (repeat (first | exact Below.refl _ _ | assumption | refine below_drewN ?_ _ | refine below_drew ?_ | refine below_gr ?_ ?_ _ | refine below_alloc ?_ ?_ _ | refine Below.setCell ?_ ?_ _ | refine below_step ?_ (by assumption) ?_ | omega | (simp only [zz] at *; omega)))))).mono ?_; rintro e w5 ⟨rfl, hb5⟩; replace hb5 := ex_below hb5; have hz5 := hb5.size)
            exact ⟨⟨k + 1, by omega, by go_num, none_succ hall HMM.out, by (repeat (first | exact Below.refl _ _ | assumption | (refine below_gr ?_ (by (first | omega | (simp only [zz] at *; omega))) _) | (refine below_alloc ?_ (by (first | omega | (simp only [zz] at *; omega))) _) | (refine Below.setCell ?_ (by (first | omega | (simp only [zz] at *; omega))) _) | refine below_drewN ?_ _ | refine below_drew ?_ | (refine below_step ?_ (by assumption) (by (first | omega | (simp only [zz] at *; omega))))))⟩, by simp [intOf]; omega⟩
          · rw [hmm] at HMk
            have HMM := hide hmm
            clear hmm
            go_wp2_with (go_at_call 58; refine (HMk.out _ _ (hB1.ext (by (repeat (first | exact Below.refl _ _ | assumption | refine below_drewN ?_ _ | refine below_drew ?_ | refine below_gr ?_ ?_ _ | refine below_alloc ?_ ?_ _ | refine Below.setCell ?_ ?_ _ | refine below_step ?_ (by assumption) ?_ | omega | (simp only [zz] at *; omega))))) (by (first | omega | (simp only [zz]; omega) | (simp only [zz] at *; omega) | (simp; done) | (simp; omega))) (obj_at (heap_alloc_new _ _) 0 _ rfl) (hSx.ext (by (repeat (first | exact Below.refl _ _ | assumption | refine below_drewN ?_ _ | refine below_drew ?_ | refine below_gr ?_ ?_ _ | refine below_alloc ?_ ?_ _ | refine Below.setCell ?_ ?_ _ | refine below_step ?_ (by assumption) ?_ | omega | (simp only [zz] at *; omega)))))).mono ?_; rintro e w5 ⟨rfl, hb5⟩; replace hb5 := ex_below hb5; have hz5 := hb5.size)
            go_ret
            exact gives_of (v_int (by rw [HV.out, H2.out, if_neg (by simp), if_pos (any_at hlt HMM.out)])) (by (repeat (first | exact Below.refl _ _ | assumption | refine below_drewN ?_ _ | refine below_drew ?_ | refine below_gr ?_ ?_ _ | refine below_alloc ?_ ?_ _ | refine Below.setCell ?_ ?_ _ | refine below_step ?_ (by assumption) ?_ | omega | (simp only [zz] at *; omega))))
        · have hkn : k = ps.length := by omega
          rw [hkn] at hall
          have H3 := hide hall
          clear hall hkn
          have HZ0 := hide (show sizesTo ps 0 = 0 from rfl)
          go_wp2
          clear hlt
          go_loopw [14, 64] (fun t14 t64 wr => ∃ k : Nat, k ≤ ps.length ∧ t64 = .int .i64 k ∧ t14 = .int .i64 (sizesTo ps k : Nat) ∧ (List.range k).any (m4B ts ps) = false ∧ Below w3.heap.size w3 wr) (fun _ t64 _ => ps.length - (intOf t64).toNat)
          case atStart => exact ⟨0, Nat.zero_le _, rfl, by rw [HZ0.out]; rfl, rfl, hb⟩
          case round =>
            clear hb hzr
            obtain ⟨k, hk, rfl, rfl, hall, hb⟩ := hrel
            have hzr := hb.size
            have hsk := HSL.out k hk
            by_cases hlt : k < ps.length
            · have hD1 := hD3.ext hb
              have hSr := hS3.ext hb
              obtain ⟨tb, to, rfl, htb⟩ := hD1.form (by rw [tz_len]; omega)
              obtain ⟨S, sc, q0, q1, q2, hSx⟩ := hD1.at (k := k) (by rw [tz_len]; exact hlt)
              simp only [tz_at _ _ hlt, zs_len] at q0 q1 q2 hSx
              have hp := hide (HPB.out ps[k] (List.getElem_mem hlt))
              have hss := sizes_succ hlt
              have hm4 : m4B ts ps k = decide (unitsB ts ps[k].1 ≠ ps[k].2) := by unfold m4B; rw [getD_at _ _ hlt]
              generalize ps[k] = pk at *
              obtain ⟨P, u⟩ := pk
              simp only at q0 q1 q2 hSx hp hss hm4
              have HSZk := hide (fun w' (h : I64 w' S (zs P)) => HSZ.out S P sc w' hp.out h)
              have HUNk := hide (fun w' h h2 => HUN.out s w' S P sc h hp.out h2)
              have hsz5 : Bm.size P ≤ 7776 := by
                have := size_le P 5 (by have := hp.out.1; omega)
                omega
              have HSS := hide hss
              clear hss hp
              generalize Bm.size P = z at *
              generalize sizesTo ps k = q at *
              generalize unitsB ts P = n at *
              have hq0 : (0 : Int) ≤ (q : Int) := by omega
              have hq1 : (q : Int) ≤ 60466176 := by omega
              have hz0 : (0 : Int) ≤ (z : Int) := by omega
              have hz1 : (z : Int) ≤ 7776 := by omega
              cases hmm : m4B ts ps k
              · rw [hmm] at hm4
                have HMM := hide hmm
                have hnb : (((n : Nat) : Int) != ((u : Nat) : Int)) = false := by rw [neN]; exact hm4.symm
                clear hmm hm4
                go_wp2_with (go_at_call 62; refine (HSZk.out _ (hSx.ext (by (repeat (first | exact Below.refl _ _ | assumption | refine below_drewN ?_ _ | refine below_drew ?_ | refine below_gr ?_ ?_ _ | refine below_alloc ?_ ?_ _ | refine Below.setCell ?_ ?_ _ | refine below_step ?_ (by assumption) ?_ | omega | (simp only [zz] at *; omega)))))).mono ?_; rintro e w5 ⟨rfl, hb5⟩; replace hb5 := ex_below hb5; have hz5 := hb5.size; have hc5 := own_cell hb5 (b := wr.heap.size) (by (first | omega | (simp only [zz]; omega) | (simp only [zz] at *; omega) | (simp; done) | (simp; omega))))
                have e0 : w5.cell? ⟨wr.heap.size, 0, none⟩ = some (.slice S P.length sc) := (hc5 0).trans (obj_at (heap_alloc_new _ _) 0 _ rfl)
                have e1 : w5.cell? ⟨wr.heap.size, 1, none⟩ = some (.int .i64 (u : Nat)) := (hc5 1).trans (obj_at (heap_alloc_new _ _) 1 _ rfl)
                clear hc5
                have hlw5 : wr.heap.size < w5.heap.size := by rw [World.size_alloc] at hz5; omega
                have hb35 : Below w3.heap.size w3 w5 := by (repeat (first | exact Below.refl _ _ | assumption | (refine below_gr ?_ (by (first | omega | (simp only [zz] at *; omega))) _) | (refine below_alloc ?_ (by (first | omega | (simp only [zz] at *; omega))) _) | (refine Below.setCell ?_ (by (first | omega | (simp only [zz] at *; omega))) _) | refine below_drewN ?_ _ | refine below_drew ?_ | (refine below_step ?_ (by assumption) (by (first | omega | (simp only [zz] at *; omega))))))
                have hbr5 : Below wr.heap.size wr w5 := (below_alloc (Below.refl _ _) (Nat.le_refl _) _).trans (hb5.mono (by rw [World.size_alloc]; omega))
                have hSr5 := hSr.ext hbr5
                have hSx5 := hSx.ext hbr5
                refine wp_region_grow (by kernel_rfl) (by kernel_rfl) ?_
                repeat (go_big_quiet_step ((go_at_call 71; exact Gives.quiet (HUNk.out _ (hSr5.ext (by (repeat (first | exact Below.refl _ _ | assumption | refine below_drewN ?_ _ | refine below_drew ?_ | refine below_gr ?_ ?_ _ | refine below_alloc ?_ ?_ _ | refine Below.setCell ?_ ?_ _ | refine below_step ?_ (by assumption) ?_ | omega | (simp only [zz] at *; omega))))) (hSx5.ext (by (repeat (first | exact Below.refl _ _ | assumption | refine below_drewN ?_ _ | refine below_drew ?_ | refine below_gr ?_ ?_ _ | refine below_alloc ?_ ?_ _ | refine Below.setCell ?_ ?_ _ | refine below_step ?_ (by assumption) ?_ | omega | (simp only [zz] at *; omega)))))))))
                refine wpQuiet_nil ?_
                intro w6 hb2
                replace hb2 := ex_below hb2
                have hz2 := hb2.size
                (try simp only [zz] at hz2)
                have hlt2 : ∀ b, b < w5.heap.size → b < w6.heap.size := fun b hb => (by (first | omega | (simp only [zz] at *; omega)))
                have hc2 : ∀ b o, b < w5.heap.size → w6.cell? ⟨b, o, none⟩ = w5.cell? ⟨b, o, none⟩ := old_cell (by (repeat (first | exact Below.refl _ _ | assumption | refine below_drewN ?_ _ | refine below_drew ?_ | refine below_gr ?_ ?_ _ | refine below_alloc ?_ ?_ _ | refine Below.setCell ?_ ?_ _ | refine below_step ?_ (by assumption) ?_ | omega | (simp only [zz] at *; omega))))
                go_wp2
                exact ⟨⟨k + 1, by omega, by go_num, v_int (by rw [HSS.out]; omega), none_succ hall HMM.out, hb35.trans (hb2.mono hb35.size)⟩, by simp [intOf]; omega⟩
              · rw [hmm] at hm4
                have HMM := hide hmm
                have hnb : (((n : Nat) : Int) != ((u : Nat) : Int)) = true := by rw [neN]; exact hm4.symm
                clear hmm hm4
                go_wp2_with (go_at_call 62; refine (HSZk.out _ (hSx.ext (by (repeat (first | exact Below.refl _ _ | assumption | refine below_drewN ?_ _ | refine below_drew ?_ | refine below_gr ?_ ?_ _ | refine below_alloc ?_ ?_ _ | refine Below.setCell ?_ ?_ _ | refine below_step ?_ (by assumption) ?_ | omega | (simp only [zz] at *; omega)))))).mono ?_; rintro e w5 ⟨rfl, hb5⟩; replace hb5 := ex_below hb5; have hz5 := hb5.size; have hc5 := own_cell hb5 (b := wr.heap.size) (by (first | omega | (simp only [zz]; omega) | (simp only [zz] at *; omega) | (simp; done) | (simp; omega))))
                have e0 : w5.cell? ⟨wr.heap.size, 0, none⟩ = some (.slice S P.length sc) := (hc5 0).trans (obj_at (heap_alloc_new _ _) 0 _ rfl)
                have e1 : w5.cell? ⟨wr.heap.size, 1, none⟩ = some (.int .i64 (u : Nat)) := (hc5 1).trans (obj_at (heap_alloc_new _ _) 1 _ rfl)
                clear hc5
                have hlw5 : wr.heap.size < w5.heap.size := by rw [World.size_alloc] at hz5; omega
                have hb35 : Below w3.heap.size w3 w5 := by (repeat (first | exact Below.refl _ _ | assumption | (refine below_gr ?_ (by (first | omega | (simp only [zz] at *; omega))) _) | (refine below_alloc ?_ (by (first | omega | (simp only [zz] at *; omega))) _) | (refine Below.setCell ?_ (by (first | omega | (simp only [zz] at *; omega))) _) | refine below_drewN ?_ _ | refine below_drew ?_ | (refine below_step ?_ (by assumption) (by (first | omega | (simp only [zz] at *; omega))))))
                have hbr5 : Below wr.heap.size wr w5 := (below_alloc (Below.refl _ _) (Nat.le_refl _) _).trans (hb5.mono (by rw [World.size_alloc]; omega))
                have hSr5 := hSr.ext hbr5
                have hSx5 := hSx.ext hbr5
                refine wp_region_grow (by kernel_rfl) (by kernel_rfl) ?_
                repeat (go_big_quiet_step ((go_at_call 71; exact Gives.quiet (HUNk.out _ (hSr5.ext (by (repeat (first | exact Below.refl _ _ | assumption | refine below_drewN ?_ _ | refine below_drew ?_ | refine below_gr ?_ ?_ _ | refine below_alloc ?_ ?_ _ | refine Below.setCell ?_ ?_ _ | refine below_step ?_ (by assumption) ?_ | omega | (simp only [zz] at *; omega))))) (hSx5.ext (by (repeat (first | exact Below.refl _ _ | assumption | refine below_drewN ?_ _ | refine below_drew ?_ | refine below_gr ?_ ?_ _ | refine below_alloc ?_ ?_ _ | refine Below.setCell ?_ ?_ _ | refine below_step ?_ (by assumption) ?_ | omega | (simp only [zz] at *; omega)))))))))
                refine wpQuiet_nil ?_
                intro w6 hb2
                replace hb2 := ex_below hb2
                have hz2 := hb2.size
                (try simp only [zz] at hz2)
                have hlt2 : ∀ b, b < w5.heap.size → b < w6.heap.size := fun b hb => (by (first | omega | (simp only [zz] at *; omega)))
                have hc2 : ∀ b o, b < w5.heap.size → w6.cell? ⟨b, o, none⟩ = w5.cell? ⟨b, o, none⟩ := old_cell (by (repeat (first | exact Below.refl _ _ | assumption | refine below_drewN ?_ _ | refine below_drew ?_ | refine below_gr ?_ ?_ _ | refine below_alloc ?_ ?_ _ | refine Below.setCell ?_ ?_ _ | refine below_step ?_ (by assumption) ?_ | omega | (simp only [zz] at *; omega))))
                go_wp2
                go_ret
                exact gives_of (v_int (by rw [HV.out, H2.out, if_neg (by simp), H3.out, if_neg (by simp), if_pos (any_at hlt HMM.out)])) (hbw3.trans ((hb35.trans (hb2.mono hb35.size)).mono hbw3.size))
            · have hkn : k = ps.length := by omega
              have HKN := hide hkn
              rw [hkn] at hall hsk
              have H4 := hide hall
              have hSr := hS3.ext hb
              have HE := hide (show sizesTo ps k = sizesTo ps ps.length by rw [hkn])
              rw [HE.out]
              clear hall hkn HE
              generalize hq : sizesTo ps ps.length = q at *
              have HQ := hide hq
              have hq1 : (q : Int) ≤ 60466176 := by omega
              have hq0 : (0 : Int) ≤ (q : Int) := by omega
              have HSA := hide (fun Z zc w' (h : I64 w' Z (zs (allP R))) => size_any Z (allP R) zc w' h (by simp [allP]; omega) (allP_lt hok))
              have HZL := hide (zs_len (allP R))
              have HVV := hide (show mapR R ts ps = if q ≠ Bm.size (allP R) then 14 else 0 by rw [HV.out, H2.out, if_neg (by simp), H3.out, if_neg (by simp), H4.out, if_neg (by simp)])
              clear hq
              generalize Bm.size (allP R) = z at *
              have hqb : (((q : Nat) : Int) != ((z : Nat) : Int)) = decide (q ≠ z) := neN _ _
              by_cases hqz : q = z
              · rw [hqz] at hqb HVV ⊢
                simp only [ne_eq, not_true_eq_false, decide_false, if_false] at hqb HVV
                go_wp2_with (first
    | (go_at_call 72; refine (HAL.out s _ hSr).mono ?_; rintro e w4 ⟨Z, zc, rfl, hb4, hZ, _⟩; rw [HZL.out]; replace hb4 := ex_below hb4; have hz4 := hb4.size)
    | (go_at_call 62; refine (HSA.out _ _ _ hZ).mono ?_; rintro e w5 ⟨rfl, hb5⟩; replace hb5 := ex_below hb5; have hz5 := hb5.size))

                go_ret
                exact gives_of (v_int (by rw [HVV.out])) (by (repeat (first | exact Below.refl _ _ | assumption | refine below_drewN ?_ _ | refine below_drew ?_ | refine below_gr ?_ ?_ _ | refine below_alloc ?_ ?_ _ | refine Below.setCell ?_ ?_ _ | refine below_step ?_ (by assumption) ?_ | omega | (simp only [zz] at *; omega))))
              · rw [if_pos hqz] at HVV
                replace hqb : (((q : Nat) : Int) != ((z : Nat) : Int)) = true := by rw [hqb]; simpa using hqz
                clear hqz
                go_wp2_with (first
    | (go_at_call 72; refine (HAL.out s _ hSr).mono ?_; rintro e w4 ⟨Z, zc, rfl, hb4, hZ, _⟩; rw [HZL.out]; replace hb4 := ex_below hb4; have hz4 := hb4.size)
    | (go_at_call 62; refine (HSA.out _ _ _ hZ).mono ?_; rintro e w5 ⟨rfl, hb5⟩; replace hb5 := ex_below hb5; have hz5 := hb5.size))

                go_ret
                exact gives_of (v_int (by rw [HVV.out])) (by (repeat (first | exact Below.refl _ _ | assumption | refine below_drewN ?_ _ | refine below_drew ?_ | refine below_gr ?_ ?_ _ | refine below_alloc ?_ ?_ _ | refine Below.setCell ?_ ?_ _ | refine below_step ?_ (by assumption) ?_ | omega | (simp only [zz] at *; omega))))
end Go.Proofs.Ytlbkaeoagdbemaa
