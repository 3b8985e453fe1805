/- Proved here: the reference: whether parts are a map, a part of the proofs about the box laws. Conditions: those that each theorem names, no others. -/
import Derived.Test.YtlbkaeoagdbemaaP33
import Derived.WalkKit
import Derived.WalkSpells
import Derived.WalkLawsBesides
import Derived.Below
import Derived.Deep.QuietTactic
import Derived.BigQuiet
import Derived.Deep.Light
import Derived.Deep.RegionHeld3
import Derived.Test.YtlbkaeoagdbemaaP04
set_option linter.unusedSimpArgs false
set_option linter.unusedVariables false
namespace Go.Proofs.Ytlbkaeoagdbemaa
open Go.RowKit Go.Maps
/-- numbers by their places, as cells -/
def arrF (f : Nat → Int) (n : Nat) : Array Value := ((List.range n).map fun i => Value.int .i64 (f i)).toArray
theorem arrF_at (f : Nat → Int) (n k : Nat) (h : k < n) : (arrF f n)[k]? = some (.int .i64 (f k)) := by simp [arrF, h]
theorem arrF_congr {f g : Nat → Int} {n : Nat} (h : ∀ i, i < n → f i = g i) : arrF f n = arrF g n := by
  unfold arrF
  rw [List.map_congr_left (fun i hi => by rw [h i (List.mem_range.1 hi)])]
theorem arrF_set (f : Nat → Int) (n k : Nat) (h : k < n) (x : Int) : (arrF f n).setIfInBounds k (.int .i64 x) = arrF (fun i => if i = k then x else f i) n := by
  apply Array.ext
  · simp [arrF]
  · intro i h1 h2
    simp only [arrF, List.size_toArray, List.length_map, List.length_range, Array.size_setIfInBounds] at h1 h2
    by_cases e : i = k
    · subst e; simp [arrF]
    · simp [arrF, e, Ne.symm e, Array.getElem_setIfInBounds]
theorem arrF_zero (n : Nat) : (List.replicate n (Value.int .i64 0)).toArray = arrF (fun _ => 0) n := by
  unfold arrF
  rw [List.map_const', List.length_range]
def own3 (ps : List Bm.Tk) (L : List (List Nat)) (k i : Nat) : Nat → Int := fun j => if j < k then Bm.ownO ps (L.getD j []) else if j = k then Bm.ownS ps (L.getD k []) i else 0
def own2 (ps : List Bm.Tk) (L : List (List Nat)) (k : Nat) : Nat → Int := fun j => if j < k then Bm.ownO ps (L.getD j []) else 0
def ownA (ps : List Bm.Tk) (L : List (List Nat)) : Nat → Int := fun j => Bm.ownO ps (L.getD j [])
theorem own_start (ps : List Bm.Tk) (L : List (List Nat)) (n : Nat) : arrF (fun _ => 0) n = arrF (own2 ps L 0) n := arrF_congr fun i _ => by simp [own2]
theorem own_first (ps : List Bm.Tk) (L : List (List Nat)) (k n : Nat) (h : k < n) : (arrF (own2 ps L k) n).setIfInBounds k (.int .i64 (-1)) = arrF (own3 ps L k 0) n := by
  rw [arrF_set _ _ _ h]
  refine arrF_congr fun i _ => ?_
  by_cases e : i = k
  · subst e; simp [own3, Bm.ownS]
  · simp [own2, own3, e]
theorem own_same (ps : List Bm.Tk) (L : List (List Nat)) (k i n : Nat) (h : Bm.ownS ps (L.getD k []) (i + 1) = Bm.ownS ps (L.getD k []) i) : arrF (own3 ps L k (i + 1)) n = arrF (own3 ps L k i) n := arrF_congr fun j _ => by
  simp only [own3, h]
theorem own_put (ps : List Bm.Tk) (L : List (List Nat)) (k i n : Nat) (hk : k < n) (h : Bm.ownS ps (L.getD k []) (i + 1) = (i : Int)) : (arrF (own3 ps L k i) n).setIfInBounds k (.int .i64 (i : Nat)) = arrF (own3 ps L k (i + 1)) n := by
  rw [arrF_set _ _ _ hk]
  refine arrF_congr fun j _ => ?_
  by_cases e : j = k
  · subst e; simp only [own3, if_true, if_pos, Nat.lt_irrefl, if_false, h]
  · simp [own3, e]
theorem own_next (ps : List Bm.Tk) (L : List (List Nat)) (k n : Nat) : arrF (own3 ps L k ps.length) n = arrF (own2 ps L (k + 1)) n := arrF_congr fun j _ => by
  simp only [own2, own3]
  by_cases h1 : j < k
  · rw [if_pos h1, if_pos (by omega)]
  · rw [if_neg h1]
    by_cases h2 : j = k
    · subst h2; rw [if_pos rfl, if_pos (by omega)]; rfl
    · rw [if_neg h2, if_neg (by omega)]
theorem own_end (ps : List Bm.Tk) (L : List (List Nat)) : arrF (own2 ps L L.length) L.length = arrF (ownA ps L) L.length := arrF_congr fun j hj => by simp [own2, ownA, hj]
theorem own3_at (ps : List Bm.Tk) (L : List (List Nat)) (k i : Nat) : own3 ps L k i k = Bm.ownS ps (L.getD k []) i := by simp [own3]
theorem bOr12 : ∀ x, x < 4 → bits BinOp.or .i64 ((x : Nat) : Int) 1 = ((x ||| 1 : Nat) : Int) ∧ bits BinOp.or .i64 ((x : Nat) : Int) 2 = ((x ||| 2 : Nat) : Int) := by decide +kernel
set_option maxRecDepth 100000 in
set_option maxHeartbeats 8000000 in
theorem rcmap_ok (A : Option Addr) (R : List Nat) (c : Nat) (B : Option Addr) (ts : List Bm.Tk) (d : Nat) (D : Option Addr) (ps : List Bm.Tk) (dd : Nat) (w : World) (hA : I64 w A (zs R)) (hB : Tks w B (tz ts)) (hD : Tks w D (tz ps)) (h7 : ps.length ≤ 7776) (hps : ∀ t, t ∈ ps → Bm.isBox R t.1 = true) (hok : Ok R ts) :
    Calls Try.prog 31 #[.agg #[.slice A R.length c], .slice B ts.length d, .slice D ps.length dd] w (Gives w (.int .i64 (Bm.refMap (Bm.outs R) ts ps))) := by
  have HCT := hide (fun w' (h1 : I64 w' A (zs R)) (h2 : Tks w' B (tz ts)) => by
    have := rCheckTickets_any A (zs R) c B (tz ts) d w' h1 h2 hok.len.1 hok.len.2.1 hok.len.2.2
    rw [ok_chk hok, zs_len, tz_len] at this
    exact this)
  have hR5 := hok.h5
  have ht10 := hok.t10
  have ht10' : (ts.length : Int) ≤ 10 := by omega
  have HO := hide (fun w' (h : I64 w' A (zs R)) => Outcomes_any A R c w' h hok.h5 hok.r6)
  have HLE := hide (show (Bm.outs R).length ≤ 7776 by
    have h1 := Bm.outs_len_le hok.r6
    have h2 : 6 ^ R.length ≤ 6 ^ 5 := Nat.pow_le_pow_right (by omega) hR5
    omega)
  have HRL := hide (fun o' (ho : o' ∈ Bm.outs R) => (show o'.length = R.length ∧ ∀ i, i ∈ o' → i < 6 from ⟨Bm.outs_len ho, outs_lt hok.r6 ho⟩))
  have HUN := hide (fun Z zc o' w' (ho : o' ∈ Bm.outs R) (h1 : Tks w' B (tz ts)) (h2 : I64 w' Z (zs o')) => rUnits_any B ts d Z o' zc w' h1 h2 (fun t ht => ⟨by rw [(HRL.out o' ho).1, hok.htl t ht]; exact Nat.le_refl _, by rw [hok.htl t ht]; omega⟩) hok.ht6 (HRL.out o' ho).2 hok.t10 hok.hu)
  have HRW := hide (fun k (hk : k < ts.length) o (ho : o ∈ Bm.outs R) Z zc X xc w' (h1 : I64 w' Z (zs (ts[k].1))) (h2 : I64 w' X (zs o)) => rWrong_any Z ts[k].1 zc X o xc w' h1 h2 (by rw [hok.htl _ (List.getElem_mem hk), (HRL.out o ho).1]; exact Nat.le_refl _) (by rw [hok.htl _ (List.getElem_mem hk)]; omega) (hok.ht6 _ (List.getElem_mem hk)) (HRL.out o ho).2)
  have HUL := hide (fun o' => (show Bm.uni ts o' ≤ 10000 by have := Bm.uni_le hok.hu o'; omega))
  have HAB := hide (fun w' (h1 : I64 w' A (zs R)) (h2 : Tks w' D (tz ps)) => by
    have := rAreBoxes_any A (zs R) c D (tz ps) dd w' h1 h2 (by rw [zs_len]; omega) (by rw [tz_len]; omega) (fun t ht => by obtain ⟨t', ht', rfl⟩ := List.mem_map.1 ht; simp only [zs_len]; rw [Bm.isBox_len (hps t' ht')]; omega) (fun k h => by rw [zs_len] at h; rw [zs_at _ _ h]; have h1 := hok.r1 _ (List.getElem_mem h); have h6 := hok.r6 _ (List.getElem_mem h); omega)
    rw [zs_len, tz_len, boxes_fine hok hps] at this
    exact this)
  have HRP := hide (fun k (hk : k < ps.length) o (ho : o ∈ Bm.outs R) Z zc X xc w' (h1 : I64 w' Z (zs (ps[k].1))) (h2 : I64 w' X (zs o)) => rWrong_any Z ps[k].1 zc X o xc w' h1 h2 (by rw [Bm.isBox_len (hps _ (List.getElem_mem hk)), (HRL.out o ho).1]; exact Nat.le_refl _) (by rw [Bm.isBox_len (hps _ (List.getElem_mem hk))]; omega) (box64 hok.r6 (hps _ (List.getElem_mem hk))) (HRL.out o ho).2)
  have HRM := hide (show Bm.refMap (Bm.outs R) ts ps = if (Bm.outs R).any (Bm.clashB ps) = true then 11 else if ts.any (Bm.m3T ps (Bm.outs R)) = true then 16 else if (Bm.outs R).any (Bm.m4O ts ps) = true then 14 else 0 from rfl)
  have hlb : decide ((ps.length : Int) > 7776) = false := by simp; omega
  have hli : (ps.length : Int) ≤ 7776 := by omega
  have hl0 := HLE.out
  have hmk := make_zeros (Bm.outs R).length (by omega)
  clear hok hps hl0
  generalize Bm.refMap (Bm.outs R) ts ps = fin at *
  generalize Bm.outs R = L at *
  go_enter Try.func31, Try.ntmps31
  go_wp2_with (first
    | (go_at_call 24; refine (HCT.out _ (hA.ext (by (repeat (first | exact Below.refl _ _ | assumption | refine below_drewN ?_ _ | refine below_drew ?_ | refine below_gr ?_ ?_ _ | refine below_alloc ?_ ?_ _ | refine Below.setCell ?_ ?_ _ | refine below_step ?_ (by assumption) ?_ | omega | (simp only [zz] at *; omega))))) (hB.ext (by (repeat (first | exact Below.refl _ _ | assumption | refine below_drewN ?_ _ | refine below_drew ?_ | refine below_gr ?_ ?_ _ | refine below_alloc ?_ ?_ _ | refine Below.setCell ?_ ?_ _ | refine below_step ?_ (by assumption) ?_ | omega | (simp only [zz] at *; omega)))))).mono ?_; rintro e w1 ⟨rfl, hb1⟩; replace hb1 := ex_below hb1; have hz1 := hb1.size; (try simp only [zz] at hz1); have hs1 : w.heap.size < w1.heap.size := (by (first | omega | (simp only [zz] at *; omega))); have ho1 := own_cell hb1 (b := w.heap.size) (by (first | omega | (simp only [zz] at *; omega))); have hq1 := own_frozen hb1 (b := w.heap.size) (by (first | omega | (simp only [zz] at *; omega))); have hlt1 : ∀ b, b < w.heap.size → b < w1.heap.size := fun b hb => (by (first | omega | (simp only [zz] at *; omega))); have hc1 : ∀ b o, b < w.heap.size → w1.cell? ⟨b, o, none⟩ = w.cell? ⟨b, o, none⟩ := old_cell (by (repeat (first | exact Below.refl _ _ | assumption | refine below_drewN ?_ _ | refine below_drew ?_ | refine below_gr ?_ ?_ _ | refine below_alloc ?_ ?_ _ | refine Below.setCell ?_ ?_ _ | refine below_step ?_ (by assumption) ?_ | omega | (simp only [zz] at *; omega)))))
    | (go_at_call 60; refine (HAB.out _ (hA.ext (by (repeat (first | exact Below.refl _ _ | assumption | refine below_drewN ?_ _ | refine below_drew ?_ | refine below_gr ?_ ?_ _ | refine below_alloc ?_ ?_ _ | refine Below.setCell ?_ ?_ _ | refine below_step ?_ (by assumption) ?_ | omega | (simp only [zz] at *; omega))))) (hD.ext (by (repeat (first | exact Below.refl _ _ | assumption | refine below_drewN ?_ _ | refine below_drew ?_ | refine below_gr ?_ ?_ _ | refine below_alloc ?_ ?_ _ | refine Below.setCell ?_ ?_ _ | refine below_step ?_ (by assumption) ?_ | omega | (simp only [zz] at *; omega)))))).mono ?_; rintro e w2 ⟨rfl, hb2⟩; replace hb2 := ex_below hb2; have hz2 := hb2.size; (try simp only [zz] at hz2); have hs2 : w.heap.size < w2.heap.size := (by (first | omega | (simp only [zz] at *; omega))); have ho2 := own_cell hb2 (b := w.heap.size) (by (first | omega | (simp only [zz] at *; omega))); have hq2 := own_frozen hb2 (b := w.heap.size) (by (first | omega | (simp only [zz] at *; omega))); have hlt2 : ∀ b, b < w.heap.size → b < w2.heap.size := fun b hb => (by (first | omega | (simp only [zz] at *; omega))); have hc2 : ∀ b o, b < w.heap.size → w2.cell? ⟨b, o, none⟩ = w.cell? ⟨b, o, none⟩ := old_cell (by (repeat (first | exact Below.refl _ _ | assumption | refine below_drewN ?_ _ | refine below_drew ?_ | refine below_gr ?_ ?_ _ | refine below_alloc ?_ ?_ _ | refine Below.setCell ?_ ?_ _ | refine below_step ?_ (by assumption) ?_ | omega | (simp only [zz] at *; omega))))))

  have hbw : Below w.heap.size w w2 := by (repeat (first | exact Below.refl _ _ | assumption | (refine below_gr ?_ (by (first | omega | (simp only [zz] at *; omega))) _) | (refine below_alloc ?_ (by (first | omega | (simp only [zz] at *; omega))) _) | (refine Below.setCell ?_ (by (first | omega | (simp only [zz] at *; omega))) _) | refine below_drewN ?_ _ | refine below_drew ?_ | (refine below_step ?_ (by assumption) (by (first | omega | (simp only [zz] at *; omega))))))
  have e0 : w2.cell? ⟨w.heap.size, 0, none⟩ = some (.slice A R.length c) := by simp [go_sem, *]
  have hn2 : w.heap.size < w2.heap.size := by assumption
  replace hD := hD.ext hbw
  replace hA := hA.ext hbw
  replace hB := hB.ext hbw
  clear hb1 hb2 hc1 hc2 hlt1 hlt2 HAB HCT
  go_loopw [7] (fun i wr => ∃ k : Nat, k ≤ ps.length ∧ i = .int .i64 (k : Nat) ∧ wr = w2) (fun i _ => ps.length - (intOf i).toNat)
  case atStart => exact ⟨0, Nat.zero_le _, rfl, rfl⟩
  case round =>
    obtain ⟨k, hk, rfl, rfl⟩ := hrel
    by_cases hlt : k < ps.length
    · obtain ⟨tb, to, rfl, htb⟩ := hD.form (by rw [tz_len]; omega)
      obtain ⟨S, sc, q0, q1, q2, hSx⟩ := hD.at (k := k) (by rw [tz_len]; exact hlt)
      simp only [tz_at _ _ hlt] at q1
      clear q0 q2 hSx
      generalize ps[k].2 = x at *
      go_wp2
      exact ⟨⟨k + 1, by omega, by go_num, by trivial⟩, by simp [intOf]; omega⟩
    · have hnl : ¬ k < ps.length := hlt
      go_wp2_with (first
    | (go_at_call 64; refine (HO.out _ (hA.ext (by (repeat (first | exact Below.refl _ _ | assumption | refine below_drewN ?_ _ | refine below_drew ?_ | refine below_gr ?_ ?_ _ | refine below_alloc ?_ ?_ _ | refine Below.setCell ?_ ?_ _ | refine below_step ?_ (by assumption) ?_ | omega | (simp only [zz] at *; omega)))))).mono ?_; rintro e w3 ⟨AO, cO, rfl, hb3, hRA⟩; replace hb3 := ex_below hb3; have hz3 := hb3.size; (try simp only [zz] at hz3); have hlt3 : ∀ b, b < wr.heap.size → b < w3.heap.size := fun b hb => (by (first | omega | (simp only [zz] at *; omega))); have hc3 : ∀ b o, b < wr.heap.size → w3.cell? ⟨b, o, none⟩ = wr.cell? ⟨b, o, none⟩ := old_cell (by (repeat (first | exact Below.refl _ _ | assumption | refine below_drewN ?_ _ | refine below_drew ?_ | refine below_gr ?_ ?_ _ | refine below_alloc ?_ ?_ _ | refine Below.setCell ?_ ?_ _ | refine below_step ?_ (by assumption) ?_ | omega | (simp only [zz] at *; omega)))); rw [natR_len]))

      obtain ⟨W0, hW0⟩ : ∃ W0, (w3.alloc (.cells (List.replicate L.length (.int .i64 0)).toArray 3)) = W0 := ⟨_, rfl⟩
      have hW0' : (w3.alloc (.cells (Array.replicate L.length (.int .i64 0)) 3)) = W0 := by rw [← hW0]; simp
      have hb23 : Below wr.heap.size wr w3 := by (repeat (first | exact Below.refl _ _ | assumption | (refine below_gr ?_ (by (first | omega | (simp only [zz] at *; omega))) _) | (refine below_alloc ?_ (by (first | omega | (simp only [zz] at *; omega))) _) | (refine Below.setCell ?_ (by (first | omega | (simp only [zz] at *; omega))) _) | refine below_drewN ?_ _ | refine below_drew ?_ | (refine below_step ?_ (by assumption) (by (first | omega | (simp only [zz] at *; omega))))))
      have hb30 : Below w3.heap.size w3 W0 := by rw [← hW0]; (repeat (first | exact Below.refl _ _ | assumption | (refine below_gr ?_ (by (first | omega | (simp only [zz] at *; omega))) _) | (refine below_alloc ?_ (by (first | omega | (simp only [zz] at *; omega))) _) | (refine Below.setCell ?_ (by (first | omega | (simp only [zz] at *; omega))) _) | refine below_drewN ?_ _ | refine below_drew ?_ | (refine below_step ?_ (by assumption) (by (first | omega | (simp only [zz] at *; omega))))))
      have hI9 : W0.heap[w3.heap.size]? = some (.cells (arrF (own2 ps L 0) L.length) 3 (0, 0)) := by rw [← hW0, ← own_start, ← arrF_zero]; exact heap_alloc_new _ _
      have hz3 := hb23.size
      have e3 := Below.blk hb23 hn2 e0
      replace hD := hD.ext hb23
      replace hB := hB.ext hb23
      have hbw3 : Below w.heap.size w w3 := hbw.trans (hb23.mono hbw.size)
      have hlen := HLE.out
      have hlen' : (L.length : Int) ≤ 7776 := by omega
      try rw [hW0]
      try rw [hW0']
      clear hW0 hW0' hb3 hb23 hbw e0 hA HO HLE hmk hc3 hlt3 hnl hlt
      have hwb : w.heap.size < w3.heap.size := by omega
      go_loopw [10] (fun i wr => ∃ k : Nat, k ≤ L.length ∧ i = .int .i64 (k : Nat) ∧ (L.take k).all (fun o => !Bm.clashB ps o) = true ∧ wr.heap[w3.heap.size]? = some (.cells (arrF (own2 ps L k) L.length) 3 (0, 0)) ∧ Below w3.heap.size w3 wr) (fun i _ => L.length - (intOf i).toNat)
      case atStart => exact ⟨0, Nat.zero_le _, rfl, rfl, hI9, hb30⟩
      case round =>
        clear hI9 hb30
        obtain ⟨k, hk, rfl, hall, hI, hb⟩ := hrel
        have hbz := hb.size
        have hlI := obj_lt hI
        by_cases hlt : k < L.length
        · have hc9 := obj_at hI k _ (arrF_at _ _ k hlt)
          have hf9 := obj_fz hI k
          have HI3 := hide ((set_obj hI k (.int .i64 (-1))).trans (by rw [own_first ps L k L.length hlt]))
          have HGx := hide (all_good (f := fun o => !Bm.clashB ps o) hlt hall)
          have HBx := hide (fun h : Bm.clashB ps L[k] = true => (show fin = 11 by rw [HRM.out, if_pos (List.any_eq_true.2 ⟨_, List.getElem_mem hlt, h⟩)]))
          have HCL := hide (show Bm.clashB ps L[k] = (List.range ps.length).any (Bm.hitB ps L[k]) from rfl)
          have HGD := hide (getD_at L k hlt [])
          have hmem := List.getElem_mem hlt
          have HRPk := hide (fun i (hi : i < ps.length) Z zc X xc w' (h1 : I64 w' Z (zs (ps[i].1))) (h2 : I64 w' X (zs L[k])) => HRP.out i hi L[k] hmem Z zc X xc w' h1 h2)
          have hki : (k : Int) < (L.length : Int) := by omega
          clear hall hI hmem
          obtain ⟨ob, oo, rfl, hol⟩ := rowsA_form hRA (by omega)
          obtain ⟨P, dP, hcP, hIP0⟩ := rowsA_in hRA k hlt
          generalize L[k] = o at *
          go_wp2
          have hbk : Below w3.heap.size w3 (wr.setCell ⟨w3.heap.size, k, none⟩ (.int .i64 (-1))) := Below.setCell (p := ⟨w3.heap.size, k, none⟩) hb (Nat.le_refl _) _
          have hI3 := HI3.out
          obtain ⟨Wk, hWk⟩ : ∃ Wk, wr.setCell ⟨w3.heap.size, k, none⟩ (.int .i64 (-1)) = Wk := ⟨_, rfl⟩
          rw [hWk] at hI3 hbk ⊢
          clear hWk HI3 hb hbz hc9 hf9 hlI
          go_loopw [11] (fun i wr => ∃ m : Nat, m ≤ ps.length ∧ i = .int .i64 (m : Nat) ∧ (List.range m).any (Bm.hitB ps o) = false ∧ wr.heap[w3.heap.size]? = some (.cells (arrF (own3 ps L k m) L.length) 3 (0, 0)) ∧ Below w3.heap.size w3 wr) (fun i _ => ps.length - (intOf i).toNat)
          case atStart => exact ⟨0, Nat.zero_le _, rfl, rfl, hI3, hbk⟩
          case round =>
            clear hI3 hbk
            obtain ⟨m, hm, rfl, hall, hI, hb⟩ := hrel
            have hbz := hb.size
            have hlI := obj_lt hI
            by_cases hltm : m < ps.length
            · have hc9 := obj_at hI k _ (arrF_at _ _ k hlt)
              have hf9 := obj_fz hI k
              have hD1 := hD.ext hb
              obtain ⟨tb, to, rfl, htb⟩ := hD1.form (by rw [tz_len]; omega)
              obtain ⟨S, sc, q0, q1, q2, hSx⟩ := hD1.at (k := m) (by rw [tz_len]; exact hltm)
              simp only [tz_at _ _ hltm, zs_len] at q0 hSx
              have hcPr := (hb.cell (p := ⟨ob, oo + k, none⟩) hol).trans hcP
              have hIP := hIP0.ext hb
              have HRW1 := hide (fun Z zc X xc w' h1 h2 => HRPk.out m hltm Z zc X xc w' h1 h2)
              have HOS := hide (show Bm.ownS ps (L.getD k []) (m + 1) = if Bm.wrongN ps[m].1 o = 0 then (m : Int) else Bm.ownS ps (L.getD k []) m by rw [Bm.ownS, getD_at _ _ hltm, HGD.out])
              have HHB := hide (show Bm.hitB ps o m = (decide (Bm.wrongN ps[m].1 o = 0) && decide (0 ≤ Bm.ownS ps o m)) by unfold Bm.hitB; rw [getD_at _ _ hltm])
              have HNS := hide (fun h : Bm.hitB ps o m = false => none_succ hall h)
              have HFI := hide (fun h : Bm.hitB ps o m = true => HBx.out (by rw [HCL.out]; exact any_at hltm h))
              rw [own3_at, HGD.out] at hc9
              have hosl := Bm.ownS_lt ps o m
              have htbr : tb < wr.heap.size := htb
              have holr : ob < wr.heap.size := by omega
              clear q1 q2 hD1
              generalize hwm : Bm.wrongN ps[m].1 o = wn at *
              clear hwm
              generalize ps[m].1 = T at *
              by_cases hw0 : wn = 0
              · subst hw0
                have hd : ¬ (0 : Int) < ((0 : Nat) : Int) := by simp
                go_wp2
                refine wp_region_grow (by kernel_rfl) (by kernel_rfl) ?_
                repeat (go_big_quiet_step ((go_at_call 51; exact Gives.quiet (HRW1.out _ _ _ _ _ (hSx.ext (by (repeat (first | exact Below.refl _ _ | assumption | refine below_drewN ?_ _ | refine below_drew ?_ | refine below_gr ?_ ?_ _ | refine below_alloc ?_ ?_ _ | refine Below.setCell ?_ ?_ _ | refine below_step ?_ (by assumption) ?_ | omega | (simp only [zz] at *; omega))))) (hIP.ext (by (repeat (first | exact Below.refl _ _ | assumption | refine below_drewN ?_ _ | refine below_drew ?_ | refine below_gr ?_ ?_ _ | refine below_alloc ?_ ?_ _ | refine Below.setCell ?_ ?_ _ | refine below_step ?_ (by assumption) ?_ | omega | (simp only [zz] at *; omega)))))))))
                refine wpQuiet_nil ?_
                intro w5 hb5
                replace hb5 := ex_below hb5
                have hz5 := hb5.size
                (try simp only [zz] at hz5)
                have hlt5 : ∀ b, b < wr.heap.size → b < w5.heap.size := fun b hb => (by (first | omega | (simp only [zz] at *; omega)))
                have hc5 : ∀ b o, b < wr.heap.size → w5.cell? ⟨b, o, none⟩ = wr.cell? ⟨b, o, none⟩ := old_cell (by (repeat (first | exact Below.refl _ _ | assumption | refine below_drewN ?_ _ | refine below_drew ?_ | refine below_gr ?_ ?_ _ | refine below_alloc ?_ ?_ _ | refine Below.setCell ?_ ?_ _ | refine below_step ?_ (by assumption) ?_ | omega | (simp only [zz] at *; omega))))
                have hI5 := (hb5.block _ hlI).trans hI
                have hc5 := (hb5.cell (p := ⟨w3.heap.size, k, none⟩) hlI).trans hc9
                have hf5 := obj_fz hI5 k
                by_cases hpos : 0 ≤ Bm.ownS ps o m
                · have hv := hide (HFI.out (by rw [HHB.out]; simpa using hpos))
                  clear HHB HNS HFI
                  generalize Bm.ownS ps o m = x at *
                  go_wp2
                  go_ret
                  exact gives_of (v_int hv.out.symm) (hbw3.trans ((hb.trans (hb5.mono hbz)).mono hbw3.size))
                · have hng := HNS.out (by rw [HHB.out]; simpa using hpos)
                  have hput := own_put ps L k m L.length hlt (by rw [HOS.out]; simp)
                  have hSI := hide ((set_obj hI5 k (.int .i64 (m : Nat))).trans (by rw [hput]))
                  clear HHB HNS HFI hput
                  generalize Bm.ownS ps o m = x at *
                  go_wp2
                  exact ⟨⟨m + 1, by omega, by go_num, hng, hSI.out, Below.setCell (p := ⟨w3.heap.size, k, none⟩) (hb.trans (hb5.mono hbz)) (Nat.le_refl _) _⟩, by simp [intOf]; omega⟩
              · have hd : (0 : Int) < (wn : Int) := by omega
                have hng := HNS.out (by rw [HHB.out]; simp [hw0])
                have hsm := own_same ps L k m L.length (by rw [HOS.out, if_neg hw0])
                clear HHB HNS HFI hw0
                go_wp2
                refine wp_region_grow (by kernel_rfl) (by kernel_rfl) ?_
                repeat (go_big_quiet_step ((go_at_call 51; exact Gives.quiet (HRW1.out _ _ _ _ _ (hSx.ext (by (repeat (first | exact Below.refl _ _ | assumption | refine below_drewN ?_ _ | refine below_drew ?_ | refine below_gr ?_ ?_ _ | refine below_alloc ?_ ?_ _ | refine Below.setCell ?_ ?_ _ | refine below_step ?_ (by assumption) ?_ | omega | (simp only [zz] at *; omega))))) (hIP.ext (by (repeat (first | exact Below.refl _ _ | assumption | refine below_drewN ?_ _ | refine below_drew ?_ | refine below_gr ?_ ?_ _ | refine below_alloc ?_ ?_ _ | refine Below.setCell ?_ ?_ _ | refine below_step ?_ (by assumption) ?_ | omega | (simp only [zz] at *; omega)))))))))
                refine wpQuiet_nil ?_
                intro w5 hb5
                replace hb5 := ex_below hb5
                have hz5 := hb5.size
                (try simp only [zz] at hz5)
                have hlt5 : ∀ b, b < wr.heap.size → b < w5.heap.size := fun b hb => (by (first | omega | (simp only [zz] at *; omega)))
                have hc5 : ∀ b o, b < wr.heap.size → w5.cell? ⟨b, o, none⟩ = wr.cell? ⟨b, o, none⟩ := old_cell (by (repeat (first | exact Below.refl _ _ | assumption | refine below_drewN ?_ _ | refine below_drew ?_ | refine below_gr ?_ ?_ _ | refine below_alloc ?_ ?_ _ | refine Below.setCell ?_ ?_ _ | refine below_step ?_ (by assumption) ?_ | omega | (simp only [zz] at *; omega))))
                have hI5 := (hb5.block _ hlI).trans hI
                rw [← hsm] at hI5
                have HI5 := hide hI5
                clear hsm hI5
                go_wp2
                exact ⟨⟨m + 1, by omega, by go_num, hng, HI5.out, hb.trans (hb5.mono hbz)⟩, by simp [intOf]; omega⟩
            · have hml : m = ps.length := by omega
              have hng := HGx.out (by rw [HCL.out, ← hml, hall]; rfl)
              rw [hml, own_next ps L k L.length] at hI
              clear hml hall
              go_wp2
              exact ⟨⟨k + 1, by omega, by go_num, hng, hI, hb⟩, by simp [intOf]; omega⟩
        · have hkl : k = L.length := by omega
          have hnl : ¬ k < L.length := hlt
          have HRM2 := hide (show fin = if ts.any (Bm.m3T ps L) = true then 16 else if L.any (Bm.m4O ts ps) = true then 14 else 0 by
            rw [HRM.out, if_neg]
            rw [hkl, List.take_length, List.all_eq_true] at hall
            simp only [Bool.not_eq_true, List.any_eq_false]
            intro o ho
            simpa using hall o ho)
          rw [hkl, own_end] at hI
          clear hall hkl HRM
          go_wp2
          go_loopw [12] (fun i wr => ∃ t : Nat, t ≤ ts.length ∧ i = .int .i64 (t : Nat) ∧ (ts.take t).all (fun tk => !Bm.m3T ps L tk) = true ∧ wr.heap[w3.heap.size]? = some (.cells (arrF (ownA ps L) L.length) 3 (0, 0)) ∧ Below w3.heap.size w3 wr) (fun i _ => ts.length - (intOf i).toNat)
          case atStart => exact ⟨0, Nat.zero_le _, rfl, rfl, hI, hb⟩
          case round =>
            clear hI hb hlI hbz
            obtain ⟨t, ht, rfl, hall, hI, hb⟩ := hrel
            have hbz := hb.size
            have hlI := obj_lt hI
            by_cases hltt : t < ts.length
            · have HGt := hide (all_good (f := fun tk => !Bm.m3T ps L tk) hltt hall)
              have HBt := hide (fun h : Bm.m3T ps L ts[t] = true => (show fin = 16 by rw [HRM2.out, if_pos (List.any_eq_true.2 ⟨_, List.getElem_mem hltt, h⟩)]))
              have HMT := hide (show Bm.m3T ps L ts[t] = (List.range L.length).any (Bm.m3K ps ts[t] L) from rfl)
              have HRWt := hide (fun o (ho : o ∈ L) Z zc X xc w' (h1 : I64 w' Z (zs (ts[t].1))) (h2 : I64 w' X (zs o)) => HRW.out t hltt o ho Z zc X xc w' h1 h2)
              have hB1 := hB.ext hb
              obtain ⟨tb, to, rfl, htb⟩ := hB.form (by rw [tz_len]; omega)
              obtain ⟨S, sc, q0, q1, q2, hSx0⟩ := hB.at (k := t) (by rw [tz_len]; exact hltt)
              simp only [tz_at _ _ hltt, zs_len] at q0 hSx0
              have hmk2 := make_zeros ps.length (by omega)
              have HTK := hide (rfl : ts[t] = ts[t])
              clear hall q1 q2 hB1
              generalize ts[t] = tk at *
              go_wp2
              have hbA : Below w3.heap.size w3 (wr.alloc (.cells (List.replicate ps.length (.int .i64 0)).toArray 3)) := below_alloc hb hbz _
              have hIA : (wr.alloc (.cells (List.replicate ps.length (.int .i64 0)).toArray 3)).heap[w3.heap.size]? = some (.cells (arrF (ownA ps L) L.length) 3 (0, 0)) := by rw [Below.heap_alloc _ _ _ (by omega)]; exact hI
              have hSA : (wr.alloc (.cells (List.replicate ps.length (.int .i64 0)).toArray 3)).heap[wr.heap.size]? = some (.cells (arrF (fun i => ((Bm.seenT ps tk L 0 i : Nat) : Int)) ps.length) 3 (0, 0)) := by
                rw [show arrF (fun i => ((Bm.seenT ps tk L 0 i : Nat) : Int)) ps.length = arrF (fun _ => 0) ps.length from arrF_congr fun i _ => by simp [Bm.seenT], ← arrF_zero]
                exact heap_alloc_new _ _
              obtain ⟨W1, hW1⟩ : ∃ W1, (wr.alloc (.cells (List.replicate ps.length (.int .i64 0)).toArray 3)) = W1 := ⟨_, rfl⟩
              have hW1' : (wr.alloc (.cells (Array.replicate ps.length (.int .i64 0)) 3)) = W1 := by rw [← hW1]; simp
              rw [hW1] at hbA hIA hSA
              try rw [hW1]
              try rw [hW1']
              clear hW1 hW1' hb hI hmk2
              obtain ⟨b13, hb13⟩ : ∃ b13, wr.heap.size = b13 := ⟨_, rfl⟩
              rw [hb13] at hSA hlI hbz ⊢
              have hne13 : b13 ≠ w3.heap.size := by omega
              have hne9 : w3.heap.size ≠ b13 := by omega
              clear hb13
              go_loopw [14] (fun i wr => ∃ k : Nat, k ≤ L.length ∧ i = .int .i64 (k : Nat) ∧ (List.range k).any (Bm.m3K ps tk L) = false ∧ wr.heap[b13]? = some (.cells (arrF (fun i => ((Bm.seenT ps tk L k i : Nat) : Int)) ps.length) 3 (0, 0)) ∧ wr.heap[w3.heap.size]? = some (.cells (arrF (ownA ps L) L.length) 3 (0, 0)) ∧ Below w3.heap.size w3 wr) (fun i _ => L.length - (intOf i).toNat)
              case atStart => exact ⟨0, Nat.zero_le _, rfl, rfl, hSA, hIA, hbA⟩
              case round =>
                clear hSA hIA hbA
                obtain ⟨k, hk, rfl, hall, hS, hI, hb⟩ := hrel
                have hbz2 := hb.size
                have hlS := obj_lt hS
                have hlI2 := obj_lt hI
                by_cases hlt : k < L.length
                · have hc9 := obj_at hI k _ (arrF_at _ _ k hlt)
                  obtain ⟨ob, oo, rfl, hol⟩ := rowsA_form hRA (by omega)
                  obtain ⟨P, dP, hcP, hIP0⟩ := rowsA_in hRA k hlt
                  have hcPr := (hb.cell (p := ⟨ob, oo + k, none⟩) hol).trans hcP
                  have hIP := hIP0.ext hb
                  have hSx := hSx0.ext hb
                  have htbr : tb < wr.heap.size := by omega
                  have holr : ob < wr.heap.size := by omega
                  have q0r : wr.cell? ⟨tb, to + t * 2, none⟩ = _ := (hb.cell (p := ⟨tb, to + t * 2, none⟩) htb).trans q0
                  have HWR := hide (fun Z zc X xc w' (h1 : I64 w' Z (zs tk.1)) (h2 : I64 w' X (zs L[k])) => HRWt.out L[k] (List.getElem_mem hlt) Z zc X xc w' h1 h2)
                  have hgd := getD_at L k hlt []
                  have hki : (k : Int) < (L.length : Int) := by omega
                  have HMK := hide (show Bm.m3K ps tk L k = (decide (0 ≤ Bm.ownO ps L[k]) && decide (Bm.seenT ps tk L (k + 1) (Bm.ownO ps L[k]).toNat = 3)) by unfold Bm.m3K; rw [hgd])
                  have HST := hide (show Bm.seenT ps tk L (k + 1) = if Bm.ownO ps L[k] < 0 then Bm.seenT ps tk L k else fun i => if i = (Bm.ownO ps L[k]).toNat then Bm.seenT ps tk L k i ||| (if Bm.wrongN tk.1 L[k] = 0 then 1 else 2) else Bm.seenT ps tk L k i by rw [Bm.seenT, hgd])
                  have HSL := hide (Bm.seenT_le ps tk L k)
                  have HNS := hide (fun h : Bm.m3K ps tk L k = false => none_succ hall h)
                  have HFI := hide (fun h : Bm.m3K ps tk L k = true => HBt.out (by rw [HMT.out]; exact any_at hlt h))
                  rw [show ownA ps L k = Bm.ownO ps L[k] by unfold ownA; rw [hgd]] at hc9
                  have hol2 : -1 ≤ Bm.ownO ps L[k] ∧ Bm.ownO ps L[k] < (ps.length : Int) := Bm.ownS_lt ps L[k] ps.length
                  have HGDo := hide hgd
                  clear hgd
                  generalize hL : L[k] = o at *
                  clear hL
                  generalize Bm.wrongN tk.1 o = wn at *
                  generalize tk.1 = T at *
                  have HOW := hide (show ownA ps L k = Bm.ownO ps o by unfold ownA; rw [HGDo.out])
                  generalize Bm.ownO ps o = x at *
                  by_cases hx0 : x < 0
                  · have hng := HNS.out (by rw [HMK.out]; simp; omega)
                    replace HST := hide (HST.out.trans (if_pos hx0))
                    go_wp2
                    exact ⟨⟨k + 1, by omega, by go_num, hng, by rw [HST.out]; exact hS, hI, hb⟩, by simp [intOf]; omega⟩
                  · obtain ⟨y, rfl⟩ : ∃ y : Nat, x = (y : Int) := ⟨x.toNat, by omega⟩
                    have hyp : y < ps.length := by omega
                    have hyi : (y : Int) < (ps.length : Int) := by omega
                    have hc13 := obj_at hS y _ (arrF_at _ _ y hyp)
                    replace HST := hide (HST.out.trans (if_neg hx0))
                    simp only [Int.toNat_natCast] at HST HMK
                    have hs3 := HSL.out y
                    have hor := bOr12 (Bm.seenT ps tk L k y) (by omega)
                    by_cases hw0 : wn = 0
                    · subst hw0
                      go_wp2
                      refine wp_region_grow (by kernel_rfl) (by kernel_rfl) ?_
                      repeat (go_big_quiet_step ((go_at_call 51; exact Gives.quiet (HWR.out _ _ _ _ _ (hSx.ext (by (repeat (first | exact Below.refl _ _ | assumption | refine below_drewN ?_ _ | refine below_drew ?_ | refine below_gr ?_ ?_ _ | refine below_alloc ?_ ?_ _ | refine Below.setCell ?_ ?_ _ | refine below_step ?_ (by assumption) ?_ | omega | (simp only [zz] at *; omega))))) (hIP.ext (by (repeat (first | exact Below.refl _ _ | assumption | refine below_drewN ?_ _ | refine below_drew ?_ | refine below_gr ?_ ?_ _ | refine below_alloc ?_ ?_ _ | refine Below.setCell ?_ ?_ _ | refine below_step ?_ (by assumption) ?_ | omega | (simp only [zz] at *; omega)))))))))
                      refine wpQuiet_nil ?_
                      intro w5 hb5
                      replace hb5 := ex_below hb5
                      have hz5 := hb5.size
                      (try simp only [zz] at hz5)
                      have hlt5 : ∀ b, b < wr.heap.size → b < w5.heap.size := fun b hb => (by (first | omega | (simp only [zz] at *; omega)))
                      have hc5 : ∀ b o, b < wr.heap.size → w5.cell? ⟨b, o, none⟩ = wr.cell? ⟨b, o, none⟩ := old_cell (by (repeat (first | exact Below.refl _ _ | assumption | refine below_drewN ?_ _ | refine below_drew ?_ | refine below_gr ?_ ?_ _ | refine below_alloc ?_ ?_ _ | refine Below.setCell ?_ ?_ _ | refine below_step ?_ (by assumption) ?_ | omega | (simp only [zz] at *; omega))))
                      have hS5 := (hb5.block _ hlS).trans hS
                      have hI5 := (hb5.block _ hlI2).trans hI
                      have d9 := (hb5.cell (p := ⟨w3.heap.size, k, none⟩) hlI2).trans hc9
                      have d13 := (hb5.cell (p := ⟨b13, y, none⟩) hlS).trans hc13
                      have f13 := obj_fz hS5 y
                      have hor1 := hor.1
                      clear hc5
                      have HSA := hide (show (arrF (fun i => ((Bm.seenT ps tk L k i : Nat) : Int)) ps.length).setIfInBounds y (.int .i64 ((Bm.seenT ps tk L k y ||| 1 : Nat) : Int)) = arrF (fun i => ((Bm.seenT ps tk L (k + 1) i : Nat) : Int)) ps.length by
                        rw [arrF_set _ _ _ hyp]
                        refine arrF_congr fun i _ => ?_
                        rw [HST.out]
                        by_cases e : i = y
                        · subst e; simp
                        · simp [e])
                      have HS3 := hide (show Bm.seenT ps tk L (k + 1) y = Bm.seenT ps tk L k y ||| 1 by rw [HST.out]; simp)
                      have HS6 := hide (fun v => set_obj hS5 y v)
                      have HI6 := hide (fun v => (Below.heap_setCell w5 ⟨b13, y, none⟩ v w3.heap.size (by simpa using hne9)).trans hI5)
                      have hsb4 : Bm.seenT ps tk L k y ||| 1 ≤ 3 := Bm.or_le3 _ hs3 _ (by omega)
                      generalize Bm.seenT ps tk L k y = sv at *
                      go_upto_region 34 with fail
                      go_region
                      obtain ⟨nv, hnv⟩ : ∃ nv : Nat, sv ||| 1 = nv := ⟨_, rfl⟩
                      rw [hnv] at HSA HS3 hsb4 ⊢
                      have hb6 : Below w3.heap.size w3 (w5.setCell ⟨b13, y, none⟩ (.int .i64 (nv : Nat))).drew := below_drew (Below.setCell (p := ⟨b13, y, none⟩) (hb.trans (hb5.mono hbz2)) (by omega) _)
                      have hS6 : (w5.setCell ⟨b13, y, none⟩ (.int .i64 (nv : Nat))).drew.heap[b13]? = some (.cells (arrF (fun i => ((Bm.seenT ps tk L (k + 1) i : Nat) : Int)) ps.length) 3 (0, 0)) := by
                        rw [heap_drew, HS6.out, HSA.out]
                      have hI6 : (w5.setCell ⟨b13, y, none⟩ (.int .i64 (nv : Nat))).drew.heap[w3.heap.size]? = some (.cells (arrF (ownA ps L) L.length) 3 (0, 0)) := by
                        rw [heap_drew]; exact HI6.out _
                      obtain ⟨w6, hw6⟩ : ∃ w6, (w5.setCell ⟨b13, y, none⟩ (.int .i64 (nv : Nat))).drew = w6 := ⟨_, rfl⟩
                      rw [hw6] at hb6 hS6 hI6 ⊢
                      have g9 : w6.cell? ⟨w3.heap.size, k, none⟩ = some (.int .i64 (y : Nat)) := (obj_at hI6 k _ (arrF_at _ _ k hlt)).trans (by rw [HOW.out])
                      have g13 : w6.cell? ⟨b13, y, none⟩ = some (.int .i64 (nv : Nat)) := (obj_at hS6 y _ (arrF_at _ _ y hyp)).trans (by rw [HS3.out])
                      clear hw6 hnv HS6 HI6 HSA hor1 hor d9 d13 f13 hS5 hI5 hb5 hc9 hc13
                      by_cases h3 : nv = 3
                      · have hv := hide (HFI.out (by rw [HMK.out]; simp [HS3.out, h3]))
                        subst h3
                        go_wp2
                        go_ret
                        exact gives_of (v_int hv.out.symm) (hbw3.trans (hb6.mono hbw3.size))
                      · have hng := HNS.out (by rw [HMK.out]; simp [HS3.out, h3])
                        have h3b : (((nv : Nat) : Int) == 3) = false := by simp; omega
                        clear h3
                        go_wp2
                        exact ⟨⟨k + 1, by omega, by go_num, hng, hS6, hI6, hb6⟩, by simp [intOf]; omega⟩
                    · have hd0 : (((wn : Nat) : Int) == 0) = false := by simp; omega
                      go_wp2
                      refine wp_region_grow (by kernel_rfl) (by kernel_rfl) ?_
                      repeat (go_big_quiet_step ((go_at_call 51; exact Gives.quiet (HWR.out _ _ _ _ _ (hSx.ext (by (repeat (first | exact Below.refl _ _ | assumption | refine below_drewN ?_ _ | refine below_drew ?_ | refine below_gr ?_ ?_ _ | refine below_alloc ?_ ?_ _ | refine Below.setCell ?_ ?_ _ | refine below_step ?_ (by assumption) ?_ | omega | (simp only [zz] at *; omega))))) (hIP.ext (by (repeat (first | exact Below.refl _ _ | assumption | refine below_drewN ?_ _ | refine below_drew ?_ | refine below_gr ?_ ?_ _ | refine below_alloc ?_ ?_ _ | refine Below.setCell ?_ ?_ _ | refine below_step ?_ (by assumption) ?_ | omega | (simp only [zz] at *; omega)))))))))
                      refine wpQuiet_nil ?_
                      intro w5 hb5
                      replace hb5 := ex_below hb5
                      have hz5 := hb5.size
                      (try simp only [zz] at hz5)
                      have hlt5 : ∀ b, b < wr.heap.size → b < w5.heap.size := fun b hb => (by (first | omega | (simp only [zz] at *; omega)))
                      have hc5 : ∀ b o, b < wr.heap.size → w5.cell? ⟨b, o, none⟩ = wr.cell? ⟨b, o, none⟩ := old_cell (by (repeat (first | exact Below.refl _ _ | assumption | refine below_drewN ?_ _ | refine below_drew ?_ | refine below_gr ?_ ?_ _ | refine below_alloc ?_ ?_ _ | refine Below.setCell ?_ ?_ _ | refine below_step ?_ (by assumption) ?_ | omega | (simp only [zz] at *; omega))))
                      have hS5 := (hb5.block _ hlS).trans hS
                      have hI5 := (hb5.block _ hlI2).trans hI
                      have d9 := (hb5.cell (p := ⟨w3.heap.size, k, none⟩) hlI2).trans hc9
                      have d13 := (hb5.cell (p := ⟨b13, y, none⟩) hlS).trans hc13
                      have f13 := obj_fz hS5 y
                      have hor1 := hor.2
                      clear hc5
                      have HSA := hide (show (arrF (fun i => ((Bm.seenT ps tk L k i : Nat) : Int)) ps.length).setIfInBounds y (.int .i64 ((Bm.seenT ps tk L k y ||| 2 : Nat) : Int)) = arrF (fun i => ((Bm.seenT ps tk L (k + 1) i : Nat) : Int)) ps.length by
                        rw [arrF_set _ _ _ hyp]
                        refine arrF_congr fun i _ => ?_
                        rw [HST.out]
                        by_cases e : i = y
                        · subst e; simp [hw0]
                        · simp [e])
                      have HS3 := hide (show Bm.seenT ps tk L (k + 1) y = Bm.seenT ps tk L k y ||| 2 by rw [HST.out]; simp [hw0])
                      have HS6 := hide (fun v => set_obj hS5 y v)
                      have HI6 := hide (fun v => (Below.heap_setCell w5 ⟨b13, y, none⟩ v w3.heap.size (by simpa using hne9)).trans hI5)
                      have hsb4 : Bm.seenT ps tk L k y ||| 2 ≤ 3 := Bm.or_le3 _ hs3 _ (by omega)
                      generalize Bm.seenT ps tk L k y = sv at *
                      go_upto_region 35 with fail
                      go_region
                      obtain ⟨nv, hnv⟩ : ∃ nv : Nat, sv ||| 2 = nv := ⟨_, rfl⟩
                      rw [hnv] at HSA HS3 hsb4 ⊢
                      have hb6 : Below w3.heap.size w3 (w5.setCell ⟨b13, y, none⟩ (.int .i64 (nv : Nat))).drew := below_drew (Below.setCell (p := ⟨b13, y, none⟩) (hb.trans (hb5.mono hbz2)) (by omega) _)
                      have hS6 : (w5.setCell ⟨b13, y, none⟩ (.int .i64 (nv : Nat))).drew.heap[b13]? = some (.cells (arrF (fun i => ((Bm.seenT ps tk L (k + 1) i : Nat) : Int)) ps.length) 3 (0, 0)) := by
                        rw [heap_drew, HS6.out, HSA.out]
                      have hI6 : (w5.setCell ⟨b13, y, none⟩ (.int .i64 (nv : Nat))).drew.heap[w3.heap.size]? = some (.cells (arrF (ownA ps L) L.length) 3 (0, 0)) := by
                        rw [heap_drew]; exact HI6.out _
                      obtain ⟨w6, hw6⟩ : ∃ w6, (w5.setCell ⟨b13, y, none⟩ (.int .i64 (nv : Nat))).drew = w6 := ⟨_, rfl⟩
                      rw [hw6] at hb6 hS6 hI6 ⊢
                      have g9 : w6.cell? ⟨w3.heap.size, k, none⟩ = some (.int .i64 (y : Nat)) := (obj_at hI6 k _ (arrF_at _ _ k hlt)).trans (by rw [HOW.out])
                      have g13 : w6.cell? ⟨b13, y, none⟩ = some (.int .i64 (nv : Nat)) := (obj_at hS6 y _ (arrF_at _ _ y hyp)).trans (by rw [HS3.out])
                      clear hw6 hnv HS6 HI6 HSA hor1 hor d9 d13 f13 hS5 hI5 hb5 hc9 hc13
                      by_cases h3 : nv = 3
                      · have hv := hide (HFI.out (by rw [HMK.out]; simp [HS3.out, h3]))
                        subst h3
                        go_wp2
                        go_ret
                        exact gives_of (v_int hv.out.symm) (hbw3.trans (hb6.mono hbw3.size))
                      · have hng := HNS.out (by rw [HMK.out]; simp [HS3.out, h3])
                        have h3b : (((nv : Nat) : Int) == 3) = false := by simp; omega
                        clear h3
                        go_wp2
                        exact ⟨⟨k + 1, by omega, by go_num, hng, hS6, hI6, hb6⟩, by simp [intOf]; omega⟩
                · have hkl : k = L.length := by omega
                  have hng := HGt.out (by rw [HMT.out, ← hkl, hall]; rfl)
                  clear hkl hall
                  go_wp2
                  exact ⟨⟨t + 1, by omega, by go_num, hng, hI, hb⟩, by simp [intOf]; omega⟩
            · have htl : t = ts.length := by omega
              have hnl2 : ¬ t < ts.length := hltt
              have HRM3 := hide (show fin = if L.any (Bm.m4O ts ps) = true then 14 else 0 by
                rw [HRM2.out, if_neg]
                rw [htl, List.take_length, List.all_eq_true] at hall
                simp only [Bool.not_eq_true, List.any_eq_false]
                intro o ho
                simpa using hall o ho)
              clear hall htl HRM2 hnl
              go_wp2
              go_loopw [15] (fun i wr => ∃ k : Nat, k ≤ L.length ∧ i = .int .i64 (k : Nat) ∧ (L.take k).all (fun o => !Bm.m4O ts ps o) = true ∧ wr.heap[w3.heap.size]? = some (.cells (arrF (ownA ps L) L.length) 3 (0, 0)) ∧ Below w3.heap.size w3 wr) (fun i _ => L.length - (intOf i).toNat)
              case atStart => exact ⟨0, Nat.zero_le _, rfl, rfl, hI, hb⟩
              case round =>
                clear hI hb hlI hbz
                obtain ⟨k, hk, rfl, hall, hI, hb⟩ := hrel
                have hbz := hb.size
                have hlI := obj_lt hI
                by_cases hlt : k < L.length
                · have hc9 := obj_at hI k _ (arrF_at _ _ k hlt)
                  obtain ⟨ob, oo, rfl, hol⟩ := rowsA_form hRA (by omega)
                  obtain ⟨P, dP, hcP, hIP0⟩ := rowsA_in hRA k hlt
                  have hcPr := (hb.cell (p := ⟨ob, oo + k, none⟩) hol).trans hcP
                  have hIP := hIP0.ext hb
                  have hB1 := hB.ext hb
                  have hD1 := hD.ext hb
                  have holr : ob < wr.heap.size := by omega
                  have HUW := hide (fun Z zc w' (h1 : Tks w' B (tz ts)) (h2 : I64 w' Z (zs L[k])) => HUN.out Z zc L[k] w' (List.getElem_mem hlt) h1 h2)
                  have hul := HUL.out L[k]
                  have hgd := getD_at L k hlt []
                  have hki : (k : Int) < (L.length : Int) := by omega
                  have HG4 := hide (all_good (f := fun o => !Bm.m4O ts ps o) hlt hall)
                  have HB4 := hide (fun h : Bm.m4O ts ps L[k] = true => (show fin = 14 by rw [HRM3.out, if_pos (List.any_eq_true.2 ⟨_, List.getElem_mem hlt, h⟩)]))
                  have HM4 := hide (show Bm.m4O ts ps L[k] = (decide (Bm.ownO ps L[k] < 0) || decide ((ps.getD (Bm.ownO ps L[k]).toNat ([], 0)).2 ≠ Bm.uni ts L[k])) from rfl)
                  rw [show ownA ps L k = Bm.ownO ps L[k] by unfold ownA; rw [hgd]] at hc9
                  have hol2 : -1 ≤ Bm.ownO ps L[k] ∧ Bm.ownO ps L[k] < (ps.length : Int) := Bm.ownS_lt ps L[k] ps.length
                  clear hgd hall
                  generalize L[k] = o at *
                  generalize Bm.uni ts o = n at *
                  generalize Bm.m4O ts ps o = mv at *
                  generalize Bm.ownO ps o = x at *
                  by_cases hx0 : x < 0
                  · have hv := hide (HB4.out (by rw [HM4.out, decide_eq_true hx0]; rfl))
                    have hxd : decide (x < 0) = true := decide_eq_true hx0
                    go_wp2
                    go_upto_region 41 with fail
                    go_quiet (fail)
                    go_wp2
                    go_ret
                    exact gives_of (v_int hv.out.symm) (hbw3.trans (Below.mono (B := w3.heap.size) (by (repeat (first | exact Below.refl _ _ | assumption | refine below_drewN ?_ _ | refine below_drew ?_ | refine below_gr ?_ ?_ _ | refine below_alloc ?_ ?_ _ | refine Below.setCell ?_ ?_ _ | refine below_step ?_ (by assumption) ?_ | omega | (simp only [zz] at *; omega)))) hbw3.size))
                  · obtain ⟨y, rfl⟩ : ∃ y : Nat, x = (y : Int) := ⟨x.toNat, by omega⟩
                    have hyp : y < ps.length := by omega
                    have hyi : (y : Int) < (ps.length : Int) := by omega
                    have hxd : decide ((y : Int) < 0) = false := decide_eq_false hx0
                    obtain ⟨pb, po, rfl, hpb⟩ := hD1.form (by rw [tz_len]; omega)
                    obtain ⟨S, sc, q0, q1, q2, hSx⟩ := hD1.at (k := y) (by rw [tz_len]; exact hyp)
                    simp only [tz_at _ _ hyp] at q1
                    rw [Int.toNat_natCast, getD_at _ _ hyp, hxd, Bool.false_or] at HM4
                    clear q0 q2 hSx hx0 hD1
                    generalize ps[y].2 = u at *
                    have hex := neN u n
                    by_cases hun : u = n
                    · have hex2 : (((u : Nat) : Int) != ((n : Nat) : Int)) = false := by rw [hex]; simpa using hun
                      have hng := HG4.out (by rw [HM4.out]; simpa using hun)
                      clear hex hun
                      go_wp2
                      refine wp_region_grow (by kernel_rfl) (by kernel_rfl) ?_
                      repeat (go_big_quiet_step ((go_at_call 52; exact Gives.quiet (HUW.out _ _ _ (hB1.ext (by (repeat (first | exact Below.refl _ _ | assumption | refine below_drewN ?_ _ | refine below_drew ?_ | refine below_gr ?_ ?_ _ | refine below_alloc ?_ ?_ _ | refine Below.setCell ?_ ?_ _ | refine below_step ?_ (by assumption) ?_ | omega | (simp only [zz] at *; omega))))) (hIP.ext (by (repeat (first | exact Below.refl _ _ | assumption | refine below_drewN ?_ _ | refine below_drew ?_ | refine below_gr ?_ ?_ _ | refine below_alloc ?_ ?_ _ | refine Below.setCell ?_ ?_ _ | refine below_step ?_ (by assumption) ?_ | omega | (simp only [zz] at *; omega)))))))))
                      refine wpQuiet_nil ?_
                      intro w5 hb5
                      replace hb5 := ex_below hb5
                      have hz5 := hb5.size
                      (try simp only [zz] at hz5)
                      have hlt5 : ∀ b, b < wr.heap.size → b < w5.heap.size := fun b hb => (by (first | omega | (simp only [zz] at *; omega)))
                      have hc5 : ∀ b o, b < wr.heap.size → w5.cell? ⟨b, o, none⟩ = wr.cell? ⟨b, o, none⟩ := old_cell (by (repeat (first | exact Below.refl _ _ | assumption | refine below_drewN ?_ _ | refine below_drew ?_ | refine below_gr ?_ ?_ _ | refine below_alloc ?_ ?_ _ | refine Below.setCell ?_ ?_ _ | refine below_step ?_ (by assumption) ?_ | omega | (simp only [zz] at *; omega))))
                      have hI5 := (hb5.block _ hlI).trans hI
                      go_wp2
                      exact ⟨⟨k + 1, by omega, by go_num, hng, hI5, hb.trans (hb5.mono hbz)⟩, by simp [intOf]; omega⟩
                    · have hex2 : (((u : Nat) : Int) != ((n : Nat) : Int)) = true := by rw [hex]; simpa using hun
                      have hv := hide (HB4.out (by rw [HM4.out]; simpa using hun))
                      clear hex hun
                      go_wp2
                      refine wp_region_grow (by kernel_rfl) (by kernel_rfl) ?_
                      repeat (go_big_quiet_step ((go_at_call 52; exact Gives.quiet (HUW.out _ _ _ (hB1.ext (by (repeat (first | exact Below.refl _ _ | assumption | refine below_drewN ?_ _ | refine below_drew ?_ | refine below_gr ?_ ?_ _ | refine below_alloc ?_ ?_ _ | refine Below.setCell ?_ ?_ _ | refine below_step ?_ (by assumption) ?_ | omega | (simp only [zz] at *; omega))))) (hIP.ext (by (repeat (first | exact Below.refl _ _ | assumption | refine below_drewN ?_ _ | refine below_drew ?_ | refine below_gr ?_ ?_ _ | refine below_alloc ?_ ?_ _ | refine Below.setCell ?_ ?_ _ | refine below_step ?_ (by assumption) ?_ | omega | (simp only [zz] at *; omega)))))))))
                      refine wpQuiet_nil ?_
                      intro w5 hb5
                      replace hb5 := ex_below hb5
                      have hz5 := hb5.size
                      (try simp only [zz] at hz5)
                      have hlt5 : ∀ b, b < wr.heap.size → b < w5.heap.size := fun b hb => (by (first | omega | (simp only [zz] at *; omega)))
                      have hc5 : ∀ b o, b < wr.heap.size → w5.cell? ⟨b, o, none⟩ = wr.cell? ⟨b, o, none⟩ := old_cell (by (repeat (first | exact Below.refl _ _ | assumption | refine below_drewN ?_ _ | refine below_drew ?_ | refine below_gr ?_ ?_ _ | refine below_alloc ?_ ?_ _ | refine Below.setCell ?_ ?_ _ | refine below_step ?_ (by assumption) ?_ | omega | (simp only [zz] at *; omega))))
                      go_wp2
                      go_ret
                      exact gives_of (v_int hv.out.symm) (hbw3.trans ((hb.trans (hb5.mono hbz)).mono hbw3.size))
                · have hkl : k = L.length := by omega
                  have hv := hide (show fin = 0 by
                    rw [HRM3.out, if_neg]
                    rw [hkl, List.take_length, List.all_eq_true] at hall
                    simp only [Bool.not_eq_true, List.any_eq_false]
                    intro o ho
                    simpa using hall o ho)
                  clear hkl hall
                  go_wp2
                  go_ret
                  exact gives_of (v_int hv.out.symm) (hbw3.trans (hb.mono hbw3.size))
end Go.Proofs.Ytlbkaeoagdbemaa
