/- Proved here: places: the one behind a race, a part of the proofs about the box laws. Conditions: those that each theorem names, no others. -/
import Derived.Test.YtlbkaeoagdbemaaP08
import Derived.WalkKit
import Derived.WalkSpells
import Derived.WalkLawsBesides
import Derived.Below
import Derived.Deep.QuietTactic
import Derived.BigQuiet
import Derived.Deep.Light
set_option linter.unusedSimpArgs false
set_option linter.unusedVariables false
namespace Go.Proofs.Ytlbkaeoagdbemaa
open Go.RowKit Go.Maps
theorem bAlive : ∀ x, x < 64 → ∀ i, i < 6 → ∀ a : Bool, bits BinOp.and .i64 (if a = true then (1 : Int) else 0) ((x : Nat) / 2 ^ i : Int) = if (a && x.testBit i) = true then 1 else 0 := by decide +kernel
def colN (ts : List Bm.Tk) (r : Nat) : List Nat := ts.map fun t => t.1.getD r 0
theorem nx_at (ts : List Bm.Tk) (r : Nat) (al : List Bool) (i k : Nat) (hk : k < ts.length) (hl : al.length = ts.length) (hr : r < ts[k].1.length) : (Bm.nx (colN ts r) al i).getD k false = (al.getD k false && (ts[k].1[r]).testBit i) := by
  unfold Bm.nx colN
  simp only [List.getD_eq_getElem?_getD, List.getElem?_zipWith, List.getElem?_map, List.getElem?_eq_getElem hk, List.getElem?_eq_getElem (show k < al.length by omega)]
  simp [List.getD_eq_getElem?_getD, List.getElem?_eq_getElem hr]
theorem take_getD (l : List Bool) (k i : Nat) : (l.take k).getD i false = if i < k then l.getD i false else false := by
  simp only [List.getD_eq_getElem?_getD, List.getElem?_take]
  split <;> rfl
theorem three_blocks (w : World) (a b c c' : Array Value) (t : TypeId) : let W := (((w.alloc (.cells a t)).alloc (.cells b t)).alloc (.cells c t)).setRow (w.heap.size + 2) c'
    W.heap[w.heap.size]? = some (.cells a t (0, 0)) ∧ W.heap[w.heap.size + 1]? = some (.cells b t (0, 0)) ∧ W.heap[w.heap.size + 2]? = some (.cells c' t (0, 0)) ∧ Below w.heap.size w W ∧ W.heap.size = w.heap.size + 3 := by
  intro W
  have h2 : (((w.alloc (.cells a t)).alloc (.cells b t)).alloc (.cells c t)).heap[w.heap.size + 2]? = some (.cells c t (0, 0)) := by
    have := heap_b (w.alloc (.cells a t)) (.cells b t) (.cells c t)
    simpa using this
  refine ⟨?_, ?_, setRow_same' h2, below_setRow (by (repeat (first | exact Below.refl _ _ | assumption | refine below_drewN ?_ _ | refine below_drew ?_ | refine below_gr ?_ ?_ _ | refine below_alloc ?_ ?_ _ | refine Below.setCell ?_ ?_ _ | refine below_step ?_ (by assumption) ?_ | omega | (simp only [zz] at *; omega)))) (by omega), by simp [W]⟩
  · rw [setRow_other _ _ _ _ (by omega), Below.heap_alloc _ _ _ (by simp; omega), heap_a]
  · rw [setRow_other _ _ _ _ (by omega)]
    have := heap_a (w.alloc (.cells a t)) (.cells b t) (.cells c t)
    simpa using this
set_option maxRecDepth 100000 in
set_option maxHeartbeats 1000000 in
theorem next_any (s : Nat) (A : Option Addr) (R : List Nat) (rc : Nat) (B : Option Addr) (ts : List Bm.Tk) (d : Nat) (w : World) (hS : SheetAt w s A (zs R) rc B (tz ts) d) (hR5 : R.length ≤ 5) (hR6 : ∀ n, n ∈ R → n ≤ 6) (ht10 : ts.length ≤ 10) (r : Nat) (al : List Bool) (i : Nat) (hr : r < R.length) (hal : al.length = ts.length) (hi : i < 6) (htl : ∀ t, t ∈ ts → t.1.length = R.length) (ht6 : ∀ t, t ∈ ts → ∀ x, x ∈ t.1 → x < 64) :
    Calls Try.prog 91 #[.pointer (some ⟨s, 0, none⟩), .agg (mkP r al), .int .i64 (i : Nat)] w (Gives w (.agg (mkP (r + 1) (Bm.nx (colN ts r) al i)))) := by
  obtain ⟨r0, r1, rl, hA, hB⟩ := hS
  rw [tz_len] at r1
  have ht' : (ts.length : Int) ≤ 10 := by omega
  have hr' : (r : Int) ≤ 5 := by omega
  have hr0 : (0 : Int) ≤ (r : Int) := by omega
  have hi0 : (0 : Int) ≤ (i : Int) := by omega
  have hi1 : (i : Int) ≤ 5 := by omega
  have hbl := hide (Bm.nx_len (c := colN ts r) (al := al) (by simp [colN, hal]) i)
  have HNX := hide (fun k hk h => nx_at ts r al i k hk hal h)
  generalize Bm.nx (colN ts r) al i = bl at *
  have hz3 := heap_b (w.alloc (.cells (mkP r al) 110)) (.cells #[.int .i64 0, .int .i64 0, .int .i64 0, .int .i64 0, .int .i64 0, .int .i64 0, .int .i64 0, .int .i64 0, .int .i64 0, .int .i64 0, .int .i64 0] 110) (.cells #[.int .i64 0, .int .i64 0, .int .i64 0, .int .i64 0, .int .i64 0, .int .i64 0, .int .i64 0, .int .i64 0, .int .i64 0, .int .i64 0, .int .i64 0] 110)
  rw [World.size_alloc] at hz3
  have HZ3 := hide hz3
  clear hz3
  have h3 := three_blocks w (mkP r al) #[.int .i64 0, .int .i64 0, .int .i64 0, .int .i64 0, .int .i64 0, .int .i64 0, .int .i64 0, .int .i64 0, .int .i64 0, .int .i64 0, .int .i64 0] #[.int .i64 0, .int .i64 0, .int .i64 0, .int .i64 0, .int .i64 0, .int .i64 0, .int .i64 0, .int .i64 0, .int .i64 0, .int .i64 0, .int .i64 0] #[.int .i64 ((r : Int) + 1), .int .i64 0, .int .i64 0, .int .i64 0, .int .i64 0, .int .i64 0, .int .i64 0, .int .i64 0, .int .i64 0, .int .i64 0, .int .i64 0] 110
  simp only at h3
  have H3 := hide h3
  clear h3
  have hc0 := mkP_zero r al
  have rl2 : s < w.heap.size + 1 + 1 := by omega
  go_enter Try.func91, Try.ntmps91
  go_wp2
  go_loopw [8, 9, 19] (fun _ _ j wr => ∃ k : Nat, k ≤ ts.length ∧ j = .int .i64 k ∧ wr.heap[w.heap.size + 1 + 1]? = some (.cells (mkP (r + 1) (bl.take k)) 110 (0, 0)) ∧ wr.heap[w.heap.size]? = some (.cells (mkP r al) 110 (0, 0)) ∧ wr.heap[w.heap.size + 1]? = some (.cells (mkP 0 []) 110 (0, 0)) ∧ Below w.heap.size w wr) (fun _ _ j _ => ts.length - (intOf j).toNat)
  case atStart =>
    refine ⟨0, Nat.zero_le _, rfl, ?_, ?_, ?_, by (repeat (first | exact Below.refl _ _ | assumption | (refine below_gr ?_ (by (first | omega | (simp only [zz] at *; omega))) _) | (refine below_alloc ?_ (by (first | omega | (simp only [zz] at *; omega))) _) | (refine Below.setCell ?_ (by (first | omega | (simp only [zz] at *; omega))) _) | refine below_drewN ?_ _ | refine below_drew ?_ | (refine below_step ?_ (by assumption) (by (first | omega | (simp only [zz] at *; omega))))))⟩
    · rw [List.take_zero, show mkP (r + 1) [] = #[.int .i64 ((r : Int) + 1), .int .i64 0, .int .i64 0, .int .i64 0, .int .i64 0, .int .i64 0, .int .i64 0, .int .i64 0, .int .i64 0, .int .i64 0, .int .i64 0] by simp [mkP, mk1, List.range, List.range.loop]]
      have := heap_b (w.alloc (.cells (mkP r al) 110)) (.cells #[.int .i64 0, .int .i64 0, .int .i64 0, .int .i64 0, .int .i64 0, .int .i64 0, .int .i64 0, .int .i64 0, .int .i64 0, .int .i64 0, .int .i64 0] 110) (.cells #[.int .i64 ((r : Int) + 1), .int .i64 0, .int .i64 0, .int .i64 0, .int .i64 0, .int .i64 0, .int .i64 0, .int .i64 0, .int .i64 0, .int .i64 0, .int .i64 0] 110)
      simpa using this
    · rw [Below.heap_alloc _ _ _ (by simp; omega), heap_a]
    · rw [mkP_zeros]
      have := heap_a (w.alloc (.cells (mkP r al) 110)) (.cells (mkP 0 []) 110) (.cells #[.int .i64 ((r : Int) + 1), .int .i64 0, .int .i64 0, .int .i64 0, .int .i64 0, .int .i64 0, .int .i64 0, .int .i64 0, .int .i64 0, .int .i64 0, .int .i64 0] 110)
      simpa using this
  case round =>
    obtain ⟨k, hk, rfl, hO, hI, hO2, hb⟩ := hrel
    have hsz := hb.size
    have c1 : wr.cell? ⟨s, 1, none⟩ = some (.slice B ts.length d) := (hb.cell (p := ⟨s, _, none⟩) rl).trans r1
    have hl1 := obj_lt hO
    have hl2 := obj_lt hI
    have hl3 := obj_lt hO2
    by_cases hlt : k < ts.length
    · have hB1 := hB.ext hb
      obtain ⟨tb, to, rfl, htb⟩ := hB1.form (by rw [tz_len]; omega)
      obtain ⟨S, sc, q0, q1, q2, hSx⟩ := hB1.at (k := k) (by rw [tz_len]; exact hlt)
      simp only [tz_at _ _ hlt, zs_len] at q0 q1 q2 hSx
      have htk := htl ts[k] (List.getElem_mem hlt)
      have hrt : r < ts[k].1.length := by omega
      obtain ⟨sb, so, rfl, hsb⟩ := zsF hSx (by omega)
      have hs0 := zsI hSx hrt
      have hx6 := ht6 ts[k] (List.getElem_mem hlt) ts[k].1[r] (List.getElem_mem hrt)
      have hN := HNX.out k hlt hrt
      have HAL := hide (bAlive ts[k].1[r] hx6 i hi (al.getD k false))
      have hci := obj_at hI (1 + k) _ (mkP_at _ _ k (by omega))
      have hc0r := obj_at hI 0 _ hc0
      have hco := obj_at hO (1 + k) _ (mkP_at _ _ k (by omega))
      have hfo := obj_fz hO (1 + k)
      have HS := hide (fun v hv => mkP_set (r + 1) (bl.take k) (bl.take (k + 1)) k v (by omega) hv (fun i hi => by
        rw [take_getD, take_getD]
        by_cases h : i < k
        · rw [if_pos h, if_pos (by omega)]
        · rw [if_neg h, if_neg (by omega)]))
      have HV := hide (show mk1 (bl.take (k + 1)) k = .int .i64 (if (al.getD k false && ts[k].1[r].testBit i) = true then 1 else 0) by unfold mk1; rw [show (bl.take (k + 1)).getD k false = (al.getD k false && ts[k].1[r].testBit i) by rw [take_getD, if_pos (by omega), hN]])
      clear hN
      unfold mk1 at hci hco
      generalize ts[k].1[r] = x at *
      have hrt2 : (r : Int) < (ts[k].1.length : Int) := by omega
      clear hrt HNX
      generalize ts[k].1.length = tl at *
      generalize (if al.getD k false = true then (1 : Int) else 0) = av at *
      generalize (if (bl.take k).getD k false = true then (1 : Int) else 0) = ov at *
      have x0 : (0 : Int) ≤ (x : Int) := by omega
      have x1 : (x : Int) ≤ 63 := by omega
      have htl' : (tl : Int) ≤ 5 := by omega
      go_wp2
      go_region
      go_wp2
      go_roundw
      case measure => simp [intOf]; omega
      refine ⟨k + 1, by omega, by go_num, ?_, ?_, ?_, ?_⟩
      · refine (Below.heap_alloc _ _ _ (by rw [size_setCell]; exact hl1)).trans ?_

        rw [← HS.out _ HV.out.symm, ← HAL.out]; exact set_obj hO _ _
      · refine (Below.heap_alloc _ _ _ (by rw [size_setCell]; exact hl2)).trans ?_
        rw [Below.heap_setCell _ _ _ _ (by simp; omega)]; exact hI
      · refine (Below.heap_alloc _ _ _ (by rw [size_setCell]; exact hl3)).trans ?_
        rw [Below.heap_setCell _ _ _ _ (by simp)]; exact hO2
      · exact below_drew (below_alloc (Below.setCell (p := ⟨w.heap.size + 1 + 1, _, none⟩) hb (by simp; omega) _) (by rw [size_setCell]; omega) _)
    · have hkn : k = ts.length := by omega
      have hrep : bl.take k = bl := List.take_of_length_le (by rw [hbl.out]; omega)
      rw [hrep] at hO
      clear hrep
      obtain ⟨fs, hu⟩ := und110
      go_wp2_with (first
        | (refine wpList_load_row rfl 110 (.tmp 7) rfl (w.heap.size + 1 + 1) rfl 110 _ (0, 0) _ hO hu rfl (by rw [mkP_size]; exact siz110) ?_)
        | (refine wpList_store_row rfl 110 (.tmp 6) (.tmp 41) rfl (w.heap.size + 1) _ rfl rfl 110 _ hO2 (by rw [mkP_size]; exact siz110) (by rw [mkP_size, mkP_size]) (mkP_one _ _) ?_))
      refine bodyPost_ret (v := .agg (mkP (r + 1) bl)) (results_cell_row (P := Try.prog) (fn := Try.f91) (p := 6) (ty := 110) rfl _ _ (w.heap.size + 1) 110 _ (0, 0) _ rfl (setRow_same' hO2) hu rfl (by rw [mkP_size]; exact siz110)) rfl (gives_of rfl (below_setRow hb (by omega)))
end Go.Proofs.Ytlbkaeoagdbemaa
