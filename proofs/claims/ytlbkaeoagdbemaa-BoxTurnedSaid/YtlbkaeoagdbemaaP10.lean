/- Proved here: the units of marks, and of a box; winners that run; the units of an outcome; the least number, a part of the proofs about the box laws. Conditions: those that each theorem names, no others. -/
import Derived.Test.YtlbkaeoagdbemaaP09
import Derived.WalkKit
import Derived.WalkSpells
import Derived.WalkLawsBesides
import Derived.Below
import Derived.Deep.QuietTactic
import Derived.BigQuiet
import Derived.Deep.Light
import Derived.Test.YtlbkaeoagdbemaaP04
set_option linter.unusedSimpArgs false
set_option linter.unusedVariables false
namespace Go.Proofs.Ytlbkaeoagdbemaa
open Go.RowKit Go.Maps
theorem getD_at {α : Type} (l : List α) (k : Nat) (h : k < l.length) (d : α) : l.getD k d = l[k] := by simp [List.getD_eq_getElem?_getD, List.getElem?_eq_getElem h]
set_option maxRecDepth 100000 in
set_option maxHeartbeats 1000000 in
theorem value_any (s : Nat) (A : Option Addr) (R : List Nat) (rc : Nat) (B : Option Addr) (ts : List Bm.Tk) (d : Nat) (w : World) (hS : SheetAt w s A (zs R) rc B (tz ts) d) (hR5 : R.length ≤ 5) (hR6 : ∀ n, n ∈ R → n ≤ 6) (ht10 : ts.length ≤ 10) (hu : ∀ t, t ∈ ts → t.2 ≤ 1000) (al : List Bool) :
    Calls Try.prog 94 #[.pointer (some ⟨s, 0, none⟩), .agg (mk al)] w (Gives w (.int .i64 (Bm.vals ts al : Nat))) := by
  obtain ⟨r0, r1, rl, hA, hB⟩ := hS
  rw [tz_len] at r1
  have ht' : (ts.length : Int) ≤ 10 := by omega
  obtain ⟨F, hF⟩ : ∃ F : Nat → Nat, F = fun k => if al.getD k false = true then (ts.getD k ([], 0)).2 else 0 := ⟨_, rfl⟩
  have HV := hide (show Bm.vals ts al = Bm.sumTo F ts.length by rw [hF]; exact Bm.vals_sumTo ts al)
  have HF : Hid (∀ k, (hk : k < ts.length) → F k = if al.getD k false = true then ts[k].2 else 0) := hide (fun k hk => by rw [hF]; show (if al.getD k false = true then (ts.getD k ([], 0)).2 else 0) = _; rw [getD_at _ _ hk])
  have HL := hide (fun k (hk : k ≤ ts.length) => Bm.sumTo_le F k 1000 (fun j hj => by
    rw [HF.out j (by omega)]
    split
    · exact hu _ (List.getElem_mem (by omega))
    · omega))
  have HS := hide (Bm.sumTo_succ F)
  clear hF
  have HC := hide (fun k (hk : k < 10) => mk_at al k hk)
  unfold mk1 at HC
  go_enter Try.func94, Try.ntmps94
  go_wp2
  go_loopw [5, 6, 7, 13] (fun n _ _ j wr => ∃ k : Nat, k ≤ ts.length ∧ j = .int .i64 k ∧ n = .int .i64 (Bm.sumTo F k : Nat) ∧ wr.heap[w.heap.size]? = some (.cells (mk al) 108 (0, 0)) ∧ Below w.heap.size w wr) (fun _ _ _ j _ => ts.length - (intOf j).toNat)
  case atStart => exact ⟨0, Nat.zero_le _, rfl, rfl, heap_alloc_new w _, by (repeat (first | exact Below.refl _ _ | assumption | (refine below_gr ?_ (by (first | omega | (simp only [zz] at *; omega))) _) | (refine below_alloc ?_ (by (first | omega | (simp only [zz] at *; omega))) _) | (refine Below.setCell ?_ (by (first | omega | (simp only [zz] at *; omega))) _) | refine below_drewN ?_ _ | refine below_drew ?_ | (refine below_step ?_ (by assumption) (by (first | omega | (simp only [zz] at *; omega))))))⟩
  case round =>
    obtain ⟨k, hk, rfl, rfl, hI, hb⟩ := hrel
    have hsz := hb.size
    have c1 : wr.cell? ⟨s, 1, none⟩ = some (.slice B ts.length d) := (hb.cell (p := ⟨s, _, none⟩) rl).trans r1
    have hl2 := obj_lt hI
    have hn := HL.out k hk
    by_cases hlt : k < ts.length
    · have hB1 := hB.ext hb
      obtain ⟨tb, to, rfl, htb⟩ := hB1.form (by rw [tz_len]; omega)
      obtain ⟨S, sc, q0, q1, q2, hSx⟩ := hB1.at (k := k) (by rw [tz_len]; exact hlt)
      simp only [tz_at _ _ hlt, zs_len] at q0 q1 q2 hSx
      have hci := obj_at hI k _ (HC.out k (by omega))
      have hfk := HF.out k hlt
      have hsk := HS.out k
      have hu1 := hu ts[k] (List.getElem_mem hlt)
      rw [hfk] at hsk
      generalize ts[k].2 = u at *
      generalize ts[k].1.length = tl at *
      have HSK := hide hsk
      clear hsk hfk
      by_cases ha : al.getD k false = true
      all_goals
        try replace ha : al.getD k false = false := by simpa using ha
        rw [ha] at hci HSK
        clear ha
        simp only [Bool.false_eq_true, if_true, if_false] at hci HSK
        generalize Bm.sumTo F k = q at *
        have hq' : (q : Int) ≤ 10000 := by omega
        have hu' : (u : Int) ≤ 1000 := by omega
        have hq0 : (0 : Int) ≤ q := by omega
        have hu0 : (0 : Int) ≤ u := by omega
        go_wp2
        go_roundw
        case measure => simp [intOf]; omega
        exact ⟨k + 1, by omega, by go_num, v_int (by rw [HSK.out]; omega), (Below.heap_alloc _ _ _ hl2).trans hI, below_alloc hb (by omega) _⟩
    · have hkl : k = ts.length := by omega
      rw [hkl, ← HV.out]
      go_wp2
      go_ret
      exact gives_of (rfl) (by (repeat (first | exact Below.refl _ _ | assumption | refine below_drewN ?_ _ | refine below_drew ?_ | refine below_gr ?_ ?_ _ | refine below_alloc ?_ ?_ _ | refine Below.setCell ?_ ?_ _ | refine below_step ?_ (by assumption) ?_ | omega | (simp only [zz] at *; omega))))
def unitsB (ts : List Bm.Tk) (S : List Nat) : Nat := (ts.map fun t => if hasB t.1 S then t.2 else 0).sum
set_option maxRecDepth 100000 in
set_option maxHeartbeats 1000000 in
theorem units_any (s : Nat) (A : Option Addr) (R : List Nat) (rc : Nat) (B : Option Addr) (ts : List Bm.Tk) (d : Nat) (w : World) (hS : SheetAt w s A (zs R) rc B (tz ts) d) (hR5 : R.length ≤ 5) (hR6 : ∀ n, n ∈ R → n ≤ 6) (ht10 : ts.length ≤ 10) (hu : ∀ t, t ∈ ts → t.2 ≤ 1000) (htl : ∀ t, t ∈ ts → t.1.length = R.length) (ht6 : ∀ t, t ∈ ts → ∀ x, x ∈ t.1 → x < 64) (Y : Option Addr) (S0 : List Nat) (yc : Nat) (hY : I64 w Y (zs S0)) (hY5 : S0.length = R.length) (hY6 : ∀ x, x ∈ S0 → x < 64) :
    Calls Try.prog 71 #[.pointer (some ⟨s, 0, none⟩), .slice Y S0.length yc] w (Gives w (.int .i64 (unitsB ts S0 : Nat))) := by
  obtain ⟨r0, r1, rl, hA, hB⟩ := hS
  rw [tz_len] at r1
  have ht' : (ts.length : Int) ≤ 10 := by omega
  obtain ⟨F, hF⟩ : ∃ F : Nat → Nat, F = fun k => if hasB (ts.getD k ([], 0)).1 S0 = true then (ts.getD k ([], 0)).2 else 0 := ⟨_, rfl⟩
  have HV := hide (show unitsB ts S0 = Bm.sumTo F ts.length by rw [hF]; exact Bm.map_sumTo ts _ _)
  have HF : Hid (∀ k, (hk : k < ts.length) → F k = if hasB ts[k].1 S0 = true then ts[k].2 else 0) := hide (fun k hk => by rw [hF]; show (if hasB (ts.getD k ([], 0)).1 S0 = true then (ts.getD k ([], 0)).2 else 0) = _; rw [getD_at _ _ hk])
  have HL := hide (fun k (hk : k ≤ ts.length) => Bm.sumTo_le F k 1000 (fun j hj => by
    rw [HF.out j (by omega)]
    split
    · exact hu _ (List.getElem_mem (by omega))
    · omega))
  have HS := hide (Bm.sumTo_succ F)
  clear hF
  have HYL := hide hY5
  have hY4 : S0.length ≤ 5 := by omega
  clear hY5
  go_enter Try.func71, Try.ntmps71
  go_wp2
  go_loopw [5, 7, 13] (fun n _ j wr => ∃ k : Nat, k ≤ ts.length ∧ j = .int .i64 k ∧ n = .int .i64 (Bm.sumTo F k : Nat) ∧ Below w.heap.size w wr) (fun _ _ j _ => ts.length - (intOf j).toNat)
  case atStart => exact ⟨0, Nat.zero_le _, rfl, rfl, by (repeat (first | exact Below.refl _ _ | assumption | (refine below_gr ?_ (by (first | omega | (simp only [zz] at *; omega))) _) | (refine below_alloc ?_ (by (first | omega | (simp only [zz] at *; omega))) _) | (refine Below.setCell ?_ (by (first | omega | (simp only [zz] at *; omega))) _) | refine below_drewN ?_ _ | refine below_drew ?_ | (refine below_step ?_ (by assumption) (by (first | omega | (simp only [zz] at *; omega))))))⟩
  case round =>
    obtain ⟨k, hk, rfl, rfl, hb⟩ := hrel
    have hsz := hb.size
    have c1 : wr.cell? ⟨s, 1, none⟩ = some (.slice B ts.length d) := (hb.cell (p := ⟨s, _, none⟩) rl).trans r1
    have hn := HL.out k hk
    by_cases hlt : k < ts.length
    · have hB1 := hB.ext hb
      obtain ⟨tb, to, rfl, htb⟩ := hB1.form (by rw [tz_len]; omega)
      obtain ⟨S, sc, q0, q1, q2, hSx⟩ := hB1.at (k := k) (by rw [tz_len]; exact hlt)
      simp only [tz_at _ _ hlt, zs_len] at q0 q1 q2 hSx
      have hfk := HF.out k hlt
      have hsk := HS.out k
      have hu1 := hu ts[k] (List.getElem_mem hlt)
      have h61 := ht6 ts[k] (List.getElem_mem hlt)
      have hll := hide (htl ts[k] (List.getElem_mem hlt))
      rw [hfk] at hsk
      have HH := hide (fun w' (h1 : I64 w' S (zs ts[k].1)) (h2 : I64 w' Y (zs S0)) => has_any S ts[k].1 sc Y S0 yc w' h1 h2 (by rw [hll.out, HYL.out]; exact Nat.le_refl _) (by omega) h61 hY6)
      have HSK := hide hsk
      have hY1 := hY.ext hb
      clear hsk hfk h61
      by_cases ha : hasB ts[k].1 S0 = true
      all_goals
        try replace ha : hasB ts[k].1 S0 = false := by simpa using ha
        rw [ha] at HH HSK
        clear ha
        simp only [Bool.false_eq_true, if_true, if_false] at HSK
        generalize ts[k].2 = u at *
        generalize ts[k].1 = tS at *
        generalize Bm.sumTo F k = q at *
        have hq' : (q : Int) ≤ 10000 := by omega
        have hu' : (u : Int) ≤ 1000 := by omega
        have hq0 : (0 : Int) ≤ q := by omega
        have hu0 : (0 : Int) ≤ u := by omega
        go_wp2_with (go_at_call 70; refine (HH.out _ (hSx.ext (by (repeat (first | exact Below.refl _ _ | assumption | refine below_drewN ?_ _ | refine below_drew ?_ | refine below_gr ?_ ?_ _ | refine below_alloc ?_ ?_ _ | refine Below.setCell ?_ ?_ _ | refine below_step ?_ (by assumption) ?_ | omega | (simp only [zz] at *; omega))))) (hY1.ext (by (repeat (first | exact Below.refl _ _ | assumption | refine below_drewN ?_ _ | refine below_drew ?_ | refine below_gr ?_ ?_ _ | refine below_alloc ?_ ?_ _ | refine Below.setCell ?_ ?_ _ | refine below_step ?_ (by assumption) ?_ | omega | (simp only [zz] at *; omega)))))).mono ?_; rintro e w1 ⟨rfl, hb1⟩; replace hb1 := ex_below hb1; have hz1 := hb1.size; (try simp only [zz] at hz1); have hs1 : wr.heap.size < w1.heap.size := (by (first | omega | (simp only [zz] at *; omega))); have ho1 := own_cell hb1 (b := wr.heap.size) (by (first | omega | (simp only [zz] at *; omega))); have hq1 := own_frozen hb1 (b := wr.heap.size) (by (first | omega | (simp only [zz] at *; omega))); have hlt1 : ∀ b, b < w.heap.size → b < w1.heap.size := fun b hb => (by (first | omega | (simp only [zz] at *; omega))); have hc1 : ∀ b o, b < w.heap.size → w1.cell? ⟨b, o, none⟩ = w.cell? ⟨b, o, none⟩ := old_cell (by (repeat (first | exact Below.refl _ _ | assumption | refine below_drewN ?_ _ | refine below_drew ?_ | refine below_gr ?_ ?_ _ | refine below_alloc ?_ ?_ _ | refine Below.setCell ?_ ?_ _ | refine below_step ?_ (by assumption) ?_ | omega | (simp only [zz] at *; omega)))))
        go_roundw
        case measure => simp [intOf]; omega
        exact ⟨k + 1, by omega, by go_num, v_int (by rw [HSK.out]; omega), by (repeat (first | exact Below.refl _ _ | assumption | (refine below_gr ?_ (by (first | omega | (simp only [zz] at *; omega))) _) | (refine below_alloc ?_ (by (first | omega | (simp only [zz] at *; omega))) _) | (refine Below.setCell ?_ (by (first | omega | (simp only [zz] at *; omega))) _) | refine below_drewN ?_ _ | refine below_drew ?_ | (refine below_step ?_ (by assumption) (by (first | omega | (simp only [zz] at *; omega))))))⟩
    · have hkl : k = ts.length := by omega
      rw [hkl, ← HV.out]
      go_wp2
      go_ret
      exact gives_of (rfl) (by (repeat (first | exact Below.refl _ _ | assumption | refine below_drewN ?_ _ | refine below_drew ?_ | refine below_gr ?_ ?_ _ | refine below_alloc ?_ ?_ _ | refine Below.setCell ?_ ?_ _ | refine below_step ?_ (by assumption) ?_ | omega | (simp only [zz] at *; omega))))
end Go.Proofs.Ytlbkaeoagdbemaa
namespace Go.Proofs.Ytlbkaeoagdbemaa
open Go.RowKit Go.Maps
def runB (R : List Nat) (won : List Int) : Bool := (won.zip (zs R)).all (fun p : Int × Int => decide (0 ≤ p.1 ∧ p.1 < p.2))
set_option maxRecDepth 100000 in
set_option maxHeartbeats 1000000 in
theorem run_any (s : Nat) (A : Option Addr) (R : List Nat) (rc : Nat) (B : Option Addr) (ts : List Bm.Tk) (d : Nat) (w : World) (hS : SheetAt w s A (zs R) rc B (tz ts) d) (hR5 : R.length ≤ 5) (hR6 : ∀ n, n ∈ R → n ≤ 6) (ht10 : ts.length ≤ 10) (X : Option Addr) (won : List Int) (xc : Nat) (hX : I64 w X won) (hwl : won.length ≤ R.length) :
    Calls Try.prog 78 #[.pointer (some ⟨s, 0, none⟩), .slice X won.length xc] w (Gives w (.bool (runB R won))) := by
  obtain ⟨r0, r1, rl, hA, hB⟩ := hS
  rw [zs_len] at r0
  have HX := hide (show runB R won = (won.zip (zs R)).all (fun p : Int × Int => decide (0 ≤ p.1 ∧ p.1 < p.2)) from rfl)
  have hzl := hide (show (won.zip (zs R)).length = won.length by rw [List.length_zip, zs_len]; omega)
  have hl1 : (won.length : Int) ≤ 5 := by omega
  have hl2 : (R.length : Int) ≤ 5 := by omega
  go_enter Try.func78, Try.ntmps78
  go_wp2
  go_loopw [5, 6, 9] (fun _ _ i wr => ∃ k : Nat, k ≤ won.length ∧ i = .int .i64 k ∧ ((won.zip (zs R)).take k).all (fun p : Int × Int => decide (0 ≤ p.1 ∧ p.1 < p.2)) = true ∧ Grew w wr) (fun _ _ i _ => won.length - (intOf i).toNat)
  case atStart => exact ⟨0, Nat.zero_le _, rfl, rfl, grew_refl _⟩
  case round =>
    obtain ⟨k, hk, rfl, hall, hb⟩ := hrel
    replace hb := hb.below
    have hzr := hb.size
    (try simp only [zz] at hzr)
    have hltr : ∀ b, b < w.heap.size → b < wr.heap.size := fun b hb => (by (first | omega | (simp only [zz] at *; omega)))
    have hcr : ∀ b o, b < w.heap.size → wr.cell? ⟨b, o, none⟩ = w.cell? ⟨b, o, none⟩ := old_cell (by (repeat (first | exact Below.refl _ _ | assumption | refine below_drewN ?_ _ | refine below_drew ?_ | refine below_gr ?_ ?_ _ | refine below_alloc ?_ ?_ _ | refine Below.setCell ?_ ?_ _ | refine below_step ?_ (by assumption) ?_ | omega | (simp only [zz] at *; omega))))
    by_cases hlt : k < won.length
    · have hltR : k < R.length := by omega
      obtain ⟨ab, ao, rfl, hal⟩ := hX.form (by omega)
      have hx0 := hX.at hlt
      obtain ⟨bb, bo, rfl, hbl⟩ := zsF hA (by omega)
      have hy0 := zsI hA hltR
      have HBad := hide (all_bad (f := (fun p : Int × Int => decide (0 ≤ p.1 ∧ p.1 < p.2))) (show k < (won.zip (zs R)).length by rw [hzl.out]; exact hlt))
      have HG := hide (all_good (f := (fun p : Int × Int => decide (0 ≤ p.1 ∧ p.1 < p.2))) (show k < (won.zip (zs R)).length by rw [hzl.out]; exact hlt) hall)
      have hz0 : (won.zip (zs R))[k]'(by rw [hzl.out]; exact hlt) = (won[k], (R[k] : Int)) := by simp [zs]
      rw [hz0] at HBad HG
      clear hz0 hall
      generalize won[k] = x at *
      generalize R[k] = y at *
      by_cases h1 : 0 ≤ x
      · by_cases h2 : x < (y : Int)
        · replace HG := hide (HG.out (by simp; omega))
          clear HBad
          go_wp2
          go_roundw
          case measure => simp [intOf]; omega
          exact ⟨k + 1, by omega, by go_num, HG.out, grew_of (by (repeat (first | exact Below.refl _ _ | assumption | refine below_drewN ?_ _ | refine below_drew ?_ | refine below_gr ?_ ?_ _ | refine below_alloc ?_ ?_ _ | refine Below.setCell ?_ ?_ _ | refine below_step ?_ (by assumption) ?_ | omega | (simp only [zz] at *; omega))))⟩
        · replace HBad := hide (HBad.out (by simp; omega))
          clear HG
          go_wp2
          go_ret
          exact gives_of (v_bool (by rw [HX.out, HBad.out])) (by (repeat (first | exact Below.refl _ _ | assumption | refine below_drewN ?_ _ | refine below_drew ?_ | refine below_gr ?_ ?_ _ | refine below_alloc ?_ ?_ _ | refine Below.setCell ?_ ?_ _ | refine below_step ?_ (by assumption) ?_ | omega | (simp only [zz] at *; omega))))
      · replace HBad := hide (HBad.out (by simp; omega))
        clear HG
        go_wp2
        go_ret
        exact gives_of (v_bool (by rw [HX.out, HBad.out])) (by (repeat (first | exact Below.refl _ _ | assumption | refine below_drewN ?_ _ | refine below_drew ?_ | refine below_gr ?_ ?_ _ | refine below_alloc ?_ ?_ _ | refine Below.setCell ?_ ?_ _ | refine below_step ?_ (by assumption) ?_ | omega | (simp only [zz] at *; omega))))
    · have hkl : k = won.length := by omega
      have hv := hide (show runB R won = true by rw [HX.out]; rw [hkl, ← hzl.out, List.take_length] at hall; exact hall)
      clear hall
      go_wp2
      go_ret
      exact gives_of (v_bool hv.out.symm) (by (repeat (first | exact Below.refl _ _ | assumption | refine below_drewN ?_ _ | refine below_drew ?_ | refine below_gr ?_ ?_ _ | refine below_alloc ?_ ?_ _ | refine Below.setCell ?_ ?_ _ | refine below_step ?_ (by assumption) ?_ | omega | (simp only [zz] at *; omega))))
theorem single6 {o : List Nat} (h : ∀ i, i ∈ o → i < 6) : ∀ x, x ∈ singleP o → x < 64 := fun x hx => by
  obtain ⟨i, hi, rfl⟩ := List.mem_map.1 hx
  have := Nat.pow_lt_pow_right (a := 2) (by omega) (h i hi)
  omega
set_option maxRecDepth 100000 in
set_option maxHeartbeats 1000000 in
theorem outcome_any (s : Nat) (A : Option Addr) (R : List Nat) (rc : Nat) (B : Option Addr) (ts : List Bm.Tk) (d : Nat) (w : World) (hS : SheetAt w s A (zs R) rc B (tz ts) d) (hR5 : R.length ≤ 5) (hR6 : ∀ n, n ∈ R → n ≤ 6) (ht10 : ts.length ≤ 10) (hu : ∀ t, t ∈ ts → t.2 ≤ 1000) (htl : ∀ t, t ∈ ts → t.1.length = R.length) (ht6 : ∀ t, t ∈ ts → ∀ x, x ∈ t.1 → x < 64) (Y : Option Addr) (o : List Nat) (yc : Nat) (hY : I64 w Y (zs o)) (hY5 : o.length = R.length) (hY6 : ∀ i, i ∈ o → i < 6) :
    Calls Try.prog 76 #[.pointer (some ⟨s, 0, none⟩), .slice Y o.length yc] w (Gives w (.int .i64 (unitsB ts (singleP o) : Nat))) := by
  have HSI := hide (fun w' (h : I64 w' Y (zs o)) => single_any Y o yc w' h (by omega) hY6)
  have HUN := hide (fun w' Z zc (h : SheetAt w' s A (zs R) rc B (tz ts) d) (hZ : I64 w' Z (zs (singleP o))) => units_any s A R rc B ts d w' h hR5 hR6 ht10 hu htl ht6 Z (singleP o) zc hZ (by simp [singleP, hY5]) (single6 hY6))
  have HSL := hide (zs_len (singleP o))
  clear hY5
  go_enter Try.func76, Try.ntmps76
  go_wp2_with (first
    | (go_at_call 79; refine (HSI.out _ (hY.ext (by (repeat (first | exact Below.refl _ _ | assumption | refine below_drewN ?_ _ | refine below_drew ?_ | refine below_gr ?_ ?_ _ | refine below_alloc ?_ ?_ _ | refine Below.setCell ?_ ?_ _ | refine below_step ?_ (by assumption) ?_ | omega | (simp only [zz] at *; omega)))))).mono ?_; rintro e w1 ⟨Z, zc, rfl, hb1, hZ, _⟩; rw [HSL.out]; replace hb1 := ex_below hb1)
    | (go_at_call 71; refine (HUN.out _ _ _ (hS.ext (by (repeat (first | exact Below.refl _ _ | assumption | refine below_drewN ?_ _ | refine below_drew ?_ | refine below_gr ?_ ?_ _ | refine below_alloc ?_ ?_ _ | refine Below.setCell ?_ ?_ _ | refine below_step ?_ (by assumption) ?_ | omega | (simp only [zz] at *; omega))))) hZ).mono ?_; rintro e w2 ⟨rfl, hb2⟩; replace hb2 := ex_below hb2; have hz1 := hb1.size; have hz2 := hb2.size))

  go_ret
  exact gives_of (rfl) (by (repeat (first | exact Below.refl _ _ | assumption | refine below_drewN ?_ _ | refine below_drew ?_ | refine below_gr ?_ ?_ _ | refine below_alloc ?_ ?_ _ | refine Below.setCell ?_ ?_ _ | refine below_step ?_ (by assumption) ?_ | omega | (simp only [zz] at *; omega))))
set_option maxRecDepth 100000 in
set_option maxHeartbeats 1000000 in
theorem best_any (X : Option Addr) (xs : List Int) (xc : Nat) (w : World) (hX : I64 w X xs) (hl : xs.length ≤ 10) :
    Calls Try.prog 95 #[.slice X xs.length xc] w (Gives w (.int .i64 (Bm.bestP xs xs.length : Nat))) := by
  have hl1 : (xs.length : Int) ≤ 10 := by omega
  have HZ := hide (show Bm.bestP xs 0 = 0 from rfl)
  have HS := hide (fun k => (show Bm.bestP xs (k + 1) = if xs.getD k 0 < xs.getD (Bm.bestP xs k) 0 then k else Bm.bestP xs k from rfl))
  have HB := hide (fun k h => (Bm.best_spec xs k h).1)
  go_enter Try.func95, Try.ntmps95
  go_wp2
  go_loopw [3, 4, 5, 8] (fun a _ _ i wr => ∃ k : Nat, k ≤ xs.length ∧ i = .int .i64 k ∧ a = .int .i64 (Bm.bestP xs k : Nat) ∧ Grew w wr) (fun _ _ _ i _ => xs.length - (intOf i).toNat)
  case atStart => exact ⟨0, Nat.zero_le _, rfl, by rw [HZ.out]; rfl, grew_refl _⟩
  case round =>
    obtain ⟨k, hk, rfl, rfl, hb⟩ := hrel
    replace hb := hb.below
    have hzr := hb.size
    (try simp only [zz] at hzr)
    have hltr : ∀ b, b < w.heap.size → b < wr.heap.size := fun b hb => (by (first | omega | (simp only [zz] at *; omega)))
    have hcr : ∀ b o, b < w.heap.size → wr.cell? ⟨b, o, none⟩ = w.cell? ⟨b, o, none⟩ := old_cell (by (repeat (first | exact Below.refl _ _ | assumption | refine below_drewN ?_ _ | refine below_drew ?_ | refine below_gr ?_ ?_ _ | refine below_alloc ?_ ?_ _ | refine Below.setCell ?_ ?_ _ | refine below_step ?_ (by assumption) ?_ | omega | (simp only [zz] at *; omega))))
    by_cases hlt : k < xs.length
    · obtain ⟨ab, ao, rfl, hal⟩ := hX.form (by omega)
      have hx0 := hX.at hlt
      have hbk : Bm.bestP xs k < xs.length := by
        rcases Nat.eq_zero_or_pos k with rfl | h
        · rw [HZ.out]; omega
        · have := HB.out k h; omega
      have hy0 := hX.at hbk
      have HK := HS.out k
      rw [getD_at _ _ hlt, getD_at _ _ hbk] at HK
      replace HK := hide HK
      clear HS HB
      generalize xs[k] = x at *
      generalize xs[Bm.bestP xs k] = y at *
      generalize Bm.bestP xs k = q at *
      by_cases h1 : x < y
      all_goals
        go_wp2
        go_roundw
        case measure => simp [intOf]; omega
        exact ⟨k + 1, by omega, by go_num, by rw [HK.out]; (first | rw [if_pos h1] | rw [if_neg h1]), grew_of (by (repeat (first | exact Below.refl _ _ | assumption | refine below_drewN ?_ _ | refine below_drew ?_ | refine below_gr ?_ ?_ _ | refine below_alloc ?_ ?_ _ | refine Below.setCell ?_ ?_ _ | refine below_step ?_ (by assumption) ?_ | omega | (simp only [zz] at *; omega))))⟩
    · have hkl : k = xs.length := by omega
      subst hkl
      go_wp2
      go_ret
      exact gives_of (rfl) (by (repeat (first | exact Below.refl _ _ | assumption | refine below_drewN ?_ _ | refine below_drew ?_ | refine below_gr ?_ ?_ _ | refine below_alloc ?_ ?_ _ | refine Below.setCell ?_ ?_ _ | refine below_step ?_ (by assumption) ?_ | omega | (simp only [zz] at *; omega))))
end Go.Proofs.Ytlbkaeoagdbemaa
