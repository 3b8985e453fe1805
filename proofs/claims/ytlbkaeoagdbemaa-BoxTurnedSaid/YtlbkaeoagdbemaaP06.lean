/- Proved here: which boxes are valid; which boxes are valid, for all, a part of the proofs about the box laws. Conditions: those that each theorem names, no others. -/
import Derived.Test.YtlbkaeoagdbemaaP05
import Derived.WalkKit
import Derived.WalkSpells
import Derived.WalkLawsBesides
import Derived.Below
import Derived.Deep.QuietTactic
import Derived.BigQuiet
import Derived.Deep.Light
import Derived.Deep.RegionHeld3
set_option linter.unusedSimpArgs false
set_option linter.unusedVariables false
namespace Go.Proofs.Ytlbkaeoagdbemaa
open Go.RowKit
theorem neN (a b : Nat) : ((a : Int) != (b : Int)) = decide (a ≠ b) := by rw [Bool.eq_iff_iff]; simp; omega
set_option maxRecDepth 100000 in
set_option maxHeartbeats 1000000 in
theorem areBoxes1_any (S : Option Addr) (t : Tz) (c : Nat) (b : Nat) (A : Option Addr) (R : List Int) (d : Nat) (w : World) (hS : I64 w S t.1) (hb0 : b < w.heap.size) (hc : w.cell? ⟨b, 0, none⟩ = some (.slice A R.length d)) (hA : I64 w A R) (h1 : t.1.length ≤ 1000000) (h2 : R.length ≤ 1000000) :
    Calls Try.prog 82 #[.agg #[.slice S t.1.length c, .int .i64 t.2], .pointer (some ⟨b, 0, none⟩)] w (Gives w (.bool (shortB R t))) := by
  have h1' : (t.1.length : Int) ≤ 1000000 := by omega
  have h2' : (R.length : Int) ≤ 1000000 := by omega
  go_enter Try.func82, Try.ntmps82
  go_wp2
  go_ret
  exact gives_of (v_bool (neN _ _)) (by (repeat (first | exact Below.refl _ _ | assumption | refine below_drewN ?_ _ | refine below_drew ?_ | refine below_gr ?_ ?_ _ | refine below_alloc ?_ ?_ _ | refine Below.setCell ?_ ?_ _ | refine below_step ?_ (by assumption) ?_ | omega | (simp only [zz] at *; omega))))

theorem withinI (lo hi x : Int) (n : Nat) (w : World) (h : I64 w (some ⟨n, 0, none⟩) [x]) :
    Calls Try.prog 56 #[.int .i64 lo, .int .i64 hi, .slice (some ⟨n, 0, none⟩) 1 1] w (Gives w (.bool (decide (lo ≤ x ∧ x ≤ hi)))) := by
  rw [← within_one]
  exact within_any lo hi (some ⟨n, 0, none⟩) [x] 1 w h (by simp)
theorem hiW (n : Int) (h1 : 1 ≤ n) (h2 : n ≤ 6) : IntKind.i64.wrap (IntKind.i64.wrap (2 ^ n.toNat) - 1) = 2 ^ n.toNat - 1 := by
  have : n = 1 ∨ n = 2 ∨ n = 3 ∨ n = 4 ∨ n = 5 ∨ n = 6 := by omega
  rcases this with rfl | rfl | rfl | rfl | rfl | rfl <;> decide
set_option maxRecDepth 100000 in
set_option maxHeartbeats 1000000 in
theorem areBoxes2_any (S : Option Addr) (t : Tz) (c : Nat) (b : Nat) (A : Option Addr) (R : List Int) (d : Nat) (w : World) (hS : I64 w S t.1) (hb0 : b < w.heap.size) (hc : w.cell? ⟨b, 0, none⟩ = some (.slice A R.length d)) (hA : I64 w A R) (h1 : t.1.length ≤ 1000000) (h2 : R.length ≤ 1000000) (hR : ∀ k, (h : k < R.length) → 1 ≤ R[k] ∧ R[k] ≤ 6) (hlen : t.1.length = R.length) :
    Calls Try.prog 83 #[.agg #[.slice S t.1.length c, .int .i64 t.2], .pointer (some ⟨b, 0, none⟩)] w (Gives w (.bool (oddT R t))) := by
  have h1' : (t.1.length : Int) ≤ 1000000 := by omega
  have h2' : (R.length : Int) ≤ 1000000 := by omega
  have HX := hide (show oddT R t = !((R.zip t.1).all fun p => decide (1 ≤ p.2 ∧ p.2 ≤ 2 ^ p.1.toNat - 1)) from rfl)
  have HLEN := hide hlen
  have hzl := hide (show (R.zip t.1).length = R.length by simp [hlen])
  clear hlen
  obtain ⟨tS, tU⟩ := t
  simp only at *
  go_enter Try.func83, Try.ntmps83
  go_wp2
  go_loopw [4, 5, 9] (fun _ _ i wr => ∃ k : Nat, k ≤ R.length ∧ i = .int .i64 k ∧ ((R.zip tS).take k).all (fun p => decide (1 ≤ p.2 ∧ p.2 ≤ 2 ^ p.1.toNat - 1)) = true ∧ Below (w.heap.size + 1) (w.alloc (.cells #[.slice S tS.length c, .int .i64 tU] 34)) wr) (fun _ _ i _ => R.length - (intOf i).toNat)
  case atStart => exact ⟨0, Nat.zero_le _, rfl, rfl, Below.refl _ _⟩
  case round =>
    obtain ⟨k, hk, rfl, hall, hbx⟩ := hrel
    have hb := hbx
    have hb9 := hbx.size
    have hbw : Below w.heap.size w wr := by (repeat (first | exact Below.refl _ _ | assumption | (refine below_gr ?_ (by (first | omega | (simp only [zz] at *; omega))) _) | (refine below_alloc ?_ (by (first | omega | (simp only [zz] at *; omega))) _) | (refine Below.setCell ?_ (by (first | omega | (simp only [zz] at *; omega))) _) | refine below_drewN ?_ _ | refine below_drew ?_ | (refine below_step ?_ (by assumption) (by (first | omega | (simp only [zz] at *; omega))))))
    have hcr : ∀ b o, b < w.heap.size → wr.cell? ⟨b, o, none⟩ = w.cell? ⟨b, o, none⟩ := old_cell hbw
    have e0 := own_cell hb (b := w.heap.size) (by omega)
    have q0 := own_frozen hb (b := w.heap.size) (by omega)
    have hcb : wr.cell? ⟨b, 0, none⟩ = some (.slice A R.length d) := (hcr _ _ hb0).trans hc
    by_cases hlt : k < R.length
    · obtain ⟨rb, ro, rfl, hrl⟩ := hA.form (by omega)
      have hr0 := hA.at hlt
      have hltS : k < tS.length := by rw [HLEN.out]; exact hlt
      obtain ⟨sb, so, rfl, hsl⟩ := hS.form (by omega)
      have hs0 := hS.at hltS
      have HBad := hide (all_bad (f := fun p : Int × Int => decide (1 ≤ p.2 ∧ p.2 ≤ 2 ^ p.1.toNat - 1)) (show k < (R.zip tS).length by rw [hzl.out]; exact hlt))
      have HG := hide (all_good (f := fun p : Int × Int => decide (1 ≤ p.2 ∧ p.2 ≤ 2 ^ p.1.toNat - 1)) (show k < (R.zip tS).length by rw [hzl.out]; exact hlt) hall)
      have hz0 : (R.zip tS)[k]'(by rw [hzl.out]; exact hlt) = (R[k], tS[k]) := by simp
      rw [hz0] at HBad HG
      have hn := hR k hlt
      clear hz0 hall
      generalize R[k] = n at *
      generalize tS[k] = x at *
      obtain ⟨n1, n2⟩ := hn
      have hx : decide (1 ≤ x ∧ x ≤ 2 ^ n.toNat - 1) = true ∨ decide (1 ≤ x ∧ x ≤ 2 ^ n.toNat - 1) = false := by cases decide (1 ≤ x ∧ x ≤ 2 ^ n.toNat - 1) <;> simp
      rcases hx with hx | hx
      all_goals
        have HW := hide (fun w' (h : I64 w' (some ⟨wr.heap.size, 0, none⟩) [x]) => by
          have := withinI 1 (IntKind.i64.wrap (IntKind.i64.wrap (2 ^ n.toNat) - 1)) x _ w' h
          rw [show decide (1 ≤ x ∧ x ≤ IntKind.i64.wrap (IntKind.i64.wrap (2 ^ n.toNat) - 1)) = decide (1 ≤ x ∧ x ≤ 2 ^ n.toNat - 1) by rw [hiW n n1 n2], hx] at this
          exact this)
        first | replace HG := hide (HG.out hx) | replace HBad := hide (HBad.out hx)
        clear hx
        go_wp2
        go_region_held3 (fun w' => w'.cell? ⟨w.heap.size, 0, none⟩ = some (.slice (some ⟨sb, so, none⟩) tS.length c) ∧ w'.cell? ⟨sb, so + k, none⟩ = some (.int .i64 x)) (go_keep) (first | (go_at_call 56; refine (HW.out _ ((i64_new wr [x] 2 _ (by simp)).ext (below_drew (Below.refl _ _)))).mono ?_; rintro e wz ⟨rfl, hb1⟩; replace hb1 := ex_below hb1; have hz1 := hb1.size; (try simp only [zz] at hz1); have hs1 : w.heap.size < wz.heap.size := (by (first | omega | (simp only [zz] at *; omega))); have ho1 := own_cell hb1 (b := w.heap.size) (by (first | omega | (simp only [zz] at *; omega))); have hq1 := own_frozen hb1 (b := w.heap.size) (by (first | omega | (simp only [zz] at *; omega))); have hlt1 : ∀ b, b < w.heap.size → b < wz.heap.size := fun b hb => (by (first | omega | (simp only [zz] at *; omega))); have hc1 : ∀ b o, b < w.heap.size → wz.cell? ⟨b, o, none⟩ = w.cell? ⟨b, o, none⟩ := old_cell (by (repeat (first | exact Below.refl _ _ | assumption | refine below_drewN ?_ _ | refine below_drew ?_ | refine below_gr ?_ ?_ _ | refine below_alloc ?_ ?_ _ | refine Below.setCell ?_ ?_ _ | refine below_step ?_ (by assumption) ?_ | omega | (simp only [zz] at *; omega))))))
        go_wp2
      · go_roundw
        case measure => simp [intOf]; omega
        exact ⟨k + 1, by omega, by go_num, HG.out, by (repeat (first | exact Below.refl _ _ | assumption | (refine below_gr ?_ (by (first | omega | (simp only [zz] at *; omega))) _) | (refine below_alloc ?_ (by (first | omega | (simp only [zz] at *; omega))) _) | (refine Below.setCell ?_ (by (first | omega | (simp only [zz] at *; omega))) _) | refine below_drewN ?_ _ | refine below_drew ?_ | (refine below_step ?_ (by assumption) (by (first | omega | (simp only [zz] at *; omega))))))⟩
      · go_ret
        exact gives_of (v_bool (by rw [HX.out, HBad.out]; rfl)) (by (repeat (first | exact Below.refl _ _ | assumption | refine below_drewN ?_ _ | refine below_drew ?_ | refine below_gr ?_ ?_ _ | refine below_alloc ?_ ?_ _ | refine Below.setCell ?_ ?_ _ | refine below_step ?_ (by assumption) ?_ | omega | (simp only [zz] at *; omega))))
    · have hkl : k = R.length := by omega
      have hv := hide (show oddT R (tS, tU) = false by rw [HX.out]; rw [hkl, ← hzl.out, List.take_length] at hall; rw [hall]; rfl)
      clear hall
      go_wp2
      go_ret
      exact gives_of (v_bool hv.out.symm) (by (repeat (first | exact Below.refl _ _ | assumption | refine below_drewN ?_ _ | refine below_drew ?_ | refine below_gr ?_ ?_ _ | refine below_alloc ?_ ?_ _ | refine Below.setCell ?_ ?_ _ | refine below_step ?_ (by assumption) ?_ | omega | (simp only [zz] at *; omega))))
end Go.Proofs.Ytlbkaeoagdbemaa
namespace Go.Proofs.Ytlbkaeoagdbemaa
open Go.RowKit
set_option maxRecDepth 100000 in
set_option maxHeartbeats 1000000 in
theorem checkT1_any (S : Option Addr) (t : Tz) (c : Nat) (w : World) :
    Calls Try.prog 59 #[.agg #[.slice S t.1.length c, .int .i64 t.2]] w (Gives w (.bool (unfitB t))) := by
  have HW := hide (withinI 1 1000 t.2)
  go_enter Try.func59, Try.ntmps59
  go_wp2_with (go_at_call 56; refine (HW.out _ _ (i64_new _ [t.2] 2 _ (by simp))).mono ?_; rintro e w1 ⟨rfl, hb1⟩; replace hb1 := ex_below hb1; have hz1 := hb1.size; (try simp only [zz] at hz1); have hlt1 : ∀ b, b < w.heap.size → b < w1.heap.size := fun b hb => (by (first | omega | (simp only [zz] at *; omega))); have hc1 : ∀ b o, b < w.heap.size → w1.cell? ⟨b, o, none⟩ = w.cell? ⟨b, o, none⟩ := old_cell (by (repeat (first | exact Below.refl _ _ | assumption | refine below_drewN ?_ _ | refine below_drew ?_ | refine below_gr ?_ ?_ _ | refine below_alloc ?_ ?_ _ | refine Below.setCell ?_ ?_ _ | refine below_step ?_ (by assumption) ?_ | omega | (simp only [zz] at *; omega)))))
  go_ret
  exact gives_of (v_bool (by rw [show unfitB t = !decide (1 ≤ t.2 ∧ t.2 ≤ 1000) from rfl]; simp)) (by (repeat (first | exact Below.refl _ _ | assumption | refine below_drewN ?_ _ | refine below_drew ?_ | refine below_gr ?_ ?_ _ | refine below_alloc ?_ ?_ _ | refine Below.setCell ?_ ?_ _ | refine below_step ?_ (by assumption) ?_ | omega | (simp only [zz] at *; omega))))

set_option maxRecDepth 100000 in
set_option maxHeartbeats 1000000 in
theorem index1_any (B : Option Addr) (ts : List Tz) (d : Nat) (w : World) (hB : Tks w B ts) (hl : ts.length ≤ 1000000) (A : Option Addr) (R : List Int) (rc : Nat) (b : Nat) (hb0 : b < w.heap.size) (hc : w.cell? ⟨b, 0, none⟩ = some (.slice A R.length rc)) (hA : I64 w A R) (hR2 : R.length ≤ 1000000) (hts : ∀ t, t ∈ ts → t.1.length ≤ 1000000) :
    Calls Try.prog 84 #[.slice B ts.length d, .func (.func 82) #[] #[.pointer (some ⟨b, 0, none⟩)]] w (Gives w (.int .i64 (idxI (shortB R) ts))) := by
  go_enter Try.func84, Try.ntmps84
  go_wp2
  go_loopw [8] (fun i wr => ∃ k : Nat, k ≤ ts.length ∧ i = .int .i64 k ∧ (ts.take k).all (fun x => !(shortB R) x) = true ∧ Grew w wr) (fun i _ => ts.length - (intOf i).toNat)
  case atStart => exact ⟨0, Nat.zero_le _, rfl, rfl, grew_refl _⟩
  case round =>
    obtain ⟨k, hk, rfl, hall, hb⟩ := hrel
    replace hb := hb.below
    have hzr := hb.size
    (try simp only [zz] at hzr)
    have hltr : ∀ b, b < w.heap.size → b < wr.heap.size := fun b hb => (by (first | omega | (simp only [zz] at *; omega)))
    have hcr : ∀ b o, b < w.heap.size → wr.cell? ⟨b, o, none⟩ = w.cell? ⟨b, o, none⟩ := old_cell (by (repeat (first | exact Below.refl _ _ | assumption | refine below_drewN ?_ _ | refine below_drew ?_ | refine below_gr ?_ ?_ _ | refine below_alloc ?_ ?_ _ | refine Below.setCell ?_ ?_ _ | refine below_step ?_ (by assumption) ?_ | omega | (simp only [zz] at *; omega))))
    by_cases hlt : k < ts.length
    · obtain ⟨tb, toff, rfl, htl⟩ := hB.form (by omega)
      obtain ⟨S, sc, ht0, ht1, hsc, hSx⟩ := hB.at hlt
      have hSr := hSx.ext hb
      have HG := hide (all_good (f := fun x => !(shortB R) x) hlt hall)
      have HI := hide (idxI_at (shortB R) ts k hlt hall)
      have hmem := hide (List.getElem_mem hlt)
      have hx1 := hts ts[k] (List.getElem_mem hlt)
      clear hall
      generalize ts[k] = x at *
      go_wp2_with (go_at_call 82; refine (areBoxes1_any S x sc b A R rc _ hSr (by omega) ((hcr _ _ hb0).trans hc) (hA.ext hb) hx1 hR2).mono ?_; rintro e w1 ⟨rfl, hb1⟩; replace hb1 := ex_below hb1; have hz1 := hb1.size; (try simp only [zz] at hz1); have hlt1 : ∀ b, b < w.heap.size → b < w1.heap.size := fun b hb => (by (first | omega | (simp only [zz] at *; omega))); have hc1 : ∀ b o, b < w.heap.size → w1.cell? ⟨b, o, none⟩ = w.cell? ⟨b, o, none⟩ := old_cell (by (repeat (first | exact Below.refl _ _ | assumption | refine below_drewN ?_ _ | refine below_drew ?_ | refine below_gr ?_ ?_ _ | refine below_alloc ?_ ?_ _ | refine Below.setCell ?_ ?_ _ | refine below_step ?_ (by assumption) ?_ | omega | (simp only [zz] at *; omega)))))
      · go_ret
        exact gives_of (v_int (HI.out (by first | assumption | (simp_all; done))).symm) (by (repeat (first | exact Below.refl _ _ | assumption | refine below_drewN ?_ _ | refine below_drew ?_ | refine below_gr ?_ ?_ _ | refine below_alloc ?_ ?_ _ | refine Below.setCell ?_ ?_ _ | refine below_step ?_ (by assumption) ?_ | omega | (simp only [zz] at *; omega))))
      · exact ⟨⟨k + 1, by omega, by go_num, HG.out (by simp_all), grew_of (by (repeat (first | exact Below.refl _ _ | assumption | refine below_drewN ?_ _ | refine below_drew ?_ | refine below_gr ?_ ?_ _ | refine below_alloc ?_ ?_ _ | refine Below.setCell ?_ ?_ _ | refine below_step ?_ (by assumption) ?_ | omega | (simp only [zz] at *; omega))))⟩, by simp [intOf]; omega⟩
    · have hkl : k = ts.length := by omega
      subst hkl
      have H2 := hide (idxI_none (shortB R) ts (by simpa using hall))
      clear hall
      go_wp2
      go_ret
      exact gives_of (v_int H2.out.symm) (by (repeat (first | exact Below.refl _ _ | assumption | refine below_drewN ?_ _ | refine below_drew ?_ | refine below_gr ?_ ?_ _ | refine below_alloc ?_ ?_ _ | refine Below.setCell ?_ ?_ _ | refine below_step ?_ (by assumption) ?_ | omega | (simp only [zz] at *; omega))))

set_option maxRecDepth 100000 in
set_option maxHeartbeats 1000000 in
theorem index2_any (B : Option Addr) (ts : List Tz) (d : Nat) (w : World) (hB : Tks w B ts) (hl : ts.length ≤ 1000000) (A : Option Addr) (R : List Int) (rc : Nat) (b : Nat) (hb0 : b < w.heap.size) (hc : w.cell? ⟨b, 0, none⟩ = some (.slice A R.length rc)) (hA : I64 w A R) (hR2 : R.length ≤ 1000000) (hts : ∀ t, t ∈ ts → t.1.length ≤ 1000000) (hR : ∀ k, (h : k < R.length) → 1 ≤ R[k] ∧ R[k] ≤ 6) (hlen : ∀ t, t ∈ ts → t.1.length = R.length) :
    Calls Try.prog 84 #[.slice B ts.length d, .func (.func 83) #[] #[.pointer (some ⟨b, 0, none⟩)]] w (Gives w (.int .i64 (idxI (oddT R) ts))) := by
  go_enter Try.func84, Try.ntmps84
  go_wp2
  go_loopw [8] (fun i wr => ∃ k : Nat, k ≤ ts.length ∧ i = .int .i64 k ∧ (ts.take k).all (fun x => !(oddT R) x) = true ∧ Grew w wr) (fun i _ => ts.length - (intOf i).toNat)
  case atStart => exact ⟨0, Nat.zero_le _, rfl, rfl, grew_refl _⟩
  case round =>
    obtain ⟨k, hk, rfl, hall, hb⟩ := hrel
    replace hb := hb.below
    have hzr := hb.size
    (try simp only [zz] at hzr)
    have hltr : ∀ b, b < w.heap.size → b < wr.heap.size := fun b hb => (by (first | omega | (simp only [zz] at *; omega)))
    have hcr : ∀ b o, b < w.heap.size → wr.cell? ⟨b, o, none⟩ = w.cell? ⟨b, o, none⟩ := old_cell (by (repeat (first | exact Below.refl _ _ | assumption | refine below_drewN ?_ _ | refine below_drew ?_ | refine below_gr ?_ ?_ _ | refine below_alloc ?_ ?_ _ | refine Below.setCell ?_ ?_ _ | refine below_step ?_ (by assumption) ?_ | omega | (simp only [zz] at *; omega))))
    by_cases hlt : k < ts.length
    · obtain ⟨tb, toff, rfl, htl⟩ := hB.form (by omega)
      obtain ⟨S, sc, ht0, ht1, hsc, hSx⟩ := hB.at hlt
      have hSr := hSx.ext hb
      have HG := hide (all_good (f := fun x => !(oddT R) x) hlt hall)
      have HI := hide (idxI_at (oddT R) ts k hlt hall)
      have hmem := hide (List.getElem_mem hlt)
      have hx1 := hts ts[k] (List.getElem_mem hlt)
      have hx2 := hide (hlen ts[k] (List.getElem_mem hlt))
      clear hall
      generalize ts[k] = x at *
      go_wp2_with (go_at_call 83; refine (areBoxes2_any S x sc b A R rc _ hSr (by omega) ((hcr _ _ hb0).trans hc) (hA.ext hb) hx1 hR2 hR hx2.out).mono ?_; rintro e w1 ⟨rfl, hb1⟩; replace hb1 := ex_below hb1; have hz1 := hb1.size; (try simp only [zz] at hz1); have hlt1 : ∀ b, b < w.heap.size → b < w1.heap.size := fun b hb => (by (first | omega | (simp only [zz] at *; omega))); have hc1 : ∀ b o, b < w.heap.size → w1.cell? ⟨b, o, none⟩ = w.cell? ⟨b, o, none⟩ := old_cell (by (repeat (first | exact Below.refl _ _ | assumption | refine below_drewN ?_ _ | refine below_drew ?_ | refine below_gr ?_ ?_ _ | refine below_alloc ?_ ?_ _ | refine Below.setCell ?_ ?_ _ | refine below_step ?_ (by assumption) ?_ | omega | (simp only [zz] at *; omega)))))
      · go_ret
        exact gives_of (v_int (HI.out (by first | assumption | (simp_all; done))).symm) (by (repeat (first | exact Below.refl _ _ | assumption | refine below_drewN ?_ _ | refine below_drew ?_ | refine below_gr ?_ ?_ _ | refine below_alloc ?_ ?_ _ | refine Below.setCell ?_ ?_ _ | refine below_step ?_ (by assumption) ?_ | omega | (simp only [zz] at *; omega))))
      · exact ⟨⟨k + 1, by omega, by go_num, HG.out (by simp_all), grew_of (by (repeat (first | exact Below.refl _ _ | assumption | refine below_drewN ?_ _ | refine below_drew ?_ | refine below_gr ?_ ?_ _ | refine below_alloc ?_ ?_ _ | refine Below.setCell ?_ ?_ _ | refine below_step ?_ (by assumption) ?_ | omega | (simp only [zz] at *; omega))))⟩, by simp [intOf]; omega⟩
    · have hkl : k = ts.length := by omega
      subst hkl
      have H2 := hide (idxI_none (oddT R) ts (by simpa using hall))
      clear hall
      go_wp2
      go_ret
      exact gives_of (v_int H2.out.symm) (by (repeat (first | exact Below.refl _ _ | assumption | refine below_drewN ?_ _ | refine below_drew ?_ | refine below_gr ?_ ?_ _ | refine below_alloc ?_ ?_ _ | refine Below.setCell ?_ ?_ _ | refine below_step ?_ (by assumption) ?_ | omega | (simp only [zz] at *; omega))))

set_option maxRecDepth 100000 in
set_option maxHeartbeats 1000000 in
theorem index3_any (B : Option Addr) (ts : List Tz) (d : Nat) (w : World) (hB : Tks w B ts) (hl : ts.length ≤ 1000000) :
    Calls Try.prog 84 #[.slice B ts.length d, .func (.func 59) #[] #[]] w (Gives w (.int .i64 (idxI (unfitB) ts))) := by
  go_enter Try.func84, Try.ntmps84
  go_wp2
  go_loopw [8] (fun i wr => ∃ k : Nat, k ≤ ts.length ∧ i = .int .i64 k ∧ (ts.take k).all (fun x => !(unfitB) x) = true ∧ Grew w wr) (fun i _ => ts.length - (intOf i).toNat)
  case atStart => exact ⟨0, Nat.zero_le _, rfl, rfl, grew_refl _⟩
  case round =>
    obtain ⟨k, hk, rfl, hall, hb⟩ := hrel
    replace hb := hb.below
    have hzr := hb.size
    (try simp only [zz] at hzr)
    have hltr : ∀ b, b < w.heap.size → b < wr.heap.size := fun b hb => (by (first | omega | (simp only [zz] at *; omega)))
    have hcr : ∀ b o, b < w.heap.size → wr.cell? ⟨b, o, none⟩ = w.cell? ⟨b, o, none⟩ := old_cell (by (repeat (first | exact Below.refl _ _ | assumption | refine below_drewN ?_ _ | refine below_drew ?_ | refine below_gr ?_ ?_ _ | refine below_alloc ?_ ?_ _ | refine Below.setCell ?_ ?_ _ | refine below_step ?_ (by assumption) ?_ | omega | (simp only [zz] at *; omega))))
    by_cases hlt : k < ts.length
    · obtain ⟨tb, toff, rfl, htl⟩ := hB.form (by omega)
      obtain ⟨S, sc, ht0, ht1, hsc, hSx⟩ := hB.at hlt
      have hSr := hSx.ext hb
      have HG := hide (all_good (f := fun x => !(unfitB) x) hlt hall)
      have HI := hide (idxI_at (unfitB) ts k hlt hall)
      have hmem := hide (List.getElem_mem hlt)
      clear hall
      generalize ts[k] = x at *
      go_wp2_with (go_at_call 59; refine (checkT1_any S x sc _).mono ?_; rintro e w1 ⟨rfl, hb1⟩; replace hb1 := ex_below hb1; have hz1 := hb1.size; (try simp only [zz] at hz1); have hlt1 : ∀ b, b < w.heap.size → b < w1.heap.size := fun b hb => (by (first | omega | (simp only [zz] at *; omega))); have hc1 : ∀ b o, b < w.heap.size → w1.cell? ⟨b, o, none⟩ = w.cell? ⟨b, o, none⟩ := old_cell (by (repeat (first | exact Below.refl _ _ | assumption | refine below_drewN ?_ _ | refine below_drew ?_ | refine below_gr ?_ ?_ _ | refine below_alloc ?_ ?_ _ | refine Below.setCell ?_ ?_ _ | refine below_step ?_ (by assumption) ?_ | omega | (simp only [zz] at *; omega)))))
      · go_ret
        exact gives_of (v_int (HI.out (by first | assumption | (simp_all; done))).symm) (by (repeat (first | exact Below.refl _ _ | assumption | refine below_drewN ?_ _ | refine below_drew ?_ | refine below_gr ?_ ?_ _ | refine below_alloc ?_ ?_ _ | refine Below.setCell ?_ ?_ _ | refine below_step ?_ (by assumption) ?_ | omega | (simp only [zz] at *; omega))))
      · exact ⟨⟨k + 1, by omega, by go_num, HG.out (by simp_all), grew_of (by (repeat (first | exact Below.refl _ _ | assumption | refine below_drewN ?_ _ | refine below_drew ?_ | refine below_gr ?_ ?_ _ | refine below_alloc ?_ ?_ _ | refine Below.setCell ?_ ?_ _ | refine below_step ?_ (by assumption) ?_ | omega | (simp only [zz] at *; omega))))⟩, by simp [intOf]; omega⟩
    · have hkl : k = ts.length := by omega
      subst hkl
      have H2 := hide (idxI_none (unfitB) ts (by simpa using hall))
      clear hall
      go_wp2
      go_ret
      exact gives_of (v_int H2.out.symm) (by (repeat (first | exact Below.refl _ _ | assumption | refine below_drewN ?_ _ | refine below_drew ?_ | refine below_gr ?_ ?_ _ | refine below_alloc ?_ ?_ _ | refine Below.setCell ?_ ?_ _ | refine below_step ?_ (by assumption) ?_ | omega | (simp only [zz] at *; omega))))

set_option maxRecDepth 100000 in
set_option maxHeartbeats 1000000 in
theorem contains1_any (B : Option Addr) (ts : List Tz) (d : Nat) (w : World) (hB : Tks w B ts) (hl : ts.length ≤ 1000000) (A : Option Addr) (R : List Int) (rc : Nat) (b : Nat) (hb0 : b < w.heap.size) (hc : w.cell? ⟨b, 0, none⟩ = some (.slice A R.length rc)) (hA : I64 w A R) (hR2 : R.length ≤ 1000000) (hts : ∀ t, t ∈ ts → t.1.length ≤ 1000000) :
    Calls Try.prog 58 #[.slice B ts.length d, .func (.func 82) #[] #[.pointer (some ⟨b, 0, none⟩)]] w (Gives w (.bool (ts.any (shortB R)))) := by
  go_enter Try.func58, Try.ntmps58
  go_wp2_with (go_at_call 84; refine (index1_any B ts d _ hB hl A R rc b hb0 hc hA hR2 hts).mono ?_; rintro e w1 ⟨rfl, hb1⟩; replace hb1 := ex_below hb1; have hz1 := hb1.size; (try simp only [zz] at hz1); have hlt1 : ∀ b, b < w.heap.size → b < w1.heap.size := fun b hb => (by (first | omega | (simp only [zz] at *; omega))); have hc1 : ∀ b o, b < w.heap.size → w1.cell? ⟨b, o, none⟩ = w.cell? ⟨b, o, none⟩ := old_cell (by (repeat (first | exact Below.refl _ _ | assumption | refine below_drewN ?_ _ | refine below_drew ?_ | refine below_gr ?_ ?_ _ | refine below_alloc ?_ ?_ _ | refine Below.setCell ?_ ?_ _ | refine below_step ?_ (by assumption) ?_ | omega | (simp only [zz] at *; omega)))))
  go_ret
  exact gives_of (v_bool (idxI_ge _ _)) (by (repeat (first | exact Below.refl _ _ | assumption | refine below_drewN ?_ _ | refine below_drew ?_ | refine below_gr ?_ ?_ _ | refine below_alloc ?_ ?_ _ | refine Below.setCell ?_ ?_ _ | refine below_step ?_ (by assumption) ?_ | omega | (simp only [zz] at *; omega))))

set_option maxRecDepth 100000 in
set_option maxHeartbeats 1000000 in
theorem contains2_any (B : Option Addr) (ts : List Tz) (d : Nat) (w : World) (hB : Tks w B ts) (hl : ts.length ≤ 1000000) (A : Option Addr) (R : List Int) (rc : Nat) (b : Nat) (hb0 : b < w.heap.size) (hc : w.cell? ⟨b, 0, none⟩ = some (.slice A R.length rc)) (hA : I64 w A R) (hR2 : R.length ≤ 1000000) (hts : ∀ t, t ∈ ts → t.1.length ≤ 1000000) (hR : ∀ k, (h : k < R.length) → 1 ≤ R[k] ∧ R[k] ≤ 6) (hlen : ∀ t, t ∈ ts → t.1.length = R.length) :
    Calls Try.prog 58 #[.slice B ts.length d, .func (.func 83) #[] #[.pointer (some ⟨b, 0, none⟩)]] w (Gives w (.bool (ts.any (oddT R)))) := by
  go_enter Try.func58, Try.ntmps58
  go_wp2_with (go_at_call 84; refine (index2_any B ts d _ hB hl A R rc b hb0 hc hA hR2 hts hR hlen).mono ?_; rintro e w1 ⟨rfl, hb1⟩; replace hb1 := ex_below hb1; have hz1 := hb1.size; (try simp only [zz] at hz1); have hlt1 : ∀ b, b < w.heap.size → b < w1.heap.size := fun b hb => (by (first | omega | (simp only [zz] at *; omega))); have hc1 : ∀ b o, b < w.heap.size → w1.cell? ⟨b, o, none⟩ = w.cell? ⟨b, o, none⟩ := old_cell (by (repeat (first | exact Below.refl _ _ | assumption | refine below_drewN ?_ _ | refine below_drew ?_ | refine below_gr ?_ ?_ _ | refine below_alloc ?_ ?_ _ | refine Below.setCell ?_ ?_ _ | refine below_step ?_ (by assumption) ?_ | omega | (simp only [zz] at *; omega)))))
  go_ret
  exact gives_of (v_bool (idxI_ge _ _)) (by (repeat (first | exact Below.refl _ _ | assumption | refine below_drewN ?_ _ | refine below_drew ?_ | refine below_gr ?_ ?_ _ | refine below_alloc ?_ ?_ _ | refine Below.setCell ?_ ?_ _ | refine below_step ?_ (by assumption) ?_ | omega | (simp only [zz] at *; omega))))

set_option maxRecDepth 100000 in
set_option maxHeartbeats 1000000 in
theorem contains3_any (B : Option Addr) (ts : List Tz) (d : Nat) (w : World) (hB : Tks w B ts) (hl : ts.length ≤ 1000000) :
    Calls Try.prog 58 #[.slice B ts.length d, .func (.func 59) #[] #[]] w (Gives w (.bool (ts.any (unfitB)))) := by
  go_enter Try.func58, Try.ntmps58
  go_wp2_with (go_at_call 84; refine (index3_any B ts d _ hB hl).mono ?_; rintro e w1 ⟨rfl, hb1⟩; replace hb1 := ex_below hb1; have hz1 := hb1.size; (try simp only [zz] at hz1); have hlt1 : ∀ b, b < w.heap.size → b < w1.heap.size := fun b hb => (by (first | omega | (simp only [zz] at *; omega))); have hc1 : ∀ b o, b < w.heap.size → w1.cell? ⟨b, o, none⟩ = w.cell? ⟨b, o, none⟩ := old_cell (by (repeat (first | exact Below.refl _ _ | assumption | refine below_drewN ?_ _ | refine below_drew ?_ | refine below_gr ?_ ?_ _ | refine below_alloc ?_ ?_ _ | refine Below.setCell ?_ ?_ _ | refine below_step ?_ (by assumption) ?_ | omega | (simp only [zz] at *; omega)))))
  go_ret
  exact gives_of (v_bool (idxI_ge _ _)) (by (repeat (first | exact Below.refl _ _ | assumption | refine below_drewN ?_ _ | refine below_drew ?_ | refine below_gr ?_ ?_ _ | refine below_alloc ?_ ?_ _ | refine Below.setCell ?_ ?_ _ | refine below_step ?_ (by assumption) ?_ | omega | (simp only [zz] at *; omega))))

set_option maxRecDepth 100000 in
set_option maxHeartbeats 1000000 in
theorem areBoxes_any (B : Option Addr) (ts : List Tz) (d : Nat) (w : World) (hB : Tks w B ts) (hl : ts.length ≤ 1000000) (A : Option Addr) (R : List Int) (rc : Nat) (hA : I64 w A R) (hR2 : R.length ≤ 1000000) (hts : ∀ t, t ∈ ts → t.1.length ≤ 1000000) (hR : ∀ k, (h : k < R.length) → 1 ≤ R[k] ∧ R[k] ≤ 6) :
    Calls Try.prog 57 #[.agg #[.slice A R.length rc], .slice B ts.length d] w (Gives w (.int .i64 (areB R ts))) := by
  have HX := hide (show areB R ts = if ts.any (shortB R) = true then 15 else if ts.any (oddT R) = true then 3 else 0 from rfl)
  have H1 := hide (fun w' b hB hb0 hc hA => contains1_any B ts d w' hB hl A R rc b hb0 hc hA hR2 hts)
  by_cases h1 : ts.any (shortB R) = true
  · have hv : areB R ts = 15 := by rw [HX.out, if_pos h1]
    rw [h1] at H1
    have hv := hide hv
    clear HX h1
    go_enter Try.func57, Try.ntmps57
    go_wp2_with (go_at_call 58; refine (H1.out _ _ (hB.ext (by (repeat (first | exact Below.refl _ _ | assumption | refine below_drewN ?_ _ | refine below_drew ?_ | refine below_gr ?_ ?_ _ | refine below_alloc ?_ ?_ _ | refine Below.setCell ?_ ?_ _ | refine below_step ?_ (by assumption) ?_ | omega | (simp only [zz] at *; omega))))) (by (first | omega | (simp only [zz]; omega) | (simp only [zz] at *; omega) | (simp; done) | (simp; omega))) (by simp [go_sem, *]) (hA.ext (by (repeat (first | exact Below.refl _ _ | assumption | refine below_drewN ?_ _ | refine below_drew ?_ | refine below_gr ?_ ?_ _ | refine below_alloc ?_ ?_ _ | refine Below.setCell ?_ ?_ _ | refine below_step ?_ (by assumption) ?_ | omega | (simp only [zz] at *; omega)))))).mono ?_; rintro e w1 ⟨rfl, hb1⟩; replace hb1 := ex_below hb1; have hz1 := hb1.size; (try simp only [zz] at hz1); have hs1 : w.heap.size < w1.heap.size := (by (first | omega | (simp only [zz] at *; omega))); have ho1 := own_cell hb1 (b := w.heap.size) (by (first | omega | (simp only [zz] at *; omega))); have hq1 := own_frozen hb1 (b := w.heap.size) (by (first | omega | (simp only [zz] at *; omega))); have hlt1 : ∀ b, b < w.heap.size → b < w1.heap.size := fun b hb => (by (first | omega | (simp only [zz] at *; omega))); have hc1 : ∀ b o, b < w.heap.size → w1.cell? ⟨b, o, none⟩ = w.cell? ⟨b, o, none⟩ := old_cell (by (repeat (first | exact Below.refl _ _ | assumption | refine below_drewN ?_ _ | refine below_drew ?_ | refine below_gr ?_ ?_ _ | refine below_alloc ?_ ?_ _ | refine Below.setCell ?_ ?_ _ | refine below_step ?_ (by assumption) ?_ | omega | (simp only [zz] at *; omega)))))
    go_ret
    exact gives_of (v_int hv.out.symm) (by (repeat (first | exact Below.refl _ _ | assumption | refine below_drewN ?_ _ | refine below_drew ?_ | refine below_gr ?_ ?_ _ | refine below_alloc ?_ ?_ _ | refine Below.setCell ?_ ?_ _ | refine below_step ?_ (by assumption) ?_ | omega | (simp only [zz] at *; omega))))
  · have h1' : ts.any (shortB R) = false := by simpa using h1
    have hlen : ∀ t, t ∈ ts → t.1.length = R.length := fun t ht => by
      rw [List.any_eq_false] at h1'
      have := h1' t ht
      simpa [shortB] using this
    rw [h1'] at H1
    have H2 := hide (fun w' b hB hb0 hc hA => contains2_any B ts d w' hB hl A R rc b hb0 hc hA hR2 hts hR hlen)
    have HY : Hid (areB R ts = if ts.any (oddT R) = true then 3 else 0) := hide (by rw [HX.out, h1']; simp)
    clear HX h1 h1' hlen
    by_cases h2 : ts.any (oddT R) = true
    all_goals
      try replace h2 : ts.any (oddT R) = false := by simpa using h2
      have hv := HY.out
      rw [h2] at H2 hv
      have HV := hide hv
      clear hv HY h2
      go_enter Try.func57, Try.ntmps57
      go_wp2_with (first
    | (go_at_call 58; (with_reducible refine (H1.out _ _ (hB.ext (by (repeat (first | exact Below.refl _ _ | assumption | refine below_drewN ?_ _ | refine below_drew ?_ | refine below_gr ?_ ?_ _ | refine below_alloc ?_ ?_ _ | refine Below.setCell ?_ ?_ _ | refine below_step ?_ (by assumption) ?_ | omega | (simp only [zz] at *; omega))))) (by (first | omega | (simp only [zz]; omega) | (simp only [zz] at *; omega) | (simp; done) | (simp; omega))) (by simp [go_sem, *]) (hA.ext (by (repeat (first | exact Below.refl _ _ | assumption | refine below_drewN ?_ _ | refine below_drew ?_ | refine below_gr ?_ ?_ _ | refine below_alloc ?_ ?_ _ | refine Below.setCell ?_ ?_ _ | refine below_step ?_ (by assumption) ?_ | omega | (simp only [zz] at *; omega)))))).mono ?_); rintro e w1 ⟨rfl, hb1⟩; replace hb1 := ex_below hb1; have hz1 := hb1.size; (try simp only [zz] at hz1); have hs1 : w.heap.size < w1.heap.size := (by (first | omega | (simp only [zz] at *; omega))); have ho1 := own_cell hb1 (b := w.heap.size) (by (first | omega | (simp only [zz] at *; omega))); have hq1 := own_frozen hb1 (b := w.heap.size) (by (first | omega | (simp only [zz] at *; omega))); have hlt1 : ∀ b, b < w.heap.size → b < w1.heap.size := fun b hb => (by (first | omega | (simp only [zz] at *; omega))); have hc1 : ∀ b o, b < w.heap.size → w1.cell? ⟨b, o, none⟩ = w.cell? ⟨b, o, none⟩ := old_cell (by (repeat (first | exact Below.refl _ _ | assumption | refine below_drewN ?_ _ | refine below_drew ?_ | refine below_gr ?_ ?_ _ | refine below_alloc ?_ ?_ _ | refine Below.setCell ?_ ?_ _ | refine below_step ?_ (by assumption) ?_ | omega | (simp only [zz] at *; omega)))))
    | (go_at_call 58; (with_reducible refine (H2.out _ _ (hB.ext (by (repeat (first | exact Below.refl _ _ | assumption | refine below_drewN ?_ _ | refine below_drew ?_ | refine below_gr ?_ ?_ _ | refine below_alloc ?_ ?_ _ | refine Below.setCell ?_ ?_ _ | refine below_step ?_ (by assumption) ?_ | omega | (simp only [zz] at *; omega))))) (by (first | omega | (simp only [zz]; omega) | (simp only [zz] at *; omega) | (simp; done) | (simp; omega))) (by simp [go_sem, *]) (hA.ext (by (repeat (first | exact Below.refl _ _ | assumption | refine below_drewN ?_ _ | refine below_drew ?_ | refine below_gr ?_ ?_ _ | refine below_alloc ?_ ?_ _ | refine Below.setCell ?_ ?_ _ | refine below_step ?_ (by assumption) ?_ | omega | (simp only [zz] at *; omega)))))).mono ?_); rintro e w2 ⟨rfl, hb1⟩; replace hb1 := ex_below hb1; have hz1 := hb1.size; (try simp only [zz] at hz1); have hs1 : w.heap.size < w2.heap.size := (by (first | omega | (simp only [zz] at *; omega))); have ho1 := own_cell hb1 (b := w.heap.size) (by (first | omega | (simp only [zz] at *; omega))); have hq1 := own_frozen hb1 (b := w.heap.size) (by (first | omega | (simp only [zz] at *; omega))); have hlt1 : ∀ b, b < w.heap.size → b < w2.heap.size := fun b hb => (by (first | omega | (simp only [zz] at *; omega))); have hc1 : ∀ b o, b < w.heap.size → w2.cell? ⟨b, o, none⟩ = w.cell? ⟨b, o, none⟩ := old_cell (by (repeat (first | exact Below.refl _ _ | assumption | refine below_drewN ?_ _ | refine below_drew ?_ | refine below_gr ?_ ?_ _ | refine below_alloc ?_ ?_ _ | refine Below.setCell ?_ ?_ _ | refine below_step ?_ (by assumption) ?_ | omega | (simp only [zz] at *; omega))))))

      go_ret
      exact gives_of (v_int (by rw [HV.out]; simp)) (by (repeat (first | exact Below.refl _ _ | assumption | refine below_drewN ?_ _ | refine below_drew ?_ | refine below_gr ?_ ?_ _ | refine below_alloc ?_ ?_ _ | refine Below.setCell ?_ ?_ _ | refine below_step ?_ (by assumption) ?_ | omega | (simp only [zz] at *; omega))))
end Go.Proofs.Ytlbkaeoagdbemaa
