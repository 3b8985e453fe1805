/- Proved here: the reference: what is covered behind some races, the errors; the reference: what is covered behind some races, a part of the proofs about the box laws. Conditions: those that each theorem names, no others. -/
import Derived.Test.YtlbkaeoagdbemaaP29
import Derived.WalkKit
import Derived.WalkSpells
import Derived.WalkLawsBesides
import Derived.Below
import Derived.Deep.QuietTactic
import Derived.BigQuiet
import Derived.Deep.Light
import Derived.Deep.RegionHeld3
import Derived.Test.YtlbkaeoagdbemaaP04
set_option linter.unusedSimpArgs false
set_option linter.unusedVariables false
namespace Go.Proofs.Ytlbkaeoagdbemaa
open Go.RowKit Go.Maps
set_option maxRecDepth 100000 in
set_option maxHeartbeats 4000000 in
theorem rAfter_bad (A : Option Addr) (R : List Int) (c : Nat) (B : Option Addr) (ts : List Tz) (d : Nat) (w : World) (hA : I64 w A R) (hB : Tks w B ts) (hl : R.length ≤ 1000000) (hl2 : ts.length ≤ 1000000) (hts : ∀ t, t ∈ ts → t.1.length ≤ 1000000) (h0 : chkT R ts ≠ 0) (X : Option Addr) (n xc : Nat) :
    Calls Try.prog 44 #[.agg #[.slice A R.length c], .slice B ts.length d, .slice X n xc] w (Gives w (.tuple #[.int .i64 0, .slice none 0 0, .int .i64 (chkT R ts)])) := by
  have HCT := hide (fun w' (h1 : I64 w' A R) (h2 : Tks w' B ts) => rCheckTickets_any A R c B ts d w' h1 h2 hl hl2 hts)
  have hne : (chkT R ts != 0) = true := by simpa using h0
  generalize chkT R ts = ec at *
  clear h0
  go_enter Try.func44, Try.ntmps44
  go_wp2_with (first
    | (go_at_call 24; refine (HCT.out _ (hA.ext (by (repeat (first | exact Below.refl _ _ | assumption | refine below_drewN ?_ _ | refine below_drew ?_ | refine below_gr ?_ ?_ _ | refine below_alloc ?_ ?_ _ | refine Below.setCell ?_ ?_ _ | refine below_step ?_ (by assumption) ?_ | omega | (simp only [zz] at *; omega))))) (hB.ext (by (repeat (first | exact Below.refl _ _ | assumption | refine below_drewN ?_ _ | refine below_drew ?_ | refine below_gr ?_ ?_ _ | refine below_alloc ?_ ?_ _ | refine Below.setCell ?_ ?_ _ | refine below_step ?_ (by assumption) ?_ | omega | (simp only [zz] at *; omega)))))).mono ?_; rintro e w1 ⟨rfl, hb1⟩; replace hb1 := ex_below hb1; have hz1 := hb1.size; (try simp only [zz] at hz1); have hs1 : w.heap.size < w1.heap.size := (by (first | omega | (simp only [zz] at *; omega))); have ho1 := own_cell hb1 (b := w.heap.size) (by (first | omega | (simp only [zz] at *; omega))); have hq1 := own_frozen hb1 (b := w.heap.size) (by (first | omega | (simp only [zz] at *; omega))); have hlt1 : ∀ b, b < w.heap.size → b < w1.heap.size := fun b hb => (by (first | omega | (simp only [zz] at *; omega))); have hc1 : ∀ b o, b < w.heap.size → w1.cell? ⟨b, o, none⟩ = w.cell? ⟨b, o, none⟩ := old_cell (by (repeat (first | exact Below.refl _ _ | assumption | refine below_drewN ?_ _ | refine below_drew ?_ | refine below_gr ?_ ?_ _ | refine below_alloc ?_ ?_ _ | refine Below.setCell ?_ ?_ _ | refine below_step ?_ (by assumption) ?_ | omega | (simp only [zz] at *; omega))))))

  go_wp2_with (first
    | (go_at_call 24; refine (HCT.out _ (hA.ext (by (repeat (first | exact Below.refl _ _ | assumption | refine below_drewN ?_ _ | refine below_drew ?_ | refine below_gr ?_ ?_ _ | refine below_alloc ?_ ?_ _ | refine Below.setCell ?_ ?_ _ | refine below_step ?_ (by assumption) ?_ | omega | (simp only [zz] at *; omega))))) (hB.ext (by (repeat (first | exact Below.refl _ _ | assumption | refine below_drewN ?_ _ | refine below_drew ?_ | refine below_gr ?_ ?_ _ | refine below_alloc ?_ ?_ _ | refine Below.setCell ?_ ?_ _ | refine below_step ?_ (by assumption) ?_ | omega | (simp only [zz] at *; omega)))))).mono ?_; rintro e w2 ⟨rfl, hb2⟩; replace hb2 := ex_below hb2; have hz2 := hb2.size; (try simp only [zz] at hz2); have hs2 : w.heap.size < w2.heap.size := (by (first | omega | (simp only [zz] at *; omega))); have ho2 := own_cell hb2 (b := w.heap.size) (by (first | omega | (simp only [zz] at *; omega))); have hq2 := own_frozen hb2 (b := w.heap.size) (by (first | omega | (simp only [zz] at *; omega))); have hlt2 : ∀ b, b < w.heap.size → b < w2.heap.size := fun b hb => (by (first | omega | (simp only [zz] at *; omega))); have hc2 : ∀ b o, b < w.heap.size → w2.cell? ⟨b, o, none⟩ = w.cell? ⟨b, o, none⟩ := old_cell (by (repeat (first | exact Below.refl _ _ | assumption | refine below_drewN ?_ _ | refine below_drew ?_ | refine below_gr ?_ ?_ _ | refine below_alloc ?_ ?_ _ | refine Below.setCell ?_ ?_ _ | refine below_step ?_ (by assumption) ?_ | omega | (simp only [zz] at *; omega))))))

  go_ret3
  exact gives_of (rfl) (by (repeat (first | exact Below.refl _ _ | assumption | refine below_drewN ?_ _ | refine below_drew ?_ | refine below_gr ?_ ?_ _ | refine below_alloc ?_ ?_ _ | refine Below.setCell ?_ ?_ _ | refine below_step ?_ (by assumption) ?_ | omega | (simp only [zz] at *; omega))))
set_option maxRecDepth 100000 in
set_option maxHeartbeats 4000000 in
theorem rAfter_many (A : Option Addr) (R : List Nat) (c : Nat) (B : Option Addr) (ts : List Bm.Tk) (d : Nat) (X : Option Addr) (won : List Int) (xc : Nat) (w : World) (hA : I64 w A (zs R)) (hB : Tks w B (tz ts)) (hX : I64 w X won) (hw : won.length ≤ 1000000) (hok : Ok R ts) (hl : R.length < won.length) :
    Calls Try.prog 44 #[.agg #[.slice A R.length c], .slice B ts.length d, .slice X won.length xc] w (Gives w (.tuple #[.int .i64 0, .slice none 0 0, .int .i64 6])) := by
  have HCT := hide (fun w' (h1 : I64 w' A (zs R)) (h2 : Tks w' B (tz ts)) => by
    have := rCheckTickets_any A (zs R) c B (tz ts) d w' h1 h2 hok.len.1 hok.len.2.1 hok.len.2.2
    rw [ok_chk hok, zs_len, tz_len] at this
    exact this)
  have hlb : decide ((won.length : Int) > (R.length : Int)) = true := by simp; omega
  go_enter Try.func44, Try.ntmps44
  go_wp2_with (first
    | (go_at_call 24; refine (HCT.out _ (hA.ext (by (repeat (first | exact Below.refl _ _ | assumption | refine below_drewN ?_ _ | refine below_drew ?_ | refine below_gr ?_ ?_ _ | refine below_alloc ?_ ?_ _ | refine Below.setCell ?_ ?_ _ | refine below_step ?_ (by assumption) ?_ | omega | (simp only [zz] at *; omega))))) (hB.ext (by (repeat (first | exact Below.refl _ _ | assumption | refine below_drewN ?_ _ | refine below_drew ?_ | refine below_gr ?_ ?_ _ | refine below_alloc ?_ ?_ _ | refine Below.setCell ?_ ?_ _ | refine below_step ?_ (by assumption) ?_ | omega | (simp only [zz] at *; omega)))))).mono ?_; rintro e w1 ⟨rfl, hb1⟩; replace hb1 := ex_below hb1; have hz1 := hb1.size; (try simp only [zz] at hz1); have hs1 : w.heap.size < w1.heap.size := (by (first | omega | (simp only [zz] at *; omega))); have ho1 := own_cell hb1 (b := w.heap.size) (by (first | omega | (simp only [zz] at *; omega))); have hq1 := own_frozen hb1 (b := w.heap.size) (by (first | omega | (simp only [zz] at *; omega))); have hlt1 : ∀ b, b < w.heap.size → b < w1.heap.size := fun b hb => (by (first | omega | (simp only [zz] at *; omega))); have hc1 : ∀ b o, b < w.heap.size → w1.cell? ⟨b, o, none⟩ = w.cell? ⟨b, o, none⟩ := old_cell (by (repeat (first | exact Below.refl _ _ | assumption | refine below_drewN ?_ _ | refine below_drew ?_ | refine below_gr ?_ ?_ _ | refine below_alloc ?_ ?_ _ | refine Below.setCell ?_ ?_ _ | refine below_step ?_ (by assumption) ?_ | omega | (simp only [zz] at *; omega))))))

  go_ret3
  exact gives_of (rfl) (by (repeat (first | exact Below.refl _ _ | assumption | refine below_drewN ?_ _ | refine below_drew ?_ | refine below_gr ?_ ?_ _ | refine below_alloc ?_ ?_ _ | refine Below.setCell ?_ ?_ _ | refine below_step ?_ (by assumption) ?_ | omega | (simp only [zz] at *; omega))))
set_option maxRecDepth 100000 in
set_option maxHeartbeats 4000000 in
theorem rAfter_range (A : Option Addr) (R : List Nat) (c : Nat) (B : Option Addr) (ts : List Bm.Tk) (d : Nat) (X : Option Addr) (won : List Int) (xc : Nat) (w : World) (hA : I64 w A (zs R)) (hB : Tks w B (tz ts)) (hX : I64 w X won) (hw : won.length ≤ 1000000) (hok : Ok R ts) (hl : won.length ≤ R.length) (hr : runB R won = false) :
    Calls Try.prog 44 #[.agg #[.slice A R.length c], .slice B ts.length d, .slice X won.length xc] w (Gives w (.tuple #[.int .i64 0, .slice none 0 0, .int .i64 3])) := by
  have HCT := hide (fun w' (h1 : I64 w' A (zs R)) (h2 : Tks w' B (tz ts)) => by
    have := rCheckTickets_any A (zs R) c B (tz ts) d w' h1 h2 hok.len.1 hok.len.2.1 hok.len.2.2
    rw [ok_chk hok, zs_len, tz_len] at this
    exact this)
  have hR5 := hok.h5
  have hlb : decide ((won.length : Int) > (R.length : Int)) = false := by simp; omega
  go_enter Try.func44, Try.ntmps44
  go_wp2_with (first
    | (go_at_call 24; refine (HCT.out _ (hA.ext (by (repeat (first | exact Below.refl _ _ | assumption | refine below_drewN ?_ _ | refine below_drew ?_ | refine below_gr ?_ ?_ _ | refine below_alloc ?_ ?_ _ | refine Below.setCell ?_ ?_ _ | refine below_step ?_ (by assumption) ?_ | omega | (simp only [zz] at *; omega))))) (hB.ext (by (repeat (first | exact Below.refl _ _ | assumption | refine below_drewN ?_ _ | refine below_drew ?_ | refine below_gr ?_ ?_ _ | refine below_alloc ?_ ?_ _ | refine Below.setCell ?_ ?_ _ | refine below_step ?_ (by assumption) ?_ | omega | (simp only [zz] at *; omega)))))).mono ?_; rintro e w1 ⟨rfl, hb1⟩; replace hb1 := ex_below hb1; have hz1 := hb1.size; (try simp only [zz] at hz1); have hs1 : w.heap.size < w1.heap.size := (by (first | omega | (simp only [zz] at *; omega))); have ho1 := own_cell hb1 (b := w.heap.size) (by (first | omega | (simp only [zz] at *; omega))); have hq1 := own_frozen hb1 (b := w.heap.size) (by (first | omega | (simp only [zz] at *; omega))); have hlt1 : ∀ b, b < w.heap.size → b < w1.heap.size := fun b hb => (by (first | omega | (simp only [zz] at *; omega))); have hc1 : ∀ b o, b < w.heap.size → w1.cell? ⟨b, o, none⟩ = w.cell? ⟨b, o, none⟩ := old_cell (by (repeat (first | exact Below.refl _ _ | assumption | refine below_drewN ?_ _ | refine below_drew ?_ | refine below_gr ?_ ?_ _ | refine below_alloc ?_ ?_ _ | refine Below.setCell ?_ ?_ _ | refine below_step ?_ (by assumption) ?_ | omega | (simp only [zz] at *; omega))))))

  have hbw : Below w.heap.size w w1 := by (repeat (first | exact Below.refl _ _ | assumption | (refine below_gr ?_ (by (first | omega | (simp only [zz] at *; omega))) _) | (refine below_alloc ?_ (by (first | omega | (simp only [zz] at *; omega))) _) | (refine Below.setCell ?_ (by (first | omega | (simp only [zz] at *; omega))) _) | refine below_drewN ?_ _ | refine below_drew ?_ | (refine below_step ?_ (by assumption) (by (first | omega | (simp only [zz] at *; omega))))))
  have hn1 : w.heap.size < w1.heap.size := by omega
  have e0 : w1.cell? ⟨w.heap.size, 0, none⟩ = some (.slice A R.length c) := by simp [go_sem, *]
  replace hA := hA.ext hbw
  replace hX := hX.ext hbw
  clear hb1 hc1 hlt1
  go_loopw [9] (fun i wr => ∃ k : Nat, k ≤ won.length ∧ i = .int .i64 (k : Nat) ∧ ((won.zip (zs R)).take k).all (fun p : Int × Int => decide (0 ≤ p.1 ∧ p.1 < p.2)) = true ∧ Below w1.heap.size w1 wr) (fun i _ => won.length - (intOf i).toNat)
  case atStart => exact ⟨0, Nat.zero_le _, rfl, rfl, Below.refl _ _⟩
  case round =>
    obtain ⟨k, hk, rfl, hall, hb⟩ := hrel
    have hbz := hb.size
    have e1 := Below.blk hb hn1 e0
    have hnr : w.heap.size < wr.heap.size := by omega
    by_cases hlt : k < won.length
    · have hltR : k < R.length := by omega
      have hX1 := hX.ext hb
      have hA1 := hA.ext hb
      obtain ⟨ab, ao, rfl, hab⟩ := zsF hA1 (by omega)
      obtain ⟨xb, xo, rfl, hxb⟩ := hX1.form (by omega)
      have hr0 := zsI hA1 hltR
      have hx0 := hX1.at hlt
      have hlz : k < (won.zip (zs R)).length := by simp [zs_len]; omega
      have HGr := hide (all_good (f := fun p : Int × Int => decide (0 ≤ p.1 ∧ p.1 < p.2)) hlz hall)
      have HBr := hide (all_bad (f := fun p : Int × Int => decide (0 ≤ p.1 ∧ p.1 < p.2)) hlz)
      have hz0 : (won.zip (zs R))[k] = (won[k], ((R[k] : Nat) : Int)) := by simp [zs_at _ _ hltR]
      rw [hz0] at HGr HBr
      have hn6 := hok.r6 _ (List.getElem_mem hltR)
      clear hz0 hall hlz hX1 hA1
      generalize R[k] = n at *
      generalize won[k] = x at *
      have hcx : decide (x < 0) = true ∨ (decide (x < 0) = false ∧ ¬ x < (n : Int)) ∨ (decide (x < 0) = false ∧ x < (n : Int)) := by
        simp only [decide_eq_true_eq, decide_eq_false_iff_not]; omega
      rcases hcx with g1 | ⟨g1, g2⟩ | ⟨g1, g2⟩
      · have hv := HBr.out (by simp at g1 ⊢; omega)
        clear hv
        go_upto_region 8 with fail
        go_quiet (fail)
        go_wp2
        go_ret3
        exact gives_of (rfl) (by (repeat (first | exact Below.refl _ _ | assumption | refine below_drewN ?_ _ | refine below_drew ?_ | refine below_gr ?_ ?_ _ | refine below_alloc ?_ ?_ _ | refine Below.setCell ?_ ?_ _ | refine below_step ?_ (by assumption) ?_ | omega | (simp only [zz] at *; omega))))
      · have hv := HBr.out (by simp at g1 ⊢; omega)
        clear hv
        go_upto_region 8 with fail
        go_quiet (fail)
        go_wp2
        go_ret3
        exact gives_of (rfl) (by (repeat (first | exact Below.refl _ _ | assumption | refine below_drewN ?_ _ | refine below_drew ?_ | refine below_gr ?_ ?_ _ | refine below_alloc ?_ ?_ _ | refine Below.setCell ?_ ?_ _ | refine below_step ?_ (by assumption) ?_ | omega | (simp only [zz] at *; omega))))
      · replace HGr := hide (HGr.out (by simp at g1 ⊢; omega))
        go_upto_region 8 with fail
        go_quiet (fail)
        go_wp2
        exact ⟨⟨k + 1, by omega, by go_num, HGr.out, by (repeat (first | exact Below.refl _ _ | assumption | (refine below_gr ?_ (by (first | omega | (simp only [zz] at *; omega))) _) | (refine below_alloc ?_ (by (first | omega | (simp only [zz] at *; omega))) _) | (refine Below.setCell ?_ (by (first | omega | (simp only [zz] at *; omega))) _) | refine below_drewN ?_ _ | refine below_drew ?_ | (refine below_step ?_ (by assumption) (by (first | omega | (simp only [zz] at *; omega))))))⟩, by simp [intOf]; omega⟩
    · have hkl : k = won.length := by omega
      rw [hkl, show (won.zip (zs R)).take won.length = won.zip (zs R) from List.take_of_length_le (by simp [zs_len]; omega)] at hall
      unfold runB at hr
      rw [hall] at hr; cases hr

end Go.Proofs.Ytlbkaeoagdbemaa
namespace Go.Proofs.Ytlbkaeoagdbemaa
open Go.RowKit Go.Maps
theorem eqN (a b : Nat) : (((a : Nat) : Int) == ((b : Nat) : Int)) = decide (a = b) := by rw [Bool.eq_iff_iff]; simp; omega
theorem own_keepB {w w' : World} {B : Nat} {e : TypeId} {sz n : Nat} {v : Value} {xs : List Value} (h : w.ownsRow B e sz v n xs) (hb : Below w.heap.size w w') : w'.ownsRow B e sz v n xs := ownsRow_grows h hb
set_option maxRecDepth 100000 in
set_option maxHeartbeats 8000000 in
theorem rAfter_ok (A : Option Addr) (R : List Nat) (c : Nat) (B : Option Addr) (ts : List Bm.Tk) (d : Nat) (X : Option Addr) (won : List Int) (xc : Nat) (w : World) (hA : I64 w A (zs R)) (hB : Tks w B (tz ts)) (hX : I64 w X won) (hw : won.length ≤ 1000000) (hok : Ok R ts) (hl : won.length ≤ R.length) (hr : runB R won = true) :
    Calls Try.prog 44 #[.agg #[.slice A R.length c], .slice B ts.length d, .slice X won.length xc] w (GivesDI w (Bm.afterN R ts (won.map Int.toNat) : Nat) (zs (Bm.aliveN ts (won.map Int.toNat) ts.length))) := by
  have HCT := hide (fun w' (h1 : I64 w' A (zs R)) (h2 : Tks w' B (tz ts)) => by
    have := rCheckTickets_any A (zs R) c B (tz ts) d w' h1 h2 hok.len.1 hok.len.2.1 hok.len.2.2
    rw [ok_chk hok, zs_len, tz_len] at this
    exact this)
  have hR5 := hok.h5
  have hlb : decide ((won.length : Int) > (R.length : Int)) = false := by simp; omega
  have hwR : (won.length : Int) ≤ 5 := by omega
  have ht10 := hok.t10
  have ht10' : (ts.length : Int) ≤ 10 := by omega
  obtain ⟨i0, ih, iz, is, ib⟩ := info_parts info3
  obtain ⟨o, hwo, hol, holt⟩ := runB_zs R won hl hr
  have hzn : won.map Int.toNat = o := by rw [hwo, zs_nat]
  rw [hzn]
  have HWO := hide hwo
  have HAF := hide (show Bm.afterN R ts o = (Bm.outs R).countP fun o' => decide (o'.take o.length = o) && decide (0 < Bm.uni ts o') from rfl)
  have HAL := hide (Bm.aliveN_le ts o)
  have HAS := hide (fun k (hk : k < ts.length) => (show Bm.aliveN ts o (k + 1) = Bm.aliveN ts o k ++ if Bm.wrongN ts[k].1 o = 0 then [k] else [] by
    simp only [Bm.aliveN]; rw [getD_at _ _ hk]))
  have HAZ := hide (show Bm.aliveN ts o 0 = [] from rfl)
  have HHO := hide holt
  clear hwo hzn hol holt
  generalize Bm.aliveN ts o = al at *
  generalize Bm.afterN R ts o = fin at *
  go_enter Try.func44, Try.ntmps44
  go_wp2_with (first
    | (go_at_call 24; refine (HCT.out _ (hA.ext (by (repeat (first | exact Below.refl _ _ | assumption | refine below_drewN ?_ _ | refine below_drew ?_ | refine below_gr ?_ ?_ _ | refine below_alloc ?_ ?_ _ | refine Below.setCell ?_ ?_ _ | refine below_step ?_ (by assumption) ?_ | omega | (simp only [zz] at *; omega))))) (hB.ext (by (repeat (first | exact Below.refl _ _ | assumption | refine below_drewN ?_ _ | refine below_drew ?_ | refine below_gr ?_ ?_ _ | refine below_alloc ?_ ?_ _ | refine Below.setCell ?_ ?_ _ | refine below_step ?_ (by assumption) ?_ | omega | (simp only [zz] at *; omega)))))).mono ?_; rintro e w1 ⟨rfl, hb1⟩; replace hb1 := ex_below hb1; have hz1 := hb1.size; (try simp only [zz] at hz1); have hs1 : w.heap.size < w1.heap.size := (by (first | omega | (simp only [zz] at *; omega))); have ho1 := own_cell hb1 (b := w.heap.size) (by (first | omega | (simp only [zz] at *; omega))); have hq1 := own_frozen hb1 (b := w.heap.size) (by (first | omega | (simp only [zz] at *; omega))); have hlt1 : ∀ b, b < w.heap.size → b < w1.heap.size := fun b hb => (by (first | omega | (simp only [zz] at *; omega))); have hc1 : ∀ b o, b < w.heap.size → w1.cell? ⟨b, o, none⟩ = w.cell? ⟨b, o, none⟩ := old_cell (by (repeat (first | exact Below.refl _ _ | assumption | refine below_drewN ?_ _ | refine below_drew ?_ | refine below_gr ?_ ?_ _ | refine below_alloc ?_ ?_ _ | refine Below.setCell ?_ ?_ _ | refine below_step ?_ (by assumption) ?_ | omega | (simp only [zz] at *; omega))))))

  have hbw : Below w.heap.size w w1 := by (repeat (first | exact Below.refl _ _ | assumption | (refine below_gr ?_ (by (first | omega | (simp only [zz] at *; omega))) _) | (refine below_alloc ?_ (by (first | omega | (simp only [zz] at *; omega))) _) | (refine Below.setCell ?_ (by (first | omega | (simp only [zz] at *; omega))) _) | refine below_drewN ?_ _ | refine below_drew ?_ | (refine below_step ?_ (by assumption) (by (first | omega | (simp only [zz] at *; omega))))))
  have hn1 : w.heap.size < w1.heap.size := by omega
  have e0 : w1.cell? ⟨w.heap.size, 0, none⟩ = some (.slice A R.length c) := by simp [go_sem, *]
  replace hA := hA.ext hbw
  replace hX := hX.ext hbw
  replace hB := hB.ext hbw
  clear hb1 hc1 hlt1
  go_loopw [9] (fun i wr => ∃ k : Nat, k ≤ won.length ∧ i = .int .i64 (k : Nat) ∧ ((won.zip (zs R)).take k).all (fun p : Int × Int => decide (0 ≤ p.1 ∧ p.1 < p.2)) = true ∧ Below w1.heap.size w1 wr) (fun i _ => won.length - (intOf i).toNat)
  case atStart => exact ⟨0, Nat.zero_le _, rfl, rfl, Below.refl _ _⟩
  case round =>
    obtain ⟨k, hk, rfl, hall, hb⟩ := hrel
    have hbz := hb.size
    have e1 := Below.blk hb hn1 e0
    have hnr : w.heap.size < wr.heap.size := by omega
    by_cases hlt : k < won.length
    · have hltR : k < R.length := by omega
      have hX1 := hX.ext hb
      have hA1 := hA.ext hb
      obtain ⟨ab, ao, rfl, hab⟩ := zsF hA1 (by omega)
      obtain ⟨xb, xo, rfl, hxb⟩ := hX1.form (by omega)
      have hr0 := zsI hA1 hltR
      have hx0 := hX1.at hlt
      have hlz : k < (won.zip (zs R)).length := by simp [zs_len]; omega
      have HGr := hide (all_good (f := fun p : Int × Int => decide (0 ≤ p.1 ∧ p.1 < p.2)) hlz hall)
      have HBr := hide (all_bad (f := fun p : Int × Int => decide (0 ≤ p.1 ∧ p.1 < p.2)) hlz)
      have hz0 : (won.zip (zs R))[k] = (won[k], ((R[k] : Nat) : Int)) := by simp [zs_at _ _ hltR]
      rw [hz0] at HGr HBr
      have hn6 := hok.r6 _ (List.getElem_mem hltR)
      clear hz0 hall hlz hX1 hA1
      generalize R[k] = n at *
      generalize won[k] = x at *
      have hcx : decide (x < 0) = true ∨ (decide (x < 0) = false ∧ ¬ x < (n : Int)) ∨ (decide (x < 0) = false ∧ x < (n : Int)) := by
        simp only [decide_eq_true_eq, decide_eq_false_iff_not]; omega
      rcases hcx with g1 | ⟨g1, g2⟩ | ⟨g1, g2⟩
      · have hv := HBr.out (by simp at g1 ⊢; omega)
        unfold runB at hr
        rw [hv] at hr; cases hr
      · have hv := HBr.out (by simp at g1 ⊢; omega)
        unfold runB at hr
        rw [hv] at hr; cases hr
      · replace HGr := hide (HGr.out (by simp at g1 ⊢; omega))
        go_upto_region 8 with fail
        go_quiet (fail)
        go_wp2
        exact ⟨⟨k + 1, by omega, by go_num, HGr.out, by (repeat (first | exact Below.refl _ _ | assumption | (refine below_gr ?_ (by (first | omega | (simp only [zz] at *; omega))) _) | (refine below_alloc ?_ (by (first | omega | (simp only [zz] at *; omega))) _) | (refine Below.setCell ?_ (by (first | omega | (simp only [zz] at *; omega))) _) | refine below_drewN ?_ _ | refine below_drew ?_ | (refine below_step ?_ (by assumption) (by (first | omega | (simp only [zz] at *; omega))))))⟩, by simp [intOf]; omega⟩
    · have hkl : k = won.length := by omega
      clear hkl hlb
      obtain rfl := HWO.out
      have holt := HHO.out
      have ho6 : ∀ i, i ∈ o → i < 6 := fun i hi => by
        obtain ⟨k, hk, rfl⟩ := List.getElem_of_mem hi
        have h1 := holt k hk
        rw [getD_at _ _ hk, getD_at _ _ (show k < R.length by rw [zs_len] at hl; omega)] at h1
        have := hok.r6 _ (List.getElem_mem (show k < R.length by rw [zs_len] at hl; omega))
        omega
      have HO6 := hide ho6
      rw [zs_len] at hl hk hwR hlt
      simp only [zs_len] at hall ⊢
      have HO := hide (fun w' (h : I64 w' A (zs R)) => Outcomes_any A R c w' h hok.h5 hok.r6)
      have HLE := hide (show (Bm.outs R).length ≤ 7776 by
        have h1 := Bm.outs_len_le hok.r6
        have h2 : 6 ^ R.length ≤ 6 ^ 5 := Nat.pow_le_pow_right (by omega) hR5
        omega)
      have HME := hide (fun o' (ho : o' ∈ Bm.outs R) => (show o'.length = R.length ∧ ∀ i, i ∈ o' → i < 6 from ⟨Bm.outs_len ho, outs_lt hok.r6 ho⟩))
      have HUN := hide (fun Z zc o' w' (ho : o' ∈ Bm.outs R) (h1 : Tks w' B (tz ts)) (h2 : I64 w' Z (zs o')) => rUnits_any B ts d Z o' zc w' h1 h2 (fun t ht => ⟨by rw [(HME.out o' ho).1, hok.htl t ht]; exact Nat.le_refl _, by rw [hok.htl t ht]; omega⟩) hok.ht6 (HME.out o' ho).2 hok.t10 hok.hu)
      have HUL := hide (fun o' => (show Bm.uni ts o' ≤ 10000 by have := Bm.uni_le hok.hu o'; omega))
      have HRW := hide (fun k (hk : k < ts.length) Z zc w' (h1 : I64 w' Z (zs (ts[k].1))) (h2 : I64 w' X (zs o)) => rWrong_any Z ts[k].1 zc X o xc w' h1 h2 (by rw [hok.htl _ (List.getElem_mem hk)]; exact hl) (by rw [hok.htl _ (List.getElem_mem hk)]; omega) (hok.ht6 _ (List.getElem_mem hk)) HO6.out)
      have HRL : Hid (∀ o', o' ∈ Bm.outs R → o'.length = R.length) := hide (fun o' ho => (HME.out o' ho).1)
      have hAr := hA.ext hb
      clear hok hr hall holt ho6 HME hA HO6
      generalize Bm.outs R = L at *
      go_wp2_with (first
    | (go_at_call 64; refine (HO.out _ (hAr.ext (by (repeat (first | exact Below.refl _ _ | assumption | refine below_drewN ?_ _ | refine below_drew ?_ | refine below_gr ?_ ?_ _ | refine below_alloc ?_ ?_ _ | refine Below.setCell ?_ ?_ _ | refine below_step ?_ (by assumption) ?_ | omega | (simp only [zz] at *; omega)))))).mono ?_; rintro e w2 ⟨AO, cO, rfl, hb2, hRA⟩; replace hb2 := ex_below hb2; have hz2 := hb2.size; (try simp only [zz] at hz2); have hlt2 : ∀ b, b < wr.heap.size → b < w2.heap.size := fun b hb => (by (first | omega | (simp only [zz] at *; omega))); have hc2 : ∀ b o, b < wr.heap.size → w2.cell? ⟨b, o, none⟩ = wr.cell? ⟨b, o, none⟩ := old_cell (by (repeat (first | exact Below.refl _ _ | assumption | refine below_drewN ?_ _ | refine below_drew ?_ | refine below_gr ?_ ?_ _ | refine below_alloc ?_ ?_ _ | refine Below.setCell ?_ ?_ _ | refine below_step ?_ (by assumption) ?_ | omega | (simp only [zz] at *; omega))))))

      have hb12 : Below w1.heap.size w1 w2 := by (repeat (first | exact Below.refl _ _ | assumption | (refine below_gr ?_ (by (first | omega | (simp only [zz] at *; omega))) _) | (refine below_alloc ?_ (by (first | omega | (simp only [zz] at *; omega))) _) | (refine Below.setCell ?_ (by (first | omega | (simp only [zz] at *; omega))) _) | refine below_drewN ?_ _ | refine below_drew ?_ | (refine below_step ?_ (by assumption) (by (first | omega | (simp only [zz] at *; omega))))))
      have hlen := HLE.out
      have hlen' : (L.length : Int) ≤ 7776 := by omega
      replace hX := hX.ext hb12
      replace hB := hB.ext hb12
      have hbw2 : Below w.heap.size w w2 := hbw.trans (hb12.mono hbw.size)
      rw [natR_len]
      clear hb hb2 hb12 hbw hc2 hlt2 e0 e1 hAr hnr
      go_loopw [11, 12] (fun n i wr => ∃ k : Nat, k ≤ L.length ∧ i = .int .i64 (k : Nat) ∧ n = .int .i64 ((L.take k).countP (fun o' => decide (o'.take o.length = o) && decide (0 < Bm.uni ts o')) : Nat) ∧ Below w2.heap.size w2 wr) (fun _ i _ => L.length - (intOf i).toNat)
      case atStart => exact ⟨0, Nat.zero_le _, rfl, rfl, Below.refl _ _⟩
      case round =>
        clear hbz
        obtain ⟨k, hk, rfl, rfl, hb⟩ := hrel
        obtain ⟨wo, rfl⟩ : ∃ wo : World, wo = wr := ⟨_, rfl⟩
        have hbz := hb.size
        by_cases hlt : k < L.length
        · obtain ⟨ob, oo, rfl, hol2, P, dP, hcP, hIP⟩ := rowsA_at (hRA.ext hb) k hlt
          have hmem := List.getElem_mem hlt
          have hXo := hX.ext hb
          have hBo := hB.ext hb
          have HCS := hide (Bm.count_step L (fun o' => decide (o'.take o.length = o) && decide (0 < Bm.uni ts o')) k hlt)
          have HUO := hide (fun Z zc w' (h1 : Tks w' B (tz ts)) (h2 : I64 w' Z (zs L[k])) => HUN.out Z zc L[k] w' hmem h1 h2)
          have hul := HUL.out L[k]
          have hPl := HRL.out _ hmem
          have hPi : (L[k].length : Int) ≤ 5 := by omega
          have HPL := hide hPl
          have hcl := Nat.le_trans (List.countP_le_length (p := fun o' => decide (o'.take o.length = o) && decide (0 < Bm.uni ts o')) (l := L.take k)) (List.length_take_le k L)
          have hki : (k : Int) < (L.length : Int) := by omega
          clear hmem hPl
          generalize (L.take k).countP (fun o' => decide (o'.take o.length = o) && decide (0 < Bm.uni ts o')) = n at *
          generalize L[k] = p at *
          generalize Bm.uni ts p = m at *
          have hpo : o.length ≤ p.length := by rw [HPL.out]; exact hl
          go_wp2
          go_loopw [13, 14] (fun bg i wr => ∃ r : Nat, r ≤ o.length ∧ i = .int .i64 (r : Nat) ∧ bg = .bool (decide (p.take r = o.take r)) ∧ Below wo.heap.size wo wr) (fun _ i _ => o.length - (intOf i).toNat)
          case atStart => exact ⟨0, Nat.zero_le _, rfl, rfl, Below.refl _ _⟩
          case round =>
            obtain ⟨r, hr, rfl, rfl, hb3⟩ := hrel
            have hbz3 := hb3.size
            have hol3 : ob < wr.heap.size := by omega
            have hcPr := (hb3.cell (p := ⟨ob, oo + k, none⟩) hol2).trans hcP
            by_cases hltr : r < o.length
            · have hltp : r < p.length := by omega
              have hX3 := hXo.ext hb3
              have hI3 := hIP.ext hb3
              obtain ⟨xb, xo, rfl, hxb⟩ := zsF hX3 (by omega)
              obtain ⟨pb, po, rfl, hpb⟩ := zsF hI3 (by omega)
              have hx0 := zsI hX3 hltr
              have hp0 := zsI hI3 hltp
              have HBS := hide (Bm.beg_step p o r hltp hltr)
              clear hX3 hI3
              have hexy := eqN p[r] o[r]
              generalize decide (p[r] = o[r]) = v at *
              generalize p[r] = x at *
              generalize o[r] = y at *
              generalize decide (p.take r = o.take r) = bv at *
              cases bv
              · go_wp2
                go_quiet (fail)
                go_wp2
                exact ⟨⟨r + 1, by omega, by go_num, by rw [HBS.out]; rfl, by (repeat (first | exact Below.refl _ _ | assumption | (refine below_gr ?_ (by (first | omega | (simp only [zz] at *; omega))) _) | (refine below_alloc ?_ (by (first | omega | (simp only [zz] at *; omega))) _) | (refine Below.setCell ?_ (by (first | omega | (simp only [zz] at *; omega))) _) | refine below_drewN ?_ _ | refine below_drew ?_ | (refine below_step ?_ (by assumption) (by (first | omega | (simp only [zz] at *; omega))))))⟩, by simp [intOf]; omega⟩
              · go_wp2
                go_quiet (fail)
                go_wp2
                exact ⟨⟨r + 1, by omega, by go_num, by rw [HBS.out]; rfl, by (repeat (first | exact Below.refl _ _ | assumption | (refine below_gr ?_ (by (first | omega | (simp only [zz] at *; omega))) _) | (refine below_alloc ?_ (by (first | omega | (simp only [zz] at *; omega))) _) | (refine Below.setCell ?_ (by (first | omega | (simp only [zz] at *; omega))) _) | refine below_drewN ?_ _ | refine below_drew ?_ | (refine below_step ?_ (by assumption) (by (first | omega | (simp only [zz] at *; omega))))))⟩, by simp [intOf]; omega⟩
            · have hrl : r = o.length := by omega
              have HBV := hide (show decide (p.take r = o.take r) = decide (p.take o.length = o) by rw [hrl, List.take_length])
              clear hrl
              generalize decide (p.take r = o.take r) = bv at *
              rw [← HBV.out] at HCS
              have hB3 := hBo.ext hb3
              have hI3 := hIP.ext hb3
              cases bv
              · replace HCS := hide (HCS.out.trans (by rw [Bool.false_and]))
                go_wp2
                exact ⟨⟨k + 1, by omega, by go_num, by rw [HCS.out]; rfl, hb.trans (hb3.mono hbz)⟩, by simp [intOf]; omega⟩
              · replace HCS := hide (HCS.out.trans (by rw [Bool.true_and]))
                by_cases hm0 : 0 < m
                · have hmi : (0 : Int) < (m : Int) := by omega
                  replace HCS := hide (HCS.out.trans (by rw [decide_eq_true hm0]))
                  clear hm0
                  go_wp2_with (first
    | (go_at_call 52; refine (HUO.out _ _ _ (hB3.ext (by (repeat (first | exact Below.refl _ _ | assumption | refine below_drewN ?_ _ | refine below_drew ?_ | refine below_gr ?_ ?_ _ | refine below_alloc ?_ ?_ _ | refine Below.setCell ?_ ?_ _ | refine below_step ?_ (by assumption) ?_ | omega | (simp only [zz] at *; omega))))) (hI3.ext (by (repeat (first | exact Below.refl _ _ | assumption | refine below_drewN ?_ _ | refine below_drew ?_ | refine below_gr ?_ ?_ _ | refine below_alloc ?_ ?_ _ | refine Below.setCell ?_ ?_ _ | refine below_step ?_ (by assumption) ?_ | omega | (simp only [zz] at *; omega)))))).mono ?_; rintro e w4 ⟨rfl, hb4⟩; replace hb4 := ex_below hb4; have hz4 := hb4.size; (try simp only [zz] at hz4); have hlt4 : ∀ b, b < wr.heap.size → b < w4.heap.size := fun b hb => (by (first | omega | (simp only [zz] at *; omega))); have hc4 : ∀ b o, b < wr.heap.size → w4.cell? ⟨b, o, none⟩ = wr.cell? ⟨b, o, none⟩ := old_cell (by (repeat (first | exact Below.refl _ _ | assumption | refine below_drewN ?_ _ | refine below_drew ?_ | refine below_gr ?_ ?_ _ | refine below_alloc ?_ ?_ _ | refine Below.setCell ?_ ?_ _ | refine below_step ?_ (by assumption) ?_ | omega | (simp only [zz] at *; omega))))))

                  exact ⟨⟨k + 1, by omega, by go_num, by rw [HCS.out]; rfl, hb.trans ((hb3.trans (hb4.mono hbz3)).mono hbz)⟩, by simp [intOf]; omega⟩
                · have hmi : ¬ (0 : Int) < (m : Int) := by omega
                  replace HCS := hide (HCS.out.trans (by rw [decide_eq_false hm0]))
                  clear hm0
                  go_wp2_with (first
    | (go_at_call 52; refine (HUO.out _ _ _ (hB3.ext (by (repeat (first | exact Below.refl _ _ | assumption | refine below_drewN ?_ _ | refine below_drew ?_ | refine below_gr ?_ ?_ _ | refine below_alloc ?_ ?_ _ | refine Below.setCell ?_ ?_ _ | refine below_step ?_ (by assumption) ?_ | omega | (simp only [zz] at *; omega))))) (hI3.ext (by (repeat (first | exact Below.refl _ _ | assumption | refine below_drewN ?_ _ | refine below_drew ?_ | refine below_gr ?_ ?_ _ | refine below_alloc ?_ ?_ _ | refine Below.setCell ?_ ?_ _ | refine below_step ?_ (by assumption) ?_ | omega | (simp only [zz] at *; omega)))))).mono ?_; rintro e w4 ⟨rfl, hb4⟩; replace hb4 := ex_below hb4; have hz4 := hb4.size; (try simp only [zz] at hz4); have hlt4 : ∀ b, b < wr.heap.size → b < w4.heap.size := fun b hb => (by (first | omega | (simp only [zz] at *; omega))); have hc4 : ∀ b o, b < wr.heap.size → w4.cell? ⟨b, o, none⟩ = wr.cell? ⟨b, o, none⟩ := old_cell (by (repeat (first | exact Below.refl _ _ | assumption | refine below_drewN ?_ _ | refine below_drew ?_ | refine below_gr ?_ ?_ _ | refine below_alloc ?_ ?_ _ | refine Below.setCell ?_ ?_ _ | refine below_step ?_ (by assumption) ?_ | omega | (simp only [zz] at *; omega))))))

                  exact ⟨⟨k + 1, by omega, by go_num, by rw [HCS.out]; rfl, hb.trans ((hb3.trans (hb4.mono hbz3)).mono hbz)⟩, by simp [intOf]; omega⟩
        · have hkl : k = L.length := by omega
          have hv := hide (show (L.take k).countP (fun o' => decide (o'.take o.length = o) && decide (0 < Bm.uni ts o')) = fin by rw [hkl, List.take_length, HAF.out])
          clear hkl
          generalize (L.take k).countP (fun o' => decide (o'.take o.length = o) && decide (0 < Bm.uni ts o')) = n at *
          have hnl : ¬ k < L.length := hlt
          go_wp2
          have hXl := hX.ext hb
          have hBl := hB.ext hb
          have hbwl : Below w.heap.size w wo := hbw2.trans (hb.mono hbw2.size)
          obtain ⟨wl, rfl⟩ : ∃ wl : World, wl = wo := ⟨_, rfl⟩
          clear hb hbz
          go_loopw [15, 16] (fun t15 t16 wr => ∃ (k : Nat) (O : Option Addr) (c : Nat), k ≤ ts.length ∧ t16 = .int .i64 k ∧ t15 = .slice O (al k).length c ∧ Below wl.heap.size wl wr ∧ wr.ownsRow wl.heap.size 3 1 (.slice O (al k).length c) (al k).length ((zs (al k)).map (Value.int .i64))) (fun _ i _ => ts.length - (intOf i).toNat)
          case atStart => exact ⟨0, none, 0, Nat.zero_le _, rfl, by rw [HAZ.out]; rfl, Below.refl _ _, by rw [HAZ.out]; exact World.ownsRow_nil _ _ _ _⟩
          case round =>
            obtain ⟨k, O, c, hk, rfl, rfl, hb, hown⟩ := hrel
            have hzr := hb.size
            have hfl := HAL.out k
            by_cases hlt : k < ts.length
            · have HFS := hide (HAS.out k hlt)
              have hB1 := hBl.ext hb
              obtain ⟨tb, to, rfl, htb⟩ := hB1.form (by rw [tz_len]; omega)
              obtain ⟨S, sc, q0, q1, q2, hSx⟩ := hB1.at (k := k) (by rw [tz_len]; exact hlt)
              simp only [tz_at _ _ hlt, zs_len] at q0 q1 q2 hSx
              have hXr := hXl.ext hb
              have HRK := hide (fun Z zc w' h1 h2 => HRW.out k hlt Z zc w' h1 h2)
              clear q1 q2 hB1
              generalize al k = fl at *
              generalize ts[k].1 = T at *
              generalize Bm.wrongN T o = m at *
              by_cases hm0 : m = 0
              · subst hm0
                replace HFS := hide (HFS.out.trans (by rw [if_pos rfl]))
                go_wp2_with (first
    | (go_at_call 51; refine (HRK.out _ _ _ (hSx.ext (by (repeat (first | exact Below.refl _ _ | assumption | refine below_drewN ?_ _ | refine below_drew ?_ | refine below_gr ?_ ?_ _ | refine below_alloc ?_ ?_ _ | refine Below.setCell ?_ ?_ _ | refine below_step ?_ (by assumption) ?_ | omega | (simp only [zz] at *; omega))))) (hXr.ext (by (repeat (first | exact Below.refl _ _ | assumption | refine below_drewN ?_ _ | refine below_drew ?_ | refine below_gr ?_ ?_ _ | refine below_alloc ?_ ?_ _ | refine Below.setCell ?_ ?_ _ | refine below_step ?_ (by assumption) ?_ | omega | (simp only [zz] at *; omega)))))).mono ?_; rintro e w5 ⟨rfl, hb5⟩; replace hb5 := ex_below hb5; have hown5 := (ownsRow_grows hown hb5).alloc (.cells #[.int .i64 (k : Nat)] 3); have hb15 := hb.trans (hb5.mono hzr); have hz5 := hb15.size; clear hb5 hown)
    | (at_builtin; refine wpList_appN _ rfl (.tmp 108) (.tmp 110) 22 rfl (wl.heap.size) 3 i0 _ 1 8 und22 ih iz is ib rfl (by decide) (_) (fl.length) ((zs fl).map (Value.int .i64)) rfl (hown5) (some ⟨w5.heap.size, 0, none⟩) (1) (1) ([.int .i64 (k : Nat)]) rfl (rd_new1 _ _ _) (by simp [Value.oneCell']) (by unfold maxLen; omega) (by omega) (by (first | omega | (simp only [zz]; omega) | (simp only [zz] at *; omega) | (simp; done) | (simp; omega))) ?_; intro A6 c6 w6 hown6 hgr6 far6))

                have hb6 := gb_below (below_alloc hb15 (by omega) _) hgr6 (by simp; omega) (fun k hk => (hown5.lt k hk).1)
                refine ⟨⟨k + 1, A6, c6, by omega, by go_num, by rw [HFS.out, List.length_append]; rfl, hb6, ?_⟩, by simp [intOf]; omega⟩
                rw [HFS.out, List.length_append]
                simpa [zs] using hown6
              · have hmb : (((m : Nat) : Int) == 0) = false := by simp; omega
                replace HFS := hide (HFS.out.trans (by rw [if_neg hm0, List.append_nil]))
                clear hm0
                go_wp2_with (go_at_call 51; refine (HRK.out _ _ _ (hSx.ext (by (repeat (first | exact Below.refl _ _ | assumption | refine below_drewN ?_ _ | refine below_drew ?_ | refine below_gr ?_ ?_ _ | refine below_alloc ?_ ?_ _ | refine Below.setCell ?_ ?_ _ | refine below_step ?_ (by assumption) ?_ | omega | (simp only [zz] at *; omega))))) (hXr.ext (by (repeat (first | exact Below.refl _ _ | assumption | refine below_drewN ?_ _ | refine below_drew ?_ | refine below_gr ?_ ?_ _ | refine below_alloc ?_ ?_ _ | refine Below.setCell ?_ ?_ _ | refine below_step ?_ (by assumption) ?_ | omega | (simp only [zz] at *; omega)))))).mono ?_; rintro e w5 ⟨rfl, hb5⟩; replace hb5 := ex_below hb5; have hown5 := ownsRow_grows hown hb5; have hb15 := hb.trans (hb5.mono hzr); clear hb5)
                exact ⟨⟨k + 1, O, c, by omega, by go_num, by rw [HFS.out], hb15, by rw [HFS.out]; exact hown5⟩, by simp [intOf]; omega⟩
            · have hkn : k = ts.length := by omega
              rw [hkn] at hown
              have hown2 := own_i64 (xs := zs (al ts.length)) (c := c) (by rw [zs_len]; exact hown)
              have HO := hide hown2
              rw [show al k = al ts.length by rw [hkn]]
              have hnl2 : ¬ k < ts.length := hlt
              generalize al ts.length = fl at *
              clear hown hown2 hfl hkn
              go_wp2
              go_ret3
              exact ⟨O, c, by rw [zs_len, hv.out]; rfl, below_grow (hbwl.trans (hb.mono hbwl.size)), HO.out.1, HO.out.2.1⟩
end Go.Proofs.Ytlbkaeoagdbemaa
