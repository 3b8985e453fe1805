/- Proved here: the reference: the errors of maps, a part of the proofs about the box laws. Conditions: those that each theorem names, no others. -/
import Derived.Test.YtlbkaeoagdbemaaP32
import Derived.WalkKit
import Derived.WalkSpells
import Derived.WalkLawsBesides
import Derived.Below
import Derived.Deep.QuietTactic
import Derived.BigQuiet
import Derived.Deep.Light
import Derived.Deep.RegionHeld3
set_option linter.unusedSimpArgs false
set_option linter.unusedVariables false
namespace Go.Proofs.Ytlbkaeoagdbemaa
open Go.RowKit Go.Maps
set_option maxRecDepth 100000 in
set_option maxHeartbeats 4000000 in
theorem rcmap_bad (A : Option Addr) (R : List Int) (c : Nat) (B : Option Addr) (ts : List Tz) (d : Nat) (w : World) (hA : I64 w A R) (hB : Tks w B ts) (hl : R.length ≤ 1000000) (hl2 : ts.length ≤ 1000000) (hts : ∀ t, t ∈ ts → t.1.length ≤ 1000000) (h0 : chkT R ts ≠ 0) (D : Option Addr) (n dd : Nat) :
    Calls Try.prog 31 #[.agg #[.slice A R.length c], .slice B ts.length d, .slice D n dd] w (Gives w (.int .i64 (chkT R ts))) := by
  have HCT := hide (fun w' (h1 : I64 w' A R) (h2 : Tks w' B ts) => rCheckTickets_any A R c B ts d w' h1 h2 hl hl2 hts)
  have hne : (chkT R ts != 0) = true := by simpa using h0
  generalize chkT R ts = ec at *
  clear h0
  go_enter Try.func31, Try.ntmps31
  go_wp2_with (first
    | (go_at_call 24; refine (HCT.out _ (hA.ext (by (repeat (first | exact Below.refl _ _ | assumption | refine below_drewN ?_ _ | refine below_drew ?_ | refine below_gr ?_ ?_ _ | refine below_alloc ?_ ?_ _ | refine Below.setCell ?_ ?_ _ | refine below_step ?_ (by assumption) ?_ | omega | (simp only [zz] at *; omega))))) (hB.ext (by (repeat (first | exact Below.refl _ _ | assumption | refine below_drewN ?_ _ | refine below_drew ?_ | refine below_gr ?_ ?_ _ | refine below_alloc ?_ ?_ _ | refine Below.setCell ?_ ?_ _ | refine below_step ?_ (by assumption) ?_ | omega | (simp only [zz] at *; omega)))))).mono ?_; rintro e w1 ⟨rfl, hb1⟩; replace hb1 := ex_below hb1; have hz1 := hb1.size; (try simp only [zz] at hz1); have hs1 : w.heap.size < w1.heap.size := (by (first | omega | (simp only [zz] at *; omega))); have ho1 := own_cell hb1 (b := w.heap.size) (by (first | omega | (simp only [zz] at *; omega))); have hq1 := own_frozen hb1 (b := w.heap.size) (by (first | omega | (simp only [zz] at *; omega))); have hlt1 : ∀ b, b < w.heap.size → b < w1.heap.size := fun b hb => (by (first | omega | (simp only [zz] at *; omega))); have hc1 : ∀ b o, b < w.heap.size → w1.cell? ⟨b, o, none⟩ = w.cell? ⟨b, o, none⟩ := old_cell (by (repeat (first | exact Below.refl _ _ | assumption | refine below_drewN ?_ _ | refine below_drew ?_ | refine below_gr ?_ ?_ _ | refine below_alloc ?_ ?_ _ | refine Below.setCell ?_ ?_ _ | refine below_step ?_ (by assumption) ?_ | omega | (simp only [zz] at *; omega))))))

  go_wp2_with (first
    | (go_at_call 24; refine (HCT.out _ (hA.ext (by (repeat (first | exact Below.refl _ _ | assumption | refine below_drewN ?_ _ | refine below_drew ?_ | refine below_gr ?_ ?_ _ | refine below_alloc ?_ ?_ _ | refine Below.setCell ?_ ?_ _ | refine below_step ?_ (by assumption) ?_ | omega | (simp only [zz] at *; omega))))) (hB.ext (by (repeat (first | exact Below.refl _ _ | assumption | refine below_drewN ?_ _ | refine below_drew ?_ | refine below_gr ?_ ?_ _ | refine below_alloc ?_ ?_ _ | refine Below.setCell ?_ ?_ _ | refine below_step ?_ (by assumption) ?_ | omega | (simp only [zz] at *; omega)))))).mono ?_; rintro e w2 ⟨rfl, hb2⟩; replace hb2 := ex_below hb2; have hz2 := hb2.size; (try simp only [zz] at hz2); have hs2 : w.heap.size < w2.heap.size := (by (first | omega | (simp only [zz] at *; omega))); have ho2 := own_cell hb2 (b := w.heap.size) (by (first | omega | (simp only [zz] at *; omega))); have hq2 := own_frozen hb2 (b := w.heap.size) (by (first | omega | (simp only [zz] at *; omega))); have hlt2 : ∀ b, b < w.heap.size → b < w2.heap.size := fun b hb => (by (first | omega | (simp only [zz] at *; omega))); have hc2 : ∀ b o, b < w.heap.size → w2.cell? ⟨b, o, none⟩ = w.cell? ⟨b, o, none⟩ := old_cell (by (repeat (first | exact Below.refl _ _ | assumption | refine below_drewN ?_ _ | refine below_drew ?_ | refine below_gr ?_ ?_ _ | refine below_alloc ?_ ?_ _ | refine Below.setCell ?_ ?_ _ | refine below_step ?_ (by assumption) ?_ | omega | (simp only [zz] at *; omega))))))

  go_ret
  exact gives_of (rfl) (by (repeat (first | exact Below.refl _ _ | assumption | refine below_drewN ?_ _ | refine below_drew ?_ | refine below_gr ?_ ?_ _ | refine below_alloc ?_ ?_ _ | refine Below.setCell ?_ ?_ _ | refine below_step ?_ (by assumption) ?_ | omega | (simp only [zz] at *; omega))))
set_option maxRecDepth 100000 in
set_option maxHeartbeats 4000000 in
theorem rcmap_many (A : Option Addr) (R : List Nat) (c : Nat) (B : Option Addr) (ts : List Bm.Tk) (d : Nat) (D : Option Addr) (ps : List Tz) (dd : Nat) (w : World) (hA : I64 w A (zs R)) (hB : Tks w B (tz ts)) (hD : Tks w D ps) (hl : ps.length ≤ 1000000) (hps : ∀ t, t ∈ ps → t.1.length ≤ 1000000) (hok : Ok R ts) (h : 7776 < ps.length) :
    Calls Try.prog 31 #[.agg #[.slice A R.length c], .slice B ts.length d, .slice D ps.length dd] w (Gives w (.int .i64 6)) := by
  have HCT := hide (fun w' (h1 : I64 w' A (zs R)) (h2 : Tks w' B (tz ts)) => by
    have := rCheckTickets_any A (zs R) c B (tz ts) d w' h1 h2 hok.len.1 hok.len.2.1 hok.len.2.2
    rw [ok_chk hok, zs_len, tz_len] at this
    exact this)
  have hlb : decide ((ps.length : Int) > 7776) = true := by simp; omega
  have hli : (ps.length : Int) ≤ 1000000 := by omega
  go_enter Try.func31, Try.ntmps31
  go_wp2_with (first
    | (go_at_call 24; refine (HCT.out _ (hA.ext (by (repeat (first | exact Below.refl _ _ | assumption | refine below_drewN ?_ _ | refine below_drew ?_ | refine below_gr ?_ ?_ _ | refine below_alloc ?_ ?_ _ | refine Below.setCell ?_ ?_ _ | refine below_step ?_ (by assumption) ?_ | omega | (simp only [zz] at *; omega))))) (hB.ext (by (repeat (first | exact Below.refl _ _ | assumption | refine below_drewN ?_ _ | refine below_drew ?_ | refine below_gr ?_ ?_ _ | refine below_alloc ?_ ?_ _ | refine Below.setCell ?_ ?_ _ | refine below_step ?_ (by assumption) ?_ | omega | (simp only [zz] at *; omega)))))).mono ?_; rintro e w1 ⟨rfl, hb1⟩; replace hb1 := ex_below hb1; have hz1 := hb1.size; (try simp only [zz] at hz1); have hs1 : w.heap.size < w1.heap.size := (by (first | omega | (simp only [zz] at *; omega))); have ho1 := own_cell hb1 (b := w.heap.size) (by (first | omega | (simp only [zz] at *; omega))); have hq1 := own_frozen hb1 (b := w.heap.size) (by (first | omega | (simp only [zz] at *; omega))); have hlt1 : ∀ b, b < w.heap.size → b < w1.heap.size := fun b hb => (by (first | omega | (simp only [zz] at *; omega))); have hc1 : ∀ b o, b < w.heap.size → w1.cell? ⟨b, o, none⟩ = w.cell? ⟨b, o, none⟩ := old_cell (by (repeat (first | exact Below.refl _ _ | assumption | refine below_drewN ?_ _ | refine below_drew ?_ | refine below_gr ?_ ?_ _ | refine below_alloc ?_ ?_ _ | refine Below.setCell ?_ ?_ _ | refine below_step ?_ (by assumption) ?_ | omega | (simp only [zz] at *; omega))))))

  go_ret
  exact gives_of (rfl) (by (repeat (first | exact Below.refl _ _ | assumption | refine below_drewN ?_ _ | refine below_drew ?_ | refine below_gr ?_ ?_ _ | refine below_alloc ?_ ?_ _ | refine Below.setCell ?_ ?_ _ | refine below_step ?_ (by assumption) ?_ | omega | (simp only [zz] at *; omega))))
set_option maxRecDepth 100000 in
set_option maxHeartbeats 4000000 in
theorem rcmap_box (A : Option Addr) (R : List Nat) (c : Nat) (B : Option Addr) (ts : List Bm.Tk) (d : Nat) (D : Option Addr) (ps : List Tz) (dd : Nat) (w : World) (hA : I64 w A (zs R)) (hB : Tks w B (tz ts)) (hD : Tks w D ps) (hl : ps.length ≤ 1000000) (hps : ∀ t, t ∈ ps → t.1.length ≤ 1000000) (hok : Ok R ts) (h : ps.length ≤ 7776) (h1 : areB (zs R) ps ≠ 0) :
    Calls Try.prog 31 #[.agg #[.slice A R.length c], .slice B ts.length d, .slice D ps.length dd] w (Gives w (.int .i64 (areB (zs R) ps))) := by
  have HCT := hide (fun w' (h1 : I64 w' A (zs R)) (h2 : Tks w' B (tz ts)) => by
    have := rCheckTickets_any A (zs R) c B (tz ts) d w' h1 h2 hok.len.1 hok.len.2.1 hok.len.2.2
    rw [ok_chk hok, zs_len, tz_len] at this
    exact this)
  have HAB := hide (fun w' (h1 : I64 w' A (zs R)) (h2 : Tks w' D ps) => by
    have := rAreBoxes_any A (zs R) c D ps dd w' h1 h2 (by rw [zs_len]; have := hok.h5; omega) hl hps (fun k h => by rw [zs_len] at h; rw [zs_at _ _ h]; have h1 := hok.r1 _ (List.getElem_mem h); have h6 := hok.r6 _ (List.getElem_mem h); omega)
    rw [zs_len] at this
    exact this)
  have hlb : decide ((ps.length : Int) > 7776) = false := by simp; omega
  have hli : (ps.length : Int) ≤ 1000000 := by omega
  have hne : (areB (zs R) ps != 0) = true := by simpa using h1
  clear h1
  generalize areB (zs R) ps = ea at *
  go_enter Try.func31, Try.ntmps31
  go_wp2_with (first
    | (go_at_call 24; refine (HCT.out _ (hA.ext (by (repeat (first | exact Below.refl _ _ | assumption | refine below_drewN ?_ _ | refine below_drew ?_ | refine below_gr ?_ ?_ _ | refine below_alloc ?_ ?_ _ | refine Below.setCell ?_ ?_ _ | refine below_step ?_ (by assumption) ?_ | omega | (simp only [zz] at *; omega))))) (hB.ext (by (repeat (first | exact Below.refl _ _ | assumption | refine below_drewN ?_ _ | refine below_drew ?_ | refine below_gr ?_ ?_ _ | refine below_alloc ?_ ?_ _ | refine Below.setCell ?_ ?_ _ | refine below_step ?_ (by assumption) ?_ | omega | (simp only [zz] at *; omega)))))).mono ?_; rintro e w1 ⟨rfl, hb1⟩; replace hb1 := ex_below hb1; have hz1 := hb1.size; (try simp only [zz] at hz1); have hs1 : w.heap.size < w1.heap.size := (by (first | omega | (simp only [zz] at *; omega))); have ho1 := own_cell hb1 (b := w.heap.size) (by (first | omega | (simp only [zz] at *; omega))); have hq1 := own_frozen hb1 (b := w.heap.size) (by (first | omega | (simp only [zz] at *; omega))); have hlt1 : ∀ b, b < w.heap.size → b < w1.heap.size := fun b hb => (by (first | omega | (simp only [zz] at *; omega))); have hc1 : ∀ b o, b < w.heap.size → w1.cell? ⟨b, o, none⟩ = w.cell? ⟨b, o, none⟩ := old_cell (by (repeat (first | exact Below.refl _ _ | assumption | refine below_drewN ?_ _ | refine below_drew ?_ | refine below_gr ?_ ?_ _ | refine below_alloc ?_ ?_ _ | refine Below.setCell ?_ ?_ _ | refine below_step ?_ (by assumption) ?_ | omega | (simp only [zz] at *; omega)))))
    | (go_at_call 60; refine (HAB.out _ (hA.ext (by (repeat (first | exact Below.refl _ _ | assumption | refine below_drewN ?_ _ | refine below_drew ?_ | refine below_gr ?_ ?_ _ | refine below_alloc ?_ ?_ _ | refine Below.setCell ?_ ?_ _ | refine below_step ?_ (by assumption) ?_ | omega | (simp only [zz] at *; omega))))) (hD.ext (by (repeat (first | exact Below.refl _ _ | assumption | refine below_drewN ?_ _ | refine below_drew ?_ | refine below_gr ?_ ?_ _ | refine below_alloc ?_ ?_ _ | refine Below.setCell ?_ ?_ _ | refine below_step ?_ (by assumption) ?_ | omega | (simp only [zz] at *; omega)))))).mono ?_; rintro e w2 ⟨rfl, hb2⟩; replace hb2 := ex_below hb2; have hz2 := hb2.size; (try simp only [zz] at hz2); have hs2 : w.heap.size < w2.heap.size := (by (first | omega | (simp only [zz] at *; omega))); have ho2 := own_cell hb2 (b := w.heap.size) (by (first | omega | (simp only [zz] at *; omega))); have hq2 := own_frozen hb2 (b := w.heap.size) (by (first | omega | (simp only [zz] at *; omega))); have hlt2 : ∀ b, b < w.heap.size → b < w2.heap.size := fun b hb => (by (first | omega | (simp only [zz] at *; omega))); have hc2 : ∀ b o, b < w.heap.size → w2.cell? ⟨b, o, none⟩ = w.cell? ⟨b, o, none⟩ := old_cell (by (repeat (first | exact Below.refl _ _ | assumption | refine below_drewN ?_ _ | refine below_drew ?_ | refine below_gr ?_ ?_ _ | refine below_alloc ?_ ?_ _ | refine Below.setCell ?_ ?_ _ | refine below_step ?_ (by assumption) ?_ | omega | (simp only [zz] at *; omega))))))

  go_wp2_with (first
    | (go_at_call 60; refine (HAB.out _ (hA.ext (by (repeat (first | exact Below.refl _ _ | assumption | refine below_drewN ?_ _ | refine below_drew ?_ | refine below_gr ?_ ?_ _ | refine below_alloc ?_ ?_ _ | refine Below.setCell ?_ ?_ _ | refine below_step ?_ (by assumption) ?_ | omega | (simp only [zz] at *; omega))))) (hD.ext (by (repeat (first | exact Below.refl _ _ | assumption | refine below_drewN ?_ _ | refine below_drew ?_ | refine below_gr ?_ ?_ _ | refine below_alloc ?_ ?_ _ | refine Below.setCell ?_ ?_ _ | refine below_step ?_ (by assumption) ?_ | omega | (simp only [zz] at *; omega)))))).mono ?_; rintro e w3 ⟨rfl, hb3⟩; replace hb3 := ex_below hb3; have hz3 := hb3.size; (try simp only [zz] at hz3); have hs3 : w.heap.size < w3.heap.size := (by (first | omega | (simp only [zz] at *; omega))); have ho3 := own_cell hb3 (b := w.heap.size) (by (first | omega | (simp only [zz] at *; omega))); have hq3 := own_frozen hb3 (b := w.heap.size) (by (first | omega | (simp only [zz] at *; omega))); have hlt3 : ∀ b, b < w.heap.size → b < w3.heap.size := fun b hb => (by (first | omega | (simp only [zz] at *; omega))); have hc3 : ∀ b o, b < w.heap.size → w3.cell? ⟨b, o, none⟩ = w.cell? ⟨b, o, none⟩ := old_cell (by (repeat (first | exact Below.refl _ _ | assumption | refine below_drewN ?_ _ | refine below_drew ?_ | refine below_gr ?_ ?_ _ | refine below_alloc ?_ ?_ _ | refine Below.setCell ?_ ?_ _ | refine below_step ?_ (by assumption) ?_ | omega | (simp only [zz] at *; omega))))))

  go_ret
  exact gives_of (rfl) (by (repeat (first | exact Below.refl _ _ | assumption | refine below_drewN ?_ _ | refine below_drew ?_ | refine below_gr ?_ ?_ _ | refine below_alloc ?_ ?_ _ | refine Below.setCell ?_ ?_ _ | refine below_step ?_ (by assumption) ?_ | omega | (simp only [zz] at *; omega))))
set_option maxRecDepth 100000 in
set_option maxHeartbeats 4000000 in
theorem rcmap_neg (A : Option Addr) (R : List Nat) (c : Nat) (B : Option Addr) (ts : List Bm.Tk) (d : Nat) (D : Option Addr) (ps : List Tz) (dd : Nat) (w : World) (hA : I64 w A (zs R)) (hB : Tks w B (tz ts)) (hD : Tks w D ps) (hl : ps.length ≤ 1000000) (hps : ∀ t, t ∈ ps → t.1.length ≤ 1000000) (hok : Ok R ts) (h : ps.length ≤ 7776) (h1 : areB (zs R) ps = 0) (h2 : ps.any negB = true) :
    Calls Try.prog 31 #[.agg #[.slice A R.length c], .slice B ts.length d, .slice D ps.length dd] w (Gives w (.int .i64 3)) := by
  have HCT := hide (fun w' (h1 : I64 w' A (zs R)) (h2 : Tks w' B (tz ts)) => by
    have := rCheckTickets_any A (zs R) c B (tz ts) d w' h1 h2 hok.len.1 hok.len.2.1 hok.len.2.2
    rw [ok_chk hok, zs_len, tz_len] at this
    exact this)
  have HAB := hide (fun w' (h1 : I64 w' A (zs R)) (h2 : Tks w' D ps) => by
    have := rAreBoxes_any A (zs R) c D ps dd w' h1 h2 (by rw [zs_len]; have := hok.h5; omega) hl hps (fun k h => by rw [zs_len] at h; rw [zs_at _ _ h]; have h1 := hok.r1 _ (List.getElem_mem h); have h6 := hok.r6 _ (List.getElem_mem h); omega)
    rw [zs_len] at this
    exact this)
  have hlb : decide ((ps.length : Int) > 7776) = false := by simp; omega
  have hli : (ps.length : Int) ≤ 1000000 := by omega
  rw [h1] at HAB
  clear h1
  have H2 := hide h2
  clear h2
  go_enter Try.func31, Try.ntmps31
  go_wp2_with (first
    | (go_at_call 24; refine (HCT.out _ (hA.ext (by (repeat (first | exact Below.refl _ _ | assumption | refine below_drewN ?_ _ | refine below_drew ?_ | refine below_gr ?_ ?_ _ | refine below_alloc ?_ ?_ _ | refine Below.setCell ?_ ?_ _ | refine below_step ?_ (by assumption) ?_ | omega | (simp only [zz] at *; omega))))) (hB.ext (by (repeat (first | exact Below.refl _ _ | assumption | refine below_drewN ?_ _ | refine below_drew ?_ | refine below_gr ?_ ?_ _ | refine below_alloc ?_ ?_ _ | refine Below.setCell ?_ ?_ _ | refine below_step ?_ (by assumption) ?_ | omega | (simp only [zz] at *; omega)))))).mono ?_; rintro e w1 ⟨rfl, hb1⟩; replace hb1 := ex_below hb1; have hz1 := hb1.size; (try simp only [zz] at hz1); have hs1 : w.heap.size < w1.heap.size := (by (first | omega | (simp only [zz] at *; omega))); have ho1 := own_cell hb1 (b := w.heap.size) (by (first | omega | (simp only [zz] at *; omega))); have hq1 := own_frozen hb1 (b := w.heap.size) (by (first | omega | (simp only [zz] at *; omega))); have hlt1 : ∀ b, b < w.heap.size → b < w1.heap.size := fun b hb => (by (first | omega | (simp only [zz] at *; omega))); have hc1 : ∀ b o, b < w.heap.size → w1.cell? ⟨b, o, none⟩ = w.cell? ⟨b, o, none⟩ := old_cell (by (repeat (first | exact Below.refl _ _ | assumption | refine below_drewN ?_ _ | refine below_drew ?_ | refine below_gr ?_ ?_ _ | refine below_alloc ?_ ?_ _ | refine Below.setCell ?_ ?_ _ | refine below_step ?_ (by assumption) ?_ | omega | (simp only [zz] at *; omega)))))
    | (go_at_call 60; refine (HAB.out _ (hA.ext (by (repeat (first | exact Below.refl _ _ | assumption | refine below_drewN ?_ _ | refine below_drew ?_ | refine below_gr ?_ ?_ _ | refine below_alloc ?_ ?_ _ | refine Below.setCell ?_ ?_ _ | refine below_step ?_ (by assumption) ?_ | omega | (simp only [zz] at *; omega))))) (hD.ext (by (repeat (first | exact Below.refl _ _ | assumption | refine below_drewN ?_ _ | refine below_drew ?_ | refine below_gr ?_ ?_ _ | refine below_alloc ?_ ?_ _ | refine Below.setCell ?_ ?_ _ | refine below_step ?_ (by assumption) ?_ | omega | (simp only [zz] at *; omega)))))).mono ?_; rintro e w2 ⟨rfl, hb2⟩; replace hb2 := ex_below hb2; have hz2 := hb2.size; (try simp only [zz] at hz2); have hs2 : w.heap.size < w2.heap.size := (by (first | omega | (simp only [zz] at *; omega))); have ho2 := own_cell hb2 (b := w.heap.size) (by (first | omega | (simp only [zz] at *; omega))); have hq2 := own_frozen hb2 (b := w.heap.size) (by (first | omega | (simp only [zz] at *; omega))); have hlt2 : ∀ b, b < w.heap.size → b < w2.heap.size := fun b hb => (by (first | omega | (simp only [zz] at *; omega))); have hc2 : ∀ b o, b < w.heap.size → w2.cell? ⟨b, o, none⟩ = w.cell? ⟨b, o, none⟩ := old_cell (by (repeat (first | exact Below.refl _ _ | assumption | refine below_drewN ?_ _ | refine below_drew ?_ | refine below_gr ?_ ?_ _ | refine below_alloc ?_ ?_ _ | refine Below.setCell ?_ ?_ _ | refine below_step ?_ (by assumption) ?_ | omega | (simp only [zz] at *; omega))))))

  have hbw : Below w.heap.size w w2 := by (repeat (first | exact Below.refl _ _ | assumption | (refine below_gr ?_ (by (first | omega | (simp only [zz] at *; omega))) _) | (refine below_alloc ?_ (by (first | omega | (simp only [zz] at *; omega))) _) | (refine Below.setCell ?_ (by (first | omega | (simp only [zz] at *; omega))) _) | refine below_drewN ?_ _ | refine below_drew ?_ | (refine below_step ?_ (by assumption) (by (first | omega | (simp only [zz] at *; omega))))))
  replace hD := hD.ext hbw
  clear hb1 hb2 hc1 hc2 hlt1 hlt2 HAB HCT hA hB
  go_loopw [7] (fun i wr => ∃ k : Nat, k ≤ ps.length ∧ i = .int .i64 (k : Nat) ∧ (ps.take k).all (fun t => !negB t) = true ∧ wr = w2) (fun i _ => ps.length - (intOf i).toNat)
  case atStart => exact ⟨0, Nat.zero_le _, rfl, rfl, rfl⟩
  case round =>
    obtain ⟨k, hk, rfl, hall, rfl⟩ := hrel
    by_cases hlt : k < ps.length
    · obtain ⟨tb, to, rfl, htb⟩ := hD.form (by omega)
      obtain ⟨S, sc, q0, q1, q2, hSx⟩ := hD.at hlt
      have HG := hide (all_good (f := fun t => !negB t) hlt hall)
      have HN := hide (show negB ps[k] = decide (ps[k].2 < 0) from rfl)
      clear hall q0 q2 hSx
      generalize negB ps[k] = nb at *
      generalize ps[k].2 = x at *
      cases e : decide (x < 0) with
      | true =>
        go_wp2
        go_ret
        exact gives_of (rfl) (by (repeat (first | exact Below.refl _ _ | assumption | refine below_drewN ?_ _ | refine below_drew ?_ | refine below_gr ?_ ?_ _ | refine below_alloc ?_ ?_ _ | refine Below.setCell ?_ ?_ _ | refine below_step ?_ (by assumption) ?_ | omega | (simp only [zz] at *; omega))))
      | false =>
        replace HG := hide (HG.out (by rw [HN.out, e]; rfl))
        go_wp2
        exact ⟨⟨k + 1, by omega, by go_num, HG.out, by trivial⟩, by simp [intOf]; omega⟩
    · exfalso
      have hkl : k = ps.length := by omega
      rw [hkl, List.take_length, List.all_eq_true] at hall
      obtain ⟨t, ht, hn⟩ := List.any_eq_true.1 H2.out
      have := hall t ht
      rw [hn] at this
      cases this
end Go.Proofs.Ytlbkaeoagdbemaa
