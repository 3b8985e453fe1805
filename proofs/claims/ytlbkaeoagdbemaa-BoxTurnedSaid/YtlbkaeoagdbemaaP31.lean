/- Proved here: the reference: the first outcome that nobody has; the reference: the greatest units, a part of the proofs about the box laws. Conditions: those that each theorem names, no others. -/
import Derived.Test.YtlbkaeoagdbemaaP30
import Derived.WalkKit
import Derived.WalkSpells
import Derived.WalkLawsBesides
import Derived.Below
import Derived.Deep.QuietTactic
import Derived.BigQuiet
import Derived.Deep.Light
import Derived.Deep.RegionHeld3
set_option linter.unusedSimpArgs false
set_option linter.unusedVariables false
namespace Go.Proofs.Ytlbkaeoagdbemaa
open Go.RowKit Go.Maps
set_option maxRecDepth 100000 in
set_option maxHeartbeats 4000000 in
theorem rOpen_bad (A : Option Addr) (R : List Int) (c : Nat) (B : Option Addr) (ts : List Tz) (d : Nat) (w : World) (hA : I64 w A R) (hB : Tks w B ts) (hl : R.length ≤ 1000000) (hl2 : ts.length ≤ 1000000) (hts : ∀ t, t ∈ ts → t.1.length ≤ 1000000) (h0 : chkT R ts ≠ 0) :
    Calls Try.prog 35 #[.agg #[.slice A R.length c], .slice B ts.length d] w (Gives w (.tuple #[.slice none 0 0, .int .i64 (chkT R ts)])) := by
  have HCT := hide (fun w' (h1 : I64 w' A R) (h2 : Tks w' B ts) => rCheckTickets_any A R c B ts d w' h1 h2 hl hl2 hts)
  have hne : (chkT R ts != 0) = true := by simpa using h0
  generalize chkT R ts = ec at *
  clear h0
  go_enter Try.func35, Try.ntmps35
  go_wp2_with (first
    | (go_at_call 24; refine (HCT.out _ (hA.ext (by (repeat (first | exact Below.refl _ _ | assumption | refine below_drewN ?_ _ | refine below_drew ?_ | refine below_gr ?_ ?_ _ | refine below_alloc ?_ ?_ _ | refine Below.setCell ?_ ?_ _ | refine below_step ?_ (by assumption) ?_ | omega | (simp only [zz] at *; omega))))) (hB.ext (by (repeat (first | exact Below.refl _ _ | assumption | refine below_drewN ?_ _ | refine below_drew ?_ | refine below_gr ?_ ?_ _ | refine below_alloc ?_ ?_ _ | refine Below.setCell ?_ ?_ _ | refine below_step ?_ (by assumption) ?_ | omega | (simp only [zz] at *; omega)))))).mono ?_; rintro e w1 ⟨rfl, hb1⟩; replace hb1 := ex_below hb1; have hz1 := hb1.size; (try simp only [zz] at hz1); have hs1 : w.heap.size < w1.heap.size := (by (first | omega | (simp only [zz] at *; omega))); have ho1 := own_cell hb1 (b := w.heap.size) (by (first | omega | (simp only [zz] at *; omega))); have hq1 := own_frozen hb1 (b := w.heap.size) (by (first | omega | (simp only [zz] at *; omega))); have hlt1 : ∀ b, b < w.heap.size → b < w1.heap.size := fun b hb => (by (first | omega | (simp only [zz] at *; omega))); have hc1 : ∀ b o, b < w.heap.size → w1.cell? ⟨b, o, none⟩ = w.cell? ⟨b, o, none⟩ := old_cell (by (repeat (first | exact Below.refl _ _ | assumption | refine below_drewN ?_ _ | refine below_drew ?_ | refine below_gr ?_ ?_ _ | refine below_alloc ?_ ?_ _ | refine Below.setCell ?_ ?_ _ | refine below_step ?_ (by assumption) ?_ | omega | (simp only [zz] at *; omega))))))

  go_wp2_with (first
    | (go_at_call 24; refine (HCT.out _ (hA.ext (by (repeat (first | exact Below.refl _ _ | assumption | refine below_drewN ?_ _ | refine below_drew ?_ | refine below_gr ?_ ?_ _ | refine below_alloc ?_ ?_ _ | refine Below.setCell ?_ ?_ _ | refine below_step ?_ (by assumption) ?_ | omega | (simp only [zz] at *; omega))))) (hB.ext (by (repeat (first | exact Below.refl _ _ | assumption | refine below_drewN ?_ _ | refine below_drew ?_ | refine below_gr ?_ ?_ _ | refine below_alloc ?_ ?_ _ | refine Below.setCell ?_ ?_ _ | refine below_step ?_ (by assumption) ?_ | omega | (simp only [zz] at *; omega)))))).mono ?_; rintro e w2 ⟨rfl, hb2⟩; replace hb2 := ex_below hb2; have hz2 := hb2.size; (try simp only [zz] at hz2); have hs2 : w.heap.size < w2.heap.size := (by (first | omega | (simp only [zz] at *; omega))); have ho2 := own_cell hb2 (b := w.heap.size) (by (first | omega | (simp only [zz] at *; omega))); have hq2 := own_frozen hb2 (b := w.heap.size) (by (first | omega | (simp only [zz] at *; omega))); have hlt2 : ∀ b, b < w.heap.size → b < w2.heap.size := fun b hb => (by (first | omega | (simp only [zz] at *; omega))); have hc2 : ∀ b o, b < w.heap.size → w2.cell? ⟨b, o, none⟩ = w.cell? ⟨b, o, none⟩ := old_cell (by (repeat (first | exact Below.refl _ _ | assumption | refine below_drewN ?_ _ | refine below_drew ?_ | refine below_gr ?_ ?_ _ | refine below_alloc ?_ ?_ _ | refine Below.setCell ?_ ?_ _ | refine below_step ?_ (by assumption) ?_ | omega | (simp only [zz] at *; omega))))))

  go_ret2
  exact gives_of (rfl) (by (repeat (first | exact Below.refl _ _ | assumption | refine below_drewN ?_ _ | refine below_drew ?_ | refine below_gr ?_ ?_ _ | refine below_alloc ?_ ?_ _ | refine Below.setCell ?_ ?_ _ | refine below_step ?_ (by assumption) ?_ | omega | (simp only [zz] at *; omega))))
set_option maxRecDepth 100000 in
set_option maxHeartbeats 4000000 in
theorem rDeepest_bad (A : Option Addr) (R : List Int) (c : Nat) (B : Option Addr) (ts : List Tz) (d : Nat) (w : World) (hA : I64 w A R) (hB : Tks w B ts) (hl : R.length ≤ 1000000) (hl2 : ts.length ≤ 1000000) (hts : ∀ t, t ∈ ts → t.1.length ≤ 1000000) (h0 : chkT R ts ≠ 0) :
    Calls Try.prog 37 #[.agg #[.slice A R.length c], .slice B ts.length d] w (Gives w (.tuple #[.int .i64 0, .slice none 0 0, .int .i64 (chkT R ts)])) := by
  have HCT := hide (fun w' (h1 : I64 w' A R) (h2 : Tks w' B ts) => rCheckTickets_any A R c B ts d w' h1 h2 hl hl2 hts)
  have hne : (chkT R ts != 0) = true := by simpa using h0
  generalize chkT R ts = ec at *
  clear h0
  go_enter Try.func37, Try.ntmps37
  go_wp2_with (first
    | (go_at_call 24; refine (HCT.out _ (hA.ext (by (repeat (first | exact Below.refl _ _ | assumption | refine below_drewN ?_ _ | refine below_drew ?_ | refine below_gr ?_ ?_ _ | refine below_alloc ?_ ?_ _ | refine Below.setCell ?_ ?_ _ | refine below_step ?_ (by assumption) ?_ | omega | (simp only [zz] at *; omega))))) (hB.ext (by (repeat (first | exact Below.refl _ _ | assumption | refine below_drewN ?_ _ | refine below_drew ?_ | refine below_gr ?_ ?_ _ | refine below_alloc ?_ ?_ _ | refine Below.setCell ?_ ?_ _ | refine below_step ?_ (by assumption) ?_ | omega | (simp only [zz] at *; omega)))))).mono ?_; rintro e w1 ⟨rfl, hb1⟩; replace hb1 := ex_below hb1; have hz1 := hb1.size; (try simp only [zz] at hz1); have hs1 : w.heap.size < w1.heap.size := (by (first | omega | (simp only [zz] at *; omega))); have ho1 := own_cell hb1 (b := w.heap.size) (by (first | omega | (simp only [zz] at *; omega))); have hq1 := own_frozen hb1 (b := w.heap.size) (by (first | omega | (simp only [zz] at *; omega))); have hlt1 : ∀ b, b < w.heap.size → b < w1.heap.size := fun b hb => (by (first | omega | (simp only [zz] at *; omega))); have hc1 : ∀ b o, b < w.heap.size → w1.cell? ⟨b, o, none⟩ = w.cell? ⟨b, o, none⟩ := old_cell (by (repeat (first | exact Below.refl _ _ | assumption | refine below_drewN ?_ _ | refine below_drew ?_ | refine below_gr ?_ ?_ _ | refine below_alloc ?_ ?_ _ | refine Below.setCell ?_ ?_ _ | refine below_step ?_ (by assumption) ?_ | omega | (simp only [zz] at *; omega))))))

  go_wp2_with (first
    | (go_at_call 24; refine (HCT.out _ (hA.ext (by (repeat (first | exact Below.refl _ _ | assumption | refine below_drewN ?_ _ | refine below_drew ?_ | refine below_gr ?_ ?_ _ | refine below_alloc ?_ ?_ _ | refine Below.setCell ?_ ?_ _ | refine below_step ?_ (by assumption) ?_ | omega | (simp only [zz] at *; omega))))) (hB.ext (by (repeat (first | exact Below.refl _ _ | assumption | refine below_drewN ?_ _ | refine below_drew ?_ | refine below_gr ?_ ?_ _ | refine below_alloc ?_ ?_ _ | refine Below.setCell ?_ ?_ _ | refine below_step ?_ (by assumption) ?_ | omega | (simp only [zz] at *; omega)))))).mono ?_; rintro e w2 ⟨rfl, hb2⟩; replace hb2 := ex_below hb2; have hz2 := hb2.size; (try simp only [zz] at hz2); have hs2 : w.heap.size < w2.heap.size := (by (first | omega | (simp only [zz] at *; omega))); have ho2 := own_cell hb2 (b := w.heap.size) (by (first | omega | (simp only [zz] at *; omega))); have hq2 := own_frozen hb2 (b := w.heap.size) (by (first | omega | (simp only [zz] at *; omega))); have hlt2 : ∀ b, b < w.heap.size → b < w2.heap.size := fun b hb => (by (first | omega | (simp only [zz] at *; omega))); have hc2 : ∀ b o, b < w.heap.size → w2.cell? ⟨b, o, none⟩ = w.cell? ⟨b, o, none⟩ := old_cell (by (repeat (first | exact Below.refl _ _ | assumption | refine below_drewN ?_ _ | refine below_drew ?_ | refine below_gr ?_ ?_ _ | refine below_alloc ?_ ?_ _ | refine Below.setCell ?_ ?_ _ | refine below_step ?_ (by assumption) ?_ | omega | (simp only [zz] at *; omega))))))

  go_ret3
  exact gives_of (rfl) (by (repeat (first | exact Below.refl _ _ | assumption | refine below_drewN ?_ _ | refine below_drew ?_ | refine below_gr ?_ ?_ _ | refine below_alloc ?_ ?_ _ | refine Below.setCell ?_ ?_ _ | refine below_step ?_ (by assumption) ?_ | omega | (simp only [zz] at *; omega))))
set_option maxRecDepth 100000 in
set_option maxHeartbeats 4000000 in
theorem rIdle_bad (A : Option Addr) (R : List Int) (c : Nat) (B : Option Addr) (ts : List Tz) (d : Nat) (w : World) (hA : I64 w A R) (hB : Tks w B ts) (hl : R.length ≤ 1000000) (hl2 : ts.length ≤ 1000000) (hts : ∀ t, t ∈ ts → t.1.length ≤ 1000000) (h0 : chkT R ts ≠ 0) :
    Calls Try.prog 39 #[.agg #[.slice A R.length c], .slice B ts.length d] w (Gives w (.tuple #[.slice none 0 0, .int .i64 (chkT R ts)])) := by
  have HCT := hide (fun w' (h1 : I64 w' A R) (h2 : Tks w' B ts) => rCheckTickets_any A R c B ts d w' h1 h2 hl hl2 hts)
  have hne : (chkT R ts != 0) = true := by simpa using h0
  generalize chkT R ts = ec at *
  clear h0
  go_enter Try.func39, Try.ntmps39
  go_wp2_with (first
    | (go_at_call 24; refine (HCT.out _ (hA.ext (by (repeat (first | exact Below.refl _ _ | assumption | refine below_drewN ?_ _ | refine below_drew ?_ | refine below_gr ?_ ?_ _ | refine below_alloc ?_ ?_ _ | refine Below.setCell ?_ ?_ _ | refine below_step ?_ (by assumption) ?_ | omega | (simp only [zz] at *; omega))))) (hB.ext (by (repeat (first | exact Below.refl _ _ | assumption | refine below_drewN ?_ _ | refine below_drew ?_ | refine below_gr ?_ ?_ _ | refine below_alloc ?_ ?_ _ | refine Below.setCell ?_ ?_ _ | refine below_step ?_ (by assumption) ?_ | omega | (simp only [zz] at *; omega)))))).mono ?_; rintro e w1 ⟨rfl, hb1⟩; replace hb1 := ex_below hb1; have hz1 := hb1.size; (try simp only [zz] at hz1); have hs1 : w.heap.size < w1.heap.size := (by (first | omega | (simp only [zz] at *; omega))); have ho1 := own_cell hb1 (b := w.heap.size) (by (first | omega | (simp only [zz] at *; omega))); have hq1 := own_frozen hb1 (b := w.heap.size) (by (first | omega | (simp only [zz] at *; omega))); have hlt1 : ∀ b, b < w.heap.size → b < w1.heap.size := fun b hb => (by (first | omega | (simp only [zz] at *; omega))); have hc1 : ∀ b o, b < w.heap.size → w1.cell? ⟨b, o, none⟩ = w.cell? ⟨b, o, none⟩ := old_cell (by (repeat (first | exact Below.refl _ _ | assumption | refine below_drewN ?_ _ | refine below_drew ?_ | refine below_gr ?_ ?_ _ | refine below_alloc ?_ ?_ _ | refine Below.setCell ?_ ?_ _ | refine below_step ?_ (by assumption) ?_ | omega | (simp only [zz] at *; omega))))))

  go_wp2_with (first
    | (go_at_call 24; refine (HCT.out _ (hA.ext (by (repeat (first | exact Below.refl _ _ | assumption | refine below_drewN ?_ _ | refine below_drew ?_ | refine below_gr ?_ ?_ _ | refine below_alloc ?_ ?_ _ | refine Below.setCell ?_ ?_ _ | refine below_step ?_ (by assumption) ?_ | omega | (simp only [zz] at *; omega))))) (hB.ext (by (repeat (first | exact Below.refl _ _ | assumption | refine below_drewN ?_ _ | refine below_drew ?_ | refine below_gr ?_ ?_ _ | refine below_alloc ?_ ?_ _ | refine Below.setCell ?_ ?_ _ | refine below_step ?_ (by assumption) ?_ | omega | (simp only [zz] at *; omega)))))).mono ?_; rintro e w2 ⟨rfl, hb2⟩; replace hb2 := ex_below hb2; have hz2 := hb2.size; (try simp only [zz] at hz2); have hs2 : w.heap.size < w2.heap.size := (by (first | omega | (simp only [zz] at *; omega))); have ho2 := own_cell hb2 (b := w.heap.size) (by (first | omega | (simp only [zz] at *; omega))); have hq2 := own_frozen hb2 (b := w.heap.size) (by (first | omega | (simp only [zz] at *; omega))); have hlt2 : ∀ b, b < w.heap.size → b < w2.heap.size := fun b hb => (by (first | omega | (simp only [zz] at *; omega))); have hc2 : ∀ b o, b < w.heap.size → w2.cell? ⟨b, o, none⟩ = w.cell? ⟨b, o, none⟩ := old_cell (by (repeat (first | exact Below.refl _ _ | assumption | refine below_drewN ?_ _ | refine below_drew ?_ | refine below_gr ?_ ?_ _ | refine below_alloc ?_ ?_ _ | refine Below.setCell ?_ ?_ _ | refine below_step ?_ (by assumption) ?_ | omega | (simp only [zz] at *; omega))))))

  go_ret2
  exact gives_of (rfl) (by (repeat (first | exact Below.refl _ _ | assumption | refine below_drewN ?_ _ | refine below_drew ?_ | refine below_gr ?_ ?_ _ | refine below_alloc ?_ ?_ _ | refine Below.setCell ?_ ?_ _ | refine below_step ?_ (by assumption) ?_ | omega | (simp only [zz] at *; omega))))
set_option maxRecDepth 100000 in
set_option maxHeartbeats 4000000 in
theorem rCovered_bad (A : Option Addr) (R : List Int) (c : Nat) (B : Option Addr) (ts : List Tz) (d : Nat) (w : World) (hA : I64 w A R) (hB : Tks w B ts) (hl : R.length ≤ 1000000) (hl2 : ts.length ≤ 1000000) (hts : ∀ t, t ∈ ts → t.1.length ≤ 1000000) (h0 : chkT R ts ≠ 0) :
    Calls Try.prog 33 #[.agg #[.slice A R.length c], .slice B ts.length d] w (Gives w (.tuple #[.int .i64 0, .int .i64 (chkT R ts)])) := by
  have HAF := hide (fun w' (h1 : I64 w' A R) (h2 : Tks w' B ts) => rAfter_bad A R c B ts d w' h1 h2 hl hl2 hts h0 none 0 0)
  go_enter Try.func33, Try.ntmps33
  go_wp2_with (first
    | (go_at_call 44; refine (HAF.out _ (hA.ext (by (repeat (first | exact Below.refl _ _ | assumption | refine below_drewN ?_ _ | refine below_drew ?_ | refine below_gr ?_ ?_ _ | refine below_alloc ?_ ?_ _ | refine Below.setCell ?_ ?_ _ | refine below_step ?_ (by assumption) ?_ | omega | (simp only [zz] at *; omega))))) (hB.ext (by (repeat (first | exact Below.refl _ _ | assumption | refine below_drewN ?_ _ | refine below_drew ?_ | refine below_gr ?_ ?_ _ | refine below_alloc ?_ ?_ _ | refine Below.setCell ?_ ?_ _ | refine below_step ?_ (by assumption) ?_ | omega | (simp only [zz] at *; omega)))))).mono ?_; rintro e w1 ⟨rfl, hb1⟩; replace hb1 := ex_below hb1; have hz1 := hb1.size; (try simp only [zz] at hz1); have hs1 : w.heap.size < w1.heap.size := (by (first | omega | (simp only [zz] at *; omega))); have ho1 := own_cell hb1 (b := w.heap.size) (by (first | omega | (simp only [zz] at *; omega))); have hq1 := own_frozen hb1 (b := w.heap.size) (by (first | omega | (simp only [zz] at *; omega))); have hlt1 : ∀ b, b < w.heap.size → b < w1.heap.size := fun b hb => (by (first | omega | (simp only [zz] at *; omega))); have hc1 : ∀ b o, b < w.heap.size → w1.cell? ⟨b, o, none⟩ = w.cell? ⟨b, o, none⟩ := old_cell (by (repeat (first | exact Below.refl _ _ | assumption | refine below_drewN ?_ _ | refine below_drew ?_ | refine below_gr ?_ ?_ _ | refine below_alloc ?_ ?_ _ | refine Below.setCell ?_ ?_ _ | refine below_step ?_ (by assumption) ?_ | omega | (simp only [zz] at *; omega))))))

  go_ret2
  exact gives_of (rfl) (by (repeat (first | exact Below.refl _ _ | assumption | refine below_drewN ?_ _ | refine below_drew ?_ | refine below_gr ?_ ?_ _ | refine below_alloc ?_ ?_ _ | refine Below.setCell ?_ ?_ _ | refine below_step ?_ (by assumption) ?_ | omega | (simp only [zz] at *; omega))))

set_option maxRecDepth 100000 in
set_option maxHeartbeats 4000000 in
theorem rCovered_ok (A : Option Addr) (R : List Nat) (c : Nat) (B : Option Addr) (ts : List Bm.Tk) (d : Nat) (w : World) (hA : I64 w A (zs R)) (hB : Tks w B (tz ts)) (hok : Ok R ts) :
    Calls Try.prog 33 #[.agg #[.slice A R.length c], .slice B ts.length d] w (Gives w (.tuple #[.int .i64 (Bm.afterN R ts [] : Nat), .int .i64 0])) := by
  have HAF := hide (fun w' (h1 : I64 w' A (zs R)) (h2 : Tks w' B (tz ts)) => rAfter_ok A R c B ts d none [] 0 w' h1 h2 (I64.nil _ _) (by simp) hok (by simp) rfl)
  go_enter Try.func33, Try.ntmps33
  go_wp2_with (first
    | (go_at_call 44; refine (HAF.out _ (hA.ext (by (repeat (first | exact Below.refl _ _ | assumption | refine below_drewN ?_ _ | refine below_drew ?_ | refine below_gr ?_ ?_ _ | refine below_alloc ?_ ?_ _ | refine Below.setCell ?_ ?_ _ | refine below_step ?_ (by assumption) ?_ | omega | (simp only [zz] at *; omega))))) (hB.ext (by (repeat (first | exact Below.refl _ _ | assumption | refine below_drewN ?_ _ | refine below_drew ?_ | refine below_gr ?_ ?_ _ | refine below_alloc ?_ ?_ _ | refine Below.setCell ?_ ?_ _ | refine below_step ?_ (by assumption) ?_ | omega | (simp only [zz] at *; omega)))))).mono ?_; rintro e w1 ⟨O, oc, rfl, hb1, -, -⟩; replace hb1 := ex_below hb1))

  go_ret2
  exact gives_of (rfl) (by (repeat (first | exact Below.refl _ _ | assumption | refine below_drewN ?_ _ | refine below_drew ?_ | refine below_gr ?_ ?_ _ | refine below_alloc ?_ ?_ _ | refine Below.setCell ?_ ?_ _ | refine below_step ?_ (by assumption) ?_ | omega | (simp only [zz] at *; omega))))
/-- the first outcome that nobody has -/
def GivesO (R : List Nat) (ts : List Bm.Tk) (w : World) (e : Ending) (w' : World) : Prop :=
  match (Bm.outs R).find? (fun o => decide (Bm.uni ts o = 0)) with
  | some o => ∃ A c, e = .returned (.tuple #[.slice A o.length c, .int .i64 0]) ∧ (∃ g, w' = w.grow g) ∧ I64 w' A (zs o)
  | none => Gives w (.tuple #[.slice none 0 0, .int .i64 5]) e w'
set_option maxRecDepth 100000 in
set_option maxHeartbeats 4000000 in
theorem rOpen_ok (A : Option Addr) (R : List Nat) (c : Nat) (B : Option Addr) (ts : List Bm.Tk) (d : Nat) (w : World) (hA : I64 w A (zs R)) (hB : Tks w B (tz ts)) (hok : Ok R ts) :
    Calls Try.prog 35 #[.agg #[.slice A R.length c], .slice B ts.length d] w (GivesO R ts w) := by
  have HCT := hide (fun w' (h1 : I64 w' A (zs R)) (h2 : Tks w' B (tz ts)) => by
    have := rCheckTickets_any A (zs R) c B (tz ts) d w' h1 h2 hok.len.1 hok.len.2.1 hok.len.2.2
    rw [ok_chk hok, zs_len, tz_len] at this
    exact this)
  have hR5 := hok.h5
  have ht10 := hok.t10
  have ht10' : (ts.length : Int) ≤ 10 := by omega
  have HO := hide (fun w' (h : I64 w' A (zs R)) => Outcomes_any A R c w' h hok.h5 hok.r6)
  have HLE := hide (show (Bm.outs R).length ≤ 7776 by
    have h1 := Bm.outs_len_le hok.r6
    have h2 : 6 ^ R.length ≤ 6 ^ 5 := Nat.pow_le_pow_right (by omega) hR5
    omega)
  have HRL := hide (fun o' (ho : o' ∈ Bm.outs R) => (show o'.length = R.length ∧ ∀ i, i ∈ o' → i < 6 from ⟨Bm.outs_len ho, outs_lt hok.r6 ho⟩))
  have HUN := hide (fun Z zc o' w' (ho : o' ∈ Bm.outs R) (h1 : Tks w' B (tz ts)) (h2 : I64 w' Z (zs o')) => rUnits_any B ts d Z o' zc w' h1 h2 (fun t ht => ⟨by rw [(HRL.out o' ho).1, hok.htl t ht]; exact Nat.le_refl _, by rw [hok.htl t ht]; omega⟩) hok.ht6 (HRL.out o' ho).2 hok.t10 hok.hu)
  have HRW := hide (fun k (hk : k < ts.length) o (ho : o ∈ Bm.outs R) Z zc X xc w' (h1 : I64 w' Z (zs (ts[k].1))) (h2 : I64 w' X (zs o)) => rWrong_any Z ts[k].1 zc X o xc w' h1 h2 (by rw [hok.htl _ (List.getElem_mem hk), (HRL.out o ho).1]; exact Nat.le_refl _) (by rw [hok.htl _ (List.getElem_mem hk)]; omega) (hok.ht6 _ (List.getElem_mem hk)) (HRL.out o ho).2)
  have HUL := hide (fun o' => (show Bm.uni ts o' ≤ 10000 by have := Bm.uni_le hok.hu o'; omega))
  have HGO := hide (show GivesO R ts w = fun e w' => match (Bm.outs R).find? (fun o => decide (Bm.uni ts o = 0)) with
    | some o => ∃ A c, e = .returned (.tuple #[.slice A o.length c, .int .i64 0]) ∧ (∃ g, w' = w.grow g) ∧ I64 w' A (zs o)
    | none => Gives w (.tuple #[.slice none 0 0, .int .i64 5]) e w' from rfl)
  clear hok
  generalize GivesO R ts w = Q at *
  generalize Bm.outs R = L at *
  go_enter Try.func35, Try.ntmps35
  go_wp2_with (first
    | (go_at_call 24; refine (HCT.out _ (hA.ext (by (repeat (first | exact Below.refl _ _ | assumption | refine below_drewN ?_ _ | refine below_drew ?_ | refine below_gr ?_ ?_ _ | refine below_alloc ?_ ?_ _ | refine Below.setCell ?_ ?_ _ | refine below_step ?_ (by assumption) ?_ | omega | (simp only [zz] at *; omega))))) (hB.ext (by (repeat (first | exact Below.refl _ _ | assumption | refine below_drewN ?_ _ | refine below_drew ?_ | refine below_gr ?_ ?_ _ | refine below_alloc ?_ ?_ _ | refine Below.setCell ?_ ?_ _ | refine below_step ?_ (by assumption) ?_ | omega | (simp only [zz] at *; omega)))))).mono ?_; rintro e w1 ⟨rfl, hb1⟩; replace hb1 := ex_below hb1; have hz1 := hb1.size; (try simp only [zz] at hz1); have hs1 : w.heap.size < w1.heap.size := (by (first | omega | (simp only [zz] at *; omega))); have ho1 := own_cell hb1 (b := w.heap.size) (by (first | omega | (simp only [zz] at *; omega))); have hq1 := own_frozen hb1 (b := w.heap.size) (by (first | omega | (simp only [zz] at *; omega))); have hlt1 : ∀ b, b < w.heap.size → b < w1.heap.size := fun b hb => (by (first | omega | (simp only [zz] at *; omega))); have hc1 : ∀ b o, b < w.heap.size → w1.cell? ⟨b, o, none⟩ = w.cell? ⟨b, o, none⟩ := old_cell (by (repeat (first | exact Below.refl _ _ | assumption | refine below_drewN ?_ _ | refine below_drew ?_ | refine below_gr ?_ ?_ _ | refine below_alloc ?_ ?_ _ | refine Below.setCell ?_ ?_ _ | refine below_step ?_ (by assumption) ?_ | omega | (simp only [zz] at *; omega)))))
    | (go_at_call 64; refine (HO.out _ (hA.ext (by (repeat (first | exact Below.refl _ _ | assumption | refine below_drewN ?_ _ | refine below_drew ?_ | refine below_gr ?_ ?_ _ | refine below_alloc ?_ ?_ _ | refine Below.setCell ?_ ?_ _ | refine below_step ?_ (by assumption) ?_ | omega | (simp only [zz] at *; omega)))))).mono ?_; rintro e w2 ⟨AO, cO, rfl, hb2, hRA⟩; replace hb2 := ex_below hb2; have hz2 := hb2.size; (try simp only [zz] at hz2); have hs2 : w.heap.size < w2.heap.size := (by (first | omega | (simp only [zz] at *; omega))); have ho2 := own_cell hb2 (b := w.heap.size) (by (first | omega | (simp only [zz] at *; omega))); have hq2 := own_frozen hb2 (b := w.heap.size) (by (first | omega | (simp only [zz] at *; omega))); have hlt2 : ∀ b, b < w.heap.size → b < w2.heap.size := fun b hb => (by (first | omega | (simp only [zz] at *; omega))); have hc2 : ∀ b o, b < w.heap.size → w2.cell? ⟨b, o, none⟩ = w.cell? ⟨b, o, none⟩ := old_cell (by (repeat (first | exact Below.refl _ _ | assumption | refine below_drewN ?_ _ | refine below_drew ?_ | refine below_gr ?_ ?_ _ | refine below_alloc ?_ ?_ _ | refine Below.setCell ?_ ?_ _ | refine below_step ?_ (by assumption) ?_ | omega | (simp only [zz] at *; omega))))))

  have hbw2 : Below w.heap.size w w2 := by (repeat (first | exact Below.refl _ _ | assumption | (refine below_gr ?_ (by (first | omega | (simp only [zz] at *; omega))) _) | (refine below_alloc ?_ (by (first | omega | (simp only [zz] at *; omega))) _) | (refine Below.setCell ?_ (by (first | omega | (simp only [zz] at *; omega))) _) | refine below_drewN ?_ _ | refine below_drew ?_ | (refine below_step ?_ (by assumption) (by (first | omega | (simp only [zz] at *; omega))))))
  have hlen := HLE.out
  have hlen' : (L.length : Int) ≤ 7776 := by omega
  replace hB := hB.ext hbw2
  rw [natR_len]
  clear hb1 hb2 hc1 hc2 hlt1 hlt2 hA HO HLE HCT
  go_loopw [7] (fun i wr => ∃ k : Nat, k ≤ L.length ∧ i = .int .i64 (k : Nat) ∧ (L.take k).all (fun o => !decide (Bm.uni ts o = 0)) = true ∧ Below w2.heap.size w2 wr) (fun i _ => L.length - (intOf i).toNat)
  case atStart => exact ⟨0, Nat.zero_le _, rfl, rfl, Below.refl _ _⟩
  case round =>
    obtain ⟨k, hk, rfl, hall, hb⟩ := hrel
    have hbz := hb.size
    by_cases hlt : k < L.length
    · have HGx := hide (all_good (f := fun o => !decide (Bm.uni ts o = 0)) hlt hall)
      have HFX := hide (fun (h : Bm.uni ts L[k] = 0) => (show L.find? (fun o => decide (Bm.uni ts o = 0)) = some L[k] by
        rw [List.find?_eq_some_iff_getElem]
        refine ⟨by simpa using h, k, hlt, rfl, fun j hj => ?_⟩
        rw [List.all_eq_true] at hall
        exact hall _ (List.mem_take_iff_getElem.2 ⟨j, by omega, rfl⟩)))
      clear hall
      obtain ⟨ob, oo, rfl, hol2, P, dP, hcP, hIP⟩ := rowsA_at (hRA.ext hb) k hlt
      have hmem := List.getElem_mem hlt
      have hBo := hB.ext hb
      have HUO := hide (fun Z zc w' (h1 : Tks w' B (tz ts)) (h2 : I64 w' Z (zs L[k])) => HUN.out Z zc L[k] w' hmem h1 h2)
      have hul := HUL.out L[k]
      have hki : (k : Int) < (L.length : Int) := by omega
      clear hmem
      generalize L[k] = p at *
      generalize Bm.uni ts p = m at *
      by_cases hm0 : m = 0
      · subst hm0
        have HF := hide (HFX.out rfl)
        clear HGx HFX
        go_wp2_with (first
    | (go_at_call 52; refine (HUO.out _ _ _ (hBo.ext (by (repeat (first | exact Below.refl _ _ | assumption | refine below_drewN ?_ _ | refine below_drew ?_ | refine below_gr ?_ ?_ _ | refine below_alloc ?_ ?_ _ | refine Below.setCell ?_ ?_ _ | refine below_step ?_ (by assumption) ?_ | omega | (simp only [zz] at *; omega))))) (hIP.ext (by (repeat (first | exact Below.refl _ _ | assumption | refine below_drewN ?_ _ | refine below_drew ?_ | refine below_gr ?_ ?_ _ | refine below_alloc ?_ ?_ _ | refine Below.setCell ?_ ?_ _ | refine below_step ?_ (by assumption) ?_ | omega | (simp only [zz] at *; omega)))))).mono ?_; rintro e w3 ⟨rfl, hb3⟩; replace hb3 := ex_below hb3; have hz3 := hb3.size; (try simp only [zz] at hz3); have hlt3 : ∀ b, b < wr.heap.size → b < w3.heap.size := fun b hb => (by (first | omega | (simp only [zz] at *; omega))); have hc3 : ∀ b o, b < wr.heap.size → w3.cell? ⟨b, o, none⟩ = wr.cell? ⟨b, o, none⟩ := old_cell (by (repeat (first | exact Below.refl _ _ | assumption | refine below_drewN ?_ _ | refine below_drew ?_ | refine below_gr ?_ ?_ _ | refine below_alloc ?_ ?_ _ | refine Below.setCell ?_ ?_ _ | refine below_step ?_ (by assumption) ?_ | omega | (simp only [zz] at *; omega)))); have hcP3 := (hb3.cell (p := ⟨ob, oo + k, none⟩) hol2).trans hcP))

        rw [HGO.out, HF.out]
        exact ⟨P, dP, rfl, below_grow (hbw2.trans ((hb.trans (hb3.mono hbz)).mono hbw2.size)), hIP.ext hb3⟩
      · have hmb : (((m : Nat) : Int) == 0) = false := by simp; omega
        replace HGx := hide (HGx.out (by simpa using hm0))
        clear hm0 HFX
        go_wp2_with (first
    | (go_at_call 52; refine (HUO.out _ _ _ (hBo.ext (by (repeat (first | exact Below.refl _ _ | assumption | refine below_drewN ?_ _ | refine below_drew ?_ | refine below_gr ?_ ?_ _ | refine below_alloc ?_ ?_ _ | refine Below.setCell ?_ ?_ _ | refine below_step ?_ (by assumption) ?_ | omega | (simp only [zz] at *; omega))))) (hIP.ext (by (repeat (first | exact Below.refl _ _ | assumption | refine below_drewN ?_ _ | refine below_drew ?_ | refine below_gr ?_ ?_ _ | refine below_alloc ?_ ?_ _ | refine Below.setCell ?_ ?_ _ | refine below_step ?_ (by assumption) ?_ | omega | (simp only [zz] at *; omega)))))).mono ?_; rintro e w3 ⟨rfl, hb3⟩; replace hb3 := ex_below hb3; have hz3 := hb3.size; (try simp only [zz] at hz3); have hlt3 : ∀ b, b < wr.heap.size → b < w3.heap.size := fun b hb => (by (first | omega | (simp only [zz] at *; omega))); have hc3 : ∀ b o, b < wr.heap.size → w3.cell? ⟨b, o, none⟩ = wr.cell? ⟨b, o, none⟩ := old_cell (by (repeat (first | exact Below.refl _ _ | assumption | refine below_drewN ?_ _ | refine below_drew ?_ | refine below_gr ?_ ?_ _ | refine below_alloc ?_ ?_ _ | refine Below.setCell ?_ ?_ _ | refine below_step ?_ (by assumption) ?_ | omega | (simp only [zz] at *; omega))))))

        exact ⟨⟨k + 1, by omega, by go_num, HGx.out, hb.trans (hb3.mono hbz)⟩, by simp [intOf]; omega⟩
    · have hkl : k = L.length := by omega
      have HF := hide (show L.find? (fun o => decide (Bm.uni ts o = 0)) = none by
        rw [List.find?_eq_none]
        rw [hkl, List.take_length, List.all_eq_true] at hall
        intro o ho
        have := hall o ho
        simpa using this)
      clear hkl hall
      go_wp2
      rw [HGO.out, HF.out]
      exact gives_of rfl (hbw2.trans (hb.mono hbw2.size))
end Go.Proofs.Ytlbkaeoagdbemaa
namespace Go.Proofs.Ytlbkaeoagdbemaa
open Go.RowKit Go.Maps
theorem rowsA_in {w : World} {b o : Nat} {l : List (List Nat)} (h : RowsA w (some ⟨b, o, none⟩) (natR l)) (k : Nat) (hk : k < l.length) : ∃ P d, w.cell? ⟨b, o + k, none⟩ = some (.slice P l[k].length d) ∧ I64 w P (natI l[k]) := by
  obtain ⟨b', o', e, _, P, d, h1, h2⟩ := rowsA_at h k hk
  injection e with e
  injection e with e1 e2 _
  subst e1 e2
  exact ⟨P, d, h1, h2⟩
theorem rowsA_form {w : World} {A : Option Addr} {l : List (List Nat)} (h : RowsA w A (natR l)) (hk : 0 < l.length) : ∃ b o, A = some ⟨b, o, none⟩ ∧ b < w.heap.size := by
  obtain ⟨b', o', e, h0, _⟩ := rowsA_at h 0 hk
  exact ⟨b', o', e, h0⟩
def GivesDJ (w : World) (n : Int) (xs : List Nat) (e : Ending) (w' : World) : Prop := ∃ A c, e = .returned (.tuple #[.int .i64 n, .slice A xs.length c, .int .i64 0]) ∧ (∃ g, w' = w.grow g) ∧ I64 w' A (zs xs)
/-- the index of the first outcome with the greatest units -/
def deepI (R : List Nat) (ts : List Bm.Tk) : Nat → Nat := Bm.bestP ((Bm.outs R).map fun o => -(Bm.uni ts o : Int))
theorem deepI_lt (R : List Nat) (ts : List Bm.Tk) (k : Nat) (h : 1 ≤ k) : deepI R ts k < k := (Bm.best_spec _ k h).1
theorem deepI_step (R : List Nat) (ts : List Bm.Tk) (k : Nat) (h1 : k < (Bm.outs R).length) (h2 : deepI R ts k < (Bm.outs R).length) : deepI R ts (k + 1) = if (Bm.uni ts (Bm.outs R)[deepI R ts k] : Int) < (Bm.uni ts (Bm.outs R)[k] : Int) then k else deepI R ts k := by
  unfold deepI at *
  rw [Bm.bestP]
  have e1 : ((Bm.outs R).map fun o => -(Bm.uni ts o : Int)).getD k 0 = -(Bm.uni ts (Bm.outs R)[k] : Int) := by simp [h1]
  generalize hb : Bm.bestP ((Bm.outs R).map fun o => -(Bm.uni ts o : Int)) k = b at *
  have e2 : ((Bm.outs R).map fun o => -(Bm.uni ts o : Int)).getD b 0 = -(Bm.uni ts (Bm.outs R)[b] : Int) := by simp [h2]
  rw [e1, e2]
  by_cases h : (Bm.uni ts (Bm.outs R)[b] : Int) < (Bm.uni ts (Bm.outs R)[k] : Int)
  · rw [if_pos h, if_pos (by omega)]
  · rw [if_neg h, if_neg (by omega)]
set_option maxRecDepth 100000 in
set_option maxHeartbeats 8000000 in
theorem rDeepest_ok (A : Option Addr) (R : List Nat) (c : Nat) (B : Option Addr) (ts : List Bm.Tk) (d : Nat) (w : World) (hA : I64 w A (zs R)) (hB : Tks w B (tz ts)) (hok : Ok R ts) (hne : 1 ≤ (Bm.outs R).length) :
    Calls Try.prog 37 #[.agg #[.slice A R.length c], .slice B ts.length d] w (GivesDJ w (Bm.uni ts ((Bm.outs R).getD (deepI R ts (Bm.outs R).length) []) : Nat) ((Bm.outs R).getD (deepI R ts (Bm.outs R).length) [])) := by
  have HCT := hide (fun w' (h1 : I64 w' A (zs R)) (h2 : Tks w' B (tz ts)) => by
    have := rCheckTickets_any A (zs R) c B (tz ts) d w' h1 h2 hok.len.1 hok.len.2.1 hok.len.2.2
    rw [ok_chk hok, zs_len, tz_len] at this
    exact this)
  have hR5 := hok.h5
  have ht10 := hok.t10
  have ht10' : (ts.length : Int) ≤ 10 := by omega
  have HO := hide (fun w' (h : I64 w' A (zs R)) => Outcomes_any A R c w' h hok.h5 hok.r6)
  have HLE := hide (show (Bm.outs R).length ≤ 7776 by
    have h1 := Bm.outs_len_le hok.r6
    have h2 : 6 ^ R.length ≤ 6 ^ 5 := Nat.pow_le_pow_right (by omega) hR5
    omega)
  have HRL := hide (fun o' (ho : o' ∈ Bm.outs R) => (show o'.length = R.length ∧ ∀ i, i ∈ o' → i < 6 from ⟨Bm.outs_len ho, outs_lt hok.r6 ho⟩))
  have HUN := hide (fun Z zc o' w' (ho : o' ∈ Bm.outs R) (h1 : Tks w' B (tz ts)) (h2 : I64 w' Z (zs o')) => rUnits_any B ts d Z o' zc w' h1 h2 (fun t ht => ⟨by rw [(HRL.out o' ho).1, hok.htl t ht]; exact Nat.le_refl _, by rw [hok.htl t ht]; omega⟩) hok.ht6 (HRL.out o' ho).2 hok.t10 hok.hu)
  have HRW := hide (fun k (hk : k < ts.length) o (ho : o ∈ Bm.outs R) Z zc X xc w' (h1 : I64 w' Z (zs (ts[k].1))) (h2 : I64 w' X (zs o)) => rWrong_any Z ts[k].1 zc X o xc w' h1 h2 (by rw [hok.htl _ (List.getElem_mem hk), (HRL.out o ho).1]; exact Nat.le_refl _) (by rw [hok.htl _ (List.getElem_mem hk)]; omega) (hok.ht6 _ (List.getElem_mem hk)) (HRL.out o ho).2)
  have HUL := hide (fun o' => (show Bm.uni ts o' ≤ 10000 by have := Bm.uni_le hok.hu o'; omega))
  have HDL := hide (deepI_lt R ts)
  have HDS := hide (deepI_step R ts)
  have HD1 := hide (show deepI R ts 1 = 0 by have := deepI_lt R ts 1 (Nat.le_refl _); omega)
  have HGO := hide (fun n l => (show GivesDJ w n l = fun e w' => ∃ A c, e = .returned (.tuple #[.int .i64 n, .slice A l.length c, .int .i64 0]) ∧ (∃ g, w' = w.grow g) ∧ I64 w' A (zs l) from rfl))
  generalize GivesDJ w = Q at *
  clear hok
  generalize deepI R ts = dp at *
  generalize Bm.outs R = L at *
  go_enter Try.func37, Try.ntmps37
  go_wp2_with (first
    | (go_at_call 24; refine (HCT.out _ (hA.ext (by (repeat (first | exact Below.refl _ _ | assumption | refine below_drewN ?_ _ | refine below_drew ?_ | refine below_gr ?_ ?_ _ | refine below_alloc ?_ ?_ _ | refine Below.setCell ?_ ?_ _ | refine below_step ?_ (by assumption) ?_ | omega | (simp only [zz] at *; omega))))) (hB.ext (by (repeat (first | exact Below.refl _ _ | assumption | refine below_drewN ?_ _ | refine below_drew ?_ | refine below_gr ?_ ?_ _ | refine below_alloc ?_ ?_ _ | refine Below.setCell ?_ ?_ _ | refine below_step ?_ (by assumption) ?_ | omega | (simp only [zz] at *; omega)))))).mono ?_; rintro e w1 ⟨rfl, hb1⟩; replace hb1 := ex_below hb1; have hz1 := hb1.size; (try simp only [zz] at hz1); have hs1 : w.heap.size < w1.heap.size := (by (first | omega | (simp only [zz] at *; omega))); have ho1 := own_cell hb1 (b := w.heap.size) (by (first | omega | (simp only [zz] at *; omega))); have hq1 := own_frozen hb1 (b := w.heap.size) (by (first | omega | (simp only [zz] at *; omega))); have hlt1 : ∀ b, b < w.heap.size → b < w1.heap.size := fun b hb => (by (first | omega | (simp only [zz] at *; omega))); have hc1 : ∀ b o, b < w.heap.size → w1.cell? ⟨b, o, none⟩ = w.cell? ⟨b, o, none⟩ := old_cell (by (repeat (first | exact Below.refl _ _ | assumption | refine below_drewN ?_ _ | refine below_drew ?_ | refine below_gr ?_ ?_ _ | refine below_alloc ?_ ?_ _ | refine Below.setCell ?_ ?_ _ | refine below_step ?_ (by assumption) ?_ | omega | (simp only [zz] at *; omega)))))
    | (go_at_call 64; refine (HO.out _ (hA.ext (by (repeat (first | exact Below.refl _ _ | assumption | refine below_drewN ?_ _ | refine below_drew ?_ | refine below_gr ?_ ?_ _ | refine below_alloc ?_ ?_ _ | refine Below.setCell ?_ ?_ _ | refine below_step ?_ (by assumption) ?_ | omega | (simp only [zz] at *; omega)))))).mono ?_; rintro e w2 ⟨AO, cO, rfl, hb2, hRA⟩; replace hb2 := ex_below hb2; have hz2 := hb2.size; (try simp only [zz] at hz2); have hs2 : w.heap.size < w2.heap.size := (by (first | omega | (simp only [zz] at *; omega))); have ho2 := own_cell hb2 (b := w.heap.size) (by (first | omega | (simp only [zz] at *; omega))); have hq2 := own_frozen hb2 (b := w.heap.size) (by (first | omega | (simp only [zz] at *; omega))); have hlt2 : ∀ b, b < w.heap.size → b < w2.heap.size := fun b hb => (by (first | omega | (simp only [zz] at *; omega))); have hc2 : ∀ b o, b < w.heap.size → w2.cell? ⟨b, o, none⟩ = w.cell? ⟨b, o, none⟩ := old_cell (by (repeat (first | exact Below.refl _ _ | assumption | refine below_drewN ?_ _ | refine below_drew ?_ | refine below_gr ?_ ?_ _ | refine below_alloc ?_ ?_ _ | refine Below.setCell ?_ ?_ _ | refine below_step ?_ (by assumption) ?_ | omega | (simp only [zz] at *; omega))))))

  have hbw2 : Below w.heap.size w w2 := by (repeat (first | exact Below.refl _ _ | assumption | (refine below_gr ?_ (by (first | omega | (simp only [zz] at *; omega))) _) | (refine below_alloc ?_ (by (first | omega | (simp only [zz] at *; omega))) _) | (refine Below.setCell ?_ (by (first | omega | (simp only [zz] at *; omega))) _) | refine below_drewN ?_ _ | refine below_drew ?_ | (refine below_step ?_ (by assumption) (by (first | omega | (simp only [zz] at *; omega))))))
  have hlen := HLE.out
  have hlen' : (L.length : Int) ≤ 7776 := by omega
  replace hB := hB.ext hbw2
  rw [natR_len]
  clear hb1 hb2 hc1 hc2 hlt1 hlt2 hA HO HLE HCT
  obtain ⟨ob, oo, rfl, hol⟩ := rowsA_form hRA (by omega)
  go_loopw [8, 9] (fun b i wr => ∃ k : Nat, 1 ≤ k ∧ k ≤ L.length ∧ i = .int .i64 (k : Nat) ∧ b = .int .i64 (dp k : Nat) ∧ Below w2.heap.size w2 wr) (fun _ i _ => L.length - (intOf i).toNat)
  case atStart => exact ⟨1, Nat.le_refl _, hne, rfl, by rw [HD1.out]; rfl, Below.refl _ _⟩
  case round =>
    obtain ⟨k, hk1, hk, rfl, rfl, hb⟩ := hrel
    have hbz := hb.size
    have hbk := HDL.out k hk1
    have hRB := hRA.ext hb
    have hbl : dp k < L.length := by omega
    obtain ⟨P2, d2, hc2, hI2⟩ := rowsA_in hRB (dp k) hbl
    have HU2 := hide (fun Z zc w' (h1 : Tks w' B (tz ts)) (h2 : I64 w' Z (zs L[dp k])) => HUN.out Z zc L[dp k] w' (List.getElem_mem hbl) h1 h2)
    have hul2 := HUL.out L[dp k]
    have hBo := hB.ext hb
    have holr : ob < wr.heap.size := by omega
    by_cases hlt : k < L.length
    · obtain ⟨P1, d1, hc1, hI1⟩ := rowsA_in hRB k hlt
      have HU1 := hide (fun Z zc w' (h1 : Tks w' B (tz ts)) (h2 : I64 w' Z (zs L[k])) => HUN.out Z zc L[k] w' (List.getElem_mem hlt) h1 h2)
      have hul1 := HUL.out L[k]
      have HST := hide (HDS.out k hlt hbl)
      clear hRB
      generalize L[dp k] = q at *
      generalize L[k] = p at *
      generalize hdk : dp k = b at *
      clear hdk
      generalize Bm.uni ts p = m at *
      generalize Bm.uni ts q = n at *
      by_cases hmn : (n : Int) < (m : Int)
      · replace HST := hide (HST.out.trans (by rw [if_pos hmn]))
        go_wp2
        refine wp_region_grow (by kernel_rfl) (by kernel_rfl) ?_
        repeat (go_big_quiet_step ((go_at_call 52; first | (with_reducible exact Gives.quiet (HU1.out _ _ _ (hBo.ext (by (repeat (first | exact Below.refl _ _ | assumption | refine below_drewN ?_ _ | refine below_drew ?_ | refine below_gr ?_ ?_ _ | refine below_alloc ?_ ?_ _ | refine Below.setCell ?_ ?_ _ | refine below_step ?_ (by assumption) ?_ | omega | (simp only [zz] at *; omega))))) (hI1.ext (by (repeat (first | exact Below.refl _ _ | assumption | refine below_drewN ?_ _ | refine below_drew ?_ | refine below_gr ?_ ?_ _ | refine below_alloc ?_ ?_ _ | refine Below.setCell ?_ ?_ _ | refine below_step ?_ (by assumption) ?_ | omega | (simp only [zz] at *; omega))))))) | exact Gives.quiet (HU2.out _ _ _ (hBo.ext (by (repeat (first | exact Below.refl _ _ | assumption | refine below_drewN ?_ _ | refine below_drew ?_ | refine below_gr ?_ ?_ _ | refine below_alloc ?_ ?_ _ | refine Below.setCell ?_ ?_ _ | refine below_step ?_ (by assumption) ?_ | omega | (simp only [zz] at *; omega))))) (hI2.ext (by (repeat (first | exact Below.refl _ _ | assumption | refine below_drewN ?_ _ | refine below_drew ?_ | refine below_gr ?_ ?_ _ | refine below_alloc ?_ ?_ _ | refine Below.setCell ?_ ?_ _ | refine below_step ?_ (by assumption) ?_ | omega | (simp only [zz] at *; omega)))))))))
        refine wpQuiet_nil ?_
        intro w5 hb5
        replace hb5 := ex_below hb5
        have hz5 := hb5.size
        (try simp only [zz] at hz5)
        have hlt5 : ∀ b, b < wr.heap.size → b < w5.heap.size := fun b hb => (by (first | omega | (simp only [zz] at *; omega)))
        have hc5 : ∀ b o, b < wr.heap.size → w5.cell? ⟨b, o, none⟩ = wr.cell? ⟨b, o, none⟩ := old_cell (by (repeat (first | exact Below.refl _ _ | assumption | refine below_drewN ?_ _ | refine below_drew ?_ | refine below_gr ?_ ?_ _ | refine below_alloc ?_ ?_ _ | refine Below.setCell ?_ ?_ _ | refine below_step ?_ (by assumption) ?_ | omega | (simp only [zz] at *; omega))))
        go_wp2
        exact ⟨⟨k + 1, by omega, by omega, by go_num, by rw [HST.out], hb.trans (hb5.mono hbz)⟩, by simp [intOf]; omega⟩
      · replace HST := hide (HST.out.trans (by rw [if_neg hmn]))
        go_wp2
        refine wp_region_grow (by kernel_rfl) (by kernel_rfl) ?_
        repeat (go_big_quiet_step ((go_at_call 52; first | (with_reducible exact Gives.quiet (HU1.out _ _ _ (hBo.ext (by (repeat (first | exact Below.refl _ _ | assumption | refine below_drewN ?_ _ | refine below_drew ?_ | refine below_gr ?_ ?_ _ | refine below_alloc ?_ ?_ _ | refine Below.setCell ?_ ?_ _ | refine below_step ?_ (by assumption) ?_ | omega | (simp only [zz] at *; omega))))) (hI1.ext (by (repeat (first | exact Below.refl _ _ | assumption | refine below_drewN ?_ _ | refine below_drew ?_ | refine below_gr ?_ ?_ _ | refine below_alloc ?_ ?_ _ | refine Below.setCell ?_ ?_ _ | refine below_step ?_ (by assumption) ?_ | omega | (simp only [zz] at *; omega))))))) | exact Gives.quiet (HU2.out _ _ _ (hBo.ext (by (repeat (first | exact Below.refl _ _ | assumption | refine below_drewN ?_ _ | refine below_drew ?_ | refine below_gr ?_ ?_ _ | refine below_alloc ?_ ?_ _ | refine Below.setCell ?_ ?_ _ | refine below_step ?_ (by assumption) ?_ | omega | (simp only [zz] at *; omega))))) (hI2.ext (by (repeat (first | exact Below.refl _ _ | assumption | refine below_drewN ?_ _ | refine below_drew ?_ | refine below_gr ?_ ?_ _ | refine below_alloc ?_ ?_ _ | refine Below.setCell ?_ ?_ _ | refine below_step ?_ (by assumption) ?_ | omega | (simp only [zz] at *; omega)))))))))
        refine wpQuiet_nil ?_
        intro w5 hb5
        replace hb5 := ex_below hb5
        have hz5 := hb5.size
        (try simp only [zz] at hz5)
        have hlt5 : ∀ b, b < wr.heap.size → b < w5.heap.size := fun b hb => (by (first | omega | (simp only [zz] at *; omega)))
        have hc5 : ∀ b o, b < wr.heap.size → w5.cell? ⟨b, o, none⟩ = wr.cell? ⟨b, o, none⟩ := old_cell (by (repeat (first | exact Below.refl _ _ | assumption | refine below_drewN ?_ _ | refine below_drew ?_ | refine below_gr ?_ ?_ _ | refine below_alloc ?_ ?_ _ | refine Below.setCell ?_ ?_ _ | refine below_step ?_ (by assumption) ?_ | omega | (simp only [zz] at *; omega))))
        go_wp2
        exact ⟨⟨k + 1, by omega, by omega, by go_num, by rw [HST.out], hb.trans (hb5.mono hbz)⟩, by simp [intOf]; omega⟩
    · have hkl : k = L.length := by omega
      have hgd := hide (show L.getD (dp L.length) [] = L[dp k] by rw [← hkl]; exact getD_at _ _ hbl [])
      clear hkl
      have HGQ := hide (HGO.out (Bm.uni ts (L.getD (dp L.length) []) : Nat) (L.getD (dp L.length) []))
      generalize Q (Bm.uni ts (L.getD (dp L.length) []) : Nat) (L.getD (dp L.length) []) = Q2 at *
      rw [hgd.out] at HGQ
      clear hRB hgd
      generalize L[dp k] = q at *
      generalize dp k = b at *
      generalize hun : Bm.uni ts q = n at *
      clear hun
      go_wp2
      refine wp_region_grow (by kernel_rfl) (by kernel_rfl) ?_
      repeat (go_big_quiet_step ((go_at_call 52; exact Gives.quiet (HU2.out _ _ _ (hBo.ext (by (repeat (first | exact Below.refl _ _ | assumption | refine below_drewN ?_ _ | refine below_drew ?_ | refine below_gr ?_ ?_ _ | refine below_alloc ?_ ?_ _ | refine Below.setCell ?_ ?_ _ | refine below_step ?_ (by assumption) ?_ | omega | (simp only [zz] at *; omega))))) (hI2.ext (by (repeat (first | exact Below.refl _ _ | assumption | refine below_drewN ?_ _ | refine below_drew ?_ | refine below_gr ?_ ?_ _ | refine below_alloc ?_ ?_ _ | refine Below.setCell ?_ ?_ _ | refine below_step ?_ (by assumption) ?_ | omega | (simp only [zz] at *; omega)))))))))
      refine wpQuiet_nil ?_
      intro w5 hb5
      replace hb5 := ex_below hb5
      have hz5 := hb5.size
      (try simp only [zz] at hz5)
      have hlt5 : ∀ b, b < wr.heap.size → b < w5.heap.size := fun b hb => (by (first | omega | (simp only [zz] at *; omega)))
      have hc5 : ∀ b o, b < wr.heap.size → w5.cell? ⟨b, o, none⟩ = wr.cell? ⟨b, o, none⟩ := old_cell (by (repeat (first | exact Below.refl _ _ | assumption | refine below_drewN ?_ _ | refine below_drew ?_ | refine below_gr ?_ ?_ _ | refine below_alloc ?_ ?_ _ | refine Below.setCell ?_ ?_ _ | refine below_step ?_ (by assumption) ?_ | omega | (simp only [zz] at *; omega))))
      go_wp2
      go_ret3
      rw [HGQ.out]
      exact ⟨P2, d2, rfl, below_grow (hbw2.trans ((hb.trans (hb5.mono hbz)).mono hbw2.size)), hI2.ext hb5⟩
end Go.Proofs.Ytlbkaeoagdbemaa
