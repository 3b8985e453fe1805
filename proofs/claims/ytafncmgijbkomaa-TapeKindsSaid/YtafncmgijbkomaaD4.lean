/- Proved here: more than 300 nights of a length, a part of the proofs about the tape laws. Conditions: those that each theorem names, no others. -/
import Derived.Test.YtafncmgijbkomaaP30
import Derived.WalkKit
import Derived.WalkSpells
import Derived.WalkLawsBesides
import Derived.Below
import Derived.Deep.QuietTactic
import Derived.BigQuiet
import Derived.Deep.Light
import Derived.Test.YtafncmgijbkomaaP23

set_option linter.unusedSimpArgs false
set_option linter.unusedVariables false
namespace Go.Proofs.Ytafncmgijbkomaa
open Go.RowKit Go.Maps Go.Lib
/-- more than 300 nights of a length -/
def manyB (W : Int) (ts : List ByteArray) (long : Int) : Bool := decide (openE W ts long = 0) && decide (300 < Tm.cntC W.toNat long.toNat (lts ts))
theorem many_few {W : Int} {ts : List ByteArray} {long : Int} (h : manyB W ts long = false) : ∀ lg : Nat, openE W ts (lg : Nat) = 0 → long = (lg : Nat) → Tm.cntU W.toNat lg (lts ts) ≤ 300 := fun lg h0 e => by
  subst e
  unfold manyB at h
  rw [decide_eq_true h0, Bool.true_and, decide_eq_false_iff_not, Int.toNat_natCast, Tm.cntC_eq] at h
  unfold Tm.most at h
  omega
set_option maxRecDepth 100000 in
set_option maxHeartbeats 8000000 in
theorem manyN_any (W : Int) (A : Option Addr) (ts : List ByteArray) (c : Nat) (w : World) (hA : Strs w A ts) (hl : ts.length ≤ 1000) (hsz : ∀ k, (h : k < ts.length) → ts[k].size ≤ 1000000) (long : Int) : Calls Try.prog 34 #[.agg #[.int .i64 W, .slice A ts.length c], .int .i64 long] w (Gives w (.bool (manyB W ts long))) := by
  by_cases h0 : openE W ts long = 0
  · obtain ⟨lg, rfl⟩ : ∃ lg : Nat, long = (lg : Nat) := ⟨long.toNat, by have := (open_val h0).2; simp [withinB, outB] at this; omega⟩
    obtain ⟨Wn, rfl, hlg, hW5, _, h3, _, hf, hs⟩ := countE_val h0
    have h1 : (openE (Wn : Nat) ts (lg : Nat) == 0) = true := by simp [h0]
    have HV := hide (show manyB (Wn : Nat) ts (lg : Nat) = decide (300 < Tm.cntC Wn lg (lts ts)) by simp [manyB, h0])
    have HCT := hide (fun w' (h : Strs w' A ts) => rCounts_any Wn A ts c w' h hW5 h3 hf hs lg hlg)
    have HGET := hide (fun w' AR (h : RowsA w' AR (cRs Wn (lts ts) (lg + 1))) => rowsA_get h (show (cRs Wn (lts ts) (lg + 1))[lg]? = some (cR Wn (lts ts) lg) by simp [cRs]) (cR_len Wn (lts ts) lg))
    have HV0 := hide (show (cR Wn (lts ts) lg)[0]? = some ((Tm.cntC Wn lg (lts ts) : Nat) : Int) by rw [← cV_first]; exact cR_at _ _ _ _ (Tm.prod_pos _))
    have HRL := hide (cRs_len Wn (lts ts) (lg + 1))
    have hpp := Tm.prod_pos (lts ts)
    rw [HV.out]
    generalize cRs Wn (lts ts) (lg + 1) = rs at *
    generalize Tm.prodP (lts ts) = M at *
    generalize Tm.cntC Wn lg (lts ts) = C at *
    generalize cR Wn (lts ts) lg = cr at *
    have hli : (lg : Int) < (rs.length : Nat) := by rw [HRL.out]; omega
    have hl0 : (0 : Int) ≤ (lg : Int) := by omega
    have hpi : (0 : Int) < (M : Nat) := by omega
    replace h0 := hide h0
    clear HV
    have HD := hide (show (decide ((300 : Int) < ((C : Nat) : Int))) = decide (300 < C) from decide_eq_decide.2 (by omega))
    go_enter Try.func34, Try.ntmps34
    go_wp2_with (first
    | (go_at_call 76; refine (rLong_any (Wn : Nat) A ts c _ (hA.ext (by (repeat (first | exact Below.refl _ _ | assumption | refine below_drewN ?_ _ | refine below_drew ?_ | refine below_gr ?_ ?_ _ | refine below_alloc ?_ ?_ _ | refine Below.setCell ?_ ?_ _ | refine below_step ?_ (by assumption) ?_ | omega | (simp only [zz] at *; omega))))) hl hsz (lg : Nat)).mono ?_; rintro e w1 ⟨rfl, hb1⟩; replace hb1 := ex_below hb1; have hz1 := hb1.size; (try simp only [zz] at hz1); have hs1 : w.heap.size < w1.heap.size := (by (first | omega | (simp only [zz] at *; omega))); have ho1 := own_cell hb1 (b := w.heap.size) (by (first | omega | (simp only [zz] at *; omega))); have hq1 := own_frozen hb1 (b := w.heap.size) (by (first | omega | (simp only [zz] at *; omega))); have hlt1 : ∀ b, b < w.heap.size → b < w1.heap.size := fun b hb => (by (first | omega | (simp only [zz] at *; omega))); have hc1 : ∀ b o, b < w.heap.size → w1.cell? ⟨b, o, none⟩ = w.cell? ⟨b, o, none⟩ := old_cell (by (repeat (first | exact Below.refl _ _ | assumption | refine below_drewN ?_ _ | refine below_drew ?_ | refine below_gr ?_ ?_ _ | refine below_alloc ?_ ?_ _ | refine Below.setCell ?_ ?_ _ | refine below_step ?_ (by assumption) ?_ | omega | (simp only [zz] at *; omega)))))
    | (go_at_call 77; refine (HCT.out _ (hA.ext (by (repeat (first | exact Below.refl _ _ | assumption | refine below_drewN ?_ _ | refine below_drew ?_ | refine below_gr ?_ ?_ _ | refine below_alloc ?_ ?_ _ | refine Below.setCell ?_ ?_ _ | refine below_step ?_ (by assumption) ?_ | omega | (simp only [zz] at *; omega)))))).mono ?_; rintro e w2 ⟨AR, cR2, rfl, hb2, hR2⟩; replace hb2 := hb2.below; have hz2 := hb2.size; (try simp only [zz] at hz2); have hs2 : w.heap.size < w2.heap.size := (by (first | omega | (simp only [zz] at *; omega))); have ho2 := own_cell hb2 (b := w.heap.size) (by (first | omega | (simp only [zz] at *; omega))); have hq2 := own_frozen hb2 (b := w.heap.size) (by (first | omega | (simp only [zz] at *; omega))); have hlt2 : ∀ b, b < w.heap.size → b < w2.heap.size := fun b hb => (by (first | omega | (simp only [zz] at *; omega))); have hc2 : ∀ b o, b < w.heap.size → w2.cell? ⟨b, o, none⟩ = w.cell? ⟨b, o, none⟩ := old_cell (by (repeat (first | exact Below.refl _ _ | assumption | refine below_drewN ?_ _ | refine below_drew ?_ | refine below_gr ?_ ?_ _ | refine below_alloc ?_ ?_ _ | refine Below.setCell ?_ ?_ _ | refine below_step ?_ (by assumption) ?_ | omega | (simp only [zz] at *; omega)))); obtain ⟨qb, qo, rfl, hqb, P2, d2, hcQ, hIQ⟩ := HGET.out _ _ hR2; obtain ⟨rb, ro, rfl, hrb, hcR⟩ := i64_get hIQ HV0.out; rw [Nat.add_zero] at hcR))

    go_ret
    exact gives_of (v_bool HD.out) (by (repeat (first | exact Below.refl _ _ | assumption | refine below_drewN ?_ _ | refine below_drew ?_ | refine below_gr ?_ ?_ _ | refine below_alloc ?_ ?_ _ | refine Below.setCell ?_ ?_ _ | refine below_step ?_ (by assumption) ?_ | omega | (simp only [zz] at *; omega))))
  · have HV := hide (show manyB W ts long = false by simp [manyB, h0])
    have h1 : (openE W ts long == 0) = false := by simp [h0]
    rw [HV.out]
    replace h0 := hide h0
    go_enter Try.func34, Try.ntmps34
    go_wp2_with (first
    | (go_at_call 76; refine (rLong_any W A ts c _ (hA.ext (by (repeat (first | exact Below.refl _ _ | assumption | refine below_drewN ?_ _ | refine below_drew ?_ | refine below_gr ?_ ?_ _ | refine below_alloc ?_ ?_ _ | refine Below.setCell ?_ ?_ _ | refine below_step ?_ (by assumption) ?_ | omega | (simp only [zz] at *; omega))))) hl hsz long).mono ?_; rintro e w1 ⟨rfl, hb1⟩; replace hb1 := ex_below hb1; have hz1 := hb1.size; (try simp only [zz] at hz1); have hs1 : w.heap.size < w1.heap.size := (by (first | omega | (simp only [zz] at *; omega))); have ho1 := own_cell hb1 (b := w.heap.size) (by (first | omega | (simp only [zz] at *; omega))); have hq1 := own_frozen hb1 (b := w.heap.size) (by (first | omega | (simp only [zz] at *; omega))); have hlt1 : ∀ b, b < w.heap.size → b < w1.heap.size := fun b hb => (by (first | omega | (simp only [zz] at *; omega))); have hc1 : ∀ b o, b < w.heap.size → w1.cell? ⟨b, o, none⟩ = w.cell? ⟨b, o, none⟩ := old_cell (by (repeat (first | exact Below.refl _ _ | assumption | refine below_drewN ?_ _ | refine below_drew ?_ | refine below_gr ?_ ?_ _ | refine below_alloc ?_ ?_ _ | refine Below.setCell ?_ ?_ _ | refine below_step ?_ (by assumption) ?_ | omega | (simp only [zz] at *; omega))))))

    go_ret
    exact gives_of (rfl) (by (repeat (first | exact Below.refl _ _ | assumption | refine below_drewN ?_ _ | refine below_drew ?_ | refine below_gr ?_ ?_ _ | refine below_alloc ?_ ?_ _ | refine Below.setCell ?_ ?_ _ | refine below_step ?_ (by assumption) ?_ | omega | (simp only [zz] at *; omega))))
end Go.Proofs.Ytafncmgijbkomaa
