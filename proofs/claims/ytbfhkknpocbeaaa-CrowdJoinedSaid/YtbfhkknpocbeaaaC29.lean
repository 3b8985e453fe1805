/- Proved here: contracts and laws of C29, a part of the proofs about the crowd laws: what some functions of the program and of the reference compute, and plain facts about it. Conditions: those that each theorem names, no others. -/
import Derived.Test.YtbfhkknpocbeaaaM1
import Derived.WalkKit
import Derived.WalkSpells
import Derived.WalkLawsBesides
import Derived.Below
import Derived.Deep.QuietTactic
import Derived.BigQuiet
import Derived.Deep.Light

set_option linter.unusedSimpArgs false
set_option linter.unusedVariables false
namespace Go.Proofs.Ytbfhkknpocbeaaa
open Go.RowKit
theorem cntZ_snoc (l : List Int) (x t : Int) : cntZ (l ++ [x]) t = cntZ l t + if x = t then 1 else 0 := by
  unfold cntZ; rw [List.filter_append]; by_cases h : x = t <;> simp [List.filter_cons, h]
theorem cntZ_le (l : List Int) (t : Int) : cntZ l t ≤ l.length := List.length_filter_le _ _
theorem can_yes (p : P3) (w : World) (h : canB p = true) : Calls Try.prog 42 #[.agg #[.int .i64 p.lo, .int .i64 p.hi, .int .i64 p.un]] w (Gives w (.bool true)) := by have := can_any p w; rw [h] at this; exact this
theorem can_no (p : P3) (w : World) (h : canB p = false) : Calls Try.prog 42 #[.agg #[.int .i64 p.lo, .int .i64 p.hi, .int .i64 p.un]] w (Gives w (.bool false)) := by have := can_any p w; rw [h] at this; exact this
set_option maxHeartbeats 400000 in
theorem rplan_bad (k : Int) (T : Option Addr) (ts : List Int) (tc : Nat) (m : Int) (A : Option Addr) (ps : List P3) (c : Nat) (w : World) (hA : Ppl w A ps) (hl : ps.length ≤ 100) (h0 : asked m ps k ≠ 0) :
    Calls Try.prog 23 #[.agg #[.int .i64 m, .slice A ps.length c], .int .i64 k, .slice T ts.length tc] w (Gives w (.int .i64 (asked m ps k))) := by
  have h1 : (asked m ps k != 0) = true := by simp [h0]
  go_enter Try.func23, Try.ntmps23
  go_wp2_with (go_at_call 51; refine (asked_any k m A ps c _ (hA.ext (by (repeat (first | exact Below.refl _ _ | assumption | (refine below_gr ?_ (by (first | omega | (simp only [size_grow, World.size_alloc, size_drewN, size_drew, size_setCell] at *; omega))) _) | (refine below_alloc ?_ (by (first | omega | (simp only [size_grow, World.size_alloc, size_drewN, size_drew, size_setCell] at *; omega))) _) | (refine Below.setCell ?_ (by (first | omega | (simp only [size_grow, World.size_alloc, size_drewN, size_drew, size_setCell] at *; omega))) _) | refine below_drewN ?_ _ | refine below_drew ?_ | (refine below_step ?_ (by assumption) (by (first | omega | (simp only [size_grow, World.size_alloc, size_drewN, size_drew, size_setCell] at *; omega)))))))) hl).mono ?_; rintro e w1 ⟨rfl, hb1⟩; replace hb1 := ex_below hb1; have hz1 := hb1.size; (try simp only [size_grow, World.size_alloc, size_drewN, size_drew, size_setCell] at hz1); have hs1 : w.heap.size < w1.heap.size := (by (first | omega | (simp only [size_grow, World.size_alloc, size_drewN, size_drew, size_setCell] at *; omega))); have ho1 := own_cell hb1 (b := w.heap.size) (by (first | omega | (simp only [size_grow, World.size_alloc, size_drewN, size_drew, size_setCell] at *; omega))); have hq1 := own_frozen hb1 (b := w.heap.size) (by (first | omega | (simp only [size_grow, World.size_alloc, size_drewN, size_drew, size_setCell] at *; omega))); have hlt1 : ∀ b, b < w.heap.size → b < w1.heap.size := fun b hb => (by (first | omega | (simp only [size_grow, World.size_alloc, size_drewN, size_drew, size_setCell] at *; omega))); have hc1 : ∀ b o, b < w.heap.size → w1.cell? ⟨b, o, none⟩ = w.cell? ⟨b, o, none⟩ := old_cell (by (repeat (first | exact Below.refl _ _ | assumption | (refine below_gr ?_ (by (first | omega | (simp only [size_grow, World.size_alloc, size_drewN, size_drew, size_setCell] at *; omega))) _) | (refine below_alloc ?_ (by (first | omega | (simp only [size_grow, World.size_alloc, size_drewN, size_drew, size_setCell] at *; omega))) _) | (refine Below.setCell ?_ (by (first | omega | (simp only [size_grow, World.size_alloc, size_drewN, size_drew, size_setCell] at *; omega))) _) | refine below_drewN ?_ _ | refine below_drew ?_ | (refine below_step ?_ (by assumption) (by (first | omega | (simp only [size_grow, World.size_alloc, size_drewN, size_drew, size_setCell] at *; omega))))))))
  go_ret
  exact gives_of (rfl) (by (repeat (first | exact Below.refl _ _ | assumption | (refine below_gr ?_ (by (first | omega | (simp only [size_grow, World.size_alloc, size_drewN, size_drew, size_setCell] at *; omega))) _) | (refine below_alloc ?_ (by (first | omega | (simp only [size_grow, World.size_alloc, size_drewN, size_drew, size_setCell] at *; omega))) _) | (refine Below.setCell ?_ (by (first | omega | (simp only [size_grow, World.size_alloc, size_drewN, size_drew, size_setCell] at *; omega))) _) | refine below_drewN ?_ _ | refine below_drew ?_ | (refine below_step ?_ (by assumption) (by (first | omega | (simp only [size_grow, World.size_alloc, size_drewN, size_drew, size_setCell] at *; omega)))))))
set_option maxHeartbeats 400000 in
theorem rplan_len (k : Int) (T : Option Addr) (ts : List Int) (tc : Nat) (m : Int) (A : Option Addr) (ps : List P3) (c : Nat) (w : World) (hA : Ppl w A ps) (hl : ps.length ≤ 100) (h0 : asked m ps k = 0) (hne : ts.length ≠ ps.length) (htl : ts.length ≤ 1000) :
    Calls Try.prog 23 #[.agg #[.int .i64 m, .slice A ps.length c], .int .i64 k, .slice T ts.length tc] w (Gives w (.int .i64 15)) := by
  have h1 : (asked m ps k != 0) = false := by simp [h0]
  go_enter Try.func23, Try.ntmps23
  go_wp2_with (go_at_call 51; refine (asked_any k m A ps c _ (hA.ext (by (repeat (first | exact Below.refl _ _ | assumption | (refine below_gr ?_ (by (first | omega | (simp only [size_grow, World.size_alloc, size_drewN, size_drew, size_setCell] at *; omega))) _) | (refine below_alloc ?_ (by (first | omega | (simp only [size_grow, World.size_alloc, size_drewN, size_drew, size_setCell] at *; omega))) _) | (refine Below.setCell ?_ (by (first | omega | (simp only [size_grow, World.size_alloc, size_drewN, size_drew, size_setCell] at *; omega))) _) | refine below_drewN ?_ _ | refine below_drew ?_ | (refine below_step ?_ (by assumption) (by (first | omega | (simp only [size_grow, World.size_alloc, size_drewN, size_drew, size_setCell] at *; omega)))))))) hl).mono ?_; rintro e w1 ⟨rfl, hb1⟩; replace hb1 := ex_below hb1; have hz1 := hb1.size; (try simp only [size_grow, World.size_alloc, size_drewN, size_drew, size_setCell] at hz1); have hs1 : w.heap.size < w1.heap.size := (by (first | omega | (simp only [size_grow, World.size_alloc, size_drewN, size_drew, size_setCell] at *; omega))); have ho1 := own_cell hb1 (b := w.heap.size) (by (first | omega | (simp only [size_grow, World.size_alloc, size_drewN, size_drew, size_setCell] at *; omega))); have hq1 := own_frozen hb1 (b := w.heap.size) (by (first | omega | (simp only [size_grow, World.size_alloc, size_drewN, size_drew, size_setCell] at *; omega))); have hlt1 : ∀ b, b < w.heap.size → b < w1.heap.size := fun b hb => (by (first | omega | (simp only [size_grow, World.size_alloc, size_drewN, size_drew, size_setCell] at *; omega))); have hc1 : ∀ b o, b < w.heap.size → w1.cell? ⟨b, o, none⟩ = w.cell? ⟨b, o, none⟩ := old_cell (by (repeat (first | exact Below.refl _ _ | assumption | (refine below_gr ?_ (by (first | omega | (simp only [size_grow, World.size_alloc, size_drewN, size_drew, size_setCell] at *; omega))) _) | (refine below_alloc ?_ (by (first | omega | (simp only [size_grow, World.size_alloc, size_drewN, size_drew, size_setCell] at *; omega))) _) | (refine Below.setCell ?_ (by (first | omega | (simp only [size_grow, World.size_alloc, size_drewN, size_drew, size_setCell] at *; omega))) _) | refine below_drewN ?_ _ | refine below_drew ?_ | (refine below_step ?_ (by assumption) (by (first | omega | (simp only [size_grow, World.size_alloc, size_drewN, size_drew, size_setCell] at *; omega))))))))
  all_goals first | omega | (go_ret; exact gives_of (rfl) (by (repeat (first | exact Below.refl _ _ | assumption | (refine below_gr ?_ (by (first | omega | (simp only [size_grow, World.size_alloc, size_drewN, size_drew, size_setCell] at *; omega))) _) | (refine below_alloc ?_ (by (first | omega | (simp only [size_grow, World.size_alloc, size_drewN, size_drew, size_setCell] at *; omega))) _) | (refine Below.setCell ?_ (by (first | omega | (simp only [size_grow, World.size_alloc, size_drewN, size_drew, size_setCell] at *; omega))) _) | refine below_drewN ?_ _ | refine below_drew ?_ | (refine below_step ?_ (by assumption) (by (first | omega | (simp only [size_grow, World.size_alloc, size_drewN, size_drew, size_setCell] at *; omega))))))))
set_option maxHeartbeats 800000 in
theorem rplan_ok (k : Int) (T : Option Addr) (ts : List Int) (tc : Nat) (m : Int) (A : Option Addr) (ps : List P3) (c : Nat) (w : World) (hA : Ppl w A ps) (hl : ps.length ≤ 100) (hT : I64 w T ts) (h0 : asked m ps k = 0) (hlen : ts.length = ps.length) :
    Calls Try.prog 23 #[.agg #[.int .i64 m, .slice A ps.length c], .int .i64 k, .slice T ps.length tc] w (Gives w (.int .i64 (planR m ps k ts))) := by
  have h1 : (asked m ps k != 0) = false := by simp [h0]
  have hko := (asked_ok h0).2
  have hmo := checkHall_ok (asked_ok h0).1
  obtain ⟨hm1, hm2, hm3, -⟩ := hmo
  have H0 := hide h0
  clear h0
  have hL : (ts.zip ps).length = ps.length := by simp; omega
  go_enter Try.func23, Try.ntmps23
  go_wp2_with (go_at_call 51; refine (asked_any k m A ps c _ (hA.ext (by (repeat (first | exact Below.refl _ _ | assumption | (refine below_gr ?_ (by (first | omega | (simp only [size_grow, World.size_alloc, size_drewN, size_drew, size_setCell] at *; omega))) _) | (refine below_alloc ?_ (by (first | omega | (simp only [size_grow, World.size_alloc, size_drewN, size_drew, size_setCell] at *; omega))) _) | (refine Below.setCell ?_ (by (first | omega | (simp only [size_grow, World.size_alloc, size_drewN, size_drew, size_setCell] at *; omega))) _) | refine below_drewN ?_ _ | refine below_drew ?_ | (refine below_step ?_ (by assumption) (by (first | omega | (simp only [size_grow, World.size_alloc, size_drewN, size_drew, size_setCell] at *; omega)))))))) hl).mono ?_; rintro e w1 ⟨rfl, hb1⟩; replace hb1 := ex_below hb1; have hz1 := hb1.size; (try simp only [size_grow, World.size_alloc, size_drewN, size_drew, size_setCell] at hz1); have hs1 : w.heap.size < w1.heap.size := (by (first | omega | (simp only [size_grow, World.size_alloc, size_drewN, size_drew, size_setCell] at *; omega))); have ho1 := own_cell hb1 (b := w.heap.size) (by (first | omega | (simp only [size_grow, World.size_alloc, size_drewN, size_drew, size_setCell] at *; omega))); have hq1 := own_frozen hb1 (b := w.heap.size) (by (first | omega | (simp only [size_grow, World.size_alloc, size_drewN, size_drew, size_setCell] at *; omega))); have hlt1 : ∀ b, b < w.heap.size → b < w1.heap.size := fun b hb => (by (first | omega | (simp only [size_grow, World.size_alloc, size_drewN, size_drew, size_setCell] at *; omega))); have hc1 : ∀ b o, b < w.heap.size → w1.cell? ⟨b, o, none⟩ = w.cell? ⟨b, o, none⟩ := old_cell (by (repeat (first | exact Below.refl _ _ | assumption | (refine below_gr ?_ (by (first | omega | (simp only [size_grow, World.size_alloc, size_drewN, size_drew, size_setCell] at *; omega))) _) | (refine below_alloc ?_ (by (first | omega | (simp only [size_grow, World.size_alloc, size_drewN, size_drew, size_setCell] at *; omega))) _) | (refine Below.setCell ?_ (by (first | omega | (simp only [size_grow, World.size_alloc, size_drewN, size_drew, size_setCell] at *; omega))) _) | refine below_drewN ?_ _ | refine below_drew ?_ | (refine below_step ?_ (by assumption) (by (first | omega | (simp only [size_grow, World.size_alloc, size_drewN, size_drew, size_setCell] at *; omega))))))))
  obtain ⟨wz, hwz⟩ : ∃ wz : World, wz = w1 := ⟨_, rfl⟩
  have HWZ := hide hwz
  clear hwz
  go_loopw [7] (fun i wr => ∃ j : Nat, j ≤ ps.length ∧ i = .int .i64 j ∧ ((ts.zip ps).take j).all inRb = true ∧ Grew (w.alloc (Obj.cells #[Value.int IntKind.i64 m, Value.slice A ps.length c] 24)) wr) (fun i _ => ps.length - (intOf i).toNat)
  case atStart => exact ⟨0, Nat.zero_le _, rfl, rfl, grew_of (by (repeat (first | exact Below.refl _ _ | assumption | (refine below_gr ?_ (by (first | omega | (simp only [size_grow, World.size_alloc, size_drewN, size_drew, size_setCell] at *; omega))) _) | (refine below_alloc ?_ (by (first | omega | (simp only [size_grow, World.size_alloc, size_drewN, size_drew, size_setCell] at *; omega))) _) | (refine Below.setCell ?_ (by (first | omega | (simp only [size_grow, World.size_alloc, size_drewN, size_drew, size_setCell] at *; omega))) _) | refine below_drewN ?_ _ | refine below_drew ?_ | (refine below_step ?_ (by assumption) (by (first | omega | (simp only [size_grow, World.size_alloc, size_drewN, size_drew, size_setCell] at *; omega)))))))⟩
  case round =>
    obtain ⟨j, hj, rfl, hall, hb⟩ := hrel
    replace hb := hb.below
    have hzr := hb.size
    (try simp only [size_grow, World.size_alloc, size_drewN, size_drew, size_setCell] at hzr)
    have hsr : w.heap.size < wr.heap.size := (by (first | omega | (simp only [size_grow, World.size_alloc, size_drewN, size_drew, size_setCell] at *; omega)))
    have hor := own_cell hb (b := w.heap.size) (by (first | omega | (simp only [size_grow, World.size_alloc, size_drewN, size_drew, size_setCell] at *; omega)))
    have hqr := own_frozen hb (b := w.heap.size) (by (first | omega | (simp only [size_grow, World.size_alloc, size_drewN, size_drew, size_setCell] at *; omega)))
    have hltr : ∀ b, b < w.heap.size → b < wr.heap.size := fun b hb => (by (first | omega | (simp only [size_grow, World.size_alloc, size_drewN, size_drew, size_setCell] at *; omega)))
    have hcr : ∀ b o, b < w.heap.size → wr.cell? ⟨b, o, none⟩ = w.cell? ⟨b, o, none⟩ := old_cell (by (repeat (first | exact Below.refl _ _ | assumption | (refine below_gr ?_ (by (first | omega | (simp only [size_grow, World.size_alloc, size_drewN, size_drew, size_setCell] at *; omega))) _) | (refine below_alloc ?_ (by (first | omega | (simp only [size_grow, World.size_alloc, size_drewN, size_drew, size_setCell] at *; omega))) _) | (refine Below.setCell ?_ (by (first | omega | (simp only [size_grow, World.size_alloc, size_drewN, size_drew, size_setCell] at *; omega))) _) | refine below_drewN ?_ _ | refine below_drew ?_ | (refine below_step ?_ (by assumption) (by (first | omega | (simp only [size_grow, World.size_alloc, size_drewN, size_drew, size_setCell] at *; omega)))))))
    by_cases hlt : j < ps.length
    · have hlt2 : j < ts.length := by omega
      obtain ⟨b, off, rfl, hbl, hbl2, hp0, hp1, hp2⟩ := hA j ps[j] (by simp [hlt])
      obtain ⟨tb, toff, rfl, htl, htl2, ht0⟩ := hT j ts[j] (by simp [hlt2])
      have hlz : j < (ts.zip ps).length := by omega
      have HB := hide (all_bad (f := inRb) hlz)
      have HG := hide (all_good (f := inRb) hlz hall)
      rw [List.getElem_zip] at HB HG
      clear hall
      have HR := hide (fun (h : (ts.zip ps).all inRb = false) => show planR m ps k ts = 16 by unfold planR; rw [h]; rfl)
      generalize ps[j] = p at *
      generalize ts[j] = x at *
      have hgc : ∀ g, ((wr.alloc (Obj.cells #[Value.int IntKind.i64 p.lo, Value.int IntKind.i64 p.hi, Value.int IntKind.i64 p.un] 57)).grow g).cell? ⟨tb, toff + j, none⟩ = some (.int .i64 x) := fun g => by rw [cell_grow _ _ _ _ (by simp; omega), World.cell?_alloc_past _ _ _ (by show tb < wr.heap.size; omega), hcr _ _ (by omega)]; exact ht0
      by_cases hcan : canB p = true
      · have hin := hide (show inRb (x, p) = decide (lastP p ≤ x ∧ x ≤ p.un) by unfold inRb; rw [if_pos hcan])
        by_cases hx : x < lastP p
        · have hd : decide (x < lastP p) = true := by simpa using hx
          go_wp2
          refine wp_region_grow (by kernel_rfl) (by kernel_rfl) ?_
          repeat (go_big_quiet_step (first | (go_at_call 42; exact Gives.quiet (can_yes p _ hcan)) | (go_at_call 42; exact Gives.quiet (can_no p _ hcan2)) | (go_at_call 43; exact Gives.quiet (last_any p _))))
          refine wpQuiet_nil ?_
          intro w2 hb2
          replace hb2 := ex_below hb2
          have hz2 := hb2.size
          (try simp only [size_grow, World.size_alloc, size_drewN, size_drew, size_setCell] at hz2)
          have hs2 : w.heap.size < w2.heap.size := (by (first | omega | (simp only [size_grow, World.size_alloc, size_drewN, size_drew, size_setCell] at *; omega)))
          have ho2 := own_cell hb2 (b := w.heap.size) (by (first | omega | (simp only [size_grow, World.size_alloc, size_drewN, size_drew, size_setCell] at *; omega)))
          have hq2 := own_frozen hb2 (b := w.heap.size) (by (first | omega | (simp only [size_grow, World.size_alloc, size_drewN, size_drew, size_setCell] at *; omega)))
          have hs2 : wr.heap.size < w2.heap.size := (by (first | omega | (simp only [size_grow, World.size_alloc, size_drewN, size_drew, size_setCell] at *; omega)))
          have ho2 := own_cell hb2 (b := wr.heap.size) (by (first | omega | (simp only [size_grow, World.size_alloc, size_drewN, size_drew, size_setCell] at *; omega)))
          have hq2 := own_frozen hb2 (b := wr.heap.size) (by (first | omega | (simp only [size_grow, World.size_alloc, size_drewN, size_drew, size_setCell] at *; omega)))
          have hlt2 : ∀ b, b < w.heap.size → b < w2.heap.size := fun b hb => (by (first | omega | (simp only [size_grow, World.size_alloc, size_drewN, size_drew, size_setCell] at *; omega)))
          have hc2 : ∀ b o, b < w.heap.size → w2.cell? ⟨b, o, none⟩ = w.cell? ⟨b, o, none⟩ := old_cell (by (repeat (first | exact Below.refl _ _ | assumption | (refine below_gr ?_ (by (first | omega | (simp only [size_grow, World.size_alloc, size_drewN, size_drew, size_setCell] at *; omega))) _) | (refine below_alloc ?_ (by (first | omega | (simp only [size_grow, World.size_alloc, size_drewN, size_drew, size_setCell] at *; omega))) _) | (refine Below.setCell ?_ (by (first | omega | (simp only [size_grow, World.size_alloc, size_drewN, size_drew, size_setCell] at *; omega))) _) | refine below_drewN ?_ _ | refine below_drew ?_ | (refine below_step ?_ (by assumption) (by (first | omega | (simp only [size_grow, World.size_alloc, size_drewN, size_drew, size_setCell] at *; omega)))))))
          go_wp2
          go_ret
          exact gives_of (v_int (HR.out (HB.out (by rw [hin.out, decide_eq_false_iff_not]; omega))).symm) (by (repeat (first | exact Below.refl _ _ | assumption | (refine below_gr ?_ (by (first | omega | (simp only [size_grow, World.size_alloc, size_drewN, size_drew, size_setCell] at *; omega))) _) | (refine below_alloc ?_ (by (first | omega | (simp only [size_grow, World.size_alloc, size_drewN, size_drew, size_setCell] at *; omega))) _) | (refine Below.setCell ?_ (by (first | omega | (simp only [size_grow, World.size_alloc, size_drewN, size_drew, size_setCell] at *; omega))) _) | refine below_drewN ?_ _ | refine below_drew ?_ | (refine below_step ?_ (by assumption) (by (first | omega | (simp only [size_grow, World.size_alloc, size_drewN, size_drew, size_setCell] at *; omega)))))))
        · have hd : decide (x < lastP p) = false := by simpa using hx
          by_cases hy : p.un < x
          · have hd2 : decide (p.un < x) = true := by simpa using hy
            go_wp2
            refine wp_region_grow (by kernel_rfl) (by kernel_rfl) ?_
            repeat (go_big_quiet_step (first | (go_at_call 42; exact Gives.quiet (can_yes p _ hcan)) | (go_at_call 42; exact Gives.quiet (can_no p _ hcan2)) | (go_at_call 43; exact Gives.quiet (last_any p _))))
            refine wpQuiet_nil ?_
            intro w2 hb2
            replace hb2 := ex_below hb2
            have hz2 := hb2.size
            (try simp only [size_grow, World.size_alloc, size_drewN, size_drew, size_setCell] at hz2)
            have hs2 : w.heap.size < w2.heap.size := (by (first | omega | (simp only [size_grow, World.size_alloc, size_drewN, size_drew, size_setCell] at *; omega)))
            have ho2 := own_cell hb2 (b := w.heap.size) (by (first | omega | (simp only [size_grow, World.size_alloc, size_drewN, size_drew, size_setCell] at *; omega)))
            have hq2 := own_frozen hb2 (b := w.heap.size) (by (first | omega | (simp only [size_grow, World.size_alloc, size_drewN, size_drew, size_setCell] at *; omega)))
            have hs2 : wr.heap.size < w2.heap.size := (by (first | omega | (simp only [size_grow, World.size_alloc, size_drewN, size_drew, size_setCell] at *; omega)))
            have ho2 := own_cell hb2 (b := wr.heap.size) (by (first | omega | (simp only [size_grow, World.size_alloc, size_drewN, size_drew, size_setCell] at *; omega)))
            have hq2 := own_frozen hb2 (b := wr.heap.size) (by (first | omega | (simp only [size_grow, World.size_alloc, size_drewN, size_drew, size_setCell] at *; omega)))
            have hlt2 : ∀ b, b < w.heap.size → b < w2.heap.size := fun b hb => (by (first | omega | (simp only [size_grow, World.size_alloc, size_drewN, size_drew, size_setCell] at *; omega)))
            have hc2 : ∀ b o, b < w.heap.size → w2.cell? ⟨b, o, none⟩ = w.cell? ⟨b, o, none⟩ := old_cell (by (repeat (first | exact Below.refl _ _ | assumption | (refine below_gr ?_ (by (first | omega | (simp only [size_grow, World.size_alloc, size_drewN, size_drew, size_setCell] at *; omega))) _) | (refine below_alloc ?_ (by (first | omega | (simp only [size_grow, World.size_alloc, size_drewN, size_drew, size_setCell] at *; omega))) _) | (refine Below.setCell ?_ (by (first | omega | (simp only [size_grow, World.size_alloc, size_drewN, size_drew, size_setCell] at *; omega))) _) | refine below_drewN ?_ _ | refine below_drew ?_ | (refine below_step ?_ (by assumption) (by (first | omega | (simp only [size_grow, World.size_alloc, size_drewN, size_drew, size_setCell] at *; omega)))))))
            go_wp2
            go_ret
            exact gives_of (v_int (HR.out (HB.out (by rw [hin.out, decide_eq_false_iff_not]; omega))).symm) (by (repeat (first | exact Below.refl _ _ | assumption | (refine below_gr ?_ (by (first | omega | (simp only [size_grow, World.size_alloc, size_drewN, size_drew, size_setCell] at *; omega))) _) | (refine below_alloc ?_ (by (first | omega | (simp only [size_grow, World.size_alloc, size_drewN, size_drew, size_setCell] at *; omega))) _) | (refine Below.setCell ?_ (by (first | omega | (simp only [size_grow, World.size_alloc, size_drewN, size_drew, size_setCell] at *; omega))) _) | refine below_drewN ?_ _ | refine below_drew ?_ | (refine below_step ?_ (by assumption) (by (first | omega | (simp only [size_grow, World.size_alloc, size_drewN, size_drew, size_setCell] at *; omega)))))))
          · have hd2 : decide (p.un < x) = false := by simpa using hy
            go_wp2
            refine wp_region_grow (by kernel_rfl) (by kernel_rfl) ?_
            repeat (go_big_quiet_step (first | (go_at_call 42; exact Gives.quiet (can_yes p _ hcan)) | (go_at_call 42; exact Gives.quiet (can_no p _ hcan2)) | (go_at_call 43; exact Gives.quiet (last_any p _))))
            refine wpQuiet_nil ?_
            intro w2 hb2
            replace hb2 := ex_below hb2
            have hz2 := hb2.size
            (try simp only [size_grow, World.size_alloc, size_drewN, size_drew, size_setCell] at hz2)
            have hs2 : w.heap.size < w2.heap.size := (by (first | omega | (simp only [size_grow, World.size_alloc, size_drewN, size_drew, size_setCell] at *; omega)))
            have ho2 := own_cell hb2 (b := w.heap.size) (by (first | omega | (simp only [size_grow, World.size_alloc, size_drewN, size_drew, size_setCell] at *; omega)))
            have hq2 := own_frozen hb2 (b := w.heap.size) (by (first | omega | (simp only [size_grow, World.size_alloc, size_drewN, size_drew, size_setCell] at *; omega)))
            have hs2 : wr.heap.size < w2.heap.size := (by (first | omega | (simp only [size_grow, World.size_alloc, size_drewN, size_drew, size_setCell] at *; omega)))
            have ho2 := own_cell hb2 (b := wr.heap.size) (by (first | omega | (simp only [size_grow, World.size_alloc, size_drewN, size_drew, size_setCell] at *; omega)))
            have hq2 := own_frozen hb2 (b := wr.heap.size) (by (first | omega | (simp only [size_grow, World.size_alloc, size_drewN, size_drew, size_setCell] at *; omega)))
            have hlt2 : ∀ b, b < w.heap.size → b < w2.heap.size := fun b hb => (by (first | omega | (simp only [size_grow, World.size_alloc, size_drewN, size_drew, size_setCell] at *; omega)))
            have hc2 : ∀ b o, b < w.heap.size → w2.cell? ⟨b, o, none⟩ = w.cell? ⟨b, o, none⟩ := old_cell (by (repeat (first | exact Below.refl _ _ | assumption | (refine below_gr ?_ (by (first | omega | (simp only [size_grow, World.size_alloc, size_drewN, size_drew, size_setCell] at *; omega))) _) | (refine below_alloc ?_ (by (first | omega | (simp only [size_grow, World.size_alloc, size_drewN, size_drew, size_setCell] at *; omega))) _) | (refine Below.setCell ?_ (by (first | omega | (simp only [size_grow, World.size_alloc, size_drewN, size_drew, size_setCell] at *; omega))) _) | refine below_drewN ?_ _ | refine below_drew ?_ | (refine below_step ?_ (by assumption) (by (first | omega | (simp only [size_grow, World.size_alloc, size_drewN, size_drew, size_setCell] at *; omega)))))))
            go_wp2
            exact ⟨⟨j + 1, by omega, by go_num, HG.out (by rw [hin.out, decide_eq_true_eq]; omega), grew_of (by (repeat (first | exact Below.refl _ _ | assumption | (refine below_gr ?_ (by (first | omega | (simp only [size_grow, World.size_alloc, size_drewN, size_drew, size_setCell] at *; omega))) _) | (refine below_alloc ?_ (by (first | omega | (simp only [size_grow, World.size_alloc, size_drewN, size_drew, size_setCell] at *; omega))) _) | (refine Below.setCell ?_ (by (first | omega | (simp only [size_grow, World.size_alloc, size_drewN, size_drew, size_setCell] at *; omega))) _) | refine below_drewN ?_ _ | refine below_drew ?_ | (refine below_step ?_ (by assumption) (by (first | omega | (simp only [size_grow, World.size_alloc, size_drewN, size_drew, size_setCell] at *; omega)))))))⟩, by simp [intOf]; omega⟩
      · have hcan2 : canB p = false := by simpa using hcan
        have hin := hide (show inRb (x, p) = decide (x = 0) by unfold inRb; rw [if_neg hcan])
        by_cases hx : x = 0
        · have hd : decide (x = 0) = true := by simpa using hx
          go_wp2
          refine wp_region_grow (by kernel_rfl) (by kernel_rfl) ?_
          repeat (go_big_quiet_step (first | (go_at_call 42; exact Gives.quiet (can_yes p _ hcan)) | (go_at_call 42; exact Gives.quiet (can_no p _ hcan2)) | (go_at_call 43; exact Gives.quiet (last_any p _))))
          refine wpQuiet_nil ?_
          intro w2 hb2
          replace hb2 := ex_below hb2
          have hz2 := hb2.size
          (try simp only [size_grow, World.size_alloc, size_drewN, size_drew, size_setCell] at hz2)
          have hs2 : w.heap.size < w2.heap.size := (by (first | omega | (simp only [size_grow, World.size_alloc, size_drewN, size_drew, size_setCell] at *; omega)))
          have ho2 := own_cell hb2 (b := w.heap.size) (by (first | omega | (simp only [size_grow, World.size_alloc, size_drewN, size_drew, size_setCell] at *; omega)))
          have hq2 := own_frozen hb2 (b := w.heap.size) (by (first | omega | (simp only [size_grow, World.size_alloc, size_drewN, size_drew, size_setCell] at *; omega)))
          have hs2 : wr.heap.size < w2.heap.size := (by (first | omega | (simp only [size_grow, World.size_alloc, size_drewN, size_drew, size_setCell] at *; omega)))
          have ho2 := own_cell hb2 (b := wr.heap.size) (by (first | omega | (simp only [size_grow, World.size_alloc, size_drewN, size_drew, size_setCell] at *; omega)))
          have hq2 := own_frozen hb2 (b := wr.heap.size) (by (first | omega | (simp only [size_grow, World.size_alloc, size_drewN, size_drew, size_setCell] at *; omega)))
          have hlt2 : ∀ b, b < w.heap.size → b < w2.heap.size := fun b hb => (by (first | omega | (simp only [size_grow, World.size_alloc, size_drewN, size_drew, size_setCell] at *; omega)))
          have hc2 : ∀ b o, b < w.heap.size → w2.cell? ⟨b, o, none⟩ = w.cell? ⟨b, o, none⟩ := old_cell (by (repeat (first | exact Below.refl _ _ | assumption | (refine below_gr ?_ (by (first | omega | (simp only [size_grow, World.size_alloc, size_drewN, size_drew, size_setCell] at *; omega))) _) | (refine below_alloc ?_ (by (first | omega | (simp only [size_grow, World.size_alloc, size_drewN, size_drew, size_setCell] at *; omega))) _) | (refine Below.setCell ?_ (by (first | omega | (simp only [size_grow, World.size_alloc, size_drewN, size_drew, size_setCell] at *; omega))) _) | refine below_drewN ?_ _ | refine below_drew ?_ | (refine below_step ?_ (by assumption) (by (first | omega | (simp only [size_grow, World.size_alloc, size_drewN, size_drew, size_setCell] at *; omega)))))))
          go_wp2
          exact ⟨⟨j + 1, by omega, by go_num, HG.out (by rw [hin.out]; exact hd), grew_of (by (repeat (first | exact Below.refl _ _ | assumption | (refine below_gr ?_ (by (first | omega | (simp only [size_grow, World.size_alloc, size_drewN, size_drew, size_setCell] at *; omega))) _) | (refine below_alloc ?_ (by (first | omega | (simp only [size_grow, World.size_alloc, size_drewN, size_drew, size_setCell] at *; omega))) _) | (refine Below.setCell ?_ (by (first | omega | (simp only [size_grow, World.size_alloc, size_drewN, size_drew, size_setCell] at *; omega))) _) | refine below_drewN ?_ _ | refine below_drew ?_ | (refine below_step ?_ (by assumption) (by (first | omega | (simp only [size_grow, World.size_alloc, size_drewN, size_drew, size_setCell] at *; omega)))))))⟩, by simp [intOf]; omega⟩
        · have hd : decide (x = 0) = false := by simpa using hx
          go_wp2
          refine wp_region_grow (by kernel_rfl) (by kernel_rfl) ?_
          repeat (go_big_quiet_step (first | (go_at_call 42; exact Gives.quiet (can_yes p _ hcan)) | (go_at_call 42; exact Gives.quiet (can_no p _ hcan2)) | (go_at_call 43; exact Gives.quiet (last_any p _))))
          refine wpQuiet_nil ?_
          intro w2 hb2
          replace hb2 := ex_below hb2
          have hz2 := hb2.size
          (try simp only [size_grow, World.size_alloc, size_drewN, size_drew, size_setCell] at hz2)
          have hs2 : w.heap.size < w2.heap.size := (by (first | omega | (simp only [size_grow, World.size_alloc, size_drewN, size_drew, size_setCell] at *; omega)))
          have ho2 := own_cell hb2 (b := w.heap.size) (by (first | omega | (simp only [size_grow, World.size_alloc, size_drewN, size_drew, size_setCell] at *; omega)))
          have hq2 := own_frozen hb2 (b := w.heap.size) (by (first | omega | (simp only [size_grow, World.size_alloc, size_drewN, size_drew, size_setCell] at *; omega)))
          have hs2 : wr.heap.size < w2.heap.size := (by (first | omega | (simp only [size_grow, World.size_alloc, size_drewN, size_drew, size_setCell] at *; omega)))
          have ho2 := own_cell hb2 (b := wr.heap.size) (by (first | omega | (simp only [size_grow, World.size_alloc, size_drewN, size_drew, size_setCell] at *; omega)))
          have hq2 := own_frozen hb2 (b := wr.heap.size) (by (first | omega | (simp only [size_grow, World.size_alloc, size_drewN, size_drew, size_setCell] at *; omega)))
          have hlt2 : ∀ b, b < w.heap.size → b < w2.heap.size := fun b hb => (by (first | omega | (simp only [size_grow, World.size_alloc, size_drewN, size_drew, size_setCell] at *; omega)))
          have hc2 : ∀ b o, b < w.heap.size → w2.cell? ⟨b, o, none⟩ = w.cell? ⟨b, o, none⟩ := old_cell (by (repeat (first | exact Below.refl _ _ | assumption | (refine below_gr ?_ (by (first | omega | (simp only [size_grow, World.size_alloc, size_drewN, size_drew, size_setCell] at *; omega))) _) | (refine below_alloc ?_ (by (first | omega | (simp only [size_grow, World.size_alloc, size_drewN, size_drew, size_setCell] at *; omega))) _) | (refine Below.setCell ?_ (by (first | omega | (simp only [size_grow, World.size_alloc, size_drewN, size_drew, size_setCell] at *; omega))) _) | refine below_drewN ?_ _ | refine below_drew ?_ | (refine below_step ?_ (by assumption) (by (first | omega | (simp only [size_grow, World.size_alloc, size_drewN, size_drew, size_setCell] at *; omega)))))))
          go_wp2
          go_ret
          exact gives_of (v_int (HR.out (HB.out (by rw [hin.out]; exact hd))).symm) (by (repeat (first | exact Below.refl _ _ | assumption | (refine below_gr ?_ (by (first | omega | (simp only [size_grow, World.size_alloc, size_drewN, size_drew, size_setCell] at *; omega))) _) | (refine below_alloc ?_ (by (first | omega | (simp only [size_grow, World.size_alloc, size_drewN, size_drew, size_setCell] at *; omega))) _) | (refine Below.setCell ?_ (by (first | omega | (simp only [size_grow, World.size_alloc, size_drewN, size_drew, size_setCell] at *; omega))) _) | refine below_drewN ?_ _ | refine below_drew ?_ | (refine below_step ?_ (by assumption) (by (first | omega | (simp only [size_grow, World.size_alloc, size_drewN, size_drew, size_setCell] at *; omega)))))))
    · have hjn : j = ps.length := by omega
      subst hjn
      have HR := hide (show planR m ps k ts = if fitR m k ts = true then 0 else 23 by
        unfold planR; rw [List.take_of_length_le (by omega)] at hall; rw [if_pos hall])
      clear hall
      go_wp2
      obtain ⟨wo, rfl⟩ : ∃ wo : World, wo = wr := ⟨_, rfl⟩
      go_loopw [9, 10, 11] (fun t n i wr => ∃ q : Nat, (q : Int) ≤ m ∧ t = .int .i64 (1 + q) ∧ (List.range q).all (fun j => decide ((cntZ ts ((j : Int) + 1) : Int) ≤ k)) = true ∧ Grew wo wr) (fun t _ _ _ => (m + 1 - intOf t).toNat)
      case atStart => exact ⟨0, by omega, rfl, rfl, grew_refl _⟩
      case round =>
        obtain ⟨q, hq, rfl, hall, hb3⟩ := hrel
        replace hb3 := hb3.below
        have hzr := hb3.size
        (try simp only [size_grow, World.size_alloc, size_drewN, size_drew, size_setCell] at hzr)
        have hsr : w.heap.size < wr.heap.size := (by (first | omega | (simp only [size_grow, World.size_alloc, size_drewN, size_drew, size_setCell] at *; omega)))
        have hor := own_cell hb3 (b := w.heap.size) (by (first | omega | (simp only [size_grow, World.size_alloc, size_drewN, size_drew, size_setCell] at *; omega)))
        have hqr := own_frozen hb3 (b := w.heap.size) (by (first | omega | (simp only [size_grow, World.size_alloc, size_drewN, size_drew, size_setCell] at *; omega)))
        have hltr : ∀ b, b < w.heap.size → b < wr.heap.size := fun b hb => (by (first | omega | (simp only [size_grow, World.size_alloc, size_drewN, size_drew, size_setCell] at *; omega)))
        have hcr : ∀ b o, b < w.heap.size → wr.cell? ⟨b, o, none⟩ = w.cell? ⟨b, o, none⟩ := old_cell (by (repeat (first | exact Below.refl _ _ | assumption | (refine below_gr ?_ (by (first | omega | (simp only [size_grow, World.size_alloc, size_drewN, size_drew, size_setCell] at *; omega))) _) | (refine below_alloc ?_ (by (first | omega | (simp only [size_grow, World.size_alloc, size_drewN, size_drew, size_setCell] at *; omega))) _) | (refine Below.setCell ?_ (by (first | omega | (simp only [size_grow, World.size_alloc, size_drewN, size_drew, size_setCell] at *; omega))) _) | refine below_drewN ?_ _ | refine below_drew ?_ | (refine below_step ?_ (by assumption) (by (first | omega | (simp only [size_grow, World.size_alloc, size_drewN, size_drew, size_setCell] at *; omega)))))))
        by_cases hlt : 1 + (q : Int) ≤ m
        · have HN := hide (show (List.range (q + 1)).all (fun j => decide ((cntZ ts ((j : Int) + 1) : Int) ≤ k)) = decide ((cntZ ts ((q : Int) + 1) : Int) ≤ k) by
            rw [List.range_succ, List.all_append, hall]; simp)
          have HM := hide (fun h : ¬ (cntZ ts ((q : Int) + 1) : Int) ≤ k => show fitR m k ts = false by
            unfold fitR; rw [List.all_eq_false]; exact ⟨q, List.mem_range.2 (by omega), by simpa using h⟩)
          clear hall
          go_wp2
          obtain ⟨wp, rfl⟩ : ∃ wp : World, wp = wr := ⟨_, rfl⟩
          go_loopw [10, 11] (fun n i wr => ∃ r : Nat, r ≤ ps.length ∧ i = .int .i64 r ∧ n = .int .i64 (cntZ (ts.take r) ((q : Int) + 1)) ∧ Grew wp wr) (fun _ i _ => ps.length - (intOf i).toNat)
          case atStart => exact ⟨0, by omega, rfl, rfl, grew_refl _⟩
          case round =>
            obtain ⟨r, hr, rfl, rfl, hb4⟩ := hrel
            replace hb4 := hb4.below
            have hzr := hb4.size
            (try simp only [size_grow, World.size_alloc, size_drewN, size_drew, size_setCell] at hzr)
            have hsr : w.heap.size < wr.heap.size := (by (first | omega | (simp only [size_grow, World.size_alloc, size_drewN, size_drew, size_setCell] at *; omega)))
            have hor := own_cell hb4 (b := w.heap.size) (by (first | omega | (simp only [size_grow, World.size_alloc, size_drewN, size_drew, size_setCell] at *; omega)))
            have hqr := own_frozen hb4 (b := w.heap.size) (by (first | omega | (simp only [size_grow, World.size_alloc, size_drewN, size_drew, size_setCell] at *; omega)))
            have hltr : ∀ b, b < w.heap.size → b < wr.heap.size := fun b hb => (by (first | omega | (simp only [size_grow, World.size_alloc, size_drewN, size_drew, size_setCell] at *; omega)))
            have hcr : ∀ b o, b < w.heap.size → wr.cell? ⟨b, o, none⟩ = w.cell? ⟨b, o, none⟩ := old_cell (by (repeat (first | exact Below.refl _ _ | assumption | (refine below_gr ?_ (by (first | omega | (simp only [size_grow, World.size_alloc, size_drewN, size_drew, size_setCell] at *; omega))) _) | (refine below_alloc ?_ (by (first | omega | (simp only [size_grow, World.size_alloc, size_drewN, size_drew, size_setCell] at *; omega))) _) | (refine Below.setCell ?_ (by (first | omega | (simp only [size_grow, World.size_alloc, size_drewN, size_drew, size_setCell] at *; omega))) _) | refine below_drewN ?_ _ | refine below_drew ?_ | (refine below_step ?_ (by assumption) (by (first | omega | (simp only [size_grow, World.size_alloc, size_drewN, size_drew, size_setCell] at *; omega)))))))
            by_cases hlt4 : r < ps.length
            · have hlt3 : r < ts.length := by omega
              obtain ⟨tb, toff, rfl, htl, htl2, ht0⟩ := hT r ts[r] (by simp [hlt3])
              have HS := hide (cntZ_snoc (ts.take r) ts[r] ((q : Int) + 1))
              rw [← take_snoc _ _ hlt3] at HS
              have hle := cntZ_le (ts.take r) ((q : Int) + 1)
              rw [List.length_take] at hle
              generalize cntZ (ts.take r) ((q : Int) + 1) = N at *
              generalize ts[r] = x at *
              by_cases hx : x = 1 + (q : Int)
              · go_wp2
                exact ⟨⟨r + 1, by omega, by go_num, by rw [HS.out, if_pos (by omega)]; go_num, grew_of (by (repeat (first | exact Below.refl _ _ | assumption | (refine below_gr ?_ (by (first | omega | (simp only [size_grow, World.size_alloc, size_drewN, size_drew, size_setCell] at *; omega))) _) | (refine below_alloc ?_ (by (first | omega | (simp only [size_grow, World.size_alloc, size_drewN, size_drew, size_setCell] at *; omega))) _) | (refine Below.setCell ?_ (by (first | omega | (simp only [size_grow, World.size_alloc, size_drewN, size_drew, size_setCell] at *; omega))) _) | refine below_drewN ?_ _ | refine below_drew ?_ | (refine below_step ?_ (by assumption) (by (first | omega | (simp only [size_grow, World.size_alloc, size_drewN, size_drew, size_setCell] at *; omega)))))))⟩, by simp [intOf]; omega⟩
              · go_wp2
                exact ⟨⟨r + 1, by omega, by go_num, by rw [HS.out, if_neg (by omega)]; go_num, grew_of (by (repeat (first | exact Below.refl _ _ | assumption | (refine below_gr ?_ (by (first | omega | (simp only [size_grow, World.size_alloc, size_drewN, size_drew, size_setCell] at *; omega))) _) | (refine below_alloc ?_ (by (first | omega | (simp only [size_grow, World.size_alloc, size_drewN, size_drew, size_setCell] at *; omega))) _) | (refine Below.setCell ?_ (by (first | omega | (simp only [size_grow, World.size_alloc, size_drewN, size_drew, size_setCell] at *; omega))) _) | refine below_drewN ?_ _ | refine below_drew ?_ | (refine below_step ?_ (by assumption) (by (first | omega | (simp only [size_grow, World.size_alloc, size_drewN, size_drew, size_setCell] at *; omega)))))))⟩, by simp [intOf]; omega⟩
            · have hre : r = ps.length := by omega
              subst hre
              rw [List.take_of_length_le (by omega)]
              generalize cntZ ts ((q : Int) + 1) = N at *
              by_cases hx : (N : Int) ≤ k
              · go_wp2
                go_roundw
                case measure => simp [intOf]; omega
                exact ⟨q + 1, by omega, by go_num, by rw [HN.out]; simpa using hx, grew_of (by (repeat (first | exact Below.refl _ _ | assumption | (refine below_gr ?_ (by (first | omega | (simp only [size_grow, World.size_alloc, size_drewN, size_drew, size_setCell] at *; omega))) _) | (refine below_alloc ?_ (by (first | omega | (simp only [size_grow, World.size_alloc, size_drewN, size_drew, size_setCell] at *; omega))) _) | (refine Below.setCell ?_ (by (first | omega | (simp only [size_grow, World.size_alloc, size_drewN, size_drew, size_setCell] at *; omega))) _) | refine below_drewN ?_ _ | refine below_drew ?_ | (refine below_step ?_ (by assumption) (by (first | omega | (simp only [size_grow, World.size_alloc, size_drewN, size_drew, size_setCell] at *; omega)))))))⟩
              · go_wp2
                go_ret
                exact gives_of (v_int (by rw [HR.out, HM.out hx]; rfl)) (by (repeat (first | exact Below.refl _ _ | assumption | (refine below_gr ?_ (by (first | omega | (simp only [size_grow, World.size_alloc, size_drewN, size_drew, size_setCell] at *; omega))) _) | (refine below_alloc ?_ (by (first | omega | (simp only [size_grow, World.size_alloc, size_drewN, size_drew, size_setCell] at *; omega))) _) | (refine Below.setCell ?_ (by (first | omega | (simp only [size_grow, World.size_alloc, size_drewN, size_drew, size_setCell] at *; omega))) _) | refine below_drewN ?_ _ | refine below_drew ?_ | (refine below_step ?_ (by assumption) (by (first | omega | (simp only [size_grow, World.size_alloc, size_drewN, size_drew, size_setCell] at *; omega)))))))
        · have HU := hide (show fitR m k ts = true by unfold fitR; rw [show m.toNat = q by omega]; exact hall)
          clear hall
          go_wp2
          go_ret
          exact gives_of (v_int (by rw [HR.out, HU.out]; rfl)) (by (repeat (first | exact Below.refl _ _ | assumption | (refine below_gr ?_ (by (first | omega | (simp only [size_grow, World.size_alloc, size_drewN, size_drew, size_setCell] at *; omega))) _) | (refine below_alloc ?_ (by (first | omega | (simp only [size_grow, World.size_alloc, size_drewN, size_drew, size_setCell] at *; omega))) _) | (refine Below.setCell ?_ (by (first | omega | (simp only [size_grow, World.size_alloc, size_drewN, size_drew, size_setCell] at *; omega))) _) | refine below_drewN ?_ _ | refine below_drew ?_ | (refine below_step ?_ (by assumption) (by (first | omega | (simp only [size_grow, World.size_alloc, size_drewN, size_drew, size_setCell] at *; omega)))))))
end Go.Proofs.Ytbfhkknpocbeaaa
