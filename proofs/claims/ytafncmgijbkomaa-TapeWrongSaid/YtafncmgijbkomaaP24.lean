/- Proved here: the reference: a night, a part of the proofs about the tape laws. Conditions: those that each theorem names, no others. -/
import Derived.Test.YtafncmgijbkomaaP23
import Derived.WalkKit
import Derived.WalkSpells
import Derived.WalkLawsBesides
import Derived.Below
import Derived.Deep.QuietTactic
import Derived.BigQuiet
import Derived.Deep.Light
import Derived.Test.YtafncmgijbkomaaP06
set_option linter.unusedSimpArgs false
set_option linter.unusedVariables false
namespace Go.Proofs.Ytafncmgijbkomaa
open Go.RowKit Go.Maps Go.Lib
theorem unlt_append (l m : List Int) : unlt (l ++ m) = unlt l ++ unlt m := by
  unfold unlt
  apply ByteArray.ext
  simp
set_option maxRecDepth 100000 in
set_option maxHeartbeats 8000000 in
theorem rNight_bad (Wn : Nat) (A : Option Addr) (ts : List ByteArray) (c : Nat) (w : World) (hA : Strs w A ts) (hl : ts.length ≤ 1000) (hsz : ∀ k, (h : k < ts.length) → ts[k].size ≤ 1000000) (lg : Nat) (h0 : openE (Wn : Nat) ts (lg : Nat) = 0) (index : Int) (hx : index < 0 ∨ 1099511627776 < index ∨ ((Tm.cntC Wn lg (lts ts) : Nat) : Int) ≤ index) : Calls Try.prog 33 #[.agg #[.int .i64 (Wn : Nat), .slice A ts.length c], .int .i64 (lg : Nat), .int .i64 index] w (Gives w (.tuple #[.string ⟨#[]⟩, .int .i64 3])) := by
  obtain ⟨Wn', hWn, hlg, hW5, hW1, h3, hts1, hf, hs⟩ := countE_val h0
  obtain rfl : Wn' = Wn := by omega
  clear hWn
  have h1 : (openE (Wn' : Nat) ts (lg : Nat) != 0) = false := by simp [h0]
  have HCT := hide (fun w' (h : Strs w' A ts) => rCounts_any Wn' A ts c w' h hW5 h3 hf hs lg hlg)
  have HGET := hide (fun w' AR (h : RowsA w' AR (cRs Wn' (lts ts) (lg + 1))) => rowsA_get h (show (cRs Wn' (lts ts) (lg + 1))[lg]? = some (cR Wn' (lts ts) lg) by simp [cRs]) (cR_len Wn' (lts ts) lg))
  have HV0 := hide (show (cR Wn' (lts ts) lg)[0]? = some ((Tm.cntC Wn' lg (lts ts) : Nat) : Int) by rw [← cV_first]; exact cR_at _ _ _ _ (Tm.prod_pos _))
  have hmost := cntC_most Wn' lg (lts ts)
  have HRL := hide (cRs_len Wn' (lts ts) (lg + 1))
  have hpp := Tm.prod_pos (lts ts)
  generalize cRs Wn' (lts ts) (lg + 1) = rs at *
  generalize Tm.prodP (lts ts) = M at *
  generalize Tm.cntC Wn' lg (lts ts) = C at *
  generalize cR Wn' (lts ts) lg = cr at *
  have hli : (lg : Int) < (rs.length : Nat) := by rw [HRL.out]; omega
  have hl0 : (0 : Int) ≤ (lg : Int) := by omega
  have hpi : (0 : Int) < (M : Nat) := by omega
  replace h0 := hide h0
  by_cases x1 : index < 0
  · clear hx
    go_enter Try.func33, Try.ntmps33
    go_wp2_with (first
    | (go_at_call 76; refine (rLong_any (Wn' : Nat) A ts c _ (hA.ext (by (repeat (first | exact Below.refl _ _ | assumption | refine below_drewN ?_ _ | refine below_drew ?_ | refine below_gr ?_ ?_ _ | refine below_alloc ?_ ?_ _ | refine Below.setCell ?_ ?_ _ | refine below_step ?_ (by assumption) ?_ | omega | (simp only [zz] at *; omega))))) hl hsz (lg : Nat)).mono ?_; rintro e w1 ⟨rfl, hb1⟩; replace hb1 := ex_below hb1; have hz1 := hb1.size; (try simp only [zz] at hz1); have hs1 : w.heap.size < w1.heap.size := (by (first | omega | (simp only [zz] at *; omega))); have ho1 := own_cell hb1 (b := w.heap.size) (by (first | omega | (simp only [zz] at *; omega))); have hq1 := own_frozen hb1 (b := w.heap.size) (by (first | omega | (simp only [zz] at *; omega))); have hlt1 : ∀ b, b < w.heap.size → b < w1.heap.size := fun b hb => (by (first | omega | (simp only [zz] at *; omega))); have hc1 : ∀ b o, b < w.heap.size → w1.cell? ⟨b, o, none⟩ = w.cell? ⟨b, o, none⟩ := old_cell (by (repeat (first | exact Below.refl _ _ | assumption | refine below_drewN ?_ _ | refine below_drew ?_ | refine below_gr ?_ ?_ _ | refine below_alloc ?_ ?_ _ | refine Below.setCell ?_ ?_ _ | refine below_step ?_ (by assumption) ?_ | omega | (simp only [zz] at *; omega)))))
    | (go_at_call 77; refine (HCT.out _ (hA.ext (by (repeat (first | exact Below.refl _ _ | assumption | refine below_drewN ?_ _ | refine below_drew ?_ | refine below_gr ?_ ?_ _ | refine below_alloc ?_ ?_ _ | refine Below.setCell ?_ ?_ _ | refine below_step ?_ (by assumption) ?_ | omega | (simp only [zz] at *; omega)))))).mono ?_; rintro e w2 ⟨AR, cR2, rfl, hb2, hR2⟩; replace hb2 := hb2.below; have hz2 := hb2.size; (try simp only [zz] at hz2); have hs2 : w.heap.size < w2.heap.size := (by (first | omega | (simp only [zz] at *; omega))); have ho2 := own_cell hb2 (b := w.heap.size) (by (first | omega | (simp only [zz] at *; omega))); have hq2 := own_frozen hb2 (b := w.heap.size) (by (first | omega | (simp only [zz] at *; omega))); have hlt2 : ∀ b, b < w.heap.size → b < w2.heap.size := fun b hb => (by (first | omega | (simp only [zz] at *; omega))); have hc2 : ∀ b o, b < w.heap.size → w2.cell? ⟨b, o, none⟩ = w.cell? ⟨b, o, none⟩ := old_cell (by (repeat (first | exact Below.refl _ _ | assumption | refine below_drewN ?_ _ | refine below_drew ?_ | refine below_gr ?_ ?_ _ | refine below_alloc ?_ ?_ _ | refine Below.setCell ?_ ?_ _ | refine below_step ?_ (by assumption) ?_ | omega | (simp only [zz] at *; omega)))); obtain ⟨qb, qo, rfl, hqb, P2, d2, hcQ, hIQ⟩ := HGET.out _ _ hR2; obtain ⟨rb, ro, rfl, hrb, hcR⟩ := i64_get hIQ HV0.out; rw [Nat.add_zero] at hcR))

    go_ret2
    exact gives_of (rfl) (by (repeat (first | exact Below.refl _ _ | assumption | refine below_drewN ?_ _ | refine below_drew ?_ | refine below_gr ?_ ?_ _ | refine below_alloc ?_ ?_ _ | refine Below.setCell ?_ ?_ _ | refine below_step ?_ (by assumption) ?_ | omega | (simp only [zz] at *; omega))))
  · by_cases x2 : 1099511627776 < index
    · clear hx
      go_enter Try.func33, Try.ntmps33
      go_wp2_with (first
    | (go_at_call 76; refine (rLong_any (Wn' : Nat) A ts c _ (hA.ext (by (repeat (first | exact Below.refl _ _ | assumption | refine below_drewN ?_ _ | refine below_drew ?_ | refine below_gr ?_ ?_ _ | refine below_alloc ?_ ?_ _ | refine Below.setCell ?_ ?_ _ | refine below_step ?_ (by assumption) ?_ | omega | (simp only [zz] at *; omega))))) hl hsz (lg : Nat)).mono ?_; rintro e w1 ⟨rfl, hb1⟩; replace hb1 := ex_below hb1; have hz1 := hb1.size; (try simp only [zz] at hz1); have hs1 : w.heap.size < w1.heap.size := (by (first | omega | (simp only [zz] at *; omega))); have ho1 := own_cell hb1 (b := w.heap.size) (by (first | omega | (simp only [zz] at *; omega))); have hq1 := own_frozen hb1 (b := w.heap.size) (by (first | omega | (simp only [zz] at *; omega))); have hlt1 : ∀ b, b < w.heap.size → b < w1.heap.size := fun b hb => (by (first | omega | (simp only [zz] at *; omega))); have hc1 : ∀ b o, b < w.heap.size → w1.cell? ⟨b, o, none⟩ = w.cell? ⟨b, o, none⟩ := old_cell (by (repeat (first | exact Below.refl _ _ | assumption | refine below_drewN ?_ _ | refine below_drew ?_ | refine below_gr ?_ ?_ _ | refine below_alloc ?_ ?_ _ | refine Below.setCell ?_ ?_ _ | refine below_step ?_ (by assumption) ?_ | omega | (simp only [zz] at *; omega)))))
    | (go_at_call 77; refine (HCT.out _ (hA.ext (by (repeat (first | exact Below.refl _ _ | assumption | refine below_drewN ?_ _ | refine below_drew ?_ | refine below_gr ?_ ?_ _ | refine below_alloc ?_ ?_ _ | refine Below.setCell ?_ ?_ _ | refine below_step ?_ (by assumption) ?_ | omega | (simp only [zz] at *; omega)))))).mono ?_; rintro e w2 ⟨AR, cR2, rfl, hb2, hR2⟩; replace hb2 := hb2.below; have hz2 := hb2.size; (try simp only [zz] at hz2); have hs2 : w.heap.size < w2.heap.size := (by (first | omega | (simp only [zz] at *; omega))); have ho2 := own_cell hb2 (b := w.heap.size) (by (first | omega | (simp only [zz] at *; omega))); have hq2 := own_frozen hb2 (b := w.heap.size) (by (first | omega | (simp only [zz] at *; omega))); have hlt2 : ∀ b, b < w.heap.size → b < w2.heap.size := fun b hb => (by (first | omega | (simp only [zz] at *; omega))); have hc2 : ∀ b o, b < w.heap.size → w2.cell? ⟨b, o, none⟩ = w.cell? ⟨b, o, none⟩ := old_cell (by (repeat (first | exact Below.refl _ _ | assumption | refine below_drewN ?_ _ | refine below_drew ?_ | refine below_gr ?_ ?_ _ | refine below_alloc ?_ ?_ _ | refine Below.setCell ?_ ?_ _ | refine below_step ?_ (by assumption) ?_ | omega | (simp only [zz] at *; omega)))); obtain ⟨qb, qo, rfl, hqb, P2, d2, hcQ, hIQ⟩ := HGET.out _ _ hR2; obtain ⟨rb, ro, rfl, hrb, hcR⟩ := i64_get hIQ HV0.out; rw [Nat.add_zero] at hcR))

      go_ret2
      exact gives_of (rfl) (by (repeat (first | exact Below.refl _ _ | assumption | refine below_drewN ?_ _ | refine below_drew ?_ | refine below_gr ?_ ?_ _ | refine below_alloc ?_ ?_ _ | refine Below.setCell ?_ ?_ _ | refine below_step ?_ (by assumption) ?_ | omega | (simp only [zz] at *; omega))))
    · have x3 : ((C : Nat) : Int) ≤ index := by omega
      clear hx
      go_enter Try.func33, Try.ntmps33
      go_wp2_with (first
    | (go_at_call 76; refine (rLong_any (Wn' : Nat) A ts c _ (hA.ext (by (repeat (first | exact Below.refl _ _ | assumption | refine below_drewN ?_ _ | refine below_drew ?_ | refine below_gr ?_ ?_ _ | refine below_alloc ?_ ?_ _ | refine Below.setCell ?_ ?_ _ | refine below_step ?_ (by assumption) ?_ | omega | (simp only [zz] at *; omega))))) hl hsz (lg : Nat)).mono ?_; rintro e w1 ⟨rfl, hb1⟩; replace hb1 := ex_below hb1; have hz1 := hb1.size; (try simp only [zz] at hz1); have hs1 : w.heap.size < w1.heap.size := (by (first | omega | (simp only [zz] at *; omega))); have ho1 := own_cell hb1 (b := w.heap.size) (by (first | omega | (simp only [zz] at *; omega))); have hq1 := own_frozen hb1 (b := w.heap.size) (by (first | omega | (simp only [zz] at *; omega))); have hlt1 : ∀ b, b < w.heap.size → b < w1.heap.size := fun b hb => (by (first | omega | (simp only [zz] at *; omega))); have hc1 : ∀ b o, b < w.heap.size → w1.cell? ⟨b, o, none⟩ = w.cell? ⟨b, o, none⟩ := old_cell (by (repeat (first | exact Below.refl _ _ | assumption | refine below_drewN ?_ _ | refine below_drew ?_ | refine below_gr ?_ ?_ _ | refine below_alloc ?_ ?_ _ | refine Below.setCell ?_ ?_ _ | refine below_step ?_ (by assumption) ?_ | omega | (simp only [zz] at *; omega)))))
    | (go_at_call 77; refine (HCT.out _ (hA.ext (by (repeat (first | exact Below.refl _ _ | assumption | refine below_drewN ?_ _ | refine below_drew ?_ | refine below_gr ?_ ?_ _ | refine below_alloc ?_ ?_ _ | refine Below.setCell ?_ ?_ _ | refine below_step ?_ (by assumption) ?_ | omega | (simp only [zz] at *; omega)))))).mono ?_; rintro e w2 ⟨AR, cR2, rfl, hb2, hR2⟩; replace hb2 := hb2.below; have hz2 := hb2.size; (try simp only [zz] at hz2); have hs2 : w.heap.size < w2.heap.size := (by (first | omega | (simp only [zz] at *; omega))); have ho2 := own_cell hb2 (b := w.heap.size) (by (first | omega | (simp only [zz] at *; omega))); have hq2 := own_frozen hb2 (b := w.heap.size) (by (first | omega | (simp only [zz] at *; omega))); have hlt2 : ∀ b, b < w.heap.size → b < w2.heap.size := fun b hb => (by (first | omega | (simp only [zz] at *; omega))); have hc2 : ∀ b o, b < w.heap.size → w2.cell? ⟨b, o, none⟩ = w.cell? ⟨b, o, none⟩ := old_cell (by (repeat (first | exact Below.refl _ _ | assumption | refine below_drewN ?_ _ | refine below_drew ?_ | refine below_gr ?_ ?_ _ | refine below_alloc ?_ ?_ _ | refine Below.setCell ?_ ?_ _ | refine below_step ?_ (by assumption) ?_ | omega | (simp only [zz] at *; omega)))); obtain ⟨qb, qo, rfl, hqb, P2, d2, hcQ, hIQ⟩ := HGET.out _ _ hR2; obtain ⟨rb, ro, rfl, hrb, hcR⟩ := i64_get hIQ HV0.out; rw [Nat.add_zero] at hcR))

      go_ret2
      exact gives_of (rfl) (by (repeat (first | exact Below.refl _ _ | assumption | refine below_drewN ?_ _ | refine below_drew ?_ | refine below_gr ?_ ?_ _ | refine below_alloc ?_ ?_ _ | refine Below.setCell ?_ ?_ _ | refine below_step ?_ (by assumption) ?_ | omega | (simp only [zz] at *; omega))))
set_option maxRecDepth 100000 in
set_option maxHeartbeats 8000000 in
theorem rNight_ok (Wn : Nat) (A : Option Addr) (ts : List ByteArray) (c : Nat) (w : World) (hA : Strs w A ts) (hl : ts.length ≤ 1000) (hsz : ∀ k, (h : k < ts.length) → ts[k].size ≤ 1000000) (lg : Nat) (h0 : openE (Wn : Nat) ts (lg : Nat) = 0) (index : Nat) (hx : index < Tm.cntC Wn lg (lts ts)) (hx2 : index ≤ 1099511627776) : Calls Try.prog 33 #[.agg #[.int .i64 (Wn : Nat), .slice A ts.length c], .int .i64 (lg : Nat), .int .i64 (index : Nat)] w (Gives w (.tuple #[.string (unlt (Tm.nightA Wn lg (lts ts) index)), .int .i64 0])) := by
  obtain ⟨Wn', hWn, hlg, hW5, hW1, h3, hts1, hf, hs⟩ := countE_val h0
  obtain rfl : Wn' = Wn := by omega
  clear hWn
  obtain ⟨i0, ih, iz, is, ib⟩ := info_parts infoI
  have h1 : (openE (Wn' : Nat) ts (lg : Nat) != 0) = false := by simp [h0]
  have HCT := hide (fun w' (h : Strs w' A ts) => rCounts_any Wn' A ts c w' h hW5 h3 hf hs lg hlg)
  have HGET := hide (fun w' AR (h : RowsA w' AR (cRs Wn' (lts ts) (lg + 1))) => rowsA_get h (show (cRs Wn' (lts ts) (lg + 1))[lg]? = some (cR Wn' (lts ts) lg) by simp [cRs]) (cR_len Wn' (lts ts) lg))
  have HGETL := hide (fun l (hl : l < lg + 1) w' AR (h : RowsA w' AR (cRs Wn' (lts ts) (lg + 1))) => rowsA_get h (show (cRs Wn' (lts ts) (lg + 1))[l]? = some (cR Wn' (lts ts) l) by simp [cRs, hl]) (cR_len Wn' (lts ts) l))
  have HV0 := hide (show (cR Wn' (lts ts) lg)[0]? = some ((Tm.cntC Wn' lg (lts ts) : Nat) : Int) by rw [← cV_first]; exact cR_at _ _ _ _ (Tm.prod_pos _))
  have HCA := hide (fun n k h => cR_at Wn' (lts ts) n k h)
  have HCV := hide (fun n p (hp : Tm.IsPl (lts ts) p) (x : Int) => (show cV Wn' (lts ts) n (Tm.idxP (lts ts) (Tm.nextP (lts ts) p x) 0) = Tm.cntC Wn' n (Tm.behs x (Tm.remP (lts ts) p)) by unfold cV; rw [Tm.place_idx (Tm.next_is hp x), Tm.rem_next]))
  have HIL := hide (fun p (hp : Tm.IsPl (lts ts) p) (x : Int) => (Tm.idx_lin (Tm.next_is hp x) 0).2)
  have HCM := hide (fun n k => (show cV Wn' (lts ts) n k ≤ 1099511627777 from cntC_most _ _ _))
  have hmost := cntC_most Wn' lg (lts ts)
  have HRL := hide (cRs_len Wn' (lts ts) (lg + 1))
  have hpp := Tm.prod_pos (lts ts)
  have HREM := hide (Tm.rem_zero (lts ts))
  have HZ := hide (Tm.zero_is (lts ts))
  have hmk := make_zeros ts.length 32 3 i0 (.int .i64 0) und32 ih iz is (by rw [ib]; decide) rfl (by omega)
  have HZP : Hid (∃ z, Tm.zeroP (lts ts) = z ∧ z.length = ts.length ∧ natI z = List.replicate ts.length 0) := hide ⟨_, rfl, by simp [Tm.zeroP, lts], by
    unfold Tm.zeroP natI lts
    rw [List.map_map, List.map_map]
    apply List.ext_getElem
    · simp
    · intro k h1 h2; simp⟩
  obtain ⟨T, hT⟩ : ∃ T, Tm.nightA Wn' lg (lts ts) index = T := ⟨_, rfl⟩
  have HT := hide hT
  rw [hT]
  clear hT
  have HID := hide hx
  generalize hrs : cRs Wn' (lts ts) (lg + 1) = rs at *
  generalize Tm.prodP (lts ts) = M at *
  generalize hcr : cR Wn' (lts ts) = cr at *
  generalize hcv : cV Wn' (lts ts) = cv at *
  have hli : (lg : Int) < (rs.length : Nat) := by rw [HRL.out]; omega
  have hl0 : (0 : Int) ≤ (lg : Int) := by omega
  have hpi : (0 : Int) < (M : Nat) := by omega
  have hx3 : ¬ ((Tm.cntC Wn' lg (lts ts) : Nat) : Int) ≤ (index : Nat) := by omega
  have hx4 : ¬ (1099511627776 : Int) < (index : Nat) := by omega
  have hx5 : ¬ (index : Int) < 0 := by omega
  generalize hC : Tm.cntC Wn' lg (lts ts) = C at *
  have hd1 : decide ((index : Int) < 0) = false := decide_eq_false (by omega)
  have hd2 : decide ((1099511627776 : Int) < (index : Nat)) = false := decide_eq_false (by omega)
  have hd3 : decide (C ≤ index) = false := decide_eq_false (by omega)
  replace h0 := hide h0
  clear hrs hcr hcv hx
  have HC := hide hC
  clear hC
  go_enter Try.func33, Try.ntmps33
  go_wp2_with (first
    | (go_at_call 76; refine (rLong_any (Wn' : Nat) A ts c _ (hA.ext (by (repeat (first | exact Below.refl _ _ | assumption | refine below_drewN ?_ _ | refine below_drew ?_ | refine below_gr ?_ ?_ _ | refine below_alloc ?_ ?_ _ | refine Below.setCell ?_ ?_ _ | refine below_step ?_ (by assumption) ?_ | omega | (simp only [zz] at *; omega))))) hl hsz (lg : Nat)).mono ?_; rintro e w1 ⟨rfl, hb1⟩; replace hb1 := ex_below hb1; have hz1 := hb1.size; (try simp only [zz] at hz1); have hs1 : w.heap.size < w1.heap.size := (by (first | omega | (simp only [zz] at *; omega))); have ho1 := own_cell hb1 (b := w.heap.size) (by (first | omega | (simp only [zz] at *; omega))); have hq1 := own_frozen hb1 (b := w.heap.size) (by (first | omega | (simp only [zz] at *; omega))); have hlt1 : ∀ b, b < w.heap.size → b < w1.heap.size := fun b hb => (by (first | omega | (simp only [zz] at *; omega))); have hc1 : ∀ b o, b < w.heap.size → w1.cell? ⟨b, o, none⟩ = w.cell? ⟨b, o, none⟩ := old_cell (by (repeat (first | exact Below.refl _ _ | assumption | refine below_drewN ?_ _ | refine below_drew ?_ | refine below_gr ?_ ?_ _ | refine below_alloc ?_ ?_ _ | refine Below.setCell ?_ ?_ _ | refine below_step ?_ (by assumption) ?_ | omega | (simp only [zz] at *; omega)))))
    | (go_at_call 77; refine (HCT.out _ (hA.ext (by (repeat (first | exact Below.refl _ _ | assumption | refine below_drewN ?_ _ | refine below_drew ?_ | refine below_gr ?_ ?_ _ | refine below_alloc ?_ ?_ _ | refine Below.setCell ?_ ?_ _ | refine below_step ?_ (by assumption) ?_ | omega | (simp only [zz] at *; omega)))))).mono ?_; rintro e w2 ⟨AR, cR2, rfl, hb2, hR2⟩; replace hb2 := hb2.below; have hz2 := hb2.size; (try simp only [zz] at hz2); have hs2 : w.heap.size < w2.heap.size := (by (first | omega | (simp only [zz] at *; omega))); have ho2 := own_cell hb2 (b := w.heap.size) (by (first | omega | (simp only [zz] at *; omega))); have hq2 := own_frozen hb2 (b := w.heap.size) (by (first | omega | (simp only [zz] at *; omega))); have hlt2 : ∀ b, b < w.heap.size → b < w2.heap.size := fun b hb => (by (first | omega | (simp only [zz] at *; omega))); have hc2 : ∀ b o, b < w.heap.size → w2.cell? ⟨b, o, none⟩ = w.cell? ⟨b, o, none⟩ := old_cell (by (repeat (first | exact Below.refl _ _ | assumption | refine below_drewN ?_ _ | refine below_drew ?_ | refine below_gr ?_ ?_ _ | refine below_alloc ?_ ?_ _ | refine Below.setCell ?_ ?_ _ | refine below_step ?_ (by assumption) ?_ | omega | (simp only [zz] at *; omega)))); obtain ⟨qb, qo, rfl, hqb, P2, d2, hcQ, hIQ⟩ := HGET.out _ _ hR2; obtain ⟨rb, ro, rfl, hrb, hcR⟩ := i64_get hIQ HV0.out; rw [Nat.add_zero] at hcR))

  have hb2w : Below w.heap.size w w2 := by (repeat (first | exact Below.refl _ _ | assumption | (refine below_gr ?_ (by (first | omega | (simp only [zz] at *; omega))) _) | (refine below_alloc ?_ (by (first | omega | (simp only [zz] at *; omega))) _) | (refine Below.setCell ?_ (by (first | omega | (simp only [zz] at *; omega))) _) | refine below_drewN ?_ _ | refine below_drew ?_ | (refine below_step ?_ (by assumption) (by (first | omega | (simp only [zz] at *; omega))))))
  have y1 : w2.cell? ⟨w.heap.size, 1, none⟩ = some (.slice A ts.length c) := by rw [ho2]; simp [go_sem, *]
  clear ho2 hq2 hlt2 hc2 hIQ hcR hcQ hrb
  have hbA : Below w2.heap.size w2 (w2.alloc (.cells (Array.replicate ts.length (.int .i64 0)) 3)) := below_alloc (Below.refl _ _) (Nat.le_refl _) _
  have hI0 : I64 (w2.alloc (.cells (Array.replicate ts.length (.int .i64 0)) 3)) (some ⟨w2.heap.size, 0, none⟩) (natI (Tm.zeroP (lts ts))) := by
    obtain ⟨z, hz, _, hzi⟩ := HZP.out
    rw [hz, hzi]
    have h := heap_alloc_new w2 (.cells (Array.replicate ts.length (.int .i64 0)) 3)
    exact i64_block (t := 3) (by simpa using h)
  have HZL : Hid ((Tm.zeroP (lts ts)).length = ts.length) := hide (by obtain ⟨z, hz, hl, _⟩ := HZP.out; rw [hz, hl])
  go_loopw [2, 9, 10, 11] (fun ix ou av nv wr => ∃ (pre : List Int) (p : List Nat) (l idx : Nat) (kz : Int) (Pa : Option Addr) (da : Nat), ix = .int .i64 (idx : Nat) ∧ ou = .string (unlt pre) ∧ av = .slice Pa p.length da ∧ I64 wr Pa (natI p) ∧ nv = .int .i64 kz ∧ kz + 1 = (l : Nat) ∧ Tm.IsPl (lts ts) p ∧ l + pre.length = lg ∧ Hid (idx < Tm.cntC Wn' l (Tm.remP (lts ts) p)) ∧ Hid (pre ++ Tm.nightA Wn' l (Tm.remP (lts ts) p) idx = T) ∧ Below w2.heap.size w2 wr) (fun _ _ _ nv _ => (intOf nv + 1).toNat)
  case atStart =>
    refine ⟨[], Tm.zeroP (lts ts), lg, index, (lg : Int) - 1, _, _, rfl, rfl, by rw [HZL.out], hI0, rfl, by omega, HZ.out, rfl, hide (by rw [HREM.out, HC.out]; exact HID.out), hide (by rw [HREM.out]; exact HT.out), hbA⟩
  case round =>
    clear hbA hI0
    obtain ⟨pre, p, l, idx, kz, Pa, da, rfl, rfl, rfl, hIP, rfl, hkz, hp, hll, HIX0, HPRE, hb⟩ := hrel
    obtain ⟨wo, rfl⟩ : ∃ wo : World, wo = wr := ⟨_, rfl⟩
    have hzo := hb.size
    by_cases hlt : 0 ≤ kz
    · obtain ⟨l', rfl⟩ : ∃ l' : Nat, kz = (l' : Nat) := ⟨kz.toNat, by omega⟩
      obtain rfl : l = l' + 1 := by omega
      have hl20 : l' < lg + 1 := by omega
      have hl'i : (l' : Int) < (rs.length : Nat) := by rw [HRL.out]; omega
      have hl'0 : (0 : Int) ≤ (l' : Int) := by omega
      have hr0 : idx < restC (fun c => Tm.cntC Wn' l' (Tm.behs ((c : Nat) : Int) (Tm.remP (lts ts) p))) Wn' 0 := by
        have h := HIX0.out
        rw [restC_zero]; rw [cntC_psum] at h; omega
      have HG0 := hide (show Tm.nightA Wn' (l' + 1) (Tm.remP (lts ts) p) idx = Tm.nightA.goA (fun c => Tm.cntC Wn' l' (Tm.behs ((c : Nat) : Int) (Tm.remP (lts ts) p))) (fun c j => Tm.nightA Wn' l' (Tm.behs ((c : Nat) : Int) (Tm.remP (lts ts) p)) j) 0 Wn' idx from rfl)
      have HCVp := hide (fun (x : Nat) => HCV.out l' p hp (x : Int))
      have HNI : Hid (∀ c : Nat, Tm.IsPl (lts ts) (Tm.nextP (lts ts) p (c : Nat)) ∧ Tm.remP (lts ts) (Tm.nextP (lts ts) p (c : Nat)) = Tm.behs ((c : Nat) : Int) (Tm.remP (lts ts) p)) := hide (fun c => ⟨Tm.next_is hp _, Tm.rem_next _ _ _⟩)
      generalize hf0 : (fun c : Nat => Tm.cntC Wn' l' (Tm.behs ((c : Nat) : Int) (Tm.remP (lts ts) p))) = f at *
      generalize hgf0 : (fun (c : Nat) (j : Nat) => Tm.nightA Wn' l' (Tm.behs ((c : Nat) : Int) (Tm.remP (lts ts) p)) j) = gf at *
      have HF := hide hf0
      have HGF := hide hgf0
      have HFS := hide (fun c (h : c < Wn') => restC_step f Wn' c h)
      have HFE := hide (restC_end f Wn')
      have HFB : Hid (∀ cn, restC f Wn' cn ≤ 5497558138885) := hide (fun cn => by
        have hfall : ∀ e, f e ≤ 1099511627777 := fun e => by rw [← hf0]; exact cntC_most _ _ _
        have h5 := sum_le (List.range (Wn' - cn)) (fun e => f (cn + e)) 1099511627777 (fun e => hfall _)
        have h6 : restC f Wn' cn ≤ (Wn' - cn) * 1099511627777 := by simpa [restC] using h5
        have h7 : (Wn' - cn) * 1099511627777 ≤ 5 * 1099511627777 := Nat.mul_le_mul_right _ (by omega)
        omega)
      clear hf0 hgf0 HIX0
      obtain ⟨qb2, qo2, hqe, hqb2, P3, d3, hcQ, hIQ⟩ := HGETL.out l' hl20 wo _ (hR2.ext hb)
      injection hqe with hqe
      injection hqe with e1 e2 e3
      subst e1 e2
      go_wp2
      go_loopw [2, 12] (fun ix cv wr => ∃ (cn id : Nat), cn ≤ Wn' ∧ cv = .int .i64 (cn : Nat) ∧ ix = .int .i64 (id : Nat) ∧ Hid (id < restC f Wn' cn) ∧ Hid (Tm.nightA.goA f gf cn (Wn' - cn) id = Tm.nightA Wn' (l' + 1) (Tm.remP (lts ts) p) idx) ∧ Below wo.heap.size wo wr) (fun _ cv _ => Wn' - (intOf cv).toNat)
      case atStart => exact ⟨0, idx, Nat.zero_le _, rfl, rfl, hide hr0, hide HG0.out.symm, Below.refl _ _⟩
      case round =>
        obtain ⟨cn, id, hcn, rfl, rfl, HID2, HGO, hb3⟩ := hrel
        have hcl : cn < Wn' := by
          rcases Nat.lt_or_ge cn Wn' with h | h
          · exact h
          · have h1 := HID2.out
            rw [show cn = Wn' by omega, HFE.out] at h1
            omega
        have hz3 := hb3.size
        have hbr : Below w2.heap.size w2 wr := hb.trans (hb3.mono hzo)
        have hbw : Below w.heap.size w wr := hb2w.trans (hbr.mono hb2w.size)
        have hgs := goA_step f gf cn (Wn' - (cn + 1)) id
        rw [show Wn' - (cn + 1) + 1 = Wn' - cn by omega, HGO.out] at hgs
        have HGS := hide hgs
        have HRS := hide (HFS.out cn hcl)
        clear hgs
        have HNX := hide (fun w' (hA : Strs w' A ts) (hI : I64 w' Pa (natI p)) => next_m A ts c Pa p da (cn : Int) w' hA hI h3 hp hf)
        have hn2 := HIL.out p hp (cn : Int)
        have hq := Tm.next_is hp (cn : Int)
        have HVX : Hid (cv l' (Tm.idxP (lts ts) (Tm.nextP (lts ts) p (cn : Int)) 0) = f cn) := hide (by rw [HCVp.out cn, ← HF.out])
        have HNIc := hide (HNI.out cn)
        generalize Tm.nextP (lts ts) p (cn : Int) = q at *
        have HIX := hide (fun w' (hA : Strs w' A ts) A2 c2 (hI : I64 w' A2 (natI q)) => rindex_any A ts c A2 q c2 w' hA hI h3 hq hs)
        generalize Tm.idxP (lts ts) q 0 = n at *
        obtain ⟨rb, ro, rfl, hrb, hcR⟩ := i64_get (hIQ.ext hb3) (HCA.out l' n hn2)
        have hcQ2 := (hb3.cell (p := ⟨qb, qo + l', none⟩) hqb2).trans hcQ
        have hqb3 : qb < wr.heap.size := by omega
        have hcb := HCM.out l' n
        have hIPr := hIP.ext hb3
        have z1 := (hbr.cell (p := ⟨w.heap.size, 1, none⟩) (by show w.heap.size < _; omega)).trans y1
        generalize cv l' n = x at *
        have hni : (n : Int) < (M : Nat) := by omega
        have hn0 : (0 : Int) ≤ (n : Int) := by omega
        have hidb : id ≤ 5497558138885 := by have := HID2.out; have := HFB.out cn; omega
        replace hIP := hIPr
        clear hIPr
        have hW5i : (cn : Int) < 5 := by omega
        by_cases hge : x ≤ id
        · have hgi : (x : Int) ≤ (id : Nat) := by omega
          have hgd : decide (x ≤ id) = true := decide_eq_true hge
          have hwr1 : IntKind.i64.wrap ((id : Int) - (x : Nat)) = (id : Int) - (x : Nat) := IntWalk.i64_in _ (by omega)
          have HGO2 : Hid (Tm.nightA.goA f gf (cn + 1) (Wn' - (cn + 1)) (id - x) = Tm.nightA Wn' (l' + 1) (Tm.remP (lts ts) p) idx) := hide (by rw [HGS.out, if_neg (by rw [← HVX.out]; omega), HVX.out])
          have HID3 : Hid (id - x < restC f Wn' (cn + 1)) := hide (by have h1 := HID2.out; rw [HRS.out, ← HVX.out] at h1; omega)
          go_wp2
          go_region_held3 (fun w' => w'.cell? ⟨w.heap.size, 1, none⟩ = some (.slice A ts.length c) ∧ w'.cell? ⟨qb, qo + l', none⟩ = some (.slice (some ⟨rb, ro, none⟩) M d3) ∧ w'.cell? ⟨rb, ro + n, none⟩ = some (.int .i64 (x : Nat))) (go_keep) (first | (go_at_call 73; refine (HNX.out _ (hA.ext (by (repeat (first | exact Below.refl _ _ | assumption | refine below_drewN ?_ _ | refine below_drew ?_ | refine below_gr ?_ ?_ _ | refine below_alloc ?_ ?_ _ | refine Below.setCell ?_ ?_ _ | refine below_step ?_ (by assumption) ?_ | omega | (simp only [zz] at *; omega))))) (hIP.ext (by (repeat (first | exact Below.refl _ _ | assumption | refine below_drewN ?_ _ | refine below_drew ?_ | refine below_gr ?_ ?_ _ | refine below_alloc ?_ ?_ _ | refine Below.setCell ?_ ?_ _ | refine below_step ?_ (by assumption) ?_ | omega | (simp only [zz] at *; omega)))))).mono ?_; rintro e w8 ⟨A2, c2, rfl, hb8, hI2⟩; have hz8 := hb8.size; (try simp only [zz] at hz8); have hs8 : w.heap.size < w8.heap.size := (by (first | omega | (simp only [zz] at *; omega))); have ho8 := own_cell hb8 (b := w.heap.size) (by (first | omega | (simp only [zz] at *; omega))); have hq8 := own_frozen hb8 (b := w.heap.size) (by (first | omega | (simp only [zz] at *; omega))); have hs8 : qb < w8.heap.size := (by (first | omega | (simp only [zz] at *; omega))); have ho8 := own_cell hb8 (b := qb) (by (first | omega | (simp only [zz] at *; omega))); have hq8 := own_frozen hb8 (b := qb) (by (first | omega | (simp only [zz] at *; omega))); have hs8 : rb < w8.heap.size := (by (first | omega | (simp only [zz] at *; omega))); have ho8 := own_cell hb8 (b := rb) (by (first | omega | (simp only [zz] at *; omega))); have hq8 := own_frozen hb8 (b := rb) (by (first | omega | (simp only [zz] at *; omega))); have hlt8 : ∀ b, b < wr.heap.size → b < w8.heap.size := fun b hb => (by (first | omega | (simp only [zz] at *; omega))); have hc8 : ∀ b o, b < wr.heap.size → w8.cell? ⟨b, o, none⟩ = wr.cell? ⟨b, o, none⟩ := old_cell (by (repeat (first | exact Below.refl _ _ | assumption | refine below_drewN ?_ _ | refine below_drew ?_ | refine below_gr ?_ ?_ _ | refine below_alloc ?_ ?_ _ | refine Below.setCell ?_ ?_ _ | refine below_step ?_ (by assumption) ?_ | omega | (simp only [zz] at *; omega))))) | (go_at_call 72; refine (HIX.out _ (hA.ext (by (repeat (first | exact Below.refl _ _ | assumption | refine below_drewN ?_ _ | refine below_drew ?_ | refine below_gr ?_ ?_ _ | refine below_alloc ?_ ?_ _ | refine Below.setCell ?_ ?_ _ | refine below_step ?_ (by assumption) ?_ | omega | (simp only [zz] at *; omega))))) _ _ hI2).mono ?_; rintro e w9 ⟨rfl, hb9⟩; replace hb9 := ex_below hb9; have hz9 := hb9.size; (try simp only [zz] at hz9); have hs9 : w.heap.size < w9.heap.size := (by (first | omega | (simp only [zz] at *; omega))); have ho9 := own_cell hb9 (b := w.heap.size) (by (first | omega | (simp only [zz] at *; omega))); have hq9 := own_frozen hb9 (b := w.heap.size) (by (first | omega | (simp only [zz] at *; omega))); have hs9 : qb < w9.heap.size := (by (first | omega | (simp only [zz] at *; omega))); have ho9 := own_cell hb9 (b := qb) (by (first | omega | (simp only [zz] at *; omega))); have hq9 := own_frozen hb9 (b := qb) (by (first | omega | (simp only [zz] at *; omega))); have hs9 : rb < w9.heap.size := (by (first | omega | (simp only [zz] at *; omega))); have ho9 := own_cell hb9 (b := rb) (by (first | omega | (simp only [zz] at *; omega))); have hq9 := own_frozen hb9 (b := rb) (by (first | omega | (simp only [zz] at *; omega))); have hlt9 : ∀ b, b < wr.heap.size → b < w9.heap.size := fun b hb => (by (first | omega | (simp only [zz] at *; omega))); have hc9 : ∀ b o, b < wr.heap.size → w9.cell? ⟨b, o, none⟩ = wr.cell? ⟨b, o, none⟩ := old_cell (by (repeat (first | exact Below.refl _ _ | assumption | refine below_drewN ?_ _ | refine below_drew ?_ | refine below_gr ?_ ?_ _ | refine below_alloc ?_ ?_ _ | refine Below.setCell ?_ ?_ _ | refine below_step ?_ (by assumption) ?_ | omega | (simp only [zz] at *; omega))))))
          have hb9r : Below wr.heap.size wr w9 := by (repeat (first | exact Below.refl _ _ | assumption | (refine below_gr ?_ (by (first | omega | (simp only [zz] at *; omega))) _) | (refine below_alloc ?_ (by (first | omega | (simp only [zz] at *; omega))) _) | (refine Below.setCell ?_ (by (first | omega | (simp only [zz] at *; omega))) _) | refine below_drewN ?_ _ | refine below_drew ?_ | (refine below_step ?_ (by assumption) (by (first | omega | (simp only [zz] at *; omega))))))
          have hb9w : Below w.heap.size w w9 := by (repeat (first | exact Below.refl _ _ | assumption | (refine below_gr ?_ (by (first | omega | (simp only [zz] at *; omega))) _) | (refine below_alloc ?_ (by (first | omega | (simp only [zz] at *; omega))) _) | (refine Below.setCell ?_ (by (first | omega | (simp only [zz] at *; omega))) _) | refine below_drewN ?_ _ | refine below_drew ?_ | (refine below_step ?_ (by assumption) (by (first | omega | (simp only [zz] at *; omega))))))
          have hI9 := hIP.ext hb9r
          clear hb8 hb9 hI2
          go_wp2
          go_region_held3 (fun w' => w'.cell? ⟨w.heap.size, 1, none⟩ = some (.slice A ts.length c) ∧ w'.cell? ⟨qb, qo + l', none⟩ = some (.slice (some ⟨rb, ro, none⟩) M d3) ∧ w'.cell? ⟨rb, ro + n, none⟩ = some (.int .i64 (x : Nat))) (go_keep) (first | (go_at_call 73; refine (HNX.out _ (hA.ext (by (repeat (first | exact Below.refl _ _ | assumption | refine below_drewN ?_ _ | refine below_drew ?_ | refine below_gr ?_ ?_ _ | refine below_alloc ?_ ?_ _ | refine Below.setCell ?_ ?_ _ | refine below_step ?_ (by assumption) ?_ | omega | (simp only [zz] at *; omega))))) (hI9.ext (by (repeat (first | exact Below.refl _ _ | assumption | refine below_drewN ?_ _ | refine below_drew ?_ | refine below_gr ?_ ?_ _ | refine below_alloc ?_ ?_ _ | refine Below.setCell ?_ ?_ _ | refine below_step ?_ (by assumption) ?_ | omega | (simp only [zz] at *; omega)))))).mono ?_; rintro e w18 ⟨A18, c18, rfl, hb18, hI18⟩; have hz18 := hb18.size; (try simp only [zz] at hz18); have hs18 : w.heap.size < w18.heap.size := (by (first | omega | (simp only [zz] at *; omega))); have ho18 := own_cell hb18 (b := w.heap.size) (by (first | omega | (simp only [zz] at *; omega))); have hq18 := own_frozen hb18 (b := w.heap.size) (by (first | omega | (simp only [zz] at *; omega))); have hs18 : qb < w18.heap.size := (by (first | omega | (simp only [zz] at *; omega))); have ho18 := own_cell hb18 (b := qb) (by (first | omega | (simp only [zz] at *; omega))); have hq18 := own_frozen hb18 (b := qb) (by (first | omega | (simp only [zz] at *; omega))); have hs18 : rb < w18.heap.size := (by (first | omega | (simp only [zz] at *; omega))); have ho18 := own_cell hb18 (b := rb) (by (first | omega | (simp only [zz] at *; omega))); have hq18 := own_frozen hb18 (b := rb) (by (first | omega | (simp only [zz] at *; omega))); have hlt18 : ∀ b, b < w9.heap.size → b < w18.heap.size := fun b hb => (by (first | omega | (simp only [zz] at *; omega))); have hc18 : ∀ b o, b < w9.heap.size → w18.cell? ⟨b, o, none⟩ = w9.cell? ⟨b, o, none⟩ := old_cell (by (repeat (first | exact Below.refl _ _ | assumption | refine below_drewN ?_ _ | refine below_drew ?_ | refine below_gr ?_ ?_ _ | refine below_alloc ?_ ?_ _ | refine Below.setCell ?_ ?_ _ | refine below_step ?_ (by assumption) ?_ | omega | (simp only [zz] at *; omega))))) | (go_at_call 72; refine (HIX.out _ (hA.ext (by (repeat (first | exact Below.refl _ _ | assumption | refine below_drewN ?_ _ | refine below_drew ?_ | refine below_gr ?_ ?_ _ | refine below_alloc ?_ ?_ _ | refine Below.setCell ?_ ?_ _ | refine below_step ?_ (by assumption) ?_ | omega | (simp only [zz] at *; omega))))) _ _ hI18).mono ?_; rintro e w19 ⟨rfl, hb19⟩; replace hb19 := ex_below hb19; have hz19 := hb19.size; (try simp only [zz] at hz19); have hs19 : w.heap.size < w19.heap.size := (by (first | omega | (simp only [zz] at *; omega))); have ho19 := own_cell hb19 (b := w.heap.size) (by (first | omega | (simp only [zz] at *; omega))); have hq19 := own_frozen hb19 (b := w.heap.size) (by (first | omega | (simp only [zz] at *; omega))); have hs19 : qb < w19.heap.size := (by (first | omega | (simp only [zz] at *; omega))); have ho19 := own_cell hb19 (b := qb) (by (first | omega | (simp only [zz] at *; omega))); have hq19 := own_frozen hb19 (b := qb) (by (first | omega | (simp only [zz] at *; omega))); have hs19 : rb < w19.heap.size := (by (first | omega | (simp only [zz] at *; omega))); have ho19 := own_cell hb19 (b := rb) (by (first | omega | (simp only [zz] at *; omega))); have hq19 := own_frozen hb19 (b := rb) (by (first | omega | (simp only [zz] at *; omega))); have hlt19 : ∀ b, b < w9.heap.size → b < w19.heap.size := fun b hb => (by (first | omega | (simp only [zz] at *; omega))); have hc19 : ∀ b o, b < w9.heap.size → w19.cell? ⟨b, o, none⟩ = w9.cell? ⟨b, o, none⟩ := old_cell (by (repeat (first | exact Below.refl _ _ | assumption | refine below_drewN ?_ _ | refine below_drew ?_ | refine below_gr ?_ ?_ _ | refine below_alloc ?_ ?_ _ | refine Below.setCell ?_ ?_ _ | refine below_step ?_ (by assumption) ?_ | omega | (simp only [zz] at *; omega))))))
          go_wp2
          have hb19r : Below wr.heap.size wr w19 := by (repeat (first | exact Below.refl _ _ | assumption | (refine below_gr ?_ (by (first | omega | (simp only [zz] at *; omega))) _) | (refine below_alloc ?_ (by (first | omega | (simp only [zz] at *; omega))) _) | (refine Below.setCell ?_ (by (first | omega | (simp only [zz] at *; omega))) _) | refine below_drewN ?_ _ | refine below_drew ?_ | (refine below_step ?_ (by assumption) (by (first | omega | (simp only [zz] at *; omega))))))
          refine ⟨⟨cn + 1, id - x, by omega, by go_num, ?_, HID3, HGO2, hb3.trans (hb19r.mono hz3)⟩, by simp [intOf]; omega⟩
          exact v_int (by omega)
        · have hgi : ¬ ((x : Int) ≤ (id : Nat)) := by omega
          have hgd : decide (x ≤ id) = false := decide_eq_false hge
          go_wp2
          go_region_held3 (fun w' => w'.cell? ⟨w.heap.size, 1, none⟩ = some (.slice A ts.length c) ∧ w'.cell? ⟨qb, qo + l', none⟩ = some (.slice (some ⟨rb, ro, none⟩) M d3) ∧ w'.cell? ⟨rb, ro + n, none⟩ = some (.int .i64 (x : Nat))) (go_keep) (first | (go_at_call 73; refine (HNX.out _ (hA.ext (by (repeat (first | exact Below.refl _ _ | assumption | refine below_drewN ?_ _ | refine below_drew ?_ | refine below_gr ?_ ?_ _ | refine below_alloc ?_ ?_ _ | refine Below.setCell ?_ ?_ _ | refine below_step ?_ (by assumption) ?_ | omega | (simp only [zz] at *; omega))))) (hIP.ext (by (repeat (first | exact Below.refl _ _ | assumption | refine below_drewN ?_ _ | refine below_drew ?_ | refine below_gr ?_ ?_ _ | refine below_alloc ?_ ?_ _ | refine Below.setCell ?_ ?_ _ | refine below_step ?_ (by assumption) ?_ | omega | (simp only [zz] at *; omega)))))).mono ?_; rintro e w8 ⟨A2, c2, rfl, hb8, hI2⟩; have hz8 := hb8.size; (try simp only [zz] at hz8); have hs8 : w.heap.size < w8.heap.size := (by (first | omega | (simp only [zz] at *; omega))); have ho8 := own_cell hb8 (b := w.heap.size) (by (first | omega | (simp only [zz] at *; omega))); have hq8 := own_frozen hb8 (b := w.heap.size) (by (first | omega | (simp only [zz] at *; omega))); have hs8 : qb < w8.heap.size := (by (first | omega | (simp only [zz] at *; omega))); have ho8 := own_cell hb8 (b := qb) (by (first | omega | (simp only [zz] at *; omega))); have hq8 := own_frozen hb8 (b := qb) (by (first | omega | (simp only [zz] at *; omega))); have hs8 : rb < w8.heap.size := (by (first | omega | (simp only [zz] at *; omega))); have ho8 := own_cell hb8 (b := rb) (by (first | omega | (simp only [zz] at *; omega))); have hq8 := own_frozen hb8 (b := rb) (by (first | omega | (simp only [zz] at *; omega))); have hlt8 : ∀ b, b < wr.heap.size → b < w8.heap.size := fun b hb => (by (first | omega | (simp only [zz] at *; omega))); have hc8 : ∀ b o, b < wr.heap.size → w8.cell? ⟨b, o, none⟩ = wr.cell? ⟨b, o, none⟩ := old_cell (by (repeat (first | exact Below.refl _ _ | assumption | refine below_drewN ?_ _ | refine below_drew ?_ | refine below_gr ?_ ?_ _ | refine below_alloc ?_ ?_ _ | refine Below.setCell ?_ ?_ _ | refine below_step ?_ (by assumption) ?_ | omega | (simp only [zz] at *; omega))))) | (go_at_call 72; refine (HIX.out _ (hA.ext (by (repeat (first | exact Below.refl _ _ | assumption | refine below_drewN ?_ _ | refine below_drew ?_ | refine below_gr ?_ ?_ _ | refine below_alloc ?_ ?_ _ | refine Below.setCell ?_ ?_ _ | refine below_step ?_ (by assumption) ?_ | omega | (simp only [zz] at *; omega))))) _ _ hI2).mono ?_; rintro e w9 ⟨rfl, hb9⟩; replace hb9 := ex_below hb9; have hz9 := hb9.size; (try simp only [zz] at hz9); have hs9 : w.heap.size < w9.heap.size := (by (first | omega | (simp only [zz] at *; omega))); have ho9 := own_cell hb9 (b := w.heap.size) (by (first | omega | (simp only [zz] at *; omega))); have hq9 := own_frozen hb9 (b := w.heap.size) (by (first | omega | (simp only [zz] at *; omega))); have hs9 : qb < w9.heap.size := (by (first | omega | (simp only [zz] at *; omega))); have ho9 := own_cell hb9 (b := qb) (by (first | omega | (simp only [zz] at *; omega))); have hq9 := own_frozen hb9 (b := qb) (by (first | omega | (simp only [zz] at *; omega))); have hs9 : rb < w9.heap.size := (by (first | omega | (simp only [zz] at *; omega))); have ho9 := own_cell hb9 (b := rb) (by (first | omega | (simp only [zz] at *; omega))); have hq9 := own_frozen hb9 (b := rb) (by (first | omega | (simp only [zz] at *; omega))); have hlt9 : ∀ b, b < wr.heap.size → b < w9.heap.size := fun b hb => (by (first | omega | (simp only [zz] at *; omega))); have hc9 : ∀ b o, b < wr.heap.size → w9.cell? ⟨b, o, none⟩ = wr.cell? ⟨b, o, none⟩ := old_cell (by (repeat (first | exact Below.refl _ _ | assumption | refine below_drewN ?_ _ | refine below_drew ?_ | refine below_gr ?_ ?_ _ | refine below_alloc ?_ ?_ _ | refine Below.setCell ?_ ?_ _ | refine below_step ?_ (by assumption) ?_ | omega | (simp only [zz] at *; omega))))))
          have hb9r : Below wr.heap.size wr w9 := by (repeat (first | exact Below.refl _ _ | assumption | (refine below_gr ?_ (by (first | omega | (simp only [zz] at *; omega))) _) | (refine below_alloc ?_ (by (first | omega | (simp only [zz] at *; omega))) _) | (refine Below.setCell ?_ (by (first | omega | (simp only [zz] at *; omega))) _) | refine below_drewN ?_ _ | refine below_drew ?_ | (refine below_step ?_ (by assumption) (by (first | omega | (simp only [zz] at *; omega))))))
          have hb9w : Below w.heap.size w w9 := by (repeat (first | exact Below.refl _ _ | assumption | (refine below_gr ?_ (by (first | omega | (simp only [zz] at *; omega))) _) | (refine below_alloc ?_ (by (first | omega | (simp only [zz] at *; omega))) _) | (refine Below.setCell ?_ (by (first | omega | (simp only [zz] at *; omega))) _) | refine below_drewN ?_ _ | refine below_drew ?_ | (refine below_step ?_ (by assumption) (by (first | omega | (simp only [zz] at *; omega))))))
          have hI9 := hIP.ext hb9r
          have z9 := (hb9r.cell (p := ⟨w.heap.size, 1, none⟩) (by show w.heap.size < _; omega)).trans z1
          clear hb8 hb9 hI2
          have HGO2 : Hid (Tm.nightA Wn' (l' + 1) (Tm.remP (lts ts) p) idx = ((cn : Nat) : Int) :: gf cn id) := hide (by rw [HGS.out, if_pos (by rw [← HVX.out]; omega)])
          have HID3 : Hid (id < f cn) := hide (by rw [← HVX.out]; omega)
          have HNX9 := hide (fun w' (hA : Strs w' A ts) (hI : I64 w' Pa (natI p)) => HNX.out w' hA hI)
          have hsw9 : w.heap.size < w9.heap.size := by have := hb9r.size; omega
          have hcn5 : cn < 5 := by omega
          have hcat : ¬ (9223372036854775807 < (unlt pre).size + (unlt [((cn : Nat) : Int)]).size) := by rw [unlt_size, unlt_size]; simp only [List.length_cons, List.length_nil]; omega
          go_wp2_with (first
            | (go_at_call 79; refine (rletter_any cn hcn5 _).mono ?_; rintro e w10 ⟨rfl, hb10⟩; replace hb10 := ex_below hb10; have hz10 := hb10.size; have z10 := (hb10.cell (p := ⟨w.heap.size, 1, none⟩) hsw9).trans z9)
            | (go_at_call 73; refine (HNX9.out _ (hA.ext (by (repeat (first | exact Below.refl _ _ | assumption | refine below_drewN ?_ _ | refine below_drew ?_ | refine below_gr ?_ ?_ _ | refine below_alloc ?_ ?_ _ | refine Below.setCell ?_ ?_ _ | refine below_step ?_ (by assumption) ?_ | omega | (simp only [zz] at *; omega))))) (hI9.ext (by (repeat (first | exact Below.refl _ _ | assumption | refine below_drewN ?_ _ | refine below_drew ?_ | refine below_gr ?_ ?_ _ | refine below_alloc ?_ ?_ _ | refine Below.setCell ?_ ?_ _ | refine below_step ?_ (by assumption) ?_ | omega | (simp only [zz] at *; omega)))))).mono ?_; rintro e w11 ⟨A11, c11, rfl, hb11, hI11⟩; have hz11 := hb11.size))
          have hb11r : Below wr.heap.size wr w11 := by (repeat (first | exact Below.refl _ _ | assumption | (refine below_gr ?_ (by (first | omega | (simp only [zz] at *; omega))) _) | (refine below_alloc ?_ (by (first | omega | (simp only [zz] at *; omega))) _) | (refine Below.setCell ?_ (by (first | omega | (simp only [zz] at *; omega))) _) | refine below_drewN ?_ _ | refine below_drew ?_ | (refine below_step ?_ (by assumption) (by (first | omega | (simp only [zz] at *; omega))))))
          refine ⟨⟨pre ++ [((cn : Nat) : Int)], q, l', id, (l' : Int) - 1, A11, c11, rfl, by rw [unlt_append], rfl, hI11, rfl, by omega, HNIc.out.1, by rw [List.length_append]; simp only [List.length_cons, List.length_nil]; omega, hide (by rw [HNIc.out.2]; have h := HID3.out; rw [← HF.out] at h; exact h), hide (by rw [HNIc.out.2, List.append_assoc, ← HPRE.out, HGO2.out, ← HGF.out]; rfl), hbr.trans (hb11r.mono (by omega))⟩, by simp [intOf]⟩
    · have hl0 : l = 0 := by omega
      subst hl0
      have hpT : Hid (pre = T) := hide (by have h := HPRE.out; simpa [Tm.nightA] using h)
      have hbw : Below w.heap.size w wo := hb2w.trans (hb.mono hb2w.size)
      go_wp2
      go_ret2
      exact gives_of (by rw [hpT.out]; rfl) hbw
end Go.Proofs.Ytafncmgijbkomaa
