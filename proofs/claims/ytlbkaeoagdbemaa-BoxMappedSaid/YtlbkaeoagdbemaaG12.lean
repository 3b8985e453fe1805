/- Proved here: what the program counts of a map, a part of the proofs about the box laws. Conditions: those that each theorem names, no others. -/
import Derived.Test.YtlbkaeoagdbemaaG9
import Derived.WalkKit
import Derived.WalkSpells
import Derived.WalkLawsBesides
import Derived.Below
import Derived.Deep.QuietTactic
import Derived.BigQuiet
import Derived.Deep.Light
import Derived.Test.YtlbkaeoagdbemaaG11
import Derived.Deep.RegionHeld3
set_option linter.unusedSimpArgs false
set_option linter.unusedVariables false
namespace Go.Proofs.Ytlbkaeoagdbemaa
open Go.RowKit Go.Maps
theorem o_size (A : Option Addr) (R : List Nat) (c : Nat) (Y : Option Addr) (S : List Nat) (yc : Nat) (w : World) (hA : I64 w A (zs R)) (hY : I64 w Y (zs S)) (hyc : S.length ≤ yc) {ts : List Bm.Tk} (hok : Ok R ts) (hS : Bm.isBox R S = true) : Calls Try.prog 25 #[.agg #[.slice A R.length c], .agg #[.slice Y S.length yc, .int .i64 1]] w (Gives w (.tuple #[.int .i64 (Bm.size S : Nat), .int .i64 0])) := by
  have hok1 : Ok R [(S, 1)] := { h1 := hok.h1, h5 := hok.h5, r1 := hok.r1, r6 := hok.r6, t10 := by simp, tb := fun t ht => by rw [List.mem_singleton.1 ht]; exact hS, tu := fun t ht => by rw [List.mem_singleton.1 ht]; simp }
  exact size_api_ok A R c Y S yc 1 w hA hY hyc hok1
theorem o_wrong (R : List Nat) (Y : Option Addr) (S : List Nat) (yc : Nat) (w : World) (hY : I64 w Y (zs S)) {ts : List Bm.Tk} (hok : Ok R ts) (hS : Bm.isBox R S = true) (X : Option Addr) (o : List Nat) (xc : Nat) (hX : I64 w X (zs o)) (ho : o ∈ Bm.outs R) : Calls Try.prog 51 #[.slice Y S.length yc, .slice X o.length xc] w (Gives w (.int .i64 (Bm.wrongN S o : Nat))) :=
  rWrong_any Y S yc X o xc w hY hX (by rw [Bm.outs_len ho, Bm.isBox_len hS]; exact Nat.le_refl _) (by rw [Bm.isBox_len hS]; have := hok.h5; omega) (box64 hok.r6 hS) (outs_lt hok.r6 ho)
theorem pay_fact2 (u : Nat) : u * payP u 1000000 + payC u 1000000 = (if u = 0 then 1000000 else 1000000) ∧ (0 < u → payC u 1000000 < u) ∧ (u = 0 → payP u 1000000 = 0) ∧ payP u 1000000 ≤ 1000000 ∧ payC u 1000000 ≤ 1000000 := by
  unfold payP payC
  by_cases h : u = 0
  · subst h; simp
  · rw [if_neg h, if_neg h, if_neg h]
    have h0 : 0 < u := by omega
    exact ⟨Nat.div_add_mod _ _, fun _ => Nat.mod_lt _ h0, fun e => absurd e h, Nat.div_le_self _ _, Nat.mod_le _ _⟩
theorem max_if (m u : Nat) : (if m < u then (u : Int) else (m : Int)) = ((max m u : Nat) : Int) := by split <;> omega
theorem o_pay6 (A : Option Addr) (R : List Nat) (c : Nat) (B : Option Addr) (ts : List Bm.Tk) (d : Nat) (w : World) (hA : I64 w A (zs R)) (hB : Tks w B (tz ts)) (hok : Ok R ts) (X : Option Addr) (o : List Nat) (xc : Nat) (hX : I64 w X (zs o)) (ho : o ∈ Bm.outs R) : Calls Try.prog 41 #[.agg #[.slice A R.length c], .slice B ts.length d, .int .i64 1000000, .slice X o.length xc] w (Gives w (.tuple #[.int .i64 (payP (Bm.uni ts o) 1000000 : Nat), .int .i64 (payC (Bm.uni ts o) 1000000 : Nat), .int .i64 0])) := o_pays A R c B ts d w hA hB hok X o xc hX ho 1000000 (by omega)
set_option maxRecDepth 100000 in
set_option maxHeartbeats 8000000 in
theorem o_says (A : Option Addr) (R : List Nat) (c : Nat) (B : Option Addr) (ts : List Bm.Tk) (d : Nat) (w : World) (hA : I64 w A (zs R)) (hB : Tks w B (tz ts)) (hok : Ok R ts) (D : Option Addr) (ps : List Bm.Tk) (dd : Nat) (x0 x1 x2 x3 x4 : Nat) (hD : Tks w D (tz ps)) (hm : IsMap R ts ps) (hp4 : ps.length ≤ 400) (ho4 : (Bm.outs R).length ≤ 400) (b0 : x0 < 256) (b1 : x1 < 256) (b2 : x2 < 256) (b3 : x3 < 256) (b4 : x4 < 256) : Calls Try.prog 46 #[.agg #[.slice A R.length c], .slice B ts.length d, .slice D ps.length dd, .agg #[.int .u8 (x0 : Nat), .int .u8 (x1 : Nat), .int .u8 (x2 : Nat), .int .u8 (x3 : Nat), .int .u8 (x4 : Nat)]] w (Gives w (.bool true)) := by
  have hR5 := hok.h5
  have ht10 := hok.t10
  have hR5i : (R.length : Int) ≤ 5 := by omega
  have hp4i : (ps.length : Int) ≤ 400 := by omega
  have hom := outcome_mem (R := R) (X := [x0, x1, x2, x3, x4]) hok.r1 hR5
  have hdm := deep_mem hok
  have HFULL := hide (hm.full hok.r6)
  have HMOST := hide (hm.most hok)
  have HNONE := hide hm.none
  have HUNIT := hide (hm.unit hom)
  have HCNT := hide (show Bm.afterN R ts [] ≤ 400 from Nat.le_trans (by unfold Bm.afterN; exact List.countP_le_length) ho4)
  have HBOX := hide hm.box
  have C1 := hide (fun w' (h1 : I64 w' A (zs R)) (h2 : Tks w' B (tz ts)) => o_cov A R c B ts d w' h1 h2 hok)
  have C2 := hide (fun w' (h1 : I64 w' A (zs R)) (h2 : Tks w' B (tz ts)) => o_deep A R c B ts d w' h1 h2 hok)
  have C4 := hide (fun X xc w' (h1 : I64 w' A (zs R)) (h2 : Tks w' B (tz ts)) (h3 : I64 w' X (zs (deepO R ts))) => o_iso A R c B ts d w' h1 h2 hok X _ xc h3 hdm)
  have C5 := hide (fun X xc w' (h1 : I64 w' A (zs R)) (h2 : Tks w' B (tz ts)) (h3 : I64 w' X (zs (deepO R ts))) => o_units A R c B ts d w' h1 h2 hok X _ xc h3 hdm)
  have C6 := hide (fun w' (h1 : I64 w' A (zs R)) => Outcome_any A R c x0 x1 x2 x3 x4 w' h1 hR5 hok.r1 hok.r6 b0 b1 b2 b3 b4)
  have C7 := hide (fun X xc w' (h1 : I64 w' A (zs R)) (h2 : Tks w' B (tz ts)) (h3 : I64 w' X (zs (outcomeN R [x0, x1, x2, x3, x4]))) => o_pay6 A R c B ts d w' h1 h2 hok X _ xc h3 hom)
  have C8 := hide (fun X xc w' (h1 : I64 w' A (zs R)) (h2 : Tks w' B (tz ts)) (h3 : I64 w' X (zs (outcomeN R [x0, x1, x2, x3, x4]))) => o_units A R c B ts d w' h1 h2 hok X _ xc h3 hom)
  have CSZ := hide (fun Y S yc w' (h1 : I64 w' A (zs R)) (h2 : I64 w' Y (zs S)) (hyc : S.length ≤ yc) (hS : Bm.isBox R S = true) => o_size A R c Y S yc w' h1 h2 hyc hok hS)
  have CWR := hide (fun X xc Y S yc w' (h1 : I64 w' Y (zs S)) (h3 : I64 w' X (zs (outcomeN R [x0, x1, x2, x3, x4]))) (hS : Bm.isBox R S = true) => o_wrong R Y S yc w' h1 hok hS X _ xc h3 hom)
  have HOL := hide (zs_len (outcomeN R [x0, x1, x2, x3, x4]))
  have HDL := hide (zs_len (deepO R ts))
  have hol5 : ((outcomeN R [x0, x1, x2, x3, x4]).length : Int) ≤ 5 := by rw [outcomeN_len hR5]; omega
  have hdl5 : ((deepO R ts).length : Int) ≤ 5 := by rw [Bm.outs_len hdm]; omega
  have HPAY := hide (pay_fact2 (Bm.uni ts (outcomeN R [x0, x1, x2, x3, x4])))
  have hun := Bm.uni_le hok.hu (outcomeN R [x0, x1, x2, x3, x4])
  have HPV0 := hide (fun w' (h1 : I64 w' A (zs R)) (h2 : Tks w' B (tz ts)) => o_open A R c B ts d w' h1 h2 hok)
  have e0 : openVV (zs R) (tz ts) = match (Bm.outs R).find? (fun o => decide (Bm.uni ts o = 0)) with | some o => (zs o, 0) | none => ([], 5) := by unfold openVV; rw [if_neg (by rw [ok_chk hok]; simp), nn_zs, nt_tz]; rfl
  rw [e0] at HPV0
  clear e0
  cases hf : (Bm.outs R).find? (fun o => decide (Bm.uni ts o = 0)) with
  | none =>
  rw [hf] at HPV0 HNONE
  clear hf
  have C3 := hide (fun w' (h1 : I64 w' A (zs R)) (h2 : Tks w' B (tz ts)) => (HPV0.out w' h1 h2 : Calls Try.prog 34 #[.agg #[.slice A R.length c], .slice B ts.length d] w' (GivesB w' [] 5)))
  clear hm HPV0
  have HM := hide hom
  have HDM := hide hdm
  have HOK := hide hok
  clear hom hdm hok
  generalize outcomeN R [x0, x1, x2, x3, x4] = ow at *
  generalize deepO R ts = q at *
  generalize Bm.afterN R ts [] = n at *
  generalize Bm.uni ts ow = un at *
  generalize Bm.uni ts q = m at *
  have tok0 : True := trivial
  go_enter Try.func46, Try.ntmps46
  go_wp2_with (first
    | (clear tok0; go_at_call 32; refine (C1.out _ (hA.ext (by (repeat (first | exact Below.refl _ _ | assumption | refine below_drewN ?_ _ | refine below_drew ?_ | refine below_gr ?_ ?_ _ | refine below_alloc ?_ ?_ _ | refine Below.setCell ?_ ?_ _ | refine below_step ?_ (by assumption) ?_ | omega | (simp only [zz] at *; omega))))) (hB.ext (by (repeat (first | exact Below.refl _ _ | assumption | refine below_drewN ?_ _ | refine below_drew ?_ | refine below_gr ?_ ?_ _ | refine below_alloc ?_ ?_ _ | refine Below.setCell ?_ ?_ _ | refine below_step ?_ (by assumption) ?_ | omega | (simp only [zz] at *; omega)))))).mono ?_; rintro e u1 ⟨rfl, hb_u1⟩; replace hb_u1 := ex_below hb_u1; have hX : BlkAt u1 w.heap.size #[.slice A R.length c] 24 := (show BlkAt ((w.alloc (.cells #[.slice A R.length c] 24)).alloc (.cells #[.int .u8 (x0 : Nat), .int .u8 (x1 : Nat), .int .u8 (x2 : Nat), .int .u8 (x3 : Nat), .int .u8 (x4 : Nat)] 53)) w.heap.size #[.slice A R.length c] 24 from (by unfold BlkAt; (repeat (first | rw [Below.heap_alloc _ _ _ (by (first | omega | (simp only [zz]; omega) | (simp only [zz] at *; omega) | (simp; done) | (simp; omega)))])); exact heap_at (by (first | omega | (simp only [zz]; omega) | (simp only [zz] at *; omega) | (simp; done) | (simp; omega))))).ext hb_u1; have hY : BlkAt u1 (w.heap.size + 1) #[.int .u8 (x0 : Nat), .int .u8 (x1 : Nat), .int .u8 (x2 : Nat), .int .u8 (x3 : Nat), .int .u8 (x4 : Nat)] 53 := (show BlkAt ((w.alloc (.cells #[.slice A R.length c] 24)).alloc (.cells #[.int .u8 (x0 : Nat), .int .u8 (x1 : Nat), .int .u8 (x2 : Nat), .int .u8 (x3 : Nat), .int .u8 (x4 : Nat)] 53)) (w.heap.size + 1) #[.int .u8 (x0 : Nat), .int .u8 (x1 : Nat), .int .u8 (x2 : Nat), .int .u8 (x3 : Nat), .int .u8 (x4 : Nat)] 53 from (by unfold BlkAt; (repeat (first | rw [Below.heap_alloc _ _ _ (by (first | omega | (simp only [zz]; omega) | (simp only [zz] at *; omega) | (simp; done) | (simp; omega)))])); exact heap_at (by (first | omega | (simp only [zz]; omega) | (simp only [zz] at *; omega) | (simp; done) | (simp; omega))))).ext hb_u1; have bel_u1 : Below w.heap.size w u1 := (by (repeat (first | exact Below.refl _ _ | assumption | refine below_drewN ?_ _ | refine below_drew ?_ | refine below_gr ?_ ?_ _ | refine below_alloc ?_ ?_ _ | refine Below.setCell ?_ ?_ _ | refine below_step ?_ (by assumption) ?_ | omega | (simp only [zz] at *; omega)))); clear hb_u1; have sz_u1 := bel_u1.size; replace hA := hA.ext bel_u1; replace hB := hB.ext bel_u1; replace hD := hD.ext bel_u1; (try clear hXc0 hXf hXl); have hXc0 := obj_at hX 0 _ rfl; have hXf := obj_fz hX 0; have hXl := obj_lt hX; (try clear hYc0 hYc1 hYc2 hYc3 hYc4 hYf hYl); have hYc0 := obj_at hY 0 _ rfl; have hYc1 := obj_at hY 1 _ rfl; have hYc2 := obj_at hY 2 _ rfl; have hYc3 := obj_at hY 3 _ rfl; have hYc4 := obj_at hY 4 _ rfl; have hYf := obj_fz hY 0; have hYl := obj_lt hY; have hW := bel_u1; clear bel_u1; have tok1 : True := trivial)
    | (clear tok1; go_at_call 36; refine (C2.out _ (hA.ext (by (repeat (first | exact Below.refl _ _ | assumption | refine below_drewN ?_ _ | refine below_drew ?_ | refine below_gr ?_ ?_ _ | refine below_alloc ?_ ?_ _ | refine Below.setCell ?_ ?_ _ | refine below_step ?_ (by assumption) ?_ | omega | (simp only [zz] at *; omega))))) (hB.ext (by (repeat (first | exact Below.refl _ _ | assumption | refine below_drewN ?_ _ | refine below_drew ?_ | refine below_gr ?_ ?_ _ | refine below_alloc ?_ ?_ _ | refine Below.setCell ?_ ?_ _ | refine below_step ?_ (by assumption) ?_ | omega | (simp only [zz] at *; omega)))))).mono ?_; rintro e u2 ⟨O2, o2, rfl, hb_u2, hO2⟩; replace hb_u2 := ex_below hb_u2; rw [HDL.out]; have bel_u2 : Below u1.heap.size u1 u2 := (by (repeat (first | exact Below.refl _ _ | assumption | refine below_drewN ?_ _ | refine below_drew ?_ | refine below_gr ?_ ?_ _ | refine below_alloc ?_ ?_ _ | refine Below.setCell ?_ ?_ _ | refine below_step ?_ (by assumption) ?_ | omega | (simp only [zz] at *; omega)))); clear hb_u2; have sz_u2 := bel_u2.size; replace hA := hA.ext bel_u2; replace hB := hB.ext bel_u2; replace hD := hD.ext bel_u2; replace hX := hX.ext bel_u2; replace hY := hY.ext bel_u2; replace hW := below_step hW bel_u2 (by have := hW.size; omega); (try clear hXc0 hXf hXl); have hXc0 := obj_at hX 0 _ rfl; have hXf := obj_fz hX 0; have hXl := obj_lt hX; (try clear hYc0 hYc1 hYc2 hYc3 hYc4 hYf hYl); have hYc0 := obj_at hY 0 _ rfl; have hYc1 := obj_at hY 1 _ rfl; have hYc2 := obj_at hY 2 _ rfl; have hYc3 := obj_at hY 3 _ rfl; have hYc4 := obj_at hY 4 _ rfl; have hYf := obj_fz hY 0; have hYl := obj_lt hY; clear bel_u2; have tok2 : True := trivial)
    | (clear tok2; go_at_call 34; refine (C3.out _ (hA.ext (by (repeat (first | exact Below.refl _ _ | assumption | refine below_drewN ?_ _ | refine below_drew ?_ | refine below_gr ?_ ?_ _ | refine below_alloc ?_ ?_ _ | refine Below.setCell ?_ ?_ _ | refine below_step ?_ (by assumption) ?_ | omega | (simp only [zz] at *; omega))))) (hB.ext (by (repeat (first | exact Below.refl _ _ | assumption | refine below_drewN ?_ _ | refine below_drew ?_ | refine below_gr ?_ ?_ _ | refine below_alloc ?_ ?_ _ | refine Below.setCell ?_ ?_ _ | refine below_step ?_ (by assumption) ?_ | omega | (simp only [zz] at *; omega)))))).mono ?_; rintro e u3 ⟨O3, o3, rfl, hb_u3, hO3⟩; replace hb_u3 := ex_below hb_u3; (try rw [HPL.out]); have bel_u3 : Below u2.heap.size u2 u3 := (by (repeat (first | exact Below.refl _ _ | assumption | refine below_drewN ?_ _ | refine below_drew ?_ | refine below_gr ?_ ?_ _ | refine below_alloc ?_ ?_ _ | refine Below.setCell ?_ ?_ _ | refine below_step ?_ (by assumption) ?_ | omega | (simp only [zz] at *; omega)))); clear hb_u3; have sz_u3 := bel_u3.size; replace hA := hA.ext bel_u3; replace hB := hB.ext bel_u3; replace hD := hD.ext bel_u3; replace hX := hX.ext bel_u3; replace hY := hY.ext bel_u3; replace hW := below_step hW bel_u3 (by have := hW.size; omega); replace hO2 := hO2.ext bel_u3; (try clear hXc0 hXf hXl); have hXc0 := obj_at hX 0 _ rfl; have hXf := obj_fz hX 0; have hXl := obj_lt hX; (try clear hYc0 hYc1 hYc2 hYc3 hYc4 hYf hYl); have hYc0 := obj_at hY 0 _ rfl; have hYc1 := obj_at hY 1 _ rfl; have hYc2 := obj_at hY 2 _ rfl; have hYc3 := obj_at hY 3 _ rfl; have hYc4 := obj_at hY 4 _ rfl; have hYf := obj_fz hY 0; have hYl := obj_lt hY; clear bel_u3; have tok3 : True := trivial)
    | (clear tok3; go_at_call 50; refine (C4.out _ _ _ (hA.ext (by (repeat (first | exact Below.refl _ _ | assumption | refine below_drewN ?_ _ | refine below_drew ?_ | refine below_gr ?_ ?_ _ | refine below_alloc ?_ ?_ _ | refine Below.setCell ?_ ?_ _ | refine below_step ?_ (by assumption) ?_ | omega | (simp only [zz] at *; omega))))) (hB.ext (by (repeat (first | exact Below.refl _ _ | assumption | refine below_drewN ?_ _ | refine below_drew ?_ | refine below_gr ?_ ?_ _ | refine below_alloc ?_ ?_ _ | refine Below.setCell ?_ ?_ _ | refine below_step ?_ (by assumption) ?_ | omega | (simp only [zz] at *; omega))))) (hO2.ext (by (repeat (first | exact Below.refl _ _ | assumption | refine below_drewN ?_ _ | refine below_drew ?_ | refine below_gr ?_ ?_ _ | refine below_alloc ?_ ?_ _ | refine Below.setCell ?_ ?_ _ | refine below_step ?_ (by assumption) ?_ | omega | (simp only [zz] at *; omega)))))).mono ?_; rintro e u4 ⟨rfl, hb_u4⟩; replace hb_u4 := ex_below hb_u4; have bel_u4 : Below u3.heap.size u3 u4 := (by (repeat (first | exact Below.refl _ _ | assumption | refine below_drewN ?_ _ | refine below_drew ?_ | refine below_gr ?_ ?_ _ | refine below_alloc ?_ ?_ _ | refine Below.setCell ?_ ?_ _ | refine below_step ?_ (by assumption) ?_ | omega | (simp only [zz] at *; omega)))); clear hb_u4; have sz_u4 := bel_u4.size; replace hA := hA.ext bel_u4; replace hB := hB.ext bel_u4; replace hD := hD.ext bel_u4; replace hX := hX.ext bel_u4; replace hY := hY.ext bel_u4; replace hW := below_step hW bel_u4 (by have := hW.size; omega); replace hO2 := hO2.ext bel_u4; replace hO3 := hO3.ext bel_u4; (try clear hXc0 hXf hXl); have hXc0 := obj_at hX 0 _ rfl; have hXf := obj_fz hX 0; have hXl := obj_lt hX; (try clear hYc0 hYc1 hYc2 hYc3 hYc4 hYf hYl); have hYc0 := obj_at hY 0 _ rfl; have hYc1 := obj_at hY 1 _ rfl; have hYc2 := obj_at hY 2 _ rfl; have hYc3 := obj_at hY 3 _ rfl; have hYc4 := obj_at hY 4 _ rfl; have hYf := obj_fz hY 0; have hYl := obj_lt hY; clear bel_u4; have tok4 : True := trivial)
    | (clear tok4; go_at_call 52; refine (C5.out _ _ _ (hA.ext (by (repeat (first | exact Below.refl _ _ | assumption | refine below_drewN ?_ _ | refine below_drew ?_ | refine below_gr ?_ ?_ _ | refine below_alloc ?_ ?_ _ | refine Below.setCell ?_ ?_ _ | refine below_step ?_ (by assumption) ?_ | omega | (simp only [zz] at *; omega))))) (hB.ext (by (repeat (first | exact Below.refl _ _ | assumption | refine below_drewN ?_ _ | refine below_drew ?_ | refine below_gr ?_ ?_ _ | refine below_alloc ?_ ?_ _ | refine Below.setCell ?_ ?_ _ | refine below_step ?_ (by assumption) ?_ | omega | (simp only [zz] at *; omega))))) (hO2.ext (by (repeat (first | exact Below.refl _ _ | assumption | refine below_drewN ?_ _ | refine below_drew ?_ | refine below_gr ?_ ?_ _ | refine below_alloc ?_ ?_ _ | refine Below.setCell ?_ ?_ _ | refine below_step ?_ (by assumption) ?_ | omega | (simp only [zz] at *; omega)))))).mono ?_; rintro e u5 ⟨rfl, hb_u5⟩; replace hb_u5 := ex_below hb_u5; have bel_u5 : Below u4.heap.size u4 u5 := (by (repeat (first | exact Below.refl _ _ | assumption | refine below_drewN ?_ _ | refine below_drew ?_ | refine below_gr ?_ ?_ _ | refine below_alloc ?_ ?_ _ | refine Below.setCell ?_ ?_ _ | refine below_step ?_ (by assumption) ?_ | omega | (simp only [zz] at *; omega)))); clear hb_u5; have sz_u5 := bel_u5.size; replace hA := hA.ext bel_u5; replace hB := hB.ext bel_u5; replace hD := hD.ext bel_u5; replace hX := hX.ext bel_u5; replace hY := hY.ext bel_u5; replace hW := below_step hW bel_u5 (by have := hW.size; omega); replace hO2 := hO2.ext bel_u5; replace hO3 := hO3.ext bel_u5; (try clear hXc0 hXf hXl); have hXc0 := obj_at hX 0 _ rfl; have hXf := obj_fz hX 0; have hXl := obj_lt hX; (try clear hYc0 hYc1 hYc2 hYc3 hYc4 hYf hYl); have hYc0 := obj_at hY 0 _ rfl; have hYc1 := obj_at hY 1 _ rfl; have hYc2 := obj_at hY 2 _ rfl; have hYc3 := obj_at hY 3 _ rfl; have hYc4 := obj_at hY 4 _ rfl; have hYf := obj_fz hY 0; have hYl := obj_lt hY; clear bel_u5; have tok5 : True := trivial)
    | (clear tok5; go_at_call 47; refine (C6.out _ (hA.ext (by (repeat (first | exact Below.refl _ _ | assumption | refine below_drewN ?_ _ | refine below_drew ?_ | refine below_gr ?_ ?_ _ | refine below_alloc ?_ ?_ _ | refine Below.setCell ?_ ?_ _ | refine below_step ?_ (by assumption) ?_ | omega | (simp only [zz] at *; omega)))))).mono ?_; rintro e u6 ⟨O6, o6, rfl, hb_u6, hO6, -, -⟩; replace hb_u6 := ex_below hb_u6; rw [HOL.out]; have bel_u6 : Below u5.heap.size u5 u6 := (by (repeat (first | exact Below.refl _ _ | assumption | refine below_drewN ?_ _ | refine below_drew ?_ | refine below_gr ?_ ?_ _ | refine below_alloc ?_ ?_ _ | refine Below.setCell ?_ ?_ _ | refine below_step ?_ (by assumption) ?_ | omega | (simp only [zz] at *; omega)))); clear hb_u6; have sz_u6 := bel_u6.size; replace hA := hA.ext bel_u6; replace hB := hB.ext bel_u6; replace hD := hD.ext bel_u6; replace hX := hX.ext bel_u6; replace hY := hY.ext bel_u6; replace hW := below_step hW bel_u6 (by have := hW.size; omega); replace hO2 := hO2.ext bel_u6; replace hO3 := hO3.ext bel_u6; (try clear hXc0 hXf hXl); have hXc0 := obj_at hX 0 _ rfl; have hXf := obj_fz hX 0; have hXl := obj_lt hX; (try clear hYc0 hYc1 hYc2 hYc3 hYc4 hYf hYl); have hYc0 := obj_at hY 0 _ rfl; have hYc1 := obj_at hY 1 _ rfl; have hYc2 := obj_at hY 2 _ rfl; have hYc3 := obj_at hY 3 _ rfl; have hYc4 := obj_at hY 4 _ rfl; have hYf := obj_fz hY 0; have hYl := obj_lt hY; clear bel_u6; have tok6 : True := trivial))

  go_loopw [16, 17, 18, 20, 21] (fun t16 t17 t18 t20 t21 wr => ∃ k : Nat, k ≤ ps.length ∧ t21 = .int .i64 (k : Nat) ∧ t16 = .int .i64 (fullK ps k : Nat) ∧ t17 = .int .i64 (mostK ps k : Nat) ∧ t18 = .bool (noneK ps k) ∧ t20 = .int .i64 (unitK ps ow k) ∧ Below u6.heap.size u6 wr) (fun _ _ _ _ i _ => ps.length - (intOf i).toNat)
  case atStart => exact ⟨0, Nat.zero_le _, rfl, rfl, rfl, rfl, rfl, Below.refl _ _⟩
  case round =>
    obtain ⟨k, hk, rfl, rfl, rfl, rfl, rfl, hb⟩ := hrel
    have hbz := hb.size
    by_cases hlt : k < ps.length
    · have hA1 := hA.ext hb
      have hO1 := hO6.ext hb
      have hX1 := hX.ext hb
      have hD1 := hD.ext hb
      obtain ⟨tb, to, rfl, htb⟩ := hD1.form (by rw [tz_len]; omega)
      obtain ⟨T, tc, q1, q2, q0, hT⟩ := hD1.at (k := k) (by rw [tz_len]; exact hlt)
      simp only [tz_at _ _ hlt, zs_len] at q0 q1 q2 hT
      have hbx := HBOX.out _ (List.getElem_mem hlt)
      have s1 := hide (fullK_succ ps k)
      have s2 := hide (show mostK ps (k + 1) = max (mostK ps k) (ps.getD k ([], 0)).2 from rfl)
      have s3 := hide (show noneK ps (k + 1) = (noneK ps k || (ps.getD k ([], 0)).2 == 0) from rfl)
      have s4 := hide (show unitK ps ow (k + 1) = if Bm.wrongN (ps.getD k ([], 0)).1 ow = 0 then (((ps.getD k ([], 0)).2 : Nat) : Int) else unitK ps ow k from rfl)
      rw [getD_at _ _ hlt] at s1 s2 s3 s4
      have s5 := fullK_mono ps (k := k + 1) (n := ps.length) (by omega)
      rw [HFULL.out, s1.out] at s5
      have s6 := HCNT.out
      have s7 : fullK ps k + fullS ps[k] ≤ 400 := by omega
      have HBX := hide hbx
      clear hD1 s5 s6 hbx
      generalize ps[k] = t at *
      obtain ⟨P, u⟩ : Bm.Tk := t
      simp only at q0 q1 q2 hT HBX s1 s2 s3 s4
      unfold fullS at s1 s7
      simp only at s1 s7
      have HSZ := hide (fun w' (h1 : I64 w' A (zs R)) (h2 : I64 w' T (zs P)) => CSZ.out T P tc w' h1 h2 q0 HBX.out)
      have HWR := hide (fun w' (h1 : I64 w' T (zs P)) (h3 : I64 w' O6 (zs ow)) => CWR.out O6 o6 T P tc w' h1 h3 HBX.out)
      generalize Bm.size P = sz at *
      generalize Bm.wrongN P ow = wg at *
      generalize fullK ps k = fk at *
      generalize mostK ps k = mk at *
      generalize noneK ps k = nk at *
      generalize unitK ps ow k = uk at *
      have hk1 : (k : Int) < (ps.length : Int) := by omega
      have S4 := s4.out
      by_cases hw0 : wg = 0
      · subst hw0
        simp only [if_true] at S4
        rcases Nat.eq_zero_or_pos u with hu0 | hu0
        · subst hu0
          simp only [Nat.lt_irrefl, if_false] at s1 s7
          cases nk
          all_goals
            (try clear hX1c0 hX1f hX1l)
            have hX1c0 := obj_at hX1 0 _ rfl
            have hX1f := obj_fz hX1 0
            have hX1l := obj_lt hX1
            go_wp2
            refine wp_region_grow (by kernel_rfl) (by kernel_rfl) ?_
            repeat (go_big_quiet_step ((go_at_call 25; exact Gives.quiet (HSZ.out _ (hA1.ext (by (repeat (first | exact Below.refl _ _ | assumption | refine below_drewN ?_ _ | refine below_drew ?_ | refine below_gr ?_ ?_ _ | refine below_alloc ?_ ?_ _ | refine Below.setCell ?_ ?_ _ | refine below_step ?_ (by assumption) ?_ | omega | (simp only [zz] at *; omega))))) (hT.ext (by (repeat (first | exact Below.refl _ _ | assumption | refine below_drewN ?_ _ | refine below_drew ?_ | refine below_gr ?_ ?_ _ | refine below_alloc ?_ ?_ _ | refine Below.setCell ?_ ?_ _ | refine below_step ?_ (by assumption) ?_ | omega | (simp only [zz] at *; omega)))))))))
            refine wpQuiet_nil ?_
            intro v1 hb_v1
            replace hb_v1 := ex_below hb_v1
            replace hA1 := hA1.ext hb_v1
            replace hT := hT.ext hb_v1
            replace hO1 := hO1.ext hb_v1
            replace hX1 := hX1.ext hb_v1
            replace q1 := (hb_v1.cell (p := ⟨tb, to + k * 2, none⟩) htb).trans q1
            replace q2 := (hb_v1.cell (p := ⟨tb, to + k * 2 + 1, none⟩) htb).trans q2
            replace htb := Nat.lt_of_lt_of_le htb hb_v1.size
            replace hb := below_step hb hb_v1 (by have := hb.size; omega)
            have sz_v1 := hb_v1.size
            clear hb_v1
            (try clear hX1c0 hX1f hX1l)
            have hX1c0 := obj_at hX1 0 _ rfl
            have hX1f := obj_fz hX1 0
            have hX1l := obj_lt hX1
            go_wp2
            go_quiet (fail)
            have tok0 : True := trivial
            go_wp2_with (first | (clear tok0; go_at_call 51; refine (HWR.out _ (hT.ext (by (repeat (first | exact Below.refl _ _ | assumption | refine below_drewN ?_ _ | refine below_drew ?_ | refine below_gr ?_ ?_ _ | refine below_alloc ?_ ?_ _ | refine Below.setCell ?_ ?_ _ | refine below_step ?_ (by assumption) ?_ | omega | (simp only [zz] at *; omega))))) (hO1.ext (by (repeat (first | exact Below.refl _ _ | assumption | refine below_drewN ?_ _ | refine below_drew ?_ | refine below_gr ?_ ?_ _ | refine below_alloc ?_ ?_ _ | refine Below.setCell ?_ ?_ _ | refine below_step ?_ (by assumption) ?_ | omega | (simp only [zz] at *; omega)))))).mono ?_; rintro e u1 ⟨rfl, hb_u1⟩; replace hb_u1 := ex_below hb_u1; have bel_u1 : Below v1.heap.size v1 u1 := (by (repeat (first | exact Below.refl _ _ | assumption | refine below_drewN ?_ _ | refine below_drew ?_ | refine below_gr ?_ ?_ _ | refine below_alloc ?_ ?_ _ | refine Below.setCell ?_ ?_ _ | refine below_step ?_ (by assumption) ?_ | omega | (simp only [zz] at *; omega)))); clear hb_u1; have sz_u1 := bel_u1.size; replace hA1 := hA1.ext bel_u1; replace hT := hT.ext bel_u1; replace hO1 := hO1.ext bel_u1; replace hX1 := hX1.ext bel_u1; replace q1 := (bel_u1.cell (p := ⟨tb, to + k * 2, none⟩) htb).trans q1; replace q2 := (bel_u1.cell (p := ⟨tb, to + k * 2 + 1, none⟩) htb).trans q2; replace htb := Nat.lt_of_lt_of_le htb bel_u1.size; replace hb := below_step hb bel_u1 (by have := hb.size; omega); (try clear hX1c0 hX1f hX1l); have hX1c0 := obj_at hX1 0 _ rfl; have hX1f := obj_fz hX1 0; have hX1l := obj_lt hX1; clear bel_u1; have tok1 : True := trivial))
            exact ⟨⟨k + 1, by omega, by go_num, v_int (by rw [s1.out]; omega), v_int (by rw [s2.out]; first | exact max_if _ _ | simp), v_bool (by rw [s3.out]; first | rfl | (simp; omega)), v_int (by simp [S4]), hb⟩, by simp [intOf]; omega⟩
        · rw [if_pos hu0] at s1
          rw [if_pos hu0] at s7
          have hu1 : (u : Int) > 0 := by omega
          have hu2 : ((u : Int) == 0) = false := by simp; omega
          have ku : ¬ (u : Int) = 0 := by omega
          have s8 : (fk : Int) + (sz : Int) ≤ 400 := by omega
          cases nk
          all_goals
            (try clear hX1c0 hX1f hX1l)
            have hX1c0 := obj_at hX1 0 _ rfl
            have hX1f := obj_fz hX1 0
            have hX1l := obj_lt hX1
            go_wp2
            refine wp_region_grow (by kernel_rfl) (by kernel_rfl) ?_
            repeat (go_big_quiet_step ((go_at_call 25; exact Gives.quiet (HSZ.out _ (hA1.ext (by (repeat (first | exact Below.refl _ _ | assumption | refine below_drewN ?_ _ | refine below_drew ?_ | refine below_gr ?_ ?_ _ | refine below_alloc ?_ ?_ _ | refine Below.setCell ?_ ?_ _ | refine below_step ?_ (by assumption) ?_ | omega | (simp only [zz] at *; omega))))) (hT.ext (by (repeat (first | exact Below.refl _ _ | assumption | refine below_drewN ?_ _ | refine below_drew ?_ | refine below_gr ?_ ?_ _ | refine below_alloc ?_ ?_ _ | refine Below.setCell ?_ ?_ _ | refine below_step ?_ (by assumption) ?_ | omega | (simp only [zz] at *; omega)))))))))
            refine wpQuiet_nil ?_
            intro v1 hb_v1
            replace hb_v1 := ex_below hb_v1
            replace hA1 := hA1.ext hb_v1
            replace hT := hT.ext hb_v1
            replace hO1 := hO1.ext hb_v1
            replace hX1 := hX1.ext hb_v1
            replace q1 := (hb_v1.cell (p := ⟨tb, to + k * 2, none⟩) htb).trans q1
            replace q2 := (hb_v1.cell (p := ⟨tb, to + k * 2 + 1, none⟩) htb).trans q2
            replace htb := Nat.lt_of_lt_of_le htb hb_v1.size
            replace hb := below_step hb hb_v1 (by have := hb.size; omega)
            have sz_v1 := hb_v1.size
            clear hb_v1
            (try clear hX1c0 hX1f hX1l)
            have hX1c0 := obj_at hX1 0 _ rfl
            have hX1f := obj_fz hX1 0
            have hX1l := obj_lt hX1
            go_wp2
            go_quiet (fail)
            have tok0 : True := trivial
            go_wp2_with (first | (clear tok0; go_at_call 51; refine (HWR.out _ (hT.ext (by (repeat (first | exact Below.refl _ _ | assumption | refine below_drewN ?_ _ | refine below_drew ?_ | refine below_gr ?_ ?_ _ | refine below_alloc ?_ ?_ _ | refine Below.setCell ?_ ?_ _ | refine below_step ?_ (by assumption) ?_ | omega | (simp only [zz] at *; omega))))) (hO1.ext (by (repeat (first | exact Below.refl _ _ | assumption | refine below_drewN ?_ _ | refine below_drew ?_ | refine below_gr ?_ ?_ _ | refine below_alloc ?_ ?_ _ | refine Below.setCell ?_ ?_ _ | refine below_step ?_ (by assumption) ?_ | omega | (simp only [zz] at *; omega)))))).mono ?_; rintro e u1 ⟨rfl, hb_u1⟩; replace hb_u1 := ex_below hb_u1; have bel_u1 : Below v1.heap.size v1 u1 := (by (repeat (first | exact Below.refl _ _ | assumption | refine below_drewN ?_ _ | refine below_drew ?_ | refine below_gr ?_ ?_ _ | refine below_alloc ?_ ?_ _ | refine Below.setCell ?_ ?_ _ | refine below_step ?_ (by assumption) ?_ | omega | (simp only [zz] at *; omega)))); clear hb_u1; have sz_u1 := bel_u1.size; replace hA1 := hA1.ext bel_u1; replace hT := hT.ext bel_u1; replace hO1 := hO1.ext bel_u1; replace hX1 := hX1.ext bel_u1; replace q1 := (bel_u1.cell (p := ⟨tb, to + k * 2, none⟩) htb).trans q1; replace q2 := (bel_u1.cell (p := ⟨tb, to + k * 2 + 1, none⟩) htb).trans q2; replace htb := Nat.lt_of_lt_of_le htb bel_u1.size; replace hb := below_step hb bel_u1 (by have := hb.size; omega); (try clear hX1c0 hX1f hX1l); have hX1c0 := obj_at hX1 0 _ rfl; have hX1f := obj_fz hX1 0; have hX1l := obj_lt hX1; clear bel_u1; have tok1 : True := trivial))
            exact ⟨⟨k + 1, by omega, by go_num, v_int (by rw [s1.out]; omega), v_int (by rw [s2.out]; first | exact max_if _ _ | simp), v_bool (by rw [s3.out]; first | rfl | (simp; omega)), v_int (by simp [S4]), hb⟩, by simp [intOf]; omega⟩
      · rw [if_neg hw0] at S4
        have hwb : ((wg : Int) == 0) = false := by simp; omega
        rcases Nat.eq_zero_or_pos u with hu0 | hu0
        · subst hu0
          simp only [Nat.lt_irrefl, if_false] at s1 s7
          cases nk
          all_goals
            (try clear hX1c0 hX1f hX1l)
            have hX1c0 := obj_at hX1 0 _ rfl
            have hX1f := obj_fz hX1 0
            have hX1l := obj_lt hX1
            go_wp2
            refine wp_region_grow (by kernel_rfl) (by kernel_rfl) ?_
            repeat (go_big_quiet_step ((go_at_call 25; exact Gives.quiet (HSZ.out _ (hA1.ext (by (repeat (first | exact Below.refl _ _ | assumption | refine below_drewN ?_ _ | refine below_drew ?_ | refine below_gr ?_ ?_ _ | refine below_alloc ?_ ?_ _ | refine Below.setCell ?_ ?_ _ | refine below_step ?_ (by assumption) ?_ | omega | (simp only [zz] at *; omega))))) (hT.ext (by (repeat (first | exact Below.refl _ _ | assumption | refine below_drewN ?_ _ | refine below_drew ?_ | refine below_gr ?_ ?_ _ | refine below_alloc ?_ ?_ _ | refine Below.setCell ?_ ?_ _ | refine below_step ?_ (by assumption) ?_ | omega | (simp only [zz] at *; omega)))))))))
            refine wpQuiet_nil ?_
            intro v1 hb_v1
            replace hb_v1 := ex_below hb_v1
            replace hA1 := hA1.ext hb_v1
            replace hT := hT.ext hb_v1
            replace hO1 := hO1.ext hb_v1
            replace hX1 := hX1.ext hb_v1
            replace q1 := (hb_v1.cell (p := ⟨tb, to + k * 2, none⟩) htb).trans q1
            replace q2 := (hb_v1.cell (p := ⟨tb, to + k * 2 + 1, none⟩) htb).trans q2
            replace htb := Nat.lt_of_lt_of_le htb hb_v1.size
            replace hb := below_step hb hb_v1 (by have := hb.size; omega)
            have sz_v1 := hb_v1.size
            clear hb_v1
            (try clear hX1c0 hX1f hX1l)
            have hX1c0 := obj_at hX1 0 _ rfl
            have hX1f := obj_fz hX1 0
            have hX1l := obj_lt hX1
            go_wp2
            go_quiet (fail)
            have tok0 : True := trivial
            go_wp2_with (first | (clear tok0; go_at_call 51; refine (HWR.out _ (hT.ext (by (repeat (first | exact Below.refl _ _ | assumption | refine below_drewN ?_ _ | refine below_drew ?_ | refine below_gr ?_ ?_ _ | refine below_alloc ?_ ?_ _ | refine Below.setCell ?_ ?_ _ | refine below_step ?_ (by assumption) ?_ | omega | (simp only [zz] at *; omega))))) (hO1.ext (by (repeat (first | exact Below.refl _ _ | assumption | refine below_drewN ?_ _ | refine below_drew ?_ | refine below_gr ?_ ?_ _ | refine below_alloc ?_ ?_ _ | refine Below.setCell ?_ ?_ _ | refine below_step ?_ (by assumption) ?_ | omega | (simp only [zz] at *; omega)))))).mono ?_; rintro e u1 ⟨rfl, hb_u1⟩; replace hb_u1 := ex_below hb_u1; have bel_u1 : Below v1.heap.size v1 u1 := (by (repeat (first | exact Below.refl _ _ | assumption | refine below_drewN ?_ _ | refine below_drew ?_ | refine below_gr ?_ ?_ _ | refine below_alloc ?_ ?_ _ | refine Below.setCell ?_ ?_ _ | refine below_step ?_ (by assumption) ?_ | omega | (simp only [zz] at *; omega)))); clear hb_u1; have sz_u1 := bel_u1.size; replace hA1 := hA1.ext bel_u1; replace hT := hT.ext bel_u1; replace hO1 := hO1.ext bel_u1; replace hX1 := hX1.ext bel_u1; replace q1 := (bel_u1.cell (p := ⟨tb, to + k * 2, none⟩) htb).trans q1; replace q2 := (bel_u1.cell (p := ⟨tb, to + k * 2 + 1, none⟩) htb).trans q2; replace htb := Nat.lt_of_lt_of_le htb bel_u1.size; replace hb := below_step hb bel_u1 (by have := hb.size; omega); (try clear hX1c0 hX1f hX1l); have hX1c0 := obj_at hX1 0 _ rfl; have hX1f := obj_fz hX1 0; have hX1l := obj_lt hX1; clear bel_u1; have tok1 : True := trivial))
            exact ⟨⟨k + 1, by omega, by go_num, v_int (by rw [s1.out]; omega), v_int (by rw [s2.out]; first | exact max_if _ _ | simp), v_bool (by rw [s3.out]; first | rfl | (simp; omega)), v_int (by simp [S4]), hb⟩, by simp [intOf]; omega⟩
        · rw [if_pos hu0] at s1
          rw [if_pos hu0] at s7
          have hu1 : (u : Int) > 0 := by omega
          have hu2 : ((u : Int) == 0) = false := by simp; omega
          have ku : ¬ (u : Int) = 0 := by omega
          have s8 : (fk : Int) + (sz : Int) ≤ 400 := by omega
          cases nk
          all_goals
            (try clear hX1c0 hX1f hX1l)
            have hX1c0 := obj_at hX1 0 _ rfl
            have hX1f := obj_fz hX1 0
            have hX1l := obj_lt hX1
            go_wp2
            refine wp_region_grow (by kernel_rfl) (by kernel_rfl) ?_
            repeat (go_big_quiet_step ((go_at_call 25; exact Gives.quiet (HSZ.out _ (hA1.ext (by (repeat (first | exact Below.refl _ _ | assumption | refine below_drewN ?_ _ | refine below_drew ?_ | refine below_gr ?_ ?_ _ | refine below_alloc ?_ ?_ _ | refine Below.setCell ?_ ?_ _ | refine below_step ?_ (by assumption) ?_ | omega | (simp only [zz] at *; omega))))) (hT.ext (by (repeat (first | exact Below.refl _ _ | assumption | refine below_drewN ?_ _ | refine below_drew ?_ | refine below_gr ?_ ?_ _ | refine below_alloc ?_ ?_ _ | refine Below.setCell ?_ ?_ _ | refine below_step ?_ (by assumption) ?_ | omega | (simp only [zz] at *; omega)))))))))
            refine wpQuiet_nil ?_
            intro v1 hb_v1
            replace hb_v1 := ex_below hb_v1
            replace hA1 := hA1.ext hb_v1
            replace hT := hT.ext hb_v1
            replace hO1 := hO1.ext hb_v1
            replace hX1 := hX1.ext hb_v1
            replace q1 := (hb_v1.cell (p := ⟨tb, to + k * 2, none⟩) htb).trans q1
            replace q2 := (hb_v1.cell (p := ⟨tb, to + k * 2 + 1, none⟩) htb).trans q2
            replace htb := Nat.lt_of_lt_of_le htb hb_v1.size
            replace hb := below_step hb hb_v1 (by have := hb.size; omega)
            have sz_v1 := hb_v1.size
            clear hb_v1
            (try clear hX1c0 hX1f hX1l)
            have hX1c0 := obj_at hX1 0 _ rfl
            have hX1f := obj_fz hX1 0
            have hX1l := obj_lt hX1
            go_wp2
            go_quiet (fail)
            have tok0 : True := trivial
            go_wp2_with (first | (clear tok0; go_at_call 51; refine (HWR.out _ (hT.ext (by (repeat (first | exact Below.refl _ _ | assumption | refine below_drewN ?_ _ | refine below_drew ?_ | refine below_gr ?_ ?_ _ | refine below_alloc ?_ ?_ _ | refine Below.setCell ?_ ?_ _ | refine below_step ?_ (by assumption) ?_ | omega | (simp only [zz] at *; omega))))) (hO1.ext (by (repeat (first | exact Below.refl _ _ | assumption | refine below_drewN ?_ _ | refine below_drew ?_ | refine below_gr ?_ ?_ _ | refine below_alloc ?_ ?_ _ | refine Below.setCell ?_ ?_ _ | refine below_step ?_ (by assumption) ?_ | omega | (simp only [zz] at *; omega)))))).mono ?_; rintro e u1 ⟨rfl, hb_u1⟩; replace hb_u1 := ex_below hb_u1; have bel_u1 : Below v1.heap.size v1 u1 := (by (repeat (first | exact Below.refl _ _ | assumption | refine below_drewN ?_ _ | refine below_drew ?_ | refine below_gr ?_ ?_ _ | refine below_alloc ?_ ?_ _ | refine Below.setCell ?_ ?_ _ | refine below_step ?_ (by assumption) ?_ | omega | (simp only [zz] at *; omega)))); clear hb_u1; have sz_u1 := bel_u1.size; replace hA1 := hA1.ext bel_u1; replace hT := hT.ext bel_u1; replace hO1 := hO1.ext bel_u1; replace hX1 := hX1.ext bel_u1; replace q1 := (bel_u1.cell (p := ⟨tb, to + k * 2, none⟩) htb).trans q1; replace q2 := (bel_u1.cell (p := ⟨tb, to + k * 2 + 1, none⟩) htb).trans q2; replace htb := Nat.lt_of_lt_of_le htb bel_u1.size; replace hb := below_step hb bel_u1 (by have := hb.size; omega); (try clear hX1c0 hX1f hX1l); have hX1c0 := obj_at hX1 0 _ rfl; have hX1f := obj_fz hX1 0; have hX1l := obj_lt hX1; clear bel_u1; have tok1 : True := trivial))
            exact ⟨⟨k + 1, by omega, by go_num, v_int (by rw [s1.out]; omega), v_int (by rw [s2.out]; first | exact max_if _ _ | simp), v_bool (by rw [s3.out]; first | rfl | (simp; omega)), v_int (by simp [S4]), hb⟩, by simp [intOf]; omega⟩
    · have hkl : k = ps.length := by omega
      have v1 : fullK ps k = n := by rw [hkl]; exact HFULL.out
      have v2 : mostK ps k = m := by rw [hkl]; exact HMOST.out
      have v3 : noneK ps k = false := by rw [hkl]; exact HNONE.out
      have v4 : unitK ps ow k = (un : Nat) := by rw [hkl]; exact HUNIT.out
      have hk1 : ¬ (k : Int) < (ps.length : Int) := by omega
      have hA1 := hA.ext hb
      have hB1 := hB.ext hb
      have hO1 := hO6.ext hb
      have hX1 := hX.ext hb
      have hW1 := below_step hW hb (by have := hW.size; omega)
      have hP1 := hO3.ext hb
      rw [v1, v2, v3, v4]
      clear v1 v2 v3 v4 hkl
      have hPF := HPAY.out
      rcases Nat.eq_zero_or_pos un with h0 | h0
      · subst h0
        rw [hPF.2.2.1 rfl, show payC 0 1000000 = 1000000 from rfl] at C7
        clear hPF
        (try clear hX1c0 hX1f hX1l)
        have hX1c0 := obj_at hX1 0 _ rfl
        have hX1f := obj_fz hX1 0
        have hX1l := obj_lt hX1
        have tok0 : True := trivial
        go_wp2_with (first | (clear tok0; go_at_call 41; refine (C7.out _ _ _ (hA1.ext (by (repeat (first | exact Below.refl _ _ | assumption | refine below_drewN ?_ _ | refine below_drew ?_ | refine below_gr ?_ ?_ _ | refine below_alloc ?_ ?_ _ | refine Below.setCell ?_ ?_ _ | refine below_step ?_ (by assumption) ?_ | omega | (simp only [zz] at *; omega))))) (hB1.ext (by (repeat (first | exact Below.refl _ _ | assumption | refine below_drewN ?_ _ | refine below_drew ?_ | refine below_gr ?_ ?_ _ | refine below_alloc ?_ ?_ _ | refine Below.setCell ?_ ?_ _ | refine below_step ?_ (by assumption) ?_ | omega | (simp only [zz] at *; omega))))) (hO1.ext (by (repeat (first | exact Below.refl _ _ | assumption | refine below_drewN ?_ _ | refine below_drew ?_ | refine below_gr ?_ ?_ _ | refine below_alloc ?_ ?_ _ | refine Below.setCell ?_ ?_ _ | refine below_step ?_ (by assumption) ?_ | omega | (simp only [zz] at *; omega)))))).mono ?_; rintro e u1 ⟨rfl, hb_u1⟩; replace hb_u1 := ex_below hb_u1; have bel_u1 : Below wr.heap.size wr u1 := (by (repeat (first | exact Below.refl _ _ | assumption | refine below_drewN ?_ _ | refine below_drew ?_ | refine below_gr ?_ ?_ _ | refine below_alloc ?_ ?_ _ | refine Below.setCell ?_ ?_ _ | refine below_step ?_ (by assumption) ?_ | omega | (simp only [zz] at *; omega)))); clear hb_u1; have sz_u1 := bel_u1.size; replace hA1 := hA1.ext bel_u1; replace hB1 := hB1.ext bel_u1; replace hO1 := hO1.ext bel_u1; replace hX1 := hX1.ext bel_u1; replace hW1 := below_step hW1 bel_u1 (by have := hW1.size; omega); (try clear hX1c0 hX1f hX1l); have hX1c0 := obj_at hX1 0 _ rfl; have hX1f := obj_fz hX1 0; have hX1l := obj_lt hX1; clear bel_u1; have tok1 : True := trivial) | (clear tok1; go_at_call 52; refine (C8.out _ _ _ (hA1.ext (by (repeat (first | exact Below.refl _ _ | assumption | refine below_drewN ?_ _ | refine below_drew ?_ | refine below_gr ?_ ?_ _ | refine below_alloc ?_ ?_ _ | refine Below.setCell ?_ ?_ _ | refine below_step ?_ (by assumption) ?_ | omega | (simp only [zz] at *; omega))))) (hB1.ext (by (repeat (first | exact Below.refl _ _ | assumption | refine below_drewN ?_ _ | refine below_drew ?_ | refine below_gr ?_ ?_ _ | refine below_alloc ?_ ?_ _ | refine Below.setCell ?_ ?_ _ | refine below_step ?_ (by assumption) ?_ | omega | (simp only [zz] at *; omega))))) (hO1.ext (by (repeat (first | exact Below.refl _ _ | assumption | refine below_drewN ?_ _ | refine below_drew ?_ | refine below_gr ?_ ?_ _ | refine below_alloc ?_ ?_ _ | refine Below.setCell ?_ ?_ _ | refine below_step ?_ (by assumption) ?_ | omega | (simp only [zz] at *; omega)))))).mono ?_; rintro e u2 ⟨rfl, hb_u2⟩; replace hb_u2 := ex_below hb_u2; have bel_u2 : Below u1.heap.size u1 u2 := (by (repeat (first | exact Below.refl _ _ | assumption | refine below_drewN ?_ _ | refine below_drew ?_ | refine below_gr ?_ ?_ _ | refine below_alloc ?_ ?_ _ | refine Below.setCell ?_ ?_ _ | refine below_step ?_ (by assumption) ?_ | omega | (simp only [zz] at *; omega)))); clear hb_u2; have sz_u2 := bel_u2.size; replace hA1 := hA1.ext bel_u2; replace hB1 := hB1.ext bel_u2; replace hO1 := hO1.ext bel_u2; replace hX1 := hX1.ext bel_u2; replace hW1 := below_step hW1 bel_u2 (by have := hW1.size; omega); (try clear hX1c0 hX1f hX1l); have hX1c0 := obj_at hX1 0 _ rfl; have hX1f := obj_fz hX1 0; have hX1l := obj_lt hX1; clear bel_u2; have tok2 : True := trivial))
        go_ret
        exact gives_of rfl hW1
      · obtain ⟨f1, f2, -, f4, f5⟩ := hPF
        rw [ite_self] at f1
        replace f2 := f2 h0
        generalize payP un 1000000 = p1 at *
        generalize payC un 1000000 = r1 at *
        have hml : (un : Int) * (p1 : Int) = ((un * p1 : Nat) : Int) := by simp
        have g0 : (0 : Int) ≤ (un : Int) * (p1 : Int) := by rw [hml]; omega
        have g1 : (un : Int) * (p1 : Int) ≤ 1000000 := by rw [hml]; omega
        have g2 : (un : Int) * (p1 : Int) + (r1 : Int) = 1000000 := by rw [hml]; omega
        have g3 : ((un : Int) * (p1 : Int) + (r1 : Int) == 1000000) = true := by simp [g2]
        have g6 : (un : Int) > 0 := by omega
        have g7 : (r1 : Int) < (un : Int) := by omega
        have g8 : ((un : Int) == 0) = false := by simp; omega
        have g9 : (r1 : Int) ≥ 0 := by omega
        have G2 := hide g2
        clear hml g2 f1
        (try clear hX1c0 hX1f hX1l)
        have hX1c0 := obj_at hX1 0 _ rfl
        have hX1f := obj_fz hX1 0
        have hX1l := obj_lt hX1
        have tok0 : True := trivial
        go_wp2_with (first | (clear tok0; go_at_call 41; refine (C7.out _ _ _ (hA1.ext (by (repeat (first | exact Below.refl _ _ | assumption | refine below_drewN ?_ _ | refine below_drew ?_ | refine below_gr ?_ ?_ _ | refine below_alloc ?_ ?_ _ | refine Below.setCell ?_ ?_ _ | refine below_step ?_ (by assumption) ?_ | omega | (simp only [zz] at *; omega))))) (hB1.ext (by (repeat (first | exact Below.refl _ _ | assumption | refine below_drewN ?_ _ | refine below_drew ?_ | refine below_gr ?_ ?_ _ | refine below_alloc ?_ ?_ _ | refine Below.setCell ?_ ?_ _ | refine below_step ?_ (by assumption) ?_ | omega | (simp only [zz] at *; omega))))) (hO1.ext (by (repeat (first | exact Below.refl _ _ | assumption | refine below_drewN ?_ _ | refine below_drew ?_ | refine below_gr ?_ ?_ _ | refine below_alloc ?_ ?_ _ | refine Below.setCell ?_ ?_ _ | refine below_step ?_ (by assumption) ?_ | omega | (simp only [zz] at *; omega)))))).mono ?_; rintro e u1 ⟨rfl, hb_u1⟩; replace hb_u1 := ex_below hb_u1; have bel_u1 : Below wr.heap.size wr u1 := (by (repeat (first | exact Below.refl _ _ | assumption | refine below_drewN ?_ _ | refine below_drew ?_ | refine below_gr ?_ ?_ _ | refine below_alloc ?_ ?_ _ | refine Below.setCell ?_ ?_ _ | refine below_step ?_ (by assumption) ?_ | omega | (simp only [zz] at *; omega)))); clear hb_u1; have sz_u1 := bel_u1.size; replace hA1 := hA1.ext bel_u1; replace hB1 := hB1.ext bel_u1; replace hO1 := hO1.ext bel_u1; replace hX1 := hX1.ext bel_u1; replace hW1 := below_step hW1 bel_u1 (by have := hW1.size; omega); (try clear hX1c0 hX1f hX1l); have hX1c0 := obj_at hX1 0 _ rfl; have hX1f := obj_fz hX1 0; have hX1l := obj_lt hX1; clear bel_u1; have tok1 : True := trivial) | (clear tok1; go_at_call 52; refine (C8.out _ _ _ (hA1.ext (by (repeat (first | exact Below.refl _ _ | assumption | refine below_drewN ?_ _ | refine below_drew ?_ | refine below_gr ?_ ?_ _ | refine below_alloc ?_ ?_ _ | refine Below.setCell ?_ ?_ _ | refine below_step ?_ (by assumption) ?_ | omega | (simp only [zz] at *; omega))))) (hB1.ext (by (repeat (first | exact Below.refl _ _ | assumption | refine below_drewN ?_ _ | refine below_drew ?_ | refine below_gr ?_ ?_ _ | refine below_alloc ?_ ?_ _ | refine Below.setCell ?_ ?_ _ | refine below_step ?_ (by assumption) ?_ | omega | (simp only [zz] at *; omega))))) (hO1.ext (by (repeat (first | exact Below.refl _ _ | assumption | refine below_drewN ?_ _ | refine below_drew ?_ | refine below_gr ?_ ?_ _ | refine below_alloc ?_ ?_ _ | refine Below.setCell ?_ ?_ _ | refine below_step ?_ (by assumption) ?_ | omega | (simp only [zz] at *; omega)))))).mono ?_; rintro e u2 ⟨rfl, hb_u2⟩; replace hb_u2 := ex_below hb_u2; have bel_u2 : Below u1.heap.size u1 u2 := (by (repeat (first | exact Below.refl _ _ | assumption | refine below_drewN ?_ _ | refine below_drew ?_ | refine below_gr ?_ ?_ _ | refine below_alloc ?_ ?_ _ | refine Below.setCell ?_ ?_ _ | refine below_step ?_ (by assumption) ?_ | omega | (simp only [zz] at *; omega)))); clear hb_u2; have sz_u2 := bel_u2.size; replace hA1 := hA1.ext bel_u2; replace hB1 := hB1.ext bel_u2; replace hO1 := hO1.ext bel_u2; replace hX1 := hX1.ext bel_u2; replace hW1 := below_step hW1 bel_u2 (by have := hW1.size; omega); (try clear hX1c0 hX1f hX1l); have hX1c0 := obj_at hX1 0 _ rfl; have hX1f := obj_fz hX1 0; have hX1l := obj_lt hX1; clear bel_u2; have tok2 : True := trivial))
        go_ret
        exact gives_of rfl hW1
  | some oo =>
  rw [hf] at HPV0 HNONE
  have hoo := List.mem_of_find?_eq_some hf
  have hoz : Bm.uni ts oo = 0 := by have := List.find?_some hf; simpa using this
  clear hf
  have C3 := hide (fun w' (h1 : I64 w' A (zs R)) (h2 : Tks w' B (tz ts)) => (HPV0.out w' h1 h2 : Calls Try.prog 34 #[.agg #[.slice A R.length c], .slice B ts.length d] w' (GivesB w' (zs oo) 0)))
  have C9 := hide (fun X xc w' (h1 : I64 w' A (zs R)) (h2 : Tks w' B (tz ts)) (h3 : I64 w' X (zs oo)) => o_iso A R c B ts d w' h1 h2 hok X _ xc h3 hoo)
  have C10 := hide (fun X xc w' (h1 : I64 w' A (zs R)) (h2 : Tks w' B (tz ts)) (h3 : I64 w' X (zs oo)) => o_units A R c B ts d w' h1 h2 hok X _ xc h3 hoo)
  rw [hoz] at C10
  have HPL := hide (zs_len oo)
  have hpl5 : (oo.length : Int) ≤ 5 := by rw [Bm.outs_len hoo]; omega
  clear hoz hoo
  clear hm HPV0
  have HM := hide hom
  have HDM := hide hdm
  have HOK := hide hok
  clear hom hdm hok
  generalize outcomeN R [x0, x1, x2, x3, x4] = ow at *
  generalize deepO R ts = q at *
  generalize Bm.afterN R ts [] = n at *
  generalize Bm.uni ts ow = un at *
  generalize Bm.uni ts q = m at *
  have tok0 : True := trivial
  go_enter Try.func46, Try.ntmps46
  go_wp2_with (first
    | (clear tok0; go_at_call 32; refine (C1.out _ (hA.ext (by (repeat (first | exact Below.refl _ _ | assumption | refine below_drewN ?_ _ | refine below_drew ?_ | refine below_gr ?_ ?_ _ | refine below_alloc ?_ ?_ _ | refine Below.setCell ?_ ?_ _ | refine below_step ?_ (by assumption) ?_ | omega | (simp only [zz] at *; omega))))) (hB.ext (by (repeat (first | exact Below.refl _ _ | assumption | refine below_drewN ?_ _ | refine below_drew ?_ | refine below_gr ?_ ?_ _ | refine below_alloc ?_ ?_ _ | refine Below.setCell ?_ ?_ _ | refine below_step ?_ (by assumption) ?_ | omega | (simp only [zz] at *; omega)))))).mono ?_; rintro e u1 ⟨rfl, hb_u1⟩; replace hb_u1 := ex_below hb_u1; have hX : BlkAt u1 w.heap.size #[.slice A R.length c] 24 := (show BlkAt ((w.alloc (.cells #[.slice A R.length c] 24)).alloc (.cells #[.int .u8 (x0 : Nat), .int .u8 (x1 : Nat), .int .u8 (x2 : Nat), .int .u8 (x3 : Nat), .int .u8 (x4 : Nat)] 53)) w.heap.size #[.slice A R.length c] 24 from (by unfold BlkAt; (repeat (first | rw [Below.heap_alloc _ _ _ (by (first | omega | (simp only [zz]; omega) | (simp only [zz] at *; omega) | (simp; done) | (simp; omega)))])); exact heap_at (by (first | omega | (simp only [zz]; omega) | (simp only [zz] at *; omega) | (simp; done) | (simp; omega))))).ext hb_u1; have hY : BlkAt u1 (w.heap.size + 1) #[.int .u8 (x0 : Nat), .int .u8 (x1 : Nat), .int .u8 (x2 : Nat), .int .u8 (x3 : Nat), .int .u8 (x4 : Nat)] 53 := (show BlkAt ((w.alloc (.cells #[.slice A R.length c] 24)).alloc (.cells #[.int .u8 (x0 : Nat), .int .u8 (x1 : Nat), .int .u8 (x2 : Nat), .int .u8 (x3 : Nat), .int .u8 (x4 : Nat)] 53)) (w.heap.size + 1) #[.int .u8 (x0 : Nat), .int .u8 (x1 : Nat), .int .u8 (x2 : Nat), .int .u8 (x3 : Nat), .int .u8 (x4 : Nat)] 53 from (by unfold BlkAt; (repeat (first | rw [Below.heap_alloc _ _ _ (by (first | omega | (simp only [zz]; omega) | (simp only [zz] at *; omega) | (simp; done) | (simp; omega)))])); exact heap_at (by (first | omega | (simp only [zz]; omega) | (simp only [zz] at *; omega) | (simp; done) | (simp; omega))))).ext hb_u1; have bel_u1 : Below w.heap.size w u1 := (by (repeat (first | exact Below.refl _ _ | assumption | refine below_drewN ?_ _ | refine below_drew ?_ | refine below_gr ?_ ?_ _ | refine below_alloc ?_ ?_ _ | refine Below.setCell ?_ ?_ _ | refine below_step ?_ (by assumption) ?_ | omega | (simp only [zz] at *; omega)))); clear hb_u1; have sz_u1 := bel_u1.size; replace hA := hA.ext bel_u1; replace hB := hB.ext bel_u1; replace hD := hD.ext bel_u1; (try clear hXc0 hXf hXl); have hXc0 := obj_at hX 0 _ rfl; have hXf := obj_fz hX 0; have hXl := obj_lt hX; (try clear hYc0 hYc1 hYc2 hYc3 hYc4 hYf hYl); have hYc0 := obj_at hY 0 _ rfl; have hYc1 := obj_at hY 1 _ rfl; have hYc2 := obj_at hY 2 _ rfl; have hYc3 := obj_at hY 3 _ rfl; have hYc4 := obj_at hY 4 _ rfl; have hYf := obj_fz hY 0; have hYl := obj_lt hY; have hW := bel_u1; clear bel_u1; have tok1 : True := trivial)
    | (clear tok1; go_at_call 36; refine (C2.out _ (hA.ext (by (repeat (first | exact Below.refl _ _ | assumption | refine below_drewN ?_ _ | refine below_drew ?_ | refine below_gr ?_ ?_ _ | refine below_alloc ?_ ?_ _ | refine Below.setCell ?_ ?_ _ | refine below_step ?_ (by assumption) ?_ | omega | (simp only [zz] at *; omega))))) (hB.ext (by (repeat (first | exact Below.refl _ _ | assumption | refine below_drewN ?_ _ | refine below_drew ?_ | refine below_gr ?_ ?_ _ | refine below_alloc ?_ ?_ _ | refine Below.setCell ?_ ?_ _ | refine below_step ?_ (by assumption) ?_ | omega | (simp only [zz] at *; omega)))))).mono ?_; rintro e u2 ⟨O2, o2, rfl, hb_u2, hO2⟩; replace hb_u2 := ex_below hb_u2; rw [HDL.out]; have bel_u2 : Below u1.heap.size u1 u2 := (by (repeat (first | exact Below.refl _ _ | assumption | refine below_drewN ?_ _ | refine below_drew ?_ | refine below_gr ?_ ?_ _ | refine below_alloc ?_ ?_ _ | refine Below.setCell ?_ ?_ _ | refine below_step ?_ (by assumption) ?_ | omega | (simp only [zz] at *; omega)))); clear hb_u2; have sz_u2 := bel_u2.size; replace hA := hA.ext bel_u2; replace hB := hB.ext bel_u2; replace hD := hD.ext bel_u2; replace hX := hX.ext bel_u2; replace hY := hY.ext bel_u2; replace hW := below_step hW bel_u2 (by have := hW.size; omega); (try clear hXc0 hXf hXl); have hXc0 := obj_at hX 0 _ rfl; have hXf := obj_fz hX 0; have hXl := obj_lt hX; (try clear hYc0 hYc1 hYc2 hYc3 hYc4 hYf hYl); have hYc0 := obj_at hY 0 _ rfl; have hYc1 := obj_at hY 1 _ rfl; have hYc2 := obj_at hY 2 _ rfl; have hYc3 := obj_at hY 3 _ rfl; have hYc4 := obj_at hY 4 _ rfl; have hYf := obj_fz hY 0; have hYl := obj_lt hY; clear bel_u2; have tok2 : True := trivial)
    | (clear tok2; go_at_call 34; refine (C3.out _ (hA.ext (by (repeat (first | exact Below.refl _ _ | assumption | refine below_drewN ?_ _ | refine below_drew ?_ | refine below_gr ?_ ?_ _ | refine below_alloc ?_ ?_ _ | refine Below.setCell ?_ ?_ _ | refine below_step ?_ (by assumption) ?_ | omega | (simp only [zz] at *; omega))))) (hB.ext (by (repeat (first | exact Below.refl _ _ | assumption | refine below_drewN ?_ _ | refine below_drew ?_ | refine below_gr ?_ ?_ _ | refine below_alloc ?_ ?_ _ | refine Below.setCell ?_ ?_ _ | refine below_step ?_ (by assumption) ?_ | omega | (simp only [zz] at *; omega)))))).mono ?_; rintro e u3 ⟨O3, o3, rfl, hb_u3, hO3⟩; replace hb_u3 := ex_below hb_u3; (try rw [HPL.out]); have bel_u3 : Below u2.heap.size u2 u3 := (by (repeat (first | exact Below.refl _ _ | assumption | refine below_drewN ?_ _ | refine below_drew ?_ | refine below_gr ?_ ?_ _ | refine below_alloc ?_ ?_ _ | refine Below.setCell ?_ ?_ _ | refine below_step ?_ (by assumption) ?_ | omega | (simp only [zz] at *; omega)))); clear hb_u3; have sz_u3 := bel_u3.size; replace hA := hA.ext bel_u3; replace hB := hB.ext bel_u3; replace hD := hD.ext bel_u3; replace hX := hX.ext bel_u3; replace hY := hY.ext bel_u3; replace hW := below_step hW bel_u3 (by have := hW.size; omega); replace hO2 := hO2.ext bel_u3; (try clear hXc0 hXf hXl); have hXc0 := obj_at hX 0 _ rfl; have hXf := obj_fz hX 0; have hXl := obj_lt hX; (try clear hYc0 hYc1 hYc2 hYc3 hYc4 hYf hYl); have hYc0 := obj_at hY 0 _ rfl; have hYc1 := obj_at hY 1 _ rfl; have hYc2 := obj_at hY 2 _ rfl; have hYc3 := obj_at hY 3 _ rfl; have hYc4 := obj_at hY 4 _ rfl; have hYf := obj_fz hY 0; have hYl := obj_lt hY; clear bel_u3; have tok3 : True := trivial)
    | (clear tok3; go_at_call 50; refine (C4.out _ _ _ (hA.ext (by (repeat (first | exact Below.refl _ _ | assumption | refine below_drewN ?_ _ | refine below_drew ?_ | refine below_gr ?_ ?_ _ | refine below_alloc ?_ ?_ _ | refine Below.setCell ?_ ?_ _ | refine below_step ?_ (by assumption) ?_ | omega | (simp only [zz] at *; omega))))) (hB.ext (by (repeat (first | exact Below.refl _ _ | assumption | refine below_drewN ?_ _ | refine below_drew ?_ | refine below_gr ?_ ?_ _ | refine below_alloc ?_ ?_ _ | refine Below.setCell ?_ ?_ _ | refine below_step ?_ (by assumption) ?_ | omega | (simp only [zz] at *; omega))))) (hO2.ext (by (repeat (first | exact Below.refl _ _ | assumption | refine below_drewN ?_ _ | refine below_drew ?_ | refine below_gr ?_ ?_ _ | refine below_alloc ?_ ?_ _ | refine Below.setCell ?_ ?_ _ | refine below_step ?_ (by assumption) ?_ | omega | (simp only [zz] at *; omega)))))).mono ?_; rintro e u4 ⟨rfl, hb_u4⟩; replace hb_u4 := ex_below hb_u4; have bel_u4 : Below u3.heap.size u3 u4 := (by (repeat (first | exact Below.refl _ _ | assumption | refine below_drewN ?_ _ | refine below_drew ?_ | refine below_gr ?_ ?_ _ | refine below_alloc ?_ ?_ _ | refine Below.setCell ?_ ?_ _ | refine below_step ?_ (by assumption) ?_ | omega | (simp only [zz] at *; omega)))); clear hb_u4; have sz_u4 := bel_u4.size; replace hA := hA.ext bel_u4; replace hB := hB.ext bel_u4; replace hD := hD.ext bel_u4; replace hX := hX.ext bel_u4; replace hY := hY.ext bel_u4; replace hW := below_step hW bel_u4 (by have := hW.size; omega); replace hO2 := hO2.ext bel_u4; replace hO3 := hO3.ext bel_u4; (try clear hXc0 hXf hXl); have hXc0 := obj_at hX 0 _ rfl; have hXf := obj_fz hX 0; have hXl := obj_lt hX; (try clear hYc0 hYc1 hYc2 hYc3 hYc4 hYf hYl); have hYc0 := obj_at hY 0 _ rfl; have hYc1 := obj_at hY 1 _ rfl; have hYc2 := obj_at hY 2 _ rfl; have hYc3 := obj_at hY 3 _ rfl; have hYc4 := obj_at hY 4 _ rfl; have hYf := obj_fz hY 0; have hYl := obj_lt hY; clear bel_u4; have tok4 : True := trivial)
    | (clear tok4; go_at_call 52; refine (C5.out _ _ _ (hA.ext (by (repeat (first | exact Below.refl _ _ | assumption | refine below_drewN ?_ _ | refine below_drew ?_ | refine below_gr ?_ ?_ _ | refine below_alloc ?_ ?_ _ | refine Below.setCell ?_ ?_ _ | refine below_step ?_ (by assumption) ?_ | omega | (simp only [zz] at *; omega))))) (hB.ext (by (repeat (first | exact Below.refl _ _ | assumption | refine below_drewN ?_ _ | refine below_drew ?_ | refine below_gr ?_ ?_ _ | refine below_alloc ?_ ?_ _ | refine Below.setCell ?_ ?_ _ | refine below_step ?_ (by assumption) ?_ | omega | (simp only [zz] at *; omega))))) (hO2.ext (by (repeat (first | exact Below.refl _ _ | assumption | refine below_drewN ?_ _ | refine below_drew ?_ | refine below_gr ?_ ?_ _ | refine below_alloc ?_ ?_ _ | refine Below.setCell ?_ ?_ _ | refine below_step ?_ (by assumption) ?_ | omega | (simp only [zz] at *; omega)))))).mono ?_; rintro e u5 ⟨rfl, hb_u5⟩; replace hb_u5 := ex_below hb_u5; have bel_u5 : Below u4.heap.size u4 u5 := (by (repeat (first | exact Below.refl _ _ | assumption | refine below_drewN ?_ _ | refine below_drew ?_ | refine below_gr ?_ ?_ _ | refine below_alloc ?_ ?_ _ | refine Below.setCell ?_ ?_ _ | refine below_step ?_ (by assumption) ?_ | omega | (simp only [zz] at *; omega)))); clear hb_u5; have sz_u5 := bel_u5.size; replace hA := hA.ext bel_u5; replace hB := hB.ext bel_u5; replace hD := hD.ext bel_u5; replace hX := hX.ext bel_u5; replace hY := hY.ext bel_u5; replace hW := below_step hW bel_u5 (by have := hW.size; omega); replace hO2 := hO2.ext bel_u5; replace hO3 := hO3.ext bel_u5; (try clear hXc0 hXf hXl); have hXc0 := obj_at hX 0 _ rfl; have hXf := obj_fz hX 0; have hXl := obj_lt hX; (try clear hYc0 hYc1 hYc2 hYc3 hYc4 hYf hYl); have hYc0 := obj_at hY 0 _ rfl; have hYc1 := obj_at hY 1 _ rfl; have hYc2 := obj_at hY 2 _ rfl; have hYc3 := obj_at hY 3 _ rfl; have hYc4 := obj_at hY 4 _ rfl; have hYf := obj_fz hY 0; have hYl := obj_lt hY; clear bel_u5; have tok5 : True := trivial)
    | (clear tok5; go_at_call 47; refine (C6.out _ (hA.ext (by (repeat (first | exact Below.refl _ _ | assumption | refine below_drewN ?_ _ | refine below_drew ?_ | refine below_gr ?_ ?_ _ | refine below_alloc ?_ ?_ _ | refine Below.setCell ?_ ?_ _ | refine below_step ?_ (by assumption) ?_ | omega | (simp only [zz] at *; omega)))))).mono ?_; rintro e u6 ⟨O6, o6, rfl, hb_u6, hO6, -, -⟩; replace hb_u6 := ex_below hb_u6; rw [HOL.out]; have bel_u6 : Below u5.heap.size u5 u6 := (by (repeat (first | exact Below.refl _ _ | assumption | refine below_drewN ?_ _ | refine below_drew ?_ | refine below_gr ?_ ?_ _ | refine below_alloc ?_ ?_ _ | refine Below.setCell ?_ ?_ _ | refine below_step ?_ (by assumption) ?_ | omega | (simp only [zz] at *; omega)))); clear hb_u6; have sz_u6 := bel_u6.size; replace hA := hA.ext bel_u6; replace hB := hB.ext bel_u6; replace hD := hD.ext bel_u6; replace hX := hX.ext bel_u6; replace hY := hY.ext bel_u6; replace hW := below_step hW bel_u6 (by have := hW.size; omega); replace hO2 := hO2.ext bel_u6; replace hO3 := hO3.ext bel_u6; (try clear hXc0 hXf hXl); have hXc0 := obj_at hX 0 _ rfl; have hXf := obj_fz hX 0; have hXl := obj_lt hX; (try clear hYc0 hYc1 hYc2 hYc3 hYc4 hYf hYl); have hYc0 := obj_at hY 0 _ rfl; have hYc1 := obj_at hY 1 _ rfl; have hYc2 := obj_at hY 2 _ rfl; have hYc3 := obj_at hY 3 _ rfl; have hYc4 := obj_at hY 4 _ rfl; have hYf := obj_fz hY 0; have hYl := obj_lt hY; clear bel_u6; have tok6 : True := trivial))

  go_loopw [16, 17, 18, 20, 21] (fun t16 t17 t18 t20 t21 wr => ∃ k : Nat, k ≤ ps.length ∧ t21 = .int .i64 (k : Nat) ∧ t16 = .int .i64 (fullK ps k : Nat) ∧ t17 = .int .i64 (mostK ps k : Nat) ∧ t18 = .bool (noneK ps k) ∧ t20 = .int .i64 (unitK ps ow k) ∧ Below u6.heap.size u6 wr) (fun _ _ _ _ i _ => ps.length - (intOf i).toNat)
  case atStart => exact ⟨0, Nat.zero_le _, rfl, rfl, rfl, rfl, rfl, Below.refl _ _⟩
  case round =>
    obtain ⟨k, hk, rfl, rfl, rfl, rfl, rfl, hb⟩ := hrel
    have hbz := hb.size
    by_cases hlt : k < ps.length
    · have hA1 := hA.ext hb
      have hO1 := hO6.ext hb
      have hX1 := hX.ext hb
      have hD1 := hD.ext hb
      obtain ⟨tb, to, rfl, htb⟩ := hD1.form (by rw [tz_len]; omega)
      obtain ⟨T, tc, q1, q2, q0, hT⟩ := hD1.at (k := k) (by rw [tz_len]; exact hlt)
      simp only [tz_at _ _ hlt, zs_len] at q0 q1 q2 hT
      have hbx := HBOX.out _ (List.getElem_mem hlt)
      have s1 := hide (fullK_succ ps k)
      have s2 := hide (show mostK ps (k + 1) = max (mostK ps k) (ps.getD k ([], 0)).2 from rfl)
      have s3 := hide (show noneK ps (k + 1) = (noneK ps k || (ps.getD k ([], 0)).2 == 0) from rfl)
      have s4 := hide (show unitK ps ow (k + 1) = if Bm.wrongN (ps.getD k ([], 0)).1 ow = 0 then (((ps.getD k ([], 0)).2 : Nat) : Int) else unitK ps ow k from rfl)
      rw [getD_at _ _ hlt] at s1 s2 s3 s4
      have s5 := fullK_mono ps (k := k + 1) (n := ps.length) (by omega)
      rw [HFULL.out, s1.out] at s5
      have s6 := HCNT.out
      have s7 : fullK ps k + fullS ps[k] ≤ 400 := by omega
      have HBX := hide hbx
      clear hD1 s5 s6 hbx
      generalize ps[k] = t at *
      obtain ⟨P, u⟩ : Bm.Tk := t
      simp only at q0 q1 q2 hT HBX s1 s2 s3 s4
      unfold fullS at s1 s7
      simp only at s1 s7
      have HSZ := hide (fun w' (h1 : I64 w' A (zs R)) (h2 : I64 w' T (zs P)) => CSZ.out T P tc w' h1 h2 q0 HBX.out)
      have HWR := hide (fun w' (h1 : I64 w' T (zs P)) (h3 : I64 w' O6 (zs ow)) => CWR.out O6 o6 T P tc w' h1 h3 HBX.out)
      generalize Bm.size P = sz at *
      generalize Bm.wrongN P ow = wg at *
      generalize fullK ps k = fk at *
      generalize mostK ps k = mk at *
      generalize noneK ps k = nk at *
      generalize unitK ps ow k = uk at *
      have hk1 : (k : Int) < (ps.length : Int) := by omega
      have S4 := s4.out
      by_cases hw0 : wg = 0
      · subst hw0
        simp only [if_true] at S4
        rcases Nat.eq_zero_or_pos u with hu0 | hu0
        · subst hu0
          simp only [Nat.lt_irrefl, if_false] at s1 s7
          cases nk
          all_goals
            (try clear hX1c0 hX1f hX1l)
            have hX1c0 := obj_at hX1 0 _ rfl
            have hX1f := obj_fz hX1 0
            have hX1l := obj_lt hX1
            go_wp2
            refine wp_region_grow (by kernel_rfl) (by kernel_rfl) ?_
            repeat (go_big_quiet_step ((go_at_call 25; exact Gives.quiet (HSZ.out _ (hA1.ext (by (repeat (first | exact Below.refl _ _ | assumption | refine below_drewN ?_ _ | refine below_drew ?_ | refine below_gr ?_ ?_ _ | refine below_alloc ?_ ?_ _ | refine Below.setCell ?_ ?_ _ | refine below_step ?_ (by assumption) ?_ | omega | (simp only [zz] at *; omega))))) (hT.ext (by (repeat (first | exact Below.refl _ _ | assumption | refine below_drewN ?_ _ | refine below_drew ?_ | refine below_gr ?_ ?_ _ | refine below_alloc ?_ ?_ _ | refine Below.setCell ?_ ?_ _ | refine below_step ?_ (by assumption) ?_ | omega | (simp only [zz] at *; omega)))))))))
            refine wpQuiet_nil ?_
            intro v1 hb_v1
            replace hb_v1 := ex_below hb_v1
            replace hA1 := hA1.ext hb_v1
            replace hT := hT.ext hb_v1
            replace hO1 := hO1.ext hb_v1
            replace hX1 := hX1.ext hb_v1
            replace q1 := (hb_v1.cell (p := ⟨tb, to + k * 2, none⟩) htb).trans q1
            replace q2 := (hb_v1.cell (p := ⟨tb, to + k * 2 + 1, none⟩) htb).trans q2
            replace htb := Nat.lt_of_lt_of_le htb hb_v1.size
            replace hb := below_step hb hb_v1 (by have := hb.size; omega)
            have sz_v1 := hb_v1.size
            clear hb_v1
            (try clear hX1c0 hX1f hX1l)
            have hX1c0 := obj_at hX1 0 _ rfl
            have hX1f := obj_fz hX1 0
            have hX1l := obj_lt hX1
            go_wp2
            go_quiet (fail)
            have tok0 : True := trivial
            go_wp2_with (first | (clear tok0; go_at_call 51; refine (HWR.out _ (hT.ext (by (repeat (first | exact Below.refl _ _ | assumption | refine below_drewN ?_ _ | refine below_drew ?_ | refine below_gr ?_ ?_ _ | refine below_alloc ?_ ?_ _ | refine Below.setCell ?_ ?_ _ | refine below_step ?_ (by assumption) ?_ | omega | (simp only [zz] at *; omega))))) (hO1.ext (by (repeat (first | exact Below.refl _ _ | assumption | refine below_drewN ?_ _ | refine below_drew ?_ | refine below_gr ?_ ?_ _ | refine below_alloc ?_ ?_ _ | refine Below.setCell ?_ ?_ _ | refine below_step ?_ (by assumption) ?_ | omega | (simp only [zz] at *; omega)))))).mono ?_; rintro e u1 ⟨rfl, hb_u1⟩; replace hb_u1 := ex_below hb_u1; have bel_u1 : Below v1.heap.size v1 u1 := (by (repeat (first | exact Below.refl _ _ | assumption | refine below_drewN ?_ _ | refine below_drew ?_ | refine below_gr ?_ ?_ _ | refine below_alloc ?_ ?_ _ | refine Below.setCell ?_ ?_ _ | refine below_step ?_ (by assumption) ?_ | omega | (simp only [zz] at *; omega)))); clear hb_u1; have sz_u1 := bel_u1.size; replace hA1 := hA1.ext bel_u1; replace hT := hT.ext bel_u1; replace hO1 := hO1.ext bel_u1; replace hX1 := hX1.ext bel_u1; replace q1 := (bel_u1.cell (p := ⟨tb, to + k * 2, none⟩) htb).trans q1; replace q2 := (bel_u1.cell (p := ⟨tb, to + k * 2 + 1, none⟩) htb).trans q2; replace htb := Nat.lt_of_lt_of_le htb bel_u1.size; replace hb := below_step hb bel_u1 (by have := hb.size; omega); (try clear hX1c0 hX1f hX1l); have hX1c0 := obj_at hX1 0 _ rfl; have hX1f := obj_fz hX1 0; have hX1l := obj_lt hX1; clear bel_u1; have tok1 : True := trivial))
            exact ⟨⟨k + 1, by omega, by go_num, v_int (by rw [s1.out]; omega), v_int (by rw [s2.out]; first | exact max_if _ _ | simp), v_bool (by rw [s3.out]; first | rfl | (simp; omega)), v_int (by simp [S4]), hb⟩, by simp [intOf]; omega⟩
        · rw [if_pos hu0] at s1
          rw [if_pos hu0] at s7
          have hu1 : (u : Int) > 0 := by omega
          have hu2 : ((u : Int) == 0) = false := by simp; omega
          have ku : ¬ (u : Int) = 0 := by omega
          have s8 : (fk : Int) + (sz : Int) ≤ 400 := by omega
          cases nk
          all_goals
            (try clear hX1c0 hX1f hX1l)
            have hX1c0 := obj_at hX1 0 _ rfl
            have hX1f := obj_fz hX1 0
            have hX1l := obj_lt hX1
            go_wp2
            refine wp_region_grow (by kernel_rfl) (by kernel_rfl) ?_
            repeat (go_big_quiet_step ((go_at_call 25; exact Gives.quiet (HSZ.out _ (hA1.ext (by (repeat (first | exact Below.refl _ _ | assumption | refine below_drewN ?_ _ | refine below_drew ?_ | refine below_gr ?_ ?_ _ | refine below_alloc ?_ ?_ _ | refine Below.setCell ?_ ?_ _ | refine below_step ?_ (by assumption) ?_ | omega | (simp only [zz] at *; omega))))) (hT.ext (by (repeat (first | exact Below.refl _ _ | assumption | refine below_drewN ?_ _ | refine below_drew ?_ | refine below_gr ?_ ?_ _ | refine below_alloc ?_ ?_ _ | refine Below.setCell ?_ ?_ _ | refine below_step ?_ (by assumption) ?_ | omega | (simp only [zz] at *; omega)))))))))
            refine wpQuiet_nil ?_
            intro v1 hb_v1
            replace hb_v1 := ex_below hb_v1
            replace hA1 := hA1.ext hb_v1
            replace hT := hT.ext hb_v1
            replace hO1 := hO1.ext hb_v1
            replace hX1 := hX1.ext hb_v1
            replace q1 := (hb_v1.cell (p := ⟨tb, to + k * 2, none⟩) htb).trans q1
            replace q2 := (hb_v1.cell (p := ⟨tb, to + k * 2 + 1, none⟩) htb).trans q2
            replace htb := Nat.lt_of_lt_of_le htb hb_v1.size
            replace hb := below_step hb hb_v1 (by have := hb.size; omega)
            have sz_v1 := hb_v1.size
            clear hb_v1
            (try clear hX1c0 hX1f hX1l)
            have hX1c0 := obj_at hX1 0 _ rfl
            have hX1f := obj_fz hX1 0
            have hX1l := obj_lt hX1
            go_wp2
            go_quiet (fail)
            have tok0 : True := trivial
            go_wp2_with (first | (clear tok0; go_at_call 51; refine (HWR.out _ (hT.ext (by (repeat (first | exact Below.refl _ _ | assumption | refine below_drewN ?_ _ | refine below_drew ?_ | refine below_gr ?_ ?_ _ | refine below_alloc ?_ ?_ _ | refine Below.setCell ?_ ?_ _ | refine below_step ?_ (by assumption) ?_ | omega | (simp only [zz] at *; omega))))) (hO1.ext (by (repeat (first | exact Below.refl _ _ | assumption | refine below_drewN ?_ _ | refine below_drew ?_ | refine below_gr ?_ ?_ _ | refine below_alloc ?_ ?_ _ | refine Below.setCell ?_ ?_ _ | refine below_step ?_ (by assumption) ?_ | omega | (simp only [zz] at *; omega)))))).mono ?_; rintro e u1 ⟨rfl, hb_u1⟩; replace hb_u1 := ex_below hb_u1; have bel_u1 : Below v1.heap.size v1 u1 := (by (repeat (first | exact Below.refl _ _ | assumption | refine below_drewN ?_ _ | refine below_drew ?_ | refine below_gr ?_ ?_ _ | refine below_alloc ?_ ?_ _ | refine Below.setCell ?_ ?_ _ | refine below_step ?_ (by assumption) ?_ | omega | (simp only [zz] at *; omega)))); clear hb_u1; have sz_u1 := bel_u1.size; replace hA1 := hA1.ext bel_u1; replace hT := hT.ext bel_u1; replace hO1 := hO1.ext bel_u1; replace hX1 := hX1.ext bel_u1; replace q1 := (bel_u1.cell (p := ⟨tb, to + k * 2, none⟩) htb).trans q1; replace q2 := (bel_u1.cell (p := ⟨tb, to + k * 2 + 1, none⟩) htb).trans q2; replace htb := Nat.lt_of_lt_of_le htb bel_u1.size; replace hb := below_step hb bel_u1 (by have := hb.size; omega); (try clear hX1c0 hX1f hX1l); have hX1c0 := obj_at hX1 0 _ rfl; have hX1f := obj_fz hX1 0; have hX1l := obj_lt hX1; clear bel_u1; have tok1 : True := trivial))
            exact ⟨⟨k + 1, by omega, by go_num, v_int (by rw [s1.out]; omega), v_int (by rw [s2.out]; first | exact max_if _ _ | simp), v_bool (by rw [s3.out]; first | rfl | (simp; omega)), v_int (by simp [S4]), hb⟩, by simp [intOf]; omega⟩
      · rw [if_neg hw0] at S4
        have hwb : ((wg : Int) == 0) = false := by simp; omega
        rcases Nat.eq_zero_or_pos u with hu0 | hu0
        · subst hu0
          simp only [Nat.lt_irrefl, if_false] at s1 s7
          cases nk
          all_goals
            (try clear hX1c0 hX1f hX1l)
            have hX1c0 := obj_at hX1 0 _ rfl
            have hX1f := obj_fz hX1 0
            have hX1l := obj_lt hX1
            go_wp2
            refine wp_region_grow (by kernel_rfl) (by kernel_rfl) ?_
            repeat (go_big_quiet_step ((go_at_call 25; exact Gives.quiet (HSZ.out _ (hA1.ext (by (repeat (first | exact Below.refl _ _ | assumption | refine below_drewN ?_ _ | refine below_drew ?_ | refine below_gr ?_ ?_ _ | refine below_alloc ?_ ?_ _ | refine Below.setCell ?_ ?_ _ | refine below_step ?_ (by assumption) ?_ | omega | (simp only [zz] at *; omega))))) (hT.ext (by (repeat (first | exact Below.refl _ _ | assumption | refine below_drewN ?_ _ | refine below_drew ?_ | refine below_gr ?_ ?_ _ | refine below_alloc ?_ ?_ _ | refine Below.setCell ?_ ?_ _ | refine below_step ?_ (by assumption) ?_ | omega | (simp only [zz] at *; omega)))))))))
            refine wpQuiet_nil ?_
            intro v1 hb_v1
            replace hb_v1 := ex_below hb_v1
            replace hA1 := hA1.ext hb_v1
            replace hT := hT.ext hb_v1
            replace hO1 := hO1.ext hb_v1
            replace hX1 := hX1.ext hb_v1
            replace q1 := (hb_v1.cell (p := ⟨tb, to + k * 2, none⟩) htb).trans q1
            replace q2 := (hb_v1.cell (p := ⟨tb, to + k * 2 + 1, none⟩) htb).trans q2
            replace htb := Nat.lt_of_lt_of_le htb hb_v1.size
            replace hb := below_step hb hb_v1 (by have := hb.size; omega)
            have sz_v1 := hb_v1.size
            clear hb_v1
            (try clear hX1c0 hX1f hX1l)
            have hX1c0 := obj_at hX1 0 _ rfl
            have hX1f := obj_fz hX1 0
            have hX1l := obj_lt hX1
            go_wp2
            go_quiet (fail)
            have tok0 : True := trivial
            go_wp2_with (first | (clear tok0; go_at_call 51; refine (HWR.out _ (hT.ext (by (repeat (first | exact Below.refl _ _ | assumption | refine below_drewN ?_ _ | refine below_drew ?_ | refine below_gr ?_ ?_ _ | refine below_alloc ?_ ?_ _ | refine Below.setCell ?_ ?_ _ | refine below_step ?_ (by assumption) ?_ | omega | (simp only [zz] at *; omega))))) (hO1.ext (by (repeat (first | exact Below.refl _ _ | assumption | refine below_drewN ?_ _ | refine below_drew ?_ | refine below_gr ?_ ?_ _ | refine below_alloc ?_ ?_ _ | refine Below.setCell ?_ ?_ _ | refine below_step ?_ (by assumption) ?_ | omega | (simp only [zz] at *; omega)))))).mono ?_; rintro e u1 ⟨rfl, hb_u1⟩; replace hb_u1 := ex_below hb_u1; have bel_u1 : Below v1.heap.size v1 u1 := (by (repeat (first | exact Below.refl _ _ | assumption | refine below_drewN ?_ _ | refine below_drew ?_ | refine below_gr ?_ ?_ _ | refine below_alloc ?_ ?_ _ | refine Below.setCell ?_ ?_ _ | refine below_step ?_ (by assumption) ?_ | omega | (simp only [zz] at *; omega)))); clear hb_u1; have sz_u1 := bel_u1.size; replace hA1 := hA1.ext bel_u1; replace hT := hT.ext bel_u1; replace hO1 := hO1.ext bel_u1; replace hX1 := hX1.ext bel_u1; replace q1 := (bel_u1.cell (p := ⟨tb, to + k * 2, none⟩) htb).trans q1; replace q2 := (bel_u1.cell (p := ⟨tb, to + k * 2 + 1, none⟩) htb).trans q2; replace htb := Nat.lt_of_lt_of_le htb bel_u1.size; replace hb := below_step hb bel_u1 (by have := hb.size; omega); (try clear hX1c0 hX1f hX1l); have hX1c0 := obj_at hX1 0 _ rfl; have hX1f := obj_fz hX1 0; have hX1l := obj_lt hX1; clear bel_u1; have tok1 : True := trivial))
            exact ⟨⟨k + 1, by omega, by go_num, v_int (by rw [s1.out]; omega), v_int (by rw [s2.out]; first | exact max_if _ _ | simp), v_bool (by rw [s3.out]; first | rfl | (simp; omega)), v_int (by simp [S4]), hb⟩, by simp [intOf]; omega⟩
        · rw [if_pos hu0] at s1
          rw [if_pos hu0] at s7
          have hu1 : (u : Int) > 0 := by omega
          have hu2 : ((u : Int) == 0) = false := by simp; omega
          have ku : ¬ (u : Int) = 0 := by omega
          have s8 : (fk : Int) + (sz : Int) ≤ 400 := by omega
          cases nk
          all_goals
            (try clear hX1c0 hX1f hX1l)
            have hX1c0 := obj_at hX1 0 _ rfl
            have hX1f := obj_fz hX1 0
            have hX1l := obj_lt hX1
            go_wp2
            refine wp_region_grow (by kernel_rfl) (by kernel_rfl) ?_
            repeat (go_big_quiet_step ((go_at_call 25; exact Gives.quiet (HSZ.out _ (hA1.ext (by (repeat (first | exact Below.refl _ _ | assumption | refine below_drewN ?_ _ | refine below_drew ?_ | refine below_gr ?_ ?_ _ | refine below_alloc ?_ ?_ _ | refine Below.setCell ?_ ?_ _ | refine below_step ?_ (by assumption) ?_ | omega | (simp only [zz] at *; omega))))) (hT.ext (by (repeat (first | exact Below.refl _ _ | assumption | refine below_drewN ?_ _ | refine below_drew ?_ | refine below_gr ?_ ?_ _ | refine below_alloc ?_ ?_ _ | refine Below.setCell ?_ ?_ _ | refine below_step ?_ (by assumption) ?_ | omega | (simp only [zz] at *; omega)))))))))
            refine wpQuiet_nil ?_
            intro v1 hb_v1
            replace hb_v1 := ex_below hb_v1
            replace hA1 := hA1.ext hb_v1
            replace hT := hT.ext hb_v1
            replace hO1 := hO1.ext hb_v1
            replace hX1 := hX1.ext hb_v1
            replace q1 := (hb_v1.cell (p := ⟨tb, to + k * 2, none⟩) htb).trans q1
            replace q2 := (hb_v1.cell (p := ⟨tb, to + k * 2 + 1, none⟩) htb).trans q2
            replace htb := Nat.lt_of_lt_of_le htb hb_v1.size
            replace hb := below_step hb hb_v1 (by have := hb.size; omega)
            have sz_v1 := hb_v1.size
            clear hb_v1
            (try clear hX1c0 hX1f hX1l)
            have hX1c0 := obj_at hX1 0 _ rfl
            have hX1f := obj_fz hX1 0
            have hX1l := obj_lt hX1
            go_wp2
            go_quiet (fail)
            have tok0 : True := trivial
            go_wp2_with (first | (clear tok0; go_at_call 51; refine (HWR.out _ (hT.ext (by (repeat (first | exact Below.refl _ _ | assumption | refine below_drewN ?_ _ | refine below_drew ?_ | refine below_gr ?_ ?_ _ | refine below_alloc ?_ ?_ _ | refine Below.setCell ?_ ?_ _ | refine below_step ?_ (by assumption) ?_ | omega | (simp only [zz] at *; omega))))) (hO1.ext (by (repeat (first | exact Below.refl _ _ | assumption | refine below_drewN ?_ _ | refine below_drew ?_ | refine below_gr ?_ ?_ _ | refine below_alloc ?_ ?_ _ | refine Below.setCell ?_ ?_ _ | refine below_step ?_ (by assumption) ?_ | omega | (simp only [zz] at *; omega)))))).mono ?_; rintro e u1 ⟨rfl, hb_u1⟩; replace hb_u1 := ex_below hb_u1; have bel_u1 : Below v1.heap.size v1 u1 := (by (repeat (first | exact Below.refl _ _ | assumption | refine below_drewN ?_ _ | refine below_drew ?_ | refine below_gr ?_ ?_ _ | refine below_alloc ?_ ?_ _ | refine Below.setCell ?_ ?_ _ | refine below_step ?_ (by assumption) ?_ | omega | (simp only [zz] at *; omega)))); clear hb_u1; have sz_u1 := bel_u1.size; replace hA1 := hA1.ext bel_u1; replace hT := hT.ext bel_u1; replace hO1 := hO1.ext bel_u1; replace hX1 := hX1.ext bel_u1; replace q1 := (bel_u1.cell (p := ⟨tb, to + k * 2, none⟩) htb).trans q1; replace q2 := (bel_u1.cell (p := ⟨tb, to + k * 2 + 1, none⟩) htb).trans q2; replace htb := Nat.lt_of_lt_of_le htb bel_u1.size; replace hb := below_step hb bel_u1 (by have := hb.size; omega); (try clear hX1c0 hX1f hX1l); have hX1c0 := obj_at hX1 0 _ rfl; have hX1f := obj_fz hX1 0; have hX1l := obj_lt hX1; clear bel_u1; have tok1 : True := trivial))
            exact ⟨⟨k + 1, by omega, by go_num, v_int (by rw [s1.out]; omega), v_int (by rw [s2.out]; first | exact max_if _ _ | simp), v_bool (by rw [s3.out]; first | rfl | (simp; omega)), v_int (by simp [S4]), hb⟩, by simp [intOf]; omega⟩
    · have hkl : k = ps.length := by omega
      have v1 : fullK ps k = n := by rw [hkl]; exact HFULL.out
      have v2 : mostK ps k = m := by rw [hkl]; exact HMOST.out
      have v3 : noneK ps k = true := by rw [hkl]; exact HNONE.out
      have v4 : unitK ps ow k = (un : Nat) := by rw [hkl]; exact HUNIT.out
      have hk1 : ¬ (k : Int) < (ps.length : Int) := by omega
      have hA1 := hA.ext hb
      have hB1 := hB.ext hb
      have hO1 := hO6.ext hb
      have hX1 := hX.ext hb
      have hW1 := below_step hW hb (by have := hW.size; omega)
      have hP1 := hO3.ext hb
      rw [v1, v2, v3, v4]
      clear v1 v2 v3 v4 hkl
      have hPF := HPAY.out
      rcases Nat.eq_zero_or_pos un with h0 | h0
      · subst h0
        rw [hPF.2.2.1 rfl, show payC 0 1000000 = 1000000 from rfl] at C7
        clear hPF
        (try clear hX1c0 hX1f hX1l)
        have hX1c0 := obj_at hX1 0 _ rfl
        have hX1f := obj_fz hX1 0
        have hX1l := obj_lt hX1
        have tok0 : True := trivial
        go_wp2_with (first | (clear tok0; go_at_call 50; refine (C9.out _ _ _ (hA1.ext (by (repeat (first | exact Below.refl _ _ | assumption | refine below_drewN ?_ _ | refine below_drew ?_ | refine below_gr ?_ ?_ _ | refine below_alloc ?_ ?_ _ | refine Below.setCell ?_ ?_ _ | refine below_step ?_ (by assumption) ?_ | omega | (simp only [zz] at *; omega))))) (hB1.ext (by (repeat (first | exact Below.refl _ _ | assumption | refine below_drewN ?_ _ | refine below_drew ?_ | refine below_gr ?_ ?_ _ | refine below_alloc ?_ ?_ _ | refine Below.setCell ?_ ?_ _ | refine below_step ?_ (by assumption) ?_ | omega | (simp only [zz] at *; omega))))) (hP1.ext (by (repeat (first | exact Below.refl _ _ | assumption | refine below_drewN ?_ _ | refine below_drew ?_ | refine below_gr ?_ ?_ _ | refine below_alloc ?_ ?_ _ | refine Below.setCell ?_ ?_ _ | refine below_step ?_ (by assumption) ?_ | omega | (simp only [zz] at *; omega)))))).mono ?_; rintro e u1 ⟨rfl, hb_u1⟩; replace hb_u1 := ex_below hb_u1; have bel_u1 : Below wr.heap.size wr u1 := (by (repeat (first | exact Below.refl _ _ | assumption | refine below_drewN ?_ _ | refine below_drew ?_ | refine below_gr ?_ ?_ _ | refine below_alloc ?_ ?_ _ | refine Below.setCell ?_ ?_ _ | refine below_step ?_ (by assumption) ?_ | omega | (simp only [zz] at *; omega)))); clear hb_u1; have sz_u1 := bel_u1.size; replace hA1 := hA1.ext bel_u1; replace hB1 := hB1.ext bel_u1; replace hO1 := hO1.ext bel_u1; replace hX1 := hX1.ext bel_u1; replace hW1 := below_step hW1 bel_u1 (by have := hW1.size; omega); replace hP1 := hP1.ext bel_u1; (try clear hX1c0 hX1f hX1l); have hX1c0 := obj_at hX1 0 _ rfl; have hX1f := obj_fz hX1 0; have hX1l := obj_lt hX1; clear bel_u1; have tok1 : True := trivial) | (clear tok1; go_at_call 52; refine (C10.out _ _ _ (hA1.ext (by (repeat (first | exact Below.refl _ _ | assumption | refine below_drewN ?_ _ | refine below_drew ?_ | refine below_gr ?_ ?_ _ | refine below_alloc ?_ ?_ _ | refine Below.setCell ?_ ?_ _ | refine below_step ?_ (by assumption) ?_ | omega | (simp only [zz] at *; omega))))) (hB1.ext (by (repeat (first | exact Below.refl _ _ | assumption | refine below_drewN ?_ _ | refine below_drew ?_ | refine below_gr ?_ ?_ _ | refine below_alloc ?_ ?_ _ | refine Below.setCell ?_ ?_ _ | refine below_step ?_ (by assumption) ?_ | omega | (simp only [zz] at *; omega))))) (hP1.ext (by (repeat (first | exact Below.refl _ _ | assumption | refine below_drewN ?_ _ | refine below_drew ?_ | refine below_gr ?_ ?_ _ | refine below_alloc ?_ ?_ _ | refine Below.setCell ?_ ?_ _ | refine below_step ?_ (by assumption) ?_ | omega | (simp only [zz] at *; omega)))))).mono ?_; rintro e u2 ⟨rfl, hb_u2⟩; replace hb_u2 := ex_below hb_u2; have bel_u2 : Below u1.heap.size u1 u2 := (by (repeat (first | exact Below.refl _ _ | assumption | refine below_drewN ?_ _ | refine below_drew ?_ | refine below_gr ?_ ?_ _ | refine below_alloc ?_ ?_ _ | refine Below.setCell ?_ ?_ _ | refine below_step ?_ (by assumption) ?_ | omega | (simp only [zz] at *; omega)))); clear hb_u2; have sz_u2 := bel_u2.size; replace hA1 := hA1.ext bel_u2; replace hB1 := hB1.ext bel_u2; replace hO1 := hO1.ext bel_u2; replace hX1 := hX1.ext bel_u2; replace hW1 := below_step hW1 bel_u2 (by have := hW1.size; omega); replace hP1 := hP1.ext bel_u2; (try clear hX1c0 hX1f hX1l); have hX1c0 := obj_at hX1 0 _ rfl; have hX1f := obj_fz hX1 0; have hX1l := obj_lt hX1; clear bel_u2; have tok2 : True := trivial) | (clear tok2; go_at_call 41; refine (C7.out _ _ _ (hA1.ext (by (repeat (first | exact Below.refl _ _ | assumption | refine below_drewN ?_ _ | refine below_drew ?_ | refine below_gr ?_ ?_ _ | refine below_alloc ?_ ?_ _ | refine Below.setCell ?_ ?_ _ | refine below_step ?_ (by assumption) ?_ | omega | (simp only [zz] at *; omega))))) (hB1.ext (by (repeat (first | exact Below.refl _ _ | assumption | refine below_drewN ?_ _ | refine below_drew ?_ | refine below_gr ?_ ?_ _ | refine below_alloc ?_ ?_ _ | refine Below.setCell ?_ ?_ _ | refine below_step ?_ (by assumption) ?_ | omega | (simp only [zz] at *; omega))))) (hO1.ext (by (repeat (first | exact Below.refl _ _ | assumption | refine below_drewN ?_ _ | refine below_drew ?_ | refine below_gr ?_ ?_ _ | refine below_alloc ?_ ?_ _ | refine Below.setCell ?_ ?_ _ | refine below_step ?_ (by assumption) ?_ | omega | (simp only [zz] at *; omega)))))).mono ?_; rintro e u3 ⟨rfl, hb_u3⟩; replace hb_u3 := ex_below hb_u3; have bel_u3 : Below u2.heap.size u2 u3 := (by (repeat (first | exact Below.refl _ _ | assumption | refine below_drewN ?_ _ | refine below_drew ?_ | refine below_gr ?_ ?_ _ | refine below_alloc ?_ ?_ _ | refine Below.setCell ?_ ?_ _ | refine below_step ?_ (by assumption) ?_ | omega | (simp only [zz] at *; omega)))); clear hb_u3; have sz_u3 := bel_u3.size; replace hA1 := hA1.ext bel_u3; replace hB1 := hB1.ext bel_u3; replace hO1 := hO1.ext bel_u3; replace hX1 := hX1.ext bel_u3; replace hW1 := below_step hW1 bel_u3 (by have := hW1.size; omega); replace hP1 := hP1.ext bel_u3; (try clear hX1c0 hX1f hX1l); have hX1c0 := obj_at hX1 0 _ rfl; have hX1f := obj_fz hX1 0; have hX1l := obj_lt hX1; clear bel_u3; have tok3 : True := trivial) | (clear tok3; go_at_call 52; refine (C8.out _ _ _ (hA1.ext (by (repeat (first | exact Below.refl _ _ | assumption | refine below_drewN ?_ _ | refine below_drew ?_ | refine below_gr ?_ ?_ _ | refine below_alloc ?_ ?_ _ | refine Below.setCell ?_ ?_ _ | refine below_step ?_ (by assumption) ?_ | omega | (simp only [zz] at *; omega))))) (hB1.ext (by (repeat (first | exact Below.refl _ _ | assumption | refine below_drewN ?_ _ | refine below_drew ?_ | refine below_gr ?_ ?_ _ | refine below_alloc ?_ ?_ _ | refine Below.setCell ?_ ?_ _ | refine below_step ?_ (by assumption) ?_ | omega | (simp only [zz] at *; omega))))) (hO1.ext (by (repeat (first | exact Below.refl _ _ | assumption | refine below_drewN ?_ _ | refine below_drew ?_ | refine below_gr ?_ ?_ _ | refine below_alloc ?_ ?_ _ | refine Below.setCell ?_ ?_ _ | refine below_step ?_ (by assumption) ?_ | omega | (simp only [zz] at *; omega)))))).mono ?_; rintro e u4 ⟨rfl, hb_u4⟩; replace hb_u4 := ex_below hb_u4; have bel_u4 : Below u3.heap.size u3 u4 := (by (repeat (first | exact Below.refl _ _ | assumption | refine below_drewN ?_ _ | refine below_drew ?_ | refine below_gr ?_ ?_ _ | refine below_alloc ?_ ?_ _ | refine Below.setCell ?_ ?_ _ | refine below_step ?_ (by assumption) ?_ | omega | (simp only [zz] at *; omega)))); clear hb_u4; have sz_u4 := bel_u4.size; replace hA1 := hA1.ext bel_u4; replace hB1 := hB1.ext bel_u4; replace hO1 := hO1.ext bel_u4; replace hX1 := hX1.ext bel_u4; replace hW1 := below_step hW1 bel_u4 (by have := hW1.size; omega); replace hP1 := hP1.ext bel_u4; (try clear hX1c0 hX1f hX1l); have hX1c0 := obj_at hX1 0 _ rfl; have hX1f := obj_fz hX1 0; have hX1l := obj_lt hX1; clear bel_u4; have tok4 : True := trivial))
        go_ret
        exact gives_of rfl hW1
      · obtain ⟨f1, f2, -, f4, f5⟩ := hPF
        rw [ite_self] at f1
        replace f2 := f2 h0
        generalize payP un 1000000 = p1 at *
        generalize payC un 1000000 = r1 at *
        have hml : (un : Int) * (p1 : Int) = ((un * p1 : Nat) : Int) := by simp
        have g0 : (0 : Int) ≤ (un : Int) * (p1 : Int) := by rw [hml]; omega
        have g1 : (un : Int) * (p1 : Int) ≤ 1000000 := by rw [hml]; omega
        have g2 : (un : Int) * (p1 : Int) + (r1 : Int) = 1000000 := by rw [hml]; omega
        have g3 : ((un : Int) * (p1 : Int) + (r1 : Int) == 1000000) = true := by simp [g2]
        have g6 : (un : Int) > 0 := by omega
        have g7 : (r1 : Int) < (un : Int) := by omega
        have g8 : ((un : Int) == 0) = false := by simp; omega
        have g9 : (r1 : Int) ≥ 0 := by omega
        have G2 := hide g2
        clear hml g2 f1
        (try clear hX1c0 hX1f hX1l)
        have hX1c0 := obj_at hX1 0 _ rfl
        have hX1f := obj_fz hX1 0
        have hX1l := obj_lt hX1
        have tok0 : True := trivial
        go_wp2_with (first | (clear tok0; go_at_call 50; refine (C9.out _ _ _ (hA1.ext (by (repeat (first | exact Below.refl _ _ | assumption | refine below_drewN ?_ _ | refine below_drew ?_ | refine below_gr ?_ ?_ _ | refine below_alloc ?_ ?_ _ | refine Below.setCell ?_ ?_ _ | refine below_step ?_ (by assumption) ?_ | omega | (simp only [zz] at *; omega))))) (hB1.ext (by (repeat (first | exact Below.refl _ _ | assumption | refine below_drewN ?_ _ | refine below_drew ?_ | refine below_gr ?_ ?_ _ | refine below_alloc ?_ ?_ _ | refine Below.setCell ?_ ?_ _ | refine below_step ?_ (by assumption) ?_ | omega | (simp only [zz] at *; omega))))) (hP1.ext (by (repeat (first | exact Below.refl _ _ | assumption | refine below_drewN ?_ _ | refine below_drew ?_ | refine below_gr ?_ ?_ _ | refine below_alloc ?_ ?_ _ | refine Below.setCell ?_ ?_ _ | refine below_step ?_ (by assumption) ?_ | omega | (simp only [zz] at *; omega)))))).mono ?_; rintro e u1 ⟨rfl, hb_u1⟩; replace hb_u1 := ex_below hb_u1; have bel_u1 : Below wr.heap.size wr u1 := (by (repeat (first | exact Below.refl _ _ | assumption | refine below_drewN ?_ _ | refine below_drew ?_ | refine below_gr ?_ ?_ _ | refine below_alloc ?_ ?_ _ | refine Below.setCell ?_ ?_ _ | refine below_step ?_ (by assumption) ?_ | omega | (simp only [zz] at *; omega)))); clear hb_u1; have sz_u1 := bel_u1.size; replace hA1 := hA1.ext bel_u1; replace hB1 := hB1.ext bel_u1; replace hO1 := hO1.ext bel_u1; replace hX1 := hX1.ext bel_u1; replace hW1 := below_step hW1 bel_u1 (by have := hW1.size; omega); replace hP1 := hP1.ext bel_u1; (try clear hX1c0 hX1f hX1l); have hX1c0 := obj_at hX1 0 _ rfl; have hX1f := obj_fz hX1 0; have hX1l := obj_lt hX1; clear bel_u1; have tok1 : True := trivial) | (clear tok1; go_at_call 52; refine (C10.out _ _ _ (hA1.ext (by (repeat (first | exact Below.refl _ _ | assumption | refine below_drewN ?_ _ | refine below_drew ?_ | refine below_gr ?_ ?_ _ | refine below_alloc ?_ ?_ _ | refine Below.setCell ?_ ?_ _ | refine below_step ?_ (by assumption) ?_ | omega | (simp only [zz] at *; omega))))) (hB1.ext (by (repeat (first | exact Below.refl _ _ | assumption | refine below_drewN ?_ _ | refine below_drew ?_ | refine below_gr ?_ ?_ _ | refine below_alloc ?_ ?_ _ | refine Below.setCell ?_ ?_ _ | refine below_step ?_ (by assumption) ?_ | omega | (simp only [zz] at *; omega))))) (hP1.ext (by (repeat (first | exact Below.refl _ _ | assumption | refine below_drewN ?_ _ | refine below_drew ?_ | refine below_gr ?_ ?_ _ | refine below_alloc ?_ ?_ _ | refine Below.setCell ?_ ?_ _ | refine below_step ?_ (by assumption) ?_ | omega | (simp only [zz] at *; omega)))))).mono ?_; rintro e u2 ⟨rfl, hb_u2⟩; replace hb_u2 := ex_below hb_u2; have bel_u2 : Below u1.heap.size u1 u2 := (by (repeat (first | exact Below.refl _ _ | assumption | refine below_drewN ?_ _ | refine below_drew ?_ | refine below_gr ?_ ?_ _ | refine below_alloc ?_ ?_ _ | refine Below.setCell ?_ ?_ _ | refine below_step ?_ (by assumption) ?_ | omega | (simp only [zz] at *; omega)))); clear hb_u2; have sz_u2 := bel_u2.size; replace hA1 := hA1.ext bel_u2; replace hB1 := hB1.ext bel_u2; replace hO1 := hO1.ext bel_u2; replace hX1 := hX1.ext bel_u2; replace hW1 := below_step hW1 bel_u2 (by have := hW1.size; omega); replace hP1 := hP1.ext bel_u2; (try clear hX1c0 hX1f hX1l); have hX1c0 := obj_at hX1 0 _ rfl; have hX1f := obj_fz hX1 0; have hX1l := obj_lt hX1; clear bel_u2; have tok2 : True := trivial) | (clear tok2; go_at_call 41; refine (C7.out _ _ _ (hA1.ext (by (repeat (first | exact Below.refl _ _ | assumption | refine below_drewN ?_ _ | refine below_drew ?_ | refine below_gr ?_ ?_ _ | refine below_alloc ?_ ?_ _ | refine Below.setCell ?_ ?_ _ | refine below_step ?_ (by assumption) ?_ | omega | (simp only [zz] at *; omega))))) (hB1.ext (by (repeat (first | exact Below.refl _ _ | assumption | refine below_drewN ?_ _ | refine below_drew ?_ | refine below_gr ?_ ?_ _ | refine below_alloc ?_ ?_ _ | refine Below.setCell ?_ ?_ _ | refine below_step ?_ (by assumption) ?_ | omega | (simp only [zz] at *; omega))))) (hO1.ext (by (repeat (first | exact Below.refl _ _ | assumption | refine below_drewN ?_ _ | refine below_drew ?_ | refine below_gr ?_ ?_ _ | refine below_alloc ?_ ?_ _ | refine Below.setCell ?_ ?_ _ | refine below_step ?_ (by assumption) ?_ | omega | (simp only [zz] at *; omega)))))).mono ?_; rintro e u3 ⟨rfl, hb_u3⟩; replace hb_u3 := ex_below hb_u3; have bel_u3 : Below u2.heap.size u2 u3 := (by (repeat (first | exact Below.refl _ _ | assumption | refine below_drewN ?_ _ | refine below_drew ?_ | refine below_gr ?_ ?_ _ | refine below_alloc ?_ ?_ _ | refine Below.setCell ?_ ?_ _ | refine below_step ?_ (by assumption) ?_ | omega | (simp only [zz] at *; omega)))); clear hb_u3; have sz_u3 := bel_u3.size; replace hA1 := hA1.ext bel_u3; replace hB1 := hB1.ext bel_u3; replace hO1 := hO1.ext bel_u3; replace hX1 := hX1.ext bel_u3; replace hW1 := below_step hW1 bel_u3 (by have := hW1.size; omega); replace hP1 := hP1.ext bel_u3; (try clear hX1c0 hX1f hX1l); have hX1c0 := obj_at hX1 0 _ rfl; have hX1f := obj_fz hX1 0; have hX1l := obj_lt hX1; clear bel_u3; have tok3 : True := trivial) | (clear tok3; go_at_call 52; refine (C8.out _ _ _ (hA1.ext (by (repeat (first | exact Below.refl _ _ | assumption | refine below_drewN ?_ _ | refine below_drew ?_ | refine below_gr ?_ ?_ _ | refine below_alloc ?_ ?_ _ | refine Below.setCell ?_ ?_ _ | refine below_step ?_ (by assumption) ?_ | omega | (simp only [zz] at *; omega))))) (hB1.ext (by (repeat (first | exact Below.refl _ _ | assumption | refine below_drewN ?_ _ | refine below_drew ?_ | refine below_gr ?_ ?_ _ | refine below_alloc ?_ ?_ _ | refine Below.setCell ?_ ?_ _ | refine below_step ?_ (by assumption) ?_ | omega | (simp only [zz] at *; omega))))) (hO1.ext (by (repeat (first | exact Below.refl _ _ | assumption | refine below_drewN ?_ _ | refine below_drew ?_ | refine below_gr ?_ ?_ _ | refine below_alloc ?_ ?_ _ | refine Below.setCell ?_ ?_ _ | refine below_step ?_ (by assumption) ?_ | omega | (simp only [zz] at *; omega)))))).mono ?_; rintro e u4 ⟨rfl, hb_u4⟩; replace hb_u4 := ex_below hb_u4; have bel_u4 : Below u3.heap.size u3 u4 := (by (repeat (first | exact Below.refl _ _ | assumption | refine below_drewN ?_ _ | refine below_drew ?_ | refine below_gr ?_ ?_ _ | refine below_alloc ?_ ?_ _ | refine Below.setCell ?_ ?_ _ | refine below_step ?_ (by assumption) ?_ | omega | (simp only [zz] at *; omega)))); clear hb_u4; have sz_u4 := bel_u4.size; replace hA1 := hA1.ext bel_u4; replace hB1 := hB1.ext bel_u4; replace hO1 := hO1.ext bel_u4; replace hX1 := hX1.ext bel_u4; replace hW1 := below_step hW1 bel_u4 (by have := hW1.size; omega); replace hP1 := hP1.ext bel_u4; (try clear hX1c0 hX1f hX1l); have hX1c0 := obj_at hX1 0 _ rfl; have hX1f := obj_fz hX1 0; have hX1l := obj_lt hX1; clear bel_u4; have tok4 : True := trivial))
        go_ret
        exact gives_of rfl hW1


end Go.Proofs.Ytlbkaeoagdbemaa
