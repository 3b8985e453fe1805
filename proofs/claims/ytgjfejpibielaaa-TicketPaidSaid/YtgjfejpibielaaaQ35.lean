/- Proved here: the reference: the errors of claims; the reference: the nearest code, a part of the proofs about the ticket laws. Conditions: those that each theorem names, no others. -/
import Derived.Test.YtgjfejpibielaaaQ34
import Derived.WalkKit
import Derived.WalkSpells
import Derived.WalkLawsBesides
import Derived.Below
import Derived.Deep.QuietTactic
import Derived.BigQuiet
import Derived.Deep.Light
set_option linter.unusedSimpArgs false
set_option linter.unusedVariables false
namespace Go.Proofs.Ytgjfejpibielaaa
open Go.RowKit Go.Maps Go.Shelf
attribute [local go_sem] Oper.semAt_some World.cell?_setCell_far
set_option maxRecDepth 100000 in
set_option maxHeartbeats 4000000 in
theorem rClaimed_ok (L rest : Nat) (A : Option Addr) (K : List Nat) (c : Nat)(Y : Option Addr) (rows : List LRow) (yc : Nat) (D : Option Addr) (rs : List (Int × Int)) (dc : Nat)(w : World) (hd : OkD L rest K) (hA : I64 w A (zs K)) (hT : Lst w Y rows) (hD : Rng w D rs) (hl : rs.length ≤ 1000) (hrl : rows.length ≤ 1000) : Calls Try.prog 42 #[.agg #[.int .i64 (L : Nat), .int .i64 (K.length : Nat), .slice A K.length c, .int .i64 (rest : Nat)], .slice Y rows.length yc, .slice D rs.length dc] w (Gives w (.int .i64 (clmE ((Tt.codes L rest K).length : Nat) L K.length (rows.map fun r => r.2.1) rs))) := by
 have hn8 := hd.2.2.2.1
 have hL6 := hd.2.1
 have HD0 := hide (fun w' (h : I64 w' A (zs K)) => (show Calls Try.prog 25 #[.agg #[.int .i64 (L : Nat), .int .i64 (K.length : Nat), .slice A K.length c, .int .i64 (rest : Nat)]] w' (Gives w' (.int .i64 0)) by
  have h2 := rCheckDay_any (L : Nat) (K.length : Nat) A (zs K) c (rest : Nat) w' h (by rw [zs_len]; have := hd.2.2.2.1; omega)
  rw [zs_len, chk_zero hd] at h2
  exact h2))
 have HCT := hide (fun (r : LRow) w' (h : I64 w' A (zs K)) (h1 : I64 w' r.1 r.2.1) => rCheckTorn_any L rest A K c r.1 r.2.1 r.2.2 w' hd h h1)
 have HCS := hide (fun w' (h : I64 w' A (zs K)) (h1 : Rng w' D rs) => rCheckSold_any L rest A K c D rs dc w' hd h h1 hl)
 have hrows := hT.2
 have hrd := hT.1
 obtain ⟨R, hR⟩ : ∃ v, clmE ((Tt.codes L rest K).length : Nat) L K.length (rows.map fun r => r.2.1) rs = v := ⟨_, rfl⟩
 rw [hR]
 unfold clmE at hR
 rw [List.length_map] at hR
 obtain ⟨CV, hCV⟩ : ∃ v, chkSold ((Tt.codes L rest K).length : Nat) rs = v := ⟨_, rfl⟩
 rw [hCV] at hR HCS
 have HR := hide hR
 clear hR hCV hd
 by_cases h6 : 6 < rows.length
 · have h6I : (6 : Int) < (rows.length : Int) := by omega
   have HRE : Hid (R = 6) := hide (by rw [← HR.out, if_pos h6])
   clear HR
   go_enter Try.func42, Try.ntmps42
   go_upto_region 1 with fail
   obtain ⟨wa, hwa, hW, hX⟩ := boxed w #[.int .i64 (L : Nat), .int .i64 (K.length : Nat), .slice A K.length c, .int .i64 (rest : Nat)] 24
   rw [hwa]
   clear hwa
   replace hA := hA.ext hW
   have q0 := obj_at hX 0 _ rfl
   have q1 := obj_at hX 1 _ rfl
   have q2 := obj_at hX 2 _ rfl
   have q3 := obj_at hX 3 _ rfl
   have ql := obj_lt hX
   have hWs := hW.size
   have tok0 : True := trivial
   go_wp2_with (first
 | (clear tok0; go_at_call 25; refine (HD0.out _ hA).mono ?_; rintro e u1 ⟨rfl, hb1⟩; replace hb1 := ex_below hb1; have hz1 := hb1.size; have hB1 := below_step hW hb1 (by omega); have hzB1 := hB1.size; have hA_1 := hA.ext hb1; have hX_1 := hX.ext hb1; clear q0 q1 q2 q3 ql; have q0 := obj_at hX_1 0 _ rfl; have q1 := obj_at hX_1 1 _ rfl; have q2 := obj_at hX_1 2 _ rfl; have q3 := obj_at hX_1 3 _ rfl; have ql := obj_lt hX_1; have tok1 : True := trivial))
   go_ret
   exact gives_of (by rw [HRE.out]; rfl) hB1
 · have h6I : ¬ ((6 : Int) < (rows.length : Int)) := by omega
   have HR2 : Hid (R = if chkTs L K.length (rows.map fun r => r.2.1) ≠ 0 then chkTs L K.length (rows.map fun r => r.2.1) else CV) := hide (by rw [← HR.out, if_neg h6])
   clear HR
   go_enter Try.func42, Try.ntmps42
   go_upto_region 1 with fail
   obtain ⟨wa, hwa, hW, hX⟩ := boxed w #[.int .i64 (L : Nat), .int .i64 (K.length : Nat), .slice A K.length c, .int .i64 (rest : Nat)] 24
   rw [hwa]
   clear hwa
   replace hA := hA.ext hW
   have q0 := obj_at hX 0 _ rfl
   have q1 := obj_at hX 1 _ rfl
   have q2 := obj_at hX 2 _ rfl
   have q3 := obj_at hX 3 _ rfl
   have ql := obj_lt hX
   have hWs := hW.size
   have tok0 : True := trivial
   go_wp2_with (first
 | (clear tok0; go_at_call 25; refine (HD0.out _ hA).mono ?_; rintro e u1 ⟨rfl, hb1⟩; replace hb1 := ex_below hb1; have hz1 := hb1.size; have hB1 := below_step hW hb1 (by omega); have hzB1 := hB1.size; have hA_1 := hA.ext hb1; have hX_1 := hX.ext hb1; clear q0 q1 q2 q3 ql; have q0 := obj_at hX_1 0 _ rfl; have q1 := obj_at hX_1 1 _ rfl; have q2 := obj_at hX_1 2 _ rfl; have q3 := obj_at hX_1 3 _ rfl; have ql := obj_lt hX_1; have tok1 : True := trivial))
   go_loopw [7] (fun iv wr => ∃ k : Nat, k ≤ rows.length ∧ iv = .int .i64 (k : Nat) ∧ Hid (R = if chkTs L K.length ((rows.drop k).map fun r => r.2.1) ≠ 0 then chkTs L K.length ((rows.drop k).map fun r => r.2.1) else CV) ∧ Below u1.heap.size u1 wr) (fun iv _ => rows.length - (intOf iv).toNat)
   case atStart => exact ⟨0, Nat.zero_le _, rfl, hide HR2.out, Below.refl _ _⟩
   case round =>
    obtain ⟨k, hk, rfl, HQ, hb⟩ := hrel
    have hzr := hb.size
    have hBr := below_step hB1 hb (by omega)
    have hXr := hX_1.ext hb
    have hAr := hA_1.ext hb
    have hDr : Rng wr D rs := Rd.ext hD hBr
    clear q0 q1 q2 q3 ql
    have q0 := obj_at hXr 0 _ rfl
    have q1 := obj_at hXr 1 _ rfl
    have q2 := obj_at hXr 2 _ rfl
    have q3 := obj_at hXr 3 _ rfl
    have ql := obj_lt hXr
    by_cases hlt : k < rows.length
    · have hki : (k : Int) < (rows.length : Int) := by omega
      have hrr := hrd.ext hBr
      obtain ⟨rb, ro, rfl, hrb, hrc⟩ := hrr.2 (by omega)
      have hc0 := hrc k (cellL rows[k]) (by simp [hlt])
      have hIr := (hrows _ (List.getElem_mem hlt)).ext hBr
      have HCT2 := hide (HCT.out rows[k])
      have hst : chkTs L K.length ((rows.drop k).map fun r => r.2.1) = if chk1 L K.length rows[k].2.1 = 0 then chkTs L K.length ((rows.drop (k + 1)).map fun r => r.2.1) else chk1 L K.length rows[k].2.1 := by rw [List.drop_eq_getElem_cons hlt]; rfl
      have HST := hide hst
      obtain ⟨⟨Yk, t, yk⟩, hr⟩ : ∃ v, rows[k] = v := ⟨_, rfl⟩
      rw [hr] at hc0 hIr HCT2 HST
      unfold cellL at hc0
      dsimp only at hc0 hIr HCT2 HST
      clear hst hr hrc hrr
      obtain ⟨e1, he1⟩ : ∃ v, chk1 L K.length t = v := ⟨_, rfl⟩
      rw [he1] at HCT2 HST
      clear he1
      by_cases hz : e1 = 0
      · have hzI : (e1 != 0) = false := by simp [hz]
        have HQ2 : Hid (R = if chkTs L K.length ((rows.drop (k + 1)).map fun r => r.2.1) ≠ 0 then chkTs L K.length ((rows.drop (k + 1)).map fun r => r.2.1) else CV) := hide (by rw [HQ.out, HST.out, if_pos hz])
        clear HQ HST
        go_upto_region 8 with fail
        refine wp_region_grow (by kernel_rfl) (by kernel_rfl) ?_
        repeat (go_big_quiet_step ((go_at_call 79; exact Gives.quiet (HCT2.out _ (hAr.ext (by (repeat (first | exact Below.refl _ _ | assumption | refine below_drewN ?_ _ | refine below_drew ?_ | refine below_gr ?_ ?_ _ | refine below_alloc ?_ ?_ _ | refine Below.setCell ?_ ?_ _ | refine below_step ?_ (by assumption) ?_ | omega | (simp only [zz] at *; omega))))) (hIr.ext (by (repeat (first | exact Below.refl _ _ | assumption | refine below_drewN ?_ _ | refine below_drew ?_ | refine below_gr ?_ ?_ _ | refine below_alloc ?_ ?_ _ | refine Below.setCell ?_ ?_ _ | refine below_step ?_ (by assumption) ?_ | omega | (simp only [zz] at *; omega)))))))))
        refine wpQuiet_nil ?_
        intro w4 hb4
        replace hb4 := ex_below hb4
        go_wp2
        exact ⟨⟨k + 1, by omega, by go_num, HQ2, below_step hb hb4 hzr⟩, by simp [intOf]; omega⟩
      · have hzI : (e1 != 0) = true := by simp [hz]
        have HRE : Hid (R = e1) := hide (by rw [HQ.out, HST.out, if_neg hz, if_pos hz])
        clear HQ HST
        go_upto_region 8 with fail
        refine wp_region_grow (by kernel_rfl) (by kernel_rfl) ?_
        repeat (go_big_quiet_step ((go_at_call 79; exact Gives.quiet (HCT2.out _ (hAr.ext (by (repeat (first | exact Below.refl _ _ | assumption | refine below_drewN ?_ _ | refine below_drew ?_ | refine below_gr ?_ ?_ _ | refine below_alloc ?_ ?_ _ | refine Below.setCell ?_ ?_ _ | refine below_step ?_ (by assumption) ?_ | omega | (simp only [zz] at *; omega))))) (hIr.ext (by (repeat (first | exact Below.refl _ _ | assumption | refine below_drewN ?_ _ | refine below_drew ?_ | refine below_gr ?_ ?_ _ | refine below_alloc ?_ ?_ _ | refine Below.setCell ?_ ?_ _ | refine below_step ?_ (by assumption) ?_ | omega | (simp only [zz] at *; omega)))))))))
        refine wpQuiet_nil ?_
        intro w4 hb4
        replace hb4 := ex_below hb4
        have hz4 := hb4.size
        have hX4 := hXr.ext hb4
        have hA4 := hAr.ext hb4
        have hI4 := hIr.ext hb4
        have hc4 := (hb4.cell (p := ⟨rb, ro + k, none⟩) (by omega)).trans hc0
        have hrb4 : rb < w4.heap.size := by omega
        clear q0 q1 q2 q3 ql
        have q0 := obj_at hX4 0 _ rfl
        have q1 := obj_at hX4 1 _ rfl
        have q2 := obj_at hX4 2 _ rfl
        have q3 := obj_at hX4 3 _ rfl
        have ql := obj_lt hX4
        go_upto_region 9 with fail
        refine wp_region_grow (by kernel_rfl) (by kernel_rfl) ?_
        repeat (go_big_quiet_step ((go_at_call 79; exact Gives.quiet (HCT2.out _ (hA4.ext (by (repeat (first | exact Below.refl _ _ | assumption | refine below_drewN ?_ _ | refine below_drew ?_ | refine below_gr ?_ ?_ _ | refine below_alloc ?_ ?_ _ | refine Below.setCell ?_ ?_ _ | refine below_step ?_ (by assumption) ?_ | omega | (simp only [zz] at *; omega))))) (hI4.ext (by (repeat (first | exact Below.refl _ _ | assumption | refine below_drewN ?_ _ | refine below_drew ?_ | refine below_gr ?_ ?_ _ | refine below_alloc ?_ ?_ _ | refine Below.setCell ?_ ?_ _ | refine below_step ?_ (by assumption) ?_ | omega | (simp only [zz] at *; omega)))))))))
        refine wpQuiet_nil ?_
        intro w5 hb5
        replace hb5 := ex_below hb5
        go_wp2
        go_ret
        exact gives_of (by rw [HRE.out]; rfl) (below_step (below_step hBr hb4 (by omega)) hb5 (by omega))
    · have hki : ¬ ((k : Int) < (rows.length : Int)) := by omega
      have HRE : Hid (R = CV) := hide (by rw [HQ.out, List.drop_eq_nil_of_le (by omega)]; rfl)
      clear HQ
      go_wp2_with (go_at_call 80; refine (HCS.out _ hAr hDr).mono ?_; rintro e u3 ⟨rfl, hb3⟩; replace hb3 := ex_below hb3)
      go_ret
      exact gives_of (by rw [HRE.out]; rfl) (below_step hBr hb3 (by omega))
end Go.Proofs.Ytgjfejpibielaaa
namespace Go.Proofs.Ytgjfejpibielaaa
open Go.RowKit Go.Maps Go.Shelf
attribute [local go_sem] Oper.semAt_some World.cell?_setCell_far
end Go.Proofs.Ytgjfejpibielaaa
