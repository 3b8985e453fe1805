/- Proved here: the reference: the errors of claims; the reference: the nearest code, a part of the proofs about the ticket laws. Conditions: those that each theorem names, no others. -/
import Derived.Test.YtgjfejpibielaaaP34
import Derived.WalkKit
import Derived.WalkSpells
import Derived.WalkLawsBesides
import Derived.Below
import Derived.Deep.QuietTactic
import Derived.BigQuiet
import Derived.Deep.Light
set_option linter.unusedSimpArgs false
set_option linter.unusedVariables false
namespace Go.Proofs.Ytgjfejpibielaaa
open Go.RowKit Go.Maps Go.Shelf
attribute [local go_sem] Oper.semAt_some World.cell?_setCell_far
set_option maxRecDepth 100000 in
set_option maxHeartbeats 4000000 in
theorem rClaimed_bad (L n : Int) (A : Option Addr) (K : List Int) (c : Nat) (r : Int) (Y : Option Addr) (yl yc : Nat) (D : Option Addr) (rl dc : Nat) (w : World) (hA : I64 w A K) (hx : K.length ≤ 1000) (he : chkDay L n K r ≠ 0) : Calls Try.prog 42 #[.agg #[.int .i64 L, .int .i64 n, .slice A K.length c, .int .i64 r], .slice Y yl yc, .slice D rl dc] w (Gives w (.int .i64 (chkDay L n K r))) := by
 obtain ⟨e0, he0⟩ : ∃ v, chkDay L n K r = v := ⟨_, rfl⟩
 rw [he0] at he ⊢
 have hen : (e0 != 0) = true := by simpa using he
 have HEE := hide he0
 clear he0
 go_enter Try.func42, Try.ntmps42
 go_upto_region 1 with fail
 obtain ⟨wa, hwa, hW, hX⟩ := boxed w #[.int .i64 L, .int .i64 n, .slice A K.length c, .int .i64 r] 24
 rw [hwa]
 clear hwa
 replace hA := hA.ext hW
 have q0 := obj_at hX 0 _ rfl
 have q1 := obj_at hX 1 _ rfl
 have q2 := obj_at hX 2 _ rfl
 have q3 := obj_at hX 3 _ rfl
 have ql := obj_lt hX
 have hWs := hW.size
 have tok0 : True := trivial
 go_wp2_with (first
 | (clear tok0; go_at_call 25; refine (rCheckDay_any L n A K c r _ hA hx).mono ?_; rintro e u1 ⟨rfl, hb1⟩; replace hb1 := ex_below hb1; have hz1 := hb1.size; have hB1 := below_step hW hb1 (by omega); have hzB1 := hB1.size; have hA_1 := hA.ext hb1; have hX_1 := hX.ext hb1; clear q0 q1 q2 q3 ql; have q0 := obj_at hX_1 0 _ rfl; have q1 := obj_at hX_1 1 _ rfl; have q2 := obj_at hX_1 2 _ rfl; have q3 := obj_at hX_1 3 _ rfl; have ql := obj_lt hX_1; rw [HEE.out]; have tok1 : True := trivial)
 | (clear tok1; go_at_call 25; refine (rCheckDay_any L n A K c r _ hA_1 hx).mono ?_; rintro e u2 ⟨rfl, hb2⟩; replace hb2 := ex_below hb2; have hz2 := hb2.size; have hB2 := below_step hB1 hb2 (by omega); have hzB2 := hB2.size; have hA_2 := hA_1.ext hb2; have hX_2 := hX_1.ext hb2; clear q0 q1 q2 q3 ql; have q0 := obj_at hX_2 0 _ rfl; have q1 := obj_at hX_2 1 _ rfl; have q2 := obj_at hX_2 2 _ rfl; have q3 := obj_at hX_2 3 _ rfl; have ql := obj_lt hX_2; rw [HEE.out]; have tok2 : True := trivial))
 go_ret
 exact gives_of rfl hB2
set_option maxRecDepth 100000 in
set_option maxHeartbeats 4000000 in
theorem rClaimed_ok (L rest : Nat) (A : Option Addr) (K : List Nat) (c : Nat)(Y : Option Addr) (rows : List LRow) (yc : Nat) (D : Option Addr) (rs : List (Int × Int)) (dc : Nat)(w : World) (hd : OkD L rest K) (hA : I64 w A (zs K)) (hT : Lst w Y rows) (hD : Rng w D rs) (hl : rs.length ≤ 1000) (hrl : rows.length ≤ 1000) : Calls Try.prog 42 #[.agg #[.int .i64 (L : Nat), .int .i64 (K.length : Nat), .slice A K.length c, .int .i64 (rest : Nat)], .slice Y rows.length yc, .slice D rs.length dc] w (Gives w (.int .i64 (clmE ((Tt.codes L rest K).length : Nat) L K.length (rows.map fun r => r.2.1) rs))) := by
 have hn8 := hd.2.2.2.1
 have hL6 := hd.2.1
 have HD0 := hide (fun w' (h : I64 w' A (zs K)) => (show Calls Try.prog 25 #[.agg #[.int .i64 (L : Nat), .int .i64 (K.length : Nat), .slice A K.length c, .int .i64 (rest : Nat)]] w' (Gives w' (.int .i64 0)) by
  have h2 := rCheckDay_any (L : Nat) (K.length : Nat) A (zs K) c (rest : Nat) w' h (by rw [zs_len]; have := hd.2.2.2.1; omega)
  rw [zs_len, chk_zero hd] at h2
  exact h2))
 have HCT := hide (fun (r : LRow) w' (h : I64 w' A (zs K)) (h1 : I64 w' r.1 r.2.1) => rCheckTorn_any L rest A K c r.1 r.2.1 r.2.2 w' hd h h1)
 have HCS := hide (fun w' (h : I64 w' A (zs K)) (h1 : Rng w' D rs) => rCheckSold_any L rest A K c D rs dc w' hd h h1 hl)
 have hrows := hT.2
 have hrd := hT.1
 obtain ⟨R, hR⟩ : ∃ v, clmE ((Tt.codes L rest K).length : Nat) L K.length (rows.map fun r => r.2.1) rs = v := ⟨_, rfl⟩
 rw [hR]
 unfold clmE at hR
 rw [List.length_map] at hR
 obtain ⟨CV, hCV⟩ : ∃ v, chkSold ((Tt.codes L rest K).length : Nat) rs = v := ⟨_, rfl⟩
 rw [hCV] at hR HCS
 have HR := hide hR
 clear hR hCV hd
 by_cases h6 : 6 < rows.length
 · have h6I : (6 : Int) < (rows.length : Int) := by omega
   have HRE : Hid (R = 6) := hide (by rw [← HR.out, if_pos h6])
   clear HR
   go_enter Try.func42, Try.ntmps42
   go_upto_region 1 with fail
   obtain ⟨wa, hwa, hW, hX⟩ := boxed w #[.int .i64 (L : Nat), .int .i64 (K.length : Nat), .slice A K.length c, .int .i64 (rest : Nat)] 24
   rw [hwa]
   clear hwa
   replace hA := hA.ext hW
   have q0 := obj_at hX 0 _ rfl
   have q1 := obj_at hX 1 _ rfl
   have q2 := obj_at hX 2 _ rfl
   have q3 := obj_at hX 3 _ rfl
   have ql := obj_lt hX
   have hWs := hW.size
   have tok0 : True := trivial
   go_wp2_with (first
 | (clear tok0; go_at_call 25; refine (HD0.out _ hA).mono ?_; rintro e u1 ⟨rfl, hb1⟩; replace hb1 := ex_below hb1; have hz1 := hb1.size; have hB1 := below_step hW hb1 (by omega); have hzB1 := hB1.size; have hA_1 := hA.ext hb1; have hX_1 := hX.ext hb1; clear q0 q1 q2 q3 ql; have q0 := obj_at hX_1 0 _ rfl; have q1 := obj_at hX_1 1 _ rfl; have q2 := obj_at hX_1 2 _ rfl; have q3 := obj_at hX_1 3 _ rfl; have ql := obj_lt hX_1; have tok1 : True := trivial))
   go_ret
   exact gives_of (by rw [HRE.out]; rfl) hB1
 · have h6I : ¬ ((6 : Int) < (rows.length : Int)) := by omega
   have HR2 : Hid (R = if chkTs L K.length (rows.map fun r => r.2.1) ≠ 0 then chkTs L K.length (rows.map fun r => r.2.1) else CV) := hide (by rw [← HR.out, if_neg h6])
   clear HR
   go_enter Try.func42, Try.ntmps42
   go_upto_region 1 with fail
   obtain ⟨wa, hwa, hW, hX⟩ := boxed w #[.int .i64 (L : Nat), .int .i64 (K.length : Nat), .slice A K.length c, .int .i64 (rest : Nat)] 24
   rw [hwa]
   clear hwa
   replace hA := hA.ext hW
   have q0 := obj_at hX 0 _ rfl
   have q1 := obj_at hX 1 _ rfl
   have q2 := obj_at hX 2 _ rfl
   have q3 := obj_at hX 3 _ rfl
   have ql := obj_lt hX
   have hWs := hW.size
   have tok0 : True := trivial
   go_wp2_with (first
 | (clear tok0; go_at_call 25; refine (HD0.out _ hA).mono ?_; rintro e u1 ⟨rfl, hb1⟩; replace hb1 := ex_below hb1; have hz1 := hb1.size; have hB1 := below_step hW hb1 (by omega); have hzB1 := hB1.size; have hA_1 := hA.ext hb1; have hX_1 := hX.ext hb1; clear q0 q1 q2 q3 ql; have q0 := obj_at hX_1 0 _ rfl; have q1 := obj_at hX_1 1 _ rfl; have q2 := obj_at hX_1 2 _ rfl; have q3 := obj_at hX_1 3 _ rfl; have ql := obj_lt hX_1; have tok1 : True := trivial))
   go_loopw [7] (fun iv wr => ∃ k : Nat, k ≤ rows.length ∧ iv = .int .i64 (k : Nat) ∧ Hid (R = if chkTs L K.length ((rows.drop k).map fun r => r.2.1) ≠ 0 then chkTs L K.length ((rows.drop k).map fun r => r.2.1) else CV) ∧ Below u1.heap.size u1 wr) (fun iv _ => rows.length - (intOf iv).toNat)
   case atStart => exact ⟨0, Nat.zero_le _, rfl, hide HR2.out, Below.refl _ _⟩
   case round =>
    obtain ⟨k, hk, rfl, HQ, hb⟩ := hrel
    have hzr := hb.size
    have hBr := below_step hB1 hb (by omega)
    have hXr := hX_1.ext hb
    have hAr := hA_1.ext hb
    have hDr : Rng wr D rs := Rd.ext hD hBr
    clear q0 q1 q2 q3 ql
    have q0 := obj_at hXr 0 _ rfl
    have q1 := obj_at hXr 1 _ rfl
    have q2 := obj_at hXr 2 _ rfl
    have q3 := obj_at hXr 3 _ rfl
    have ql := obj_lt hXr
    by_cases hlt : k < rows.length
    · have hki : (k : Int) < (rows.length : Int) := by omega
      have hrr := hrd.ext hBr
      obtain ⟨rb, ro, rfl, hrb, hrc⟩ := hrr.2 (by omega)
      have hc0 := hrc k (cellL rows[k]) (by simp [hlt])
      have hIr := (hrows _ (List.getElem_mem hlt)).ext hBr
      have HCT2 := hide (HCT.out rows[k])
      have hst : chkTs L K.length ((rows.drop k).map fun r => r.2.1) = if chk1 L K.length rows[k].2.1 = 0 then chkTs L K.length ((rows.drop (k + 1)).map fun r => r.2.1) else chk1 L K.length rows[k].2.1 := by rw [List.drop_eq_getElem_cons hlt]; rfl
      have HST := hide hst
      obtain ⟨⟨Yk, t, yk⟩, hr⟩ : ∃ v, rows[k] = v := ⟨_, rfl⟩
      rw [hr] at hc0 hIr HCT2 HST
      unfold cellL at hc0
      dsimp only at hc0 hIr HCT2 HST
      clear hst hr hrc hrr
      obtain ⟨e1, he1⟩ : ∃ v, chk1 L K.length t = v := ⟨_, rfl⟩
      rw [he1] at HCT2 HST
      clear he1
      by_cases hz : e1 = 0
      · have hzI : (e1 != 0) = false := by simp [hz]
        have HQ2 : Hid (R = if chkTs L K.length ((rows.drop (k + 1)).map fun r => r.2.1) ≠ 0 then chkTs L K.length ((rows.drop (k + 1)).map fun r => r.2.1) else CV) := hide (by rw [HQ.out, HST.out, if_pos hz])
        clear HQ HST
        go_upto_region 8 with fail
        refine wp_region_grow (by kernel_rfl) (by kernel_rfl) ?_
        repeat (go_big_quiet_step ((go_at_call 79; exact Gives.quiet (HCT2.out _ (hAr.ext (by (repeat (first | exact Below.refl _ _ | assumption | refine below_drewN ?_ _ | refine below_drew ?_ | refine below_gr ?_ ?_ _ | refine below_alloc ?_ ?_ _ | refine Below.setCell ?_ ?_ _ | refine below_step ?_ (by assumption) ?_ | omega | (simp only [zz] at *; omega))))) (hIr.ext (by (repeat (first | exact Below.refl _ _ | assumption | refine below_drewN ?_ _ | refine below_drew ?_ | refine below_gr ?_ ?_ _ | refine below_alloc ?_ ?_ _ | refine Below.setCell ?_ ?_ _ | refine below_step ?_ (by assumption) ?_ | omega | (simp only [zz] at *; omega)))))))))
        refine wpQuiet_nil ?_
        intro w4 hb4
        replace hb4 := ex_below hb4
        go_wp2
        exact ⟨⟨k + 1, by omega, by go_num, HQ2, below_step hb hb4 hzr⟩, by simp [intOf]; omega⟩
      · have hzI : (e1 != 0) = true := by simp [hz]
        have HRE : Hid (R = e1) := hide (by rw [HQ.out, HST.out, if_neg hz, if_pos hz])
        clear HQ HST
        go_upto_region 8 with fail
        refine wp_region_grow (by kernel_rfl) (by kernel_rfl) ?_
        repeat (go_big_quiet_step ((go_at_call 79; exact Gives.quiet (HCT2.out _ (hAr.ext (by (repeat (first | exact Below.refl _ _ | assumption | refine below_drewN ?_ _ | refine below_drew ?_ | refine below_gr ?_ ?_ _ | refine below_alloc ?_ ?_ _ | refine Below.setCell ?_ ?_ _ | refine below_step ?_ (by assumption) ?_ | omega | (simp only [zz] at *; omega))))) (hIr.ext (by (repeat (first | exact Below.refl _ _ | assumption | refine below_drewN ?_ _ | refine below_drew ?_ | refine below_gr ?_ ?_ _ | refine below_alloc ?_ ?_ _ | refine Below.setCell ?_ ?_ _ | refine below_step ?_ (by assumption) ?_ | omega | (simp only [zz] at *; omega)))))))))
        refine wpQuiet_nil ?_
        intro w4 hb4
        replace hb4 := ex_below hb4
        have hz4 := hb4.size
        have hX4 := hXr.ext hb4
        have hA4 := hAr.ext hb4
        have hI4 := hIr.ext hb4
        have hc4 := (hb4.cell (p := ⟨rb, ro + k, none⟩) (by omega)).trans hc0
        have hrb4 : rb < w4.heap.size := by omega
        clear q0 q1 q2 q3 ql
        have q0 := obj_at hX4 0 _ rfl
        have q1 := obj_at hX4 1 _ rfl
        have q2 := obj_at hX4 2 _ rfl
        have q3 := obj_at hX4 3 _ rfl
        have ql := obj_lt hX4
        go_upto_region 9 with fail
        refine wp_region_grow (by kernel_rfl) (by kernel_rfl) ?_
        repeat (go_big_quiet_step ((go_at_call 79; exact Gives.quiet (HCT2.out _ (hA4.ext (by (repeat (first | exact Below.refl _ _ | assumption | refine below_drewN ?_ _ | refine below_drew ?_ | refine below_gr ?_ ?_ _ | refine below_alloc ?_ ?_ _ | refine Below.setCell ?_ ?_ _ | refine below_step ?_ (by assumption) ?_ | omega | (simp only [zz] at *; omega))))) (hI4.ext (by (repeat (first | exact Below.refl _ _ | assumption | refine below_drewN ?_ _ | refine below_drew ?_ | refine below_gr ?_ ?_ _ | refine below_alloc ?_ ?_ _ | refine Below.setCell ?_ ?_ _ | refine below_step ?_ (by assumption) ?_ | omega | (simp only [zz] at *; omega)))))))))
        refine wpQuiet_nil ?_
        intro w5 hb5
        replace hb5 := ex_below hb5
        go_wp2
        go_ret
        exact gives_of (by rw [HRE.out]; rfl) (below_step (below_step hBr hb4 (by omega)) hb5 (by omega))
    · have hki : ¬ ((k : Int) < (rows.length : Int)) := by omega
      have HRE : Hid (R = CV) := hide (by rw [HQ.out, List.drop_eq_nil_of_le (by omega)]; rfl)
      clear HQ
      go_wp2_with (go_at_call 80; refine (HCS.out _ hAr hDr).mono ?_; rintro e u3 ⟨rfl, hb3⟩; replace hb3 := ex_below hb3)
      go_ret
      exact gives_of (by rw [HRE.out]; rfl) (below_step hBr hb3 (by omega))

end Go.Proofs.Ytgjfejpibielaaa
namespace Go.Proofs.Ytgjfejpibielaaa
open Go.RowKit Go.Maps Go.Shelf
attribute [local go_sem] Oper.semAt_some World.cell?_setCell_far
set_option maxRecDepth 100000 in
set_option maxHeartbeats 4000000 in
theorem rNear_bad (L n : Int) (A : Option Addr) (K : List Int) (c : Nat) (r : Int) (s : ByteArray) (w : World) (hA : I64 w A K) (hx : K.length ≤ 1000) (he : chkDay L n K r ≠ 0) : Calls Try.prog 36 #[.agg #[.int .i64 L, .int .i64 n, .slice A K.length c, .int .i64 r], .string s] w (Gives w (.tuple #[.int .i64 0, .string ⟨#[]⟩, .int .i64 (chkDay L n K r)])) := by
 obtain ⟨e0, he0⟩ : ∃ v, chkDay L n K r = v := ⟨_, rfl⟩
 rw [he0] at he ⊢
 have hen : (e0 != 0) = true := by simpa using he
 have HEE := hide he0
 clear he0
 go_enter Try.func36, Try.ntmps36
 go_upto_region 1 with fail
 obtain ⟨wa, hwa, hW, hX⟩ := boxed w #[.int .i64 L, .int .i64 n, .slice A K.length c, .int .i64 r] 24
 rw [hwa]
 clear hwa
 replace hA := hA.ext hW
 have q0 := obj_at hX 0 _ rfl
 have q1 := obj_at hX 1 _ rfl
 have q2 := obj_at hX 2 _ rfl
 have q3 := obj_at hX 3 _ rfl
 have ql := obj_lt hX
 have hWs := hW.size
 have tok0 : True := trivial
 go_wp2_with (first
 | (clear tok0; go_at_call 25; refine (rCheckDay_any L n A K c r _ hA hx).mono ?_; rintro e u1 ⟨rfl, hb1⟩; replace hb1 := ex_below hb1; have hz1 := hb1.size; have hB1 := below_step hW hb1 (by omega); have hzB1 := hB1.size; have hA_1 := hA.ext hb1; have hX_1 := hX.ext hb1; clear q0 q1 q2 q3 ql; have q0 := obj_at hX_1 0 _ rfl; have q1 := obj_at hX_1 1 _ rfl; have q2 := obj_at hX_1 2 _ rfl; have q3 := obj_at hX_1 3 _ rfl; have ql := obj_lt hX_1; rw [HEE.out]; have tok1 : True := trivial)
 | (clear tok1; go_at_call 25; refine (rCheckDay_any L n A K c r _ hA_1 hx).mono ?_; rintro e u2 ⟨rfl, hb2⟩; replace hb2 := ex_below hb2; have hz2 := hb2.size; have hB2 := below_step hB1 hb2 (by omega); have hzB2 := hB2.size; have hA_2 := hA_1.ext hb2; have hX_2 := hX_1.ext hb2; clear q0 q1 q2 q3 ql; have q0 := obj_at hX_2 0 _ rfl; have q1 := obj_at hX_2 1 _ rfl; have q2 := obj_at hX_2 2 _ rfl; have q3 := obj_at hX_2 3 _ rfl; have ql := obj_lt hX_2; rw [HEE.out]; have tok2 : True := trivial))
 go_ret3
 exact gives_of rfl hB2
set_option maxRecDepth 100000 in
set_option maxHeartbeats 4000000 in
theorem rNear_ok (L rest : Nat) (A : Option Addr) (K : List Nat) (c : Nat)(s : ByteArray) (w : World) (hd : OkD L rest K) (hA : I64 w A (zs K)) (hs : s.size ≤ 1000) : Calls Try.prog 36 #[.agg #[.int .i64 (L : Nat), .int .i64 (K.length : Nat), .slice A K.length c, .int .i64 (rest : Nat)], .string s] w (Gives w (nearV L rest K s)) := by
 have hn8 := hd.2.2.2.1
 have hn2 := hd.2.2.1
 have hL6 := hd.2.1
 have HD0 := hide (fun w' (h : I64 w' A (zs K)) => (show Calls Try.prog 25 #[.agg #[.int .i64 (L : Nat), .int .i64 (K.length : Nat), .slice A K.length c, .int .i64 (rest : Nat)]] w' (Gives w' (.int .i64 0)) by
  have h2 := rCheckDay_any (L : Nat) (K.length : Nat) A (zs K) c (rest : Nat) w' h (by rw [zs_len]; have := hd.2.2.2.1; omega)
  rw [zs_len, chk_zero hd] at h2
  exact h2))
 have HRC := hide (fun w' (h : I64 w' A (zs K)) => rCodes_any L rest A K c w' hd h)
 have HIW := hide (fun w' (h : I64 w' A (zs K)) => rIsWord_any L rest A K c s w' hd h hs)
 obtain ⟨V, hV⟩ : ∃ v, nearV L rest K s = v := ⟨_, rfl⟩
 rw [hV]
 unfold nearV at hV
 cases hw : isW L K.length s with
 | false =>
   rw [hw, if_pos rfl] at hV
   rw [hw] at HIW
   have HV := hide hV
   clear hV hw hd
   go_enter Try.func36, Try.ntmps36
   go_upto_region 1 with fail
   obtain ⟨wa, hwa, hW, hX⟩ := boxed w #[.int .i64 (L : Nat), .int .i64 (K.length : Nat), .slice A K.length c, .int .i64 (rest : Nat)] 24
   rw [hwa]
   clear hwa
   replace hA := hA.ext hW
   have q0 := obj_at hX 0 _ rfl
   have q1 := obj_at hX 1 _ rfl
   have q2 := obj_at hX 2 _ rfl
   have q3 := obj_at hX 3 _ rfl
   have ql := obj_lt hX
   have hWs := hW.size
   have tok0 : True := trivial
   go_wp2_with (first
 | (clear tok0; go_at_call 25; refine (HD0.out _ hA).mono ?_; rintro e u1 ⟨rfl, hb1⟩; replace hb1 := ex_below hb1; have hz1 := hb1.size; have hB1 := below_step hW hb1 (by omega); have hzB1 := hB1.size; have hA_1 := hA.ext hb1; have hX_1 := hX.ext hb1; clear q0 q1 q2 q3 ql; have q0 := obj_at hX_1 0 _ rfl; have q1 := obj_at hX_1 1 _ rfl; have q2 := obj_at hX_1 2 _ rfl; have q3 := obj_at hX_1 3 _ rfl; have ql := obj_lt hX_1; have tok1 : True := trivial)
 | (clear tok1; go_at_call 50; refine (HIW.out _ hA_1).mono ?_; rintro e u2 ⟨rfl, hb2⟩; replace hb2 := ex_below hb2; have hz2 := hb2.size; have hB2 := below_step hB1 hb2 (by omega); have hzB2 := hB2.size; have hA_2 := hA_1.ext hb2; have hX_2 := hX_1.ext hb2; clear q0 q1 q2 q3 ql; have q0 := obj_at hX_2 0 _ rfl; have q1 := obj_at hX_2 1 _ rfl; have q2 := obj_at hX_2 2 _ rfl; have q3 := obj_at hX_2 3 _ rfl; have ql := obj_lt hX_2; have tok2 : True := trivial))
   go_ret3
   exact gives_of (by rw [← HV.out]; rfl) hB2
 | true =>
   rw [hw, if_neg (by simp)] at hV
   rw [hw] at HIW
   obtain ⟨hse, hwn, hwL⟩ := isW_lw hw
   obtain ⟨ws, hws⟩ : ∃ v, lw s = v := ⟨_, rfl⟩
   rw [hws] at hV hse hwn hwL
   have HCM := hide (fun (x : List Nat) (h : x ∈ Tt.codes L rest K) => Tt.codes_mem h)
   have hcn : (Tt.codes L rest K).length ≤ 1679616 := by
    have h3 := Tt.cnt_small (L := L) (rest := rest) (ps := K.zip (Tt.fulls L K.length)) (la := -1) (s := 0) hL6 (by rw [List.length_zip]; omega)
    rwa [cnt_codes] at h3
   have HDF := hide (fun (v : List Nat) (h : v ∈ Tt.codes L rest K) w' => rDiffers_any ws v w' (by rw [hwn, (HCM.out v h).1]) (fun x hx => by have := hwL x hx; omega) (fun x hx => by have := (HCM.out v h).2 x hx; omega) (by omega))
   rw [cnt_codes] at hV
   by_cases hz : (Tt.codes L rest K).length = 0
   · rw [if_pos hz] at hV
     have HV := hide hV
     have HZ : Hid ((Tt.codes L rest K).length = 0) := hide hz
     subst hse
     clear hV hw hd hws hz
     go_enter Try.func36, Try.ntmps36
     go_upto_region 1 with fail
     obtain ⟨wa, hwa, hW, hX⟩ := boxed w #[.int .i64 (L : Nat), .int .i64 (K.length : Nat), .slice A K.length c, .int .i64 (rest : Nat)] 24
     rw [hwa]
     clear hwa
     replace hA := hA.ext hW
     have q0 := obj_at hX 0 _ rfl
     have q1 := obj_at hX 1 _ rfl
     have q2 := obj_at hX 2 _ rfl
     have q3 := obj_at hX 3 _ rfl
     have ql := obj_lt hX
     have hWs := hW.size
     have tok0 : True := trivial
     go_wp2_with (first
 | (clear tok0; go_at_call 25; refine (HD0.out _ hA).mono ?_; rintro e u1 ⟨rfl, hb1⟩; replace hb1 := ex_below hb1; have hz1 := hb1.size; have hB1 := below_step hW hb1 (by omega); have hzB1 := hB1.size; have hA_1 := hA.ext hb1; have hX_1 := hX.ext hb1; clear q0 q1 q2 q3 ql; have q0 := obj_at hX_1 0 _ rfl; have q1 := obj_at hX_1 1 _ rfl; have q2 := obj_at hX_1 2 _ rfl; have q3 := obj_at hX_1 3 _ rfl; have ql := obj_lt hX_1; have tok1 : True := trivial)
 | (clear tok1; go_at_call 50; refine (HIW.out _ hA_1).mono ?_; rintro e u2 ⟨rfl, hb2⟩; replace hb2 := ex_below hb2; have hz2 := hb2.size; have hB2 := below_step hB1 hb2 (by omega); have hzB2 := hB2.size; have hA_2 := hA_1.ext hb2; have hX_2 := hX_1.ext hb2; clear q0 q1 q2 q3 ql; have q0 := obj_at hX_2 0 _ rfl; have q1 := obj_at hX_2 1 _ rfl; have q2 := obj_at hX_2 2 _ rfl; have q3 := obj_at hX_2 3 _ rfl; have ql := obj_lt hX_2; have tok2 : True := trivial)
 | (clear tok2; go_at_call 59; refine (HRC.out _ hA_2).mono ?_; rintro e u3 ⟨A1, c1, rfl, hb3, hO1⟩; rw [List.length_map, HZ.out]; have hz3 := hb3.size; have hB3 := below_step hB2 hb3 (by omega); have hzB3 := hB3.size; have hA_3 := hA_2.ext hb3; have hX_3 := hX_2.ext hb3; clear q0 q1 q2 q3 ql; have q0 := obj_at hX_3 0 _ rfl; have q1 := obj_at hX_3 1 _ rfl; have q2 := obj_at hX_3 2 _ rfl; have q3 := obj_at hX_3 3 _ rfl; have ql := obj_lt hX_3; have tok3 : True := trivial))
     go_ret3
     exact gives_of (by rw [← HV.out]; rfl) hB3
   · rw [if_neg hz] at hV
     have hnf := Tt.near_first L rest (K.zip (Tt.fulls L K.length)) (-1) 0 ws (by rw [hwn, List.length_zip]; simp [Tt.fulls]) (by rw [cnt_codes]; exact hz) (by rw [List.length_zip]; omega)
     have HUN : Hid (∀ v, Tt.IsFirst (Tt.diffN ws) (Tt.codes L rest K) v → V = .tuple #[.int .i64 (Tt.diffN ws v : Nat), .string (strW v), .int .i64 0]) := hide (fun v hv => by
      have e := Tt.IsFirst.uniq hv hnf.1
      rw [← hV, e, hnf.2])
     have hnz : 0 < (Tt.codes L rest K).length := by omega
     have hnzI : (((Tt.codes L rest K).length : Int) == 0) = false := by rw [beq_eq_false_iff_ne]; omega
     subst hse
     clear hV hw hd hws hnf
     go_enter Try.func36, Try.ntmps36
     go_upto_region 1 with fail
     obtain ⟨wa, hwa, hW, hX⟩ := boxed w #[.int .i64 (L : Nat), .int .i64 (K.length : Nat), .slice A K.length c, .int .i64 (rest : Nat)] 24
     rw [hwa]
     clear hwa
     replace hA := hA.ext hW
     have q0 := obj_at hX 0 _ rfl
     have q1 := obj_at hX 1 _ rfl
     have q2 := obj_at hX 2 _ rfl
     have q3 := obj_at hX 3 _ rfl
     have ql := obj_lt hX
     have hWs := hW.size
     have tok0 : True := trivial
     go_upto_region 8 with (first
 | (clear tok0; go_at_call 25; refine (HD0.out _ hA).mono ?_; rintro e u1 ⟨rfl, hb1⟩; replace hb1 := ex_below hb1; have hz1 := hb1.size; have hB1 := below_step hW hb1 (by omega); have hzB1 := hB1.size; have hA_1 := hA.ext hb1; have hX_1 := hX.ext hb1; clear q0 q1 q2 q3 ql; have q0 := obj_at hX_1 0 _ rfl; have q1 := obj_at hX_1 1 _ rfl; have q2 := obj_at hX_1 2 _ rfl; have q3 := obj_at hX_1 3 _ rfl; have ql := obj_lt hX_1; have tok1 : True := trivial)
 | (clear tok1; go_at_call 50; refine (HIW.out _ hA_1).mono ?_; rintro e u2 ⟨rfl, hb2⟩; replace hb2 := ex_below hb2; have hz2 := hb2.size; have hB2 := below_step hB1 hb2 (by omega); have hzB2 := hB2.size; have hA_2 := hA_1.ext hb2; have hX_2 := hX_1.ext hb2; clear q0 q1 q2 q3 ql; have q0 := obj_at hX_2 0 _ rfl; have q1 := obj_at hX_2 1 _ rfl; have q2 := obj_at hX_2 2 _ rfl; have q3 := obj_at hX_2 3 _ rfl; have ql := obj_lt hX_2; have tok2 : True := trivial)
 | (clear tok2; go_at_call 59; refine (HRC.out _ hA_2).mono ?_; rintro e u3 ⟨A1, c1, rfl, hb3, hO1⟩; have hz3 := hb3.size; have hB3 := below_step hB2 hb3 (by omega); have hzB3 := hB3.size; have hA_3 := hA_2.ext hb3; have hX_3 := hX_2.ext hb3; clear q0 q1 q2 q3 ql; have q0 := obj_at hX_3 0 _ rfl; have q1 := obj_at hX_3 1 _ rfl; have q2 := obj_at hX_3 2 _ rfl; have q3 := obj_at hX_3 3 _ rfl; have ql := obj_lt hX_3; have tok3 : True := trivial))
     have hml : ((Tt.codes L rest K).map strW).length = (Tt.codes L rest K).length := List.length_map ..
     rw [hml] at hO1
     clear hml q0 q1 q2 q3 ql HRC HD0 HIW hz
     obtain ⟨Cs, hCs⟩ : ∃ v, Tt.codes L rest K = v := ⟨_, rfl⟩
     rw [hCs] at hcn HCM HDF HUN hO1 hnz ⊢
     clear hCs hnzI
     go_wp2
     have HCS := hide (fun j (h : j < Cs.length) => own_at2 hO1 j (Value.string (strW Cs[j])) (by rw [List.getElem?_map, List.getElem?_map, List.getElem?_eq_getElem h]; rfl))
     obtain ⟨ob, hobe, hob, _⟩ := HCS.out 0 hnz
     subst hobe
     go_loopw [8, 9] (fun bv iv wr => ∃ i b : Nat, 1 ≤ i ∧ i ≤ Cs.length ∧ b < Cs.length ∧ b < i ∧ iv = .int .i64 (i : Nat) ∧ bv = .int .i64 (b : Nat) ∧ Hid (∀ hb : b < Cs.length, (∀ j, (h : j < Cs.length) → j < b → Tt.diffN ws Cs[b] < Tt.diffN ws Cs[j]) ∧ ∀ j, (h : j < Cs.length) → j < i → Tt.diffN ws Cs[b] ≤ Tt.diffN ws Cs[j]) ∧ Below u3.heap.size u3 wr) (fun _ iv _ => Cs.length - (intOf iv).toNat)
     case atStart => exact ⟨1, 0, Nat.le_refl _, by omega, hnz, by omega, rfl, rfl, hide (fun hb => ⟨fun j h hj => by omega, fun j h hj => by obtain rfl : j = 0 := (by omega); exact Nat.le_refl _⟩), Below.refl _ _⟩
     case round =>
      obtain ⟨i, b, hi1, hi, hbl, hbi, rfl, rfl, HQ, hb⟩ := hrel
      have hzr := hb.size
      have hBr := below_step hB3 hb (by omega)
      have hobr : ob < wr.heap.size := by omega
      have hcell : Hid (∀ j (h : j < Cs.length), wr.cell? ⟨ob, j, none⟩ = some (.string (strW Cs[j]))) := hide (fun j h => by
       obtain ⟨b', e1, _, hc⟩ := HCS.out j h
       injection e1 with e1
       injection e1 with e1 _ _
       rw [e1]
       exact (hb.cell (p := ⟨b', j, none⟩) (by omega)).trans hc)
      have hcb := hcell.out b hbl
      have hbI : (b : Int) < (Cs.length : Int) := by omega
      have HD2 := hide (fun w' => HDF.out _ (List.getElem_mem hbl) w')
      by_cases hlt : i < Cs.length
      · have hki : (i : Int) < (Cs.length : Int) := by omega
        have hci := hcell.out i hlt
        have HD1 := hide (fun w' => HDF.out _ (List.getElem_mem hlt) w')
        have hq := HQ.out hbl
        have hdl1 := Tt.diffN_le ws Cs[i]
        have hdl2 := Tt.diffN_le ws Cs[b]
        obtain ⟨d1, hd1⟩ : ∃ v, Tt.diffN ws Cs[i] = v := ⟨_, rfl⟩
        obtain ⟨d2, hd2⟩ : ∃ v, Tt.diffN ws Cs[b] = v := ⟨_, rfl⟩
        have HE1 := hide hd1
        have HE2 := hide hd2
        rw [hd1] at HD1 hdl1
        rw [hd2] at HD2 hdl2
        by_cases hlt2 : d1 < d2
        · have hdI : (d1 : Int) < (d2 : Int) := by omega
          have HQ2 : Hid (∀ hb : i < Cs.length, (∀ j, (h : j < Cs.length) → j < i → Tt.diffN ws Cs[i] < Tt.diffN ws Cs[j]) ∧ ∀ j, (h : j < Cs.length) → j < i + 1 → Tt.diffN ws Cs[i] ≤ Tt.diffN ws Cs[j]) := hide (fun hb => ⟨fun j h hj => by
           have := hq.2 j h hj
           rw [HE2.out] at this
           rw [HE1.out]
           omega, fun j h hj => by
           by_cases e : j = i
           · subst e; exact Nat.le_refl _
           · have := hq.2 j h (by omega)
             rw [HE2.out] at this
             rw [HE1.out]
             omega⟩)
          generalize Cs[i] = ci at *
          generalize Cs[b] = cb at *
          clear hd1 hd2 HQ hq hcell HE1 HE2
          go_upto_region 12 with fail
          refine wp_region_grow (by kernel_rfl) (by kernel_rfl) ?_
          repeat (go_big_quiet_step ((go_at_call 53; first | with_reducible exact Gives.quiet (HD1.out _) | with_reducible exact Gives.quiet (HD2.out _))))
          refine wpQuiet_nil ?_
          intro w4 hb4
          replace hb4 := ex_below hb4
          go_wp2
          exact ⟨⟨i + 1, i, by omega, by omega, hlt, by omega, by go_num, rfl, HQ2, below_step hb hb4 hzr⟩, by simp [intOf]; omega⟩
        · have hdI : ¬ ((d1 : Int) < (d2 : Int)) := by omega
          have HQ2 : Hid (∀ hb : b < Cs.length, (∀ j, (h : j < Cs.length) → j < b → Tt.diffN ws Cs[b] < Tt.diffN ws Cs[j]) ∧ ∀ j, (h : j < Cs.length) → j < i + 1 → Tt.diffN ws Cs[b] ≤ Tt.diffN ws Cs[j]) := hide (fun hb => ⟨hq.1, fun j h hj => by
           by_cases e : j = i
           · subst e; rw [HE1.out, HE2.out]; omega
           · exact hq.2 j h (by omega)⟩)
          generalize Cs[i] = ci at *
          generalize Cs[b] = cb at *
          clear hd1 hd2 HQ hq hcell HE1 HE2
          go_upto_region 12 with fail
          refine wp_region_grow (by kernel_rfl) (by kernel_rfl) ?_
          repeat (go_big_quiet_step ((go_at_call 53; first | with_reducible exact Gives.quiet (HD1.out _) | with_reducible exact Gives.quiet (HD2.out _))))
          refine wpQuiet_nil ?_
          intro w4 hb4
          replace hb4 := ex_below hb4
          go_wp2
          exact ⟨⟨i + 1, b, by omega, by omega, hbl, by omega, by go_num, rfl, HQ2, below_step hb hb4 hzr⟩, by simp [intOf]; omega⟩
      · have hki : ¬ ((i : Int) < (Cs.length : Int)) := by omega
        have hq := HQ.out hbl
        have hfirst : Tt.IsFirst (Tt.diffN ws) Cs Cs[b] := ⟨Cs.take b, Cs.drop (b + 1), by rw [← List.drop_eq_getElem_cons hbl, List.take_append_drop], fun x hx => by
         obtain ⟨j, hj, rfl⟩ := List.getElem_of_mem hx
         rw [List.length_take] at hj
         rw [List.getElem_take]
         exact hq.1 j (by omega) (by omega), fun x hx => by
         obtain ⟨j, hj, rfl⟩ := List.getElem_of_mem hx
         rw [List.length_drop] at hj
         rw [List.getElem_drop]
         exact hq.2 _ (by omega) (by omega)⟩
        have HVE := hide (HUN.out _ hfirst)
        have HD1 : Hid (0 = 0) := hide rfl
        generalize Cs[b] = cb at *
        clear hq hfirst HQ hcell
        go_upto_region 14 with fail
        refine wp_region_grow (by kernel_rfl) (by kernel_rfl) ?_
        repeat (go_big_quiet_step ((go_at_call 53; exact Gives.quiet (HD2.out _))))
        refine wpQuiet_nil ?_
        intro w4 hb4
        replace hb4 := ex_below hb4
        go_wp2
        go_ret3
        exact gives_of (by rw [HVE.out]; rfl) (below_step hBr hb4 (by omega))

end Go.Proofs.Ytgjfejpibielaaa
