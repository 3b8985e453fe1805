/- Proved here: the reference: letters that are sure, a part of the proofs about the ticket laws. Conditions: those that each theorem names, no others. -/
import Derived.Test.YtgjfejpibielaaaP35
import Derived.WalkKit
import Derived.WalkSpells
import Derived.WalkLawsBesides
import Derived.Below
import Derived.Deep.QuietTactic
import Derived.BigQuiet
import Derived.Deep.Light
set_option linter.unusedSimpArgs false
set_option linter.unusedVariables false
namespace Go.Proofs.Ytgjfejpibielaaa
open Go.RowKit Go.Maps Go.Shelf
attribute [local go_sem] Oper.semAt_some World.cell?_setCell_far

/-- the letters that some words have at a place -/
def orK (l : List (List Nat)) (p : Nat) : Nat := l.foldl (fun a w => a ||| 2 ^ (w.getD p 0)) 0
theorem orK_snoc (l : List (List Nat)) (w : List Nat) (p : Nat) : orK (l ++ [w]) p = orK l p ||| 2 ^ (w.getD p 0) := by unfold orK; rw [List.foldl_append]; rfl
theorem orK_lt {l : List (List Nat)} (h : ∀ w, w ∈ l → ∀ c, c ∈ w → c < 6) (p : Nat) : orK l p < 64 := by
 refine Tt.snoc_ind (P := fun l => (∀ w, w ∈ l → ∀ c, c ∈ w → c < 6) → orK l p < 64) ?_ ?_ l h
 · intro _; exact Nat.zero_lt_succ _
 · intro l w ih h
   rw [orK_snoc]
   have h1 := ih (fun v hv => h v (by simp [hv]))
   have h2 : w.getD p 0 < 6 := by
    rw [List.getD_eq_getElem?_getD]
    cases hp : w[p]? with
    | none => exact Nat.zero_lt_succ _
    | some c => exact h w (by simp) c (List.mem_of_getElem? hp)
   exact Nat.or_lt_two_pow (n := 6) h1 (Nat.lt_of_lt_of_le (Nat.pow_lt_pow_right (by omega) h2) (Nat.le_refl _))
def orL (n : Nat) (l : List (List Nat)) : List Nat := (List.range n).map (orK l)
theorem orL_len (n : Nat) (l : List (List Nat)) : (orL n l).length = n := by unfold orL; simp
theorem orL_at (n : Nat) (l : List (List Nat)) (p : Nat) (h : p < n) : (orL n l)[p]'(by rw [orL_len]; exact h) = orK l p := by unfold orL; simp
theorem orL_nil (n : Nat) : orL n [] = List.replicate n 0 := by
 unfold orL
 apply List.ext_getElem
 · simp
 · intro i h1 h2
   simp [orK]
/-- what Sure hands back -/
def SureR (w : World) (o : List Nat) (e : Ending) (w' : World) : Prop := ∃ A c, e = .returned (.tuple #[.slice A o.length c, .int .i64 0]) ∧ RowKit.Below w.heap.size w w' ∧ I64 w' A (zs o)
set_option maxRecDepth 100000 in
set_option maxHeartbeats 4000000 in
theorem rSure_bad (L n : Int) (A : Option Addr) (K : List Int) (c : Nat) (r : Int) (Y : Option Addr) (yl yc : Nat)  (w : World) (hA : I64 w A K) (hx : K.length ≤ 1000) (he : chkDay L n K r ≠ 0) : Calls Try.prog 33 #[.agg #[.int .i64 L, .int .i64 n, .slice A K.length c, .int .i64 r], .slice Y yl yc] w (Gives w (.tuple #[.slice none 0 0, .int .i64 (chkDay L n K r)])) := by
 obtain ⟨e0, he0⟩ : ∃ v, chkDay L n K r = v := ⟨_, rfl⟩
 rw [he0] at he ⊢
 have hen : (e0 != 0) = true := by simpa using he
 have HEE := hide he0
 clear he0
 go_enter Try.func33, Try.ntmps33
 go_upto_region 1 with fail
 obtain ⟨wa, hwa, hW, hX⟩ := boxed w #[.int .i64 L, .int .i64 n, .slice A K.length c, .int .i64 r] 24
 rw [hwa]
 clear hwa
 replace hA := hA.ext hW
 have q0 := obj_at hX 0 _ rfl
 have q1 := obj_at hX 1 _ rfl
 have q2 := obj_at hX 2 _ rfl
 have q3 := obj_at hX 3 _ rfl
 have ql := obj_lt hX
 have hWs := hW.size
 have tok0 : True := trivial
 go_wp2_with (first
 | (clear tok0; go_at_call 72; refine (rTorn_bad L n A K c r Y yl yc _ hA hx (by rw [HEE.out]; exact he)).mono ?_; rintro e u1 ⟨rfl, hb1⟩; replace hb1 := ex_below hb1; have hz1 := hb1.size; have hB1 := below_step hW hb1 (by omega); have hzB1 := hB1.size; have hA_1 := hA.ext hb1; have hX_1 := hX.ext hb1; clear q0 q1 q2 q3 ql; have q0 := obj_at hX_1 0 _ rfl; have q1 := obj_at hX_1 1 _ rfl; have q2 := obj_at hX_1 2 _ rfl; have q3 := obj_at hX_1 3 _ rfl; have ql := obj_lt hX_1; rw [HEE.out]; have tok1 : True := trivial)
 | (clear tok1; go_at_call 72; refine (rTorn_bad L n A K c r Y yl yc _ hA_1 hx (by rw [HEE.out]; exact he)).mono ?_; rintro e u2 ⟨rfl, hb2⟩; replace hb2 := ex_below hb2; have hz2 := hb2.size; have hB2 := below_step hB1 hb2 (by omega); have hzB2 := hB2.size; have hA_2 := hA_1.ext hb2; have hX_2 := hX_1.ext hb2; clear q0 q1 q2 q3 ql; have q0 := obj_at hX_2 0 _ rfl; have q1 := obj_at hX_2 1 _ rfl; have q2 := obj_at hX_2 2 _ rfl; have q3 := obj_at hX_2 3 _ rfl; have ql := obj_lt hX_2; rw [HEE.out]; have tok2 : True := trivial))
 go_ret2
 exact gives_of rfl hB2
set_option maxRecDepth 100000 in
set_option maxHeartbeats 4000000 in
theorem rSure_err (L rest : Nat) (A : Option Addr) (K : List Nat) (c : Nat)(Y : Option Addr) (torn : List Int) (yc : Nat) (w : World) (hd : OkD L rest K) (hA : I64 w A (zs K)) (hY : I64 w Y torn) (he : chk1 L K.length torn ≠ 0) : Calls Try.prog 33 #[.agg #[.int .i64 (L : Nat), .int .i64 (K.length : Nat), .slice A K.length c, .int .i64 (rest : Nat)], .slice Y torn.length yc] w (Gives w (.tuple #[.slice none 0 0, .int .i64 (chk1 L K.length torn)])) := by
 obtain ⟨e0, he0⟩ : ∃ v, chk1 L K.length torn = v := ⟨_, rfl⟩
 rw [he0] at he ⊢
 have hen : (e0 != 0) = true := by simpa using he
 have HEE := hide he0
 clear he0
 go_enter Try.func33, Try.ntmps33
 go_upto_region 1 with fail
 obtain ⟨wa, hwa, hW, hX⟩ := boxed w #[.int .i64 (L : Nat), .int .i64 (K.length : Nat), .slice A K.length c, .int .i64 (rest : Nat)] 24
 rw [hwa]
 clear hwa
 replace hA := hA.ext hW
 have q0 := obj_at hX 0 _ rfl
 have q1 := obj_at hX 1 _ rfl
 have q2 := obj_at hX 2 _ rfl
 have q3 := obj_at hX 3 _ rfl
 have ql := obj_lt hX
 have hWs := hW.size
 have hY0 := hY.ext hW
 have tok0 : True := trivial
 go_wp2_with (first
 | (clear tok0; go_at_call 72; refine (rTorn_ok L rest A K c Y torn yc _ hd hA hY0).mono ?_; rintro e u1 ⟨rfl, hb1⟩; replace hb1 := ex_below hb1; have hz1 := hb1.size; have hB1 := below_step hW hb1 (by omega); have hzB1 := hB1.size; have hA_1 := hA.ext hb1; have hY0_1 := hY0.ext hb1; have hX_1 := hX.ext hb1; clear q0 q1 q2 q3 ql; have q0 := obj_at hX_1 0 _ rfl; have q1 := obj_at hX_1 1 _ rfl; have q2 := obj_at hX_1 2 _ rfl; have q3 := obj_at hX_1 3 _ rfl; have ql := obj_lt hX_1; rw [HEE.out]; have tok1 : True := trivial)
 | (clear tok1; go_at_call 72; refine (rTorn_ok L rest A K c Y torn yc _ hd hA_1 hY0_1).mono ?_; rintro e u2 ⟨rfl, hb2⟩; replace hb2 := ex_below hb2; have hz2 := hb2.size; have hB2 := below_step hB1 hb2 (by omega); have hzB2 := hB2.size; have hA_2 := hA_1.ext hb2; have hY0_2 := hY0_1.ext hb2; have hX_2 := hX_1.ext hb2; clear q0 q1 q2 q3 ql; have q0 := obj_at hX_2 0 _ rfl; have q1 := obj_at hX_2 1 _ rfl; have q2 := obj_at hX_2 2 _ rfl; have q3 := obj_at hX_2 3 _ rfl; have ql := obj_lt hX_2; rw [HEE.out]; have tok2 : True := trivial))
 go_ret2
 exact gives_of rfl hB2
set_option maxRecDepth 100000 in
set_option maxHeartbeats 4000000 in
theorem rSure_right (L rest : Nat) (A : Option Addr) (K : List Nat) (c : Nat)(Y : Option Addr) (T : List Nat) (yc : Nat) (w : World) (hd : OkD L rest K) (hA : I64 w A (zs K))(hlT : T.length = K.length) (htT : ∀ t, t ∈ T → 1 ≤ t ∧ t < 2 ^ L) (hY : I64 w Y (zs T)) : Calls Try.prog 33 #[.agg #[.int .i64 (L : Nat), .int .i64 (K.length : Nat), .slice A K.length c, .int .i64 (rest : Nat)], .slice Y T.length yc] w (fun e w' => (fitL L rest K T = [] ∧ e = .returned (.tuple #[.slice none 0 0, .int .i64 21]) ∧ RowKit.Below w.heap.size w w') ∨ (fitL L rest K T ≠ [] ∧ SureR w (orL K.length ((Tt.codes L rest K).filter (Tt.fitsW T))) e w')) := by
 have hn8 := hd.2.2.2.1
 have hL6 := hd.2.1
 have hT64 : ∀ t, t ∈ T → t < 64 := fun t ht => by have := htT t ht; have := two_pow L hd.2.1; omega
 have hck := chk1_zero hlT htT
 have HS0 := hide (fun w' (h1 : I64 w' A (zs K)) (h2 : I64 w' Y (zs T)) => (show Calls Try.prog 72 #[.agg #[.int .i64 (L : Nat), .int .i64 (K.length : Nat), .slice A K.length c, .int .i64 (rest : Nat)], .slice Y T.length yc] w' (Gives w' (.int .i64 0)) by
  have h := rTorn_ok L rest A K c Y (zs T) yc w' hd h1 h2
  rw [hck, zs_len] at h
  exact h))
 have HNU := hide (fun w' (h1 : I64 w' A (zs K)) (h2 : I64 w' Y (zs T)) => rNumbers_any L rest A K c Y T yc w' hd h1 h2 hlT hT64)
 have HRC := hide (fun w' (h : I64 w' A (zs K)) => rCodes_any L rest A K c w' hd h)
 have HCM := hide (fun (x : List Nat) (h : x ∈ Tt.codes L rest K) => Tt.codes_mem h)
 have HFC := hide (codes_fit L rest K T)
 have HFM : Hid (∀ i, i ∈ fitL L rest K T → i < (Tt.codes L rest K).length) := hide (fun i hi => by unfold fitL at hi; exact List.mem_range.1 (List.mem_filter.1 hi).1)
 have hcn : (Tt.codes L rest K).length ≤ 1679616 := by
  have h3 := Tt.cnt_small (L := L) (rest := rest) (ps := K.zip (Tt.fulls L K.length)) (la := -1) (s := 0) hL6 (by rw [List.length_zip]; omega)
  rwa [cnt_codes] at h3
 have hfl : (fitL L rest K T).length ≤ 1679616 := by
  unfold fitL
  have h1 := List.length_filter_le (fitN L rest K T) (List.range (Tt.codes L rest K).length)
  rw [List.length_range] at h1
  omega
 generalize fitL L rest K T = fl at *
 clear hck hT64 htT hlT
 by_cases hz : fl.length = 0
 · have HZ : Hid (fl = []) := hide (List.eq_nil_of_length_eq_zero hz)
   have hzI : ((fl.length : Int) == 0) = true := by simp [HZ.out]
   go_enter Try.func33, Try.ntmps33
   go_upto_region 1 with fail
   obtain ⟨wa, hwa, hW, hX⟩ := boxed w #[.int .i64 (L : Nat), .int .i64 (K.length : Nat), .slice A K.length c, .int .i64 (rest : Nat)] 24
   rw [hwa]
   clear hwa
   replace hA := hA.ext hW
   have q0 := obj_at hX 0 _ rfl
   have q1 := obj_at hX 1 _ rfl
   have q2 := obj_at hX 2 _ rfl
   have q3 := obj_at hX 3 _ rfl
   have ql := obj_lt hX
   have hWs := hW.size
   have hY0 := hY.ext hW
   have tok0 : True := trivial
   go_upto_region 3 with (first
 | (clear tok0; go_at_call 72; refine (HS0.out _ hA hY0).mono ?_; rintro e u1 ⟨rfl, hb1⟩; replace hb1 := ex_below hb1; have hz1 := hb1.size; have hB1 := below_step hW hb1 (by omega); have hzB1 := hB1.size; have hA_1 := hA.ext hb1; have hY0_1 := hY0.ext hb1; have hX_1 := hX.ext hb1; clear q0 q1 q2 q3 ql; have q0 := obj_at hX_1 0 _ rfl; have q1 := obj_at hX_1 1 _ rfl; have q2 := obj_at hX_1 2 _ rfl; have q3 := obj_at hX_1 3 _ rfl; have ql := obj_lt hX_1; have tok1 : True := trivial))
   have hbd := below_drew (Below.refl u1.heap.size u1)
   refine wp_region_noPanic ?_
   refine wp_region_held_drew (S := fun w' => w'.cell? ⟨w.heap.size, 0, none⟩ = some (.int .i64 (L : Nat)) ∧ w'.cell? ⟨w.heap.size, 1, none⟩ = some (.int .i64 (K.length : Nat)) ∧ w'.cell? ⟨w.heap.size, 2, none⟩ = some (.slice A K.length c) ∧ w'.cell? ⟨w.heap.size, 3, none⟩ = some (.int .i64 (rest : Nat))) (by kernel_rfl) ?_ (fun hHeld => ?_)
   · (try dsimp only)
     (exact ⟨obj_at (hX_1.ext hbd) 0 _ rfl, obj_at (hX_1.ext hbd) 1 _ rfl, obj_at (hX_1.ext hbd) 2 _ rfl, obj_at (hX_1.ext hbd) 3 _ rfl⟩)
   refine wpAnyH_take (i := 0) (v := ?_) rfl (by kernel_rfl) (by kernel_rfl) (by kernel_rfl) (fun _ _ _ h => h) (Or.inl ⟨by rfl, ?_⟩) hHeld ?_
   rotate_left
   · (intro ww hSw; (try dsimp only at hSw); go_simp; try with_reducible rfl)
   (try simp only [Act.put, List.getElem_toArray, List.getElem_cons_zero, List.getElem_cons_succ, List.setIfInBounds_toArray, List.set_cons_zero, List.set_cons_succ])
   refine wpAnyH_take (i := 2) (v := ?_) rfl (by kernel_rfl) (by kernel_rfl) (by kernel_rfl) (fun _ _ _ h => h) (Or.inl ⟨by rfl, ?_⟩) hHeld ?_
   rotate_left
   · (intro ww hSw; (try dsimp only at hSw); go_simp; try with_reducible rfl)
   (try simp only [Act.put, List.getElem_toArray, List.getElem_cons_zero, List.getElem_cons_succ, List.setIfInBounds_toArray, List.set_cons_zero, List.set_cons_succ])
   refine wpAnyH_take (i := 3) (v := ?_) rfl (by kernel_rfl) (by kernel_rfl) (by kernel_rfl) (fun _ _ _ h => h) (Or.inl ⟨by rfl, ?_⟩) hHeld ?_
   rotate_left
   · (intro ww hSw; (try dsimp only at hSw); go_simp; try with_reducible rfl)
   (try simp only [Act.put, List.getElem_toArray, List.getElem_cons_zero, List.getElem_cons_succ, List.setIfInBounds_toArray, List.set_cons_zero, List.set_cons_succ])
   refine wpAnyH_ready (rs := [1]) (by kernel_rfl) (by simp) ?_
   refine AllReadyH.cons rfl ?_ ?_
   · intro K' hK
     rw [if_pos (by rfl)]
     go_simp
     go_at_call 59
     refine (HRC.out _ (hA_1.ext hbd)).mono ?_
     rintro e u2 ⟨A1, c1, rfl, hb2, hO1⟩
     have hbe := below_step hbd hb2 (by simp)
     have hX2 := hX_1.ext hbe
     have hz2 := hbe.size
     go_wp2_with fail
     refine hK.out _ _ ⟨obj_at hX2 0 _ rfl, obj_at hX2 1 _ rfl, obj_at hX2 2 _ rfl, obj_at hX2 3 _ rfl⟩ (fun hHeld2 => ?_)
     clear hK K' hHeld
     have hHeld := hHeld2
     clear hHeld2
     (try simp only [Act.put, List.getElem_toArray, List.getElem_cons_zero, List.getElem_cons_succ, List.setIfInBounds_toArray, List.set_cons_zero, List.set_cons_succ])
     refine wpAnyH_ready (rs := [4]) (by kernel_rfl) (by simp) ?_
     refine AllReadyH.cons rfl ?_ ?_
     · intro K' hK
       rw [if_pos (by rfl)]
       go_simp
       go_at_call 70
       refine (HNU.out _ (hA_1.ext hbe) (hY0_1.ext hbe)).mono ?_
       rintro e u3 ⟨A3, c3, rfl, hb3, hI3⟩
       have hbf := below_step hbe hb3 (by omega)
       have hX3 := hX_1.ext hbf
       have hz3 := hbf.size
       go_wp2_with fail
       refine hK.out _ _ ⟨obj_at hX3 0 _ rfl, obj_at hX3 1 _ rfl, obj_at hX3 2 _ rfl, obj_at hX3 3 _ rfl⟩ (fun hHeld2 => ?_)
       clear hK K' hHeld
       have hHeld := hHeld2
       clear hHeld2
       (try simp only [Act.put, List.getElem_toArray, List.getElem_cons_zero, List.getElem_cons_succ, List.setIfInBounds_toArray, List.set_cons_zero, List.set_cons_succ])
       refine wpAnyH_take (i := 5) (v := ?_) rfl (by kernel_rfl) (by kernel_rfl) (by kernel_rfl) (fun _ _ _ h => h) (Or.inl ⟨by rfl, ?_⟩) hHeld ?_
       rotate_left
       · (intro ww hSw; (try dsimp only at hSw); go_simp; try with_reducible rfl)
       (try simp only [Act.put, List.getElem_toArray, List.getElem_cons_zero, List.getElem_cons_succ, List.setIfInBounds_toArray, List.set_cons_zero, List.set_cons_succ])
       refine wpAnyH_take (i := 6) (v := ?_) rfl (by kernel_rfl) (by kernel_rfl) (by kernel_rfl) (fun _ _ _ h => h) (Or.inl ⟨by rfl, ?_⟩) hHeld ?_
       rotate_left
       · (intro ww hSw; (try dsimp only at hSw); go_simp; try with_reducible rfl)
       (try simp only [Act.put, List.getElem_toArray, List.getElem_cons_zero, List.getElem_cons_succ, List.setIfInBounds_toArray, List.set_cons_zero, List.set_cons_succ])
       refine wpAnyH_done (by kernel_rfl) ?_ _
       refine NoPanic.normal ?_
       go_wp2_with fail
       go_ret2
       exact .inl ⟨HZ.out, rfl, below_step hB1 hbf (by omega)⟩
     exact AllReadyH.nil
   exact AllReadyH.nil
 · have hzI : ((fl.length : Int) == 0) = false := by rw [beq_eq_false_iff_ne]; omega
   have hmk := make_zeros K.length (by omega)
   rw [mcs_zero] at hmk
   have HZ := hide hz
   clear hz
   go_enter Try.func33, Try.ntmps33
   go_upto_region 1 with fail
   obtain ⟨wa, hwa, hW, hX⟩ := boxed w #[.int .i64 (L : Nat), .int .i64 (K.length : Nat), .slice A K.length c, .int .i64 (rest : Nat)] 24
   rw [hwa]
   clear hwa
   replace hA := hA.ext hW
   have q0 := obj_at hX 0 _ rfl
   have q1 := obj_at hX 1 _ rfl
   have q2 := obj_at hX 2 _ rfl
   have q3 := obj_at hX 3 _ rfl
   have ql := obj_lt hX
   have hWs := hW.size
   have hY0 := hY.ext hW
   have tok0 : True := trivial
   go_upto_region 3 with (first
 | (clear tok0; go_at_call 72; refine (HS0.out _ hA hY0).mono ?_; rintro e u1 ⟨rfl, hb1⟩; replace hb1 := ex_below hb1; have hz1 := hb1.size; have hB1 := below_step hW hb1 (by omega); have hzB1 := hB1.size; have hA_1 := hA.ext hb1; have hY0_1 := hY0.ext hb1; have hX_1 := hX.ext hb1; clear q0 q1 q2 q3 ql; have q0 := obj_at hX_1 0 _ rfl; have q1 := obj_at hX_1 1 _ rfl; have q2 := obj_at hX_1 2 _ rfl; have q3 := obj_at hX_1 3 _ rfl; have ql := obj_lt hX_1; have tok1 : True := trivial))
   have hbd := below_drew (Below.refl u1.heap.size u1)
   refine wp_region_noPanic ?_
   refine wp_region_held_drew (S := fun w' => w'.cell? ⟨w.heap.size, 0, none⟩ = some (.int .i64 (L : Nat)) ∧ w'.cell? ⟨w.heap.size, 1, none⟩ = some (.int .i64 (K.length : Nat)) ∧ w'.cell? ⟨w.heap.size, 2, none⟩ = some (.slice A K.length c) ∧ w'.cell? ⟨w.heap.size, 3, none⟩ = some (.int .i64 (rest : Nat))) (by kernel_rfl) ?_ (fun hHeld => ?_)
   · (try dsimp only)
     (exact ⟨obj_at (hX_1.ext hbd) 0 _ rfl, obj_at (hX_1.ext hbd) 1 _ rfl, obj_at (hX_1.ext hbd) 2 _ rfl, obj_at (hX_1.ext hbd) 3 _ rfl⟩)
   refine wpAnyH_take (i := 0) (v := ?_) rfl (by kernel_rfl) (by kernel_rfl) (by kernel_rfl) (fun _ _ _ h => h) (Or.inl ⟨by rfl, ?_⟩) hHeld ?_
   rotate_left
   · (intro ww hSw; (try dsimp only at hSw); go_simp; try with_reducible rfl)
   (try simp only [Act.put, List.getElem_toArray, List.getElem_cons_zero, List.getElem_cons_succ, List.setIfInBounds_toArray, List.set_cons_zero, List.set_cons_succ])
   refine wpAnyH_take (i := 2) (v := ?_) rfl (by kernel_rfl) (by kernel_rfl) (by kernel_rfl) (fun _ _ _ h => h) (Or.inl ⟨by rfl, ?_⟩) hHeld ?_
   rotate_left
   · (intro ww hSw; (try dsimp only at hSw); go_simp; try with_reducible rfl)
   (try simp only [Act.put, List.getElem_toArray, List.getElem_cons_zero, List.getElem_cons_succ, List.setIfInBounds_toArray, List.set_cons_zero, List.set_cons_succ])
   refine wpAnyH_take (i := 3) (v := ?_) rfl (by kernel_rfl) (by kernel_rfl) (by kernel_rfl) (fun _ _ _ h => h) (Or.inl ⟨by rfl, ?_⟩) hHeld ?_
   rotate_left
   · (intro ww hSw; (try dsimp only at hSw); go_simp; try with_reducible rfl)
   (try simp only [Act.put, List.getElem_toArray, List.getElem_cons_zero, List.getElem_cons_succ, List.setIfInBounds_toArray, List.set_cons_zero, List.set_cons_succ])
   refine wpAnyH_ready (rs := [1]) (by kernel_rfl) (by simp) ?_
   refine AllReadyH.cons rfl ?_ ?_
   · intro K' hK
     rw [if_pos (by rfl)]
     go_simp
     go_at_call 59
     refine (HRC.out _ (hA_1.ext hbd)).mono ?_
     rintro e u2 ⟨A1, c1, rfl, hb2, hO1⟩
     have hbe := below_step hbd hb2 (by simp)
     have hX2 := hX_1.ext hbe
     have hz2 := hbe.size
     go_wp2_with fail
     refine hK.out _ _ ⟨obj_at hX2 0 _ rfl, obj_at hX2 1 _ rfl, obj_at hX2 2 _ rfl, obj_at hX2 3 _ rfl⟩ (fun hHeld2 => ?_)
     clear hK K' hHeld
     have hHeld := hHeld2
     clear hHeld2
     (try simp only [Act.put, List.getElem_toArray, List.getElem_cons_zero, List.getElem_cons_succ, List.setIfInBounds_toArray, List.set_cons_zero, List.set_cons_succ])
     refine wpAnyH_ready (rs := [4]) (by kernel_rfl) (by simp) ?_
     refine AllReadyH.cons rfl ?_ ?_
     · intro K' hK
       rw [if_pos (by rfl)]
       go_simp
       go_at_call 70
       refine (HNU.out _ (hA_1.ext hbe) (hY0_1.ext hbe)).mono ?_
       rintro e u3 ⟨A3, c3, rfl, hb3, hI3⟩
       have hbf := below_step hbe hb3 (by omega)
       have hX3 := hX_1.ext hbf
       have hz3 := hbf.size
       go_wp2_with fail
       refine hK.out _ _ ⟨obj_at hX3 0 _ rfl, obj_at hX3 1 _ rfl, obj_at hX3 2 _ rfl, obj_at hX3 3 _ rfl⟩ (fun hHeld2 => ?_)
       clear hK K' hHeld
       have hHeld := hHeld2
       clear hHeld2
       (try simp only [Act.put, List.getElem_toArray, List.getElem_cons_zero, List.getElem_cons_succ, List.setIfInBounds_toArray, List.set_cons_zero, List.set_cons_succ])
       refine wpAnyH_take (i := 5) (v := ?_) rfl (by kernel_rfl) (by kernel_rfl) (by kernel_rfl) (fun _ _ _ h => h) (Or.inl ⟨by rfl, ?_⟩) hHeld ?_
       rotate_left
       · (intro ww hSw; (try dsimp only at hSw); go_simp; try with_reducible rfl)
       (try simp only [Act.put, List.getElem_toArray, List.getElem_cons_zero, List.getElem_cons_succ, List.setIfInBounds_toArray, List.set_cons_zero, List.set_cons_succ])
       refine wpAnyH_take (i := 6) (v := ?_) rfl (by kernel_rfl) (by kernel_rfl) (by kernel_rfl) (fun _ _ _ h => h) (Or.inl ⟨by rfl, ?_⟩) hHeld ?_
       rotate_left
       · (intro ww hSw; (try dsimp only at hSw); go_simp; try with_reducible rfl)
       (try simp only [Act.put, List.getElem_toArray, List.getElem_cons_zero, List.getElem_cons_succ, List.setIfInBounds_toArray, List.set_cons_zero, List.set_cons_succ])
       refine wpAnyH_done (by kernel_rfl) ?_ _
       refine NoPanic.normal ?_
       have hml : ((Tt.codes L rest K).map strW).length = (Tt.codes L rest K).length := List.length_map ..
       rw [hml] at hO1
       have hO3 := own_ext hO1 hb3
       clear hml q0 q1 q2 q3 ql HRC HNU HS0 hO1
       obtain ⟨Cs, hCs⟩ : ∃ v, Tt.codes L rest K = v := ⟨_, rfl⟩
       rw [hCs] at hcn HCM HFC HFM hO3 ⊢
       have HCSX := hide hCs
       obtain ⟨fw, hfw⟩ : ∃ v, Cs.filter (Tt.fitsW T) = v := ⟨_, rfl⟩
       rw [hfw] at HFC
       have HFW := hide hfw
       have hfwl : fw.length = fl.length := by rw [HFC.out, List.length_map]
       have hfwc : ∀ i, (h : i < fl.length) → ∃ h2 : fl[i] < Cs.length, fw[i]? = some Cs[fl[i]] := fun i h => by
        have h2 := HFM.out fl[i] (List.getElem_mem h)
        refine ⟨h2, ?_⟩
        rw [HFC.out, List.getElem?_map, List.getElem?_eq_getElem h]
        simp [List.getElem?_eq_getElem h2]
       have hfw6 : ∀ x, x ∈ fw → ∀ c, c ∈ x → c < 6 := fun x hx c hc => by
        rw [← hfw] at hx
        have := (HCM.out x (List.mem_filter.1 hx).1).2 c hc
        omega
       have HFWC := hide hfwc
       have HFW6 := hide hfw6
       clear hCs hfw hfwc hfw6
       have q1 := obj_at hX3 1 _ rfl
       have ql := obj_lt hX3
       go_wp2
       obtain ⟨bb, hbb⟩ : ∃ v, u3.heap.size = v := ⟨_, rfl⟩
       have hba : Below u3.heap.size u3 (u3.alloc (.cells (mcs (List.replicate K.length 0)) 3)) := below_alloc (Below.refl _ _) (Nat.le_refl _) _
       have hB0 : BlkAt (u3.alloc (.cells (mcs (List.replicate K.length 0)) 3)) u3.heap.size (mcs (orL K.length (fw.take 0))) 3 := by rw [List.take_zero, orL_nil]; exact heap_alloc_new _ _
       rw [hbb] at hB0 ⊢
       have hBu := below_step hB1 hbf (by omega)
       go_loopw [9] (fun iv wr => ∃ i : Nat, i ≤ fl.length ∧ iv = .int .i64 (i : Nat) ∧ BlkAt wr bb (mcs (orL K.length (fw.take i))) 3 ∧ Below u3.heap.size u3 wr) (fun iv _ => fl.length - (intOf iv).toNat)
       case atStart => exact ⟨0, Nat.zero_le _, rfl, hB0, hba⟩
       case round =>
        clear hB0 hba q1 ql
        obtain ⟨i, hi, rfl, hBB, hb⟩ := hrel
        have hzr := hb.size
        have hBr := below_step hBu hb (by omega)
        by_cases hil : i < fl.length
        · have hii : (i : Int) < (fl.length : Int) := by omega
          have hIr := hI3.ext hb
          obtain ⟨lb, lo, rfl, hlb⟩ := hIr.form (by rw [zs_len]; omega)
          have hcx := hIr.at (k := i) (by rw [zs_len]; exact hil)
          rw [zs_at fl i hil] at hcx
          obtain ⟨hjl, hfi⟩ := HFWC.out i hil
          obtain ⟨j, hj⟩ : ∃ v, fl[i] = v := ⟨_, rfl⟩
          have hji : (fl[i] : Int) < (Cs.length : Int) := by omega
          obtain ⟨ob, rfl, hob, hcell⟩ := own_at2 hO3 fl[i] (Value.string (strW Cs[fl[i]])) (by rw [List.getElem?_map, List.getElem?_map, List.getElem?_eq_getElem hjl]; rfl)
          have hce := (hb.cell (p := ⟨ob, fl[i], none⟩) hob).trans hcell
          have hobr : ob < wr.heap.size := by omega
          obtain ⟨hx1, hx2⟩ := HCM.out _ (List.getElem_mem hjl)
          obtain ⟨x, hx⟩ : ∃ v, Cs[fl[i]] = v := ⟨_, rfl⟩
          rw [hx] at hce hx1 hx2 hfi
          have HX2 := hide hx2
          have HX1 := hide hx1
          have HTK : Hid (fw.take (i + 1) = fw.take i ++ [x]) := hide (by
           have h2 : i < fw.length := by omega
           rw [take_snoc _ _ h2]
           rw [List.getElem?_eq_getElem h2] at hfi
           rw [Option.some.inj hfi])
          rw [hj] at hce hji hcx
          clear hx hj hcell hfi hjl hx1 hx2
          go_wp2
          obtain ⟨wo, hwo⟩ : ∃ v, v = wr := ⟨_, rfl⟩
          rw [← hwo] at hBB hb hzr hBr hobr hce hcx hIr ⊢
          clear hwo
          go_loopw [11] (fun kv wr => ∃ k : Nat, k ≤ K.length ∧ kv = .int .i64 (k : Nat) ∧ BlkAt wr bb (mcs (mixL (orL K.length (fw.take (i + 1))) (orL K.length (fw.take i)) k)) 3 ∧ Below u3.heap.size u3 wr) (fun kv _ => K.length - (intOf kv).toNat)
          case atStart => exact ⟨0, Nat.zero_le _, rfl, by rw [mixL_zero]; exact hBB, hb⟩
          case round =>
           clear hBB hb hzr hBr hce hcx hIr hobr
           obtain ⟨k, hk, rfl, hBB, hb⟩ := hrel
           have hzr := hb.size
           have hXr := hX3.ext hb
           have q1 := obj_at hXr 1 _ rfl
           have ql := obj_lt hXr
           have hol : (orL K.length (fw.take (i + 1))).length = (orL K.length (fw.take i)).length := by rw [orL_len, orL_len]
           by_cases hkl : k < K.length
           · have hki : (k : Int) < (K.length : Int) := by omega
             have hko : k < (orL K.length (fw.take i)).length := by rw [orL_len]; exact hkl
             have hkn : k < (orL K.length (fw.take (i + 1))).length := by rw [orL_len]; exact hkl
             have hkx : k < x.length := by rw [HX1.out]; exact hkl
             have i0 := obj_at hBB k _ (mcs_get _ k _ (mixL_at _ _ k hol hko))
             have if0 := obj_fz hBB k
             have il := obj_lt hBB
             have HST := hide (mixL_step (orL K.length (fw.take (i + 1))) (orL K.length (fw.take i)) k hol hko)
             have e1 := orL_at K.length (fw.take (i + 1)) k hkl
             have e2 := orL_at K.length (fw.take i) k hkl
             have hs64 := orK_lt (l := fw.take i) (fun w hw => HFW6.out w (List.mem_of_mem_take hw)) k
             have hc6 : x[k] < 6 := by have := HX2.out _ (List.getElem_mem hkx); omega
             have hgd : x.getD k 0 = x[k] := by rw [List.getD_eq_getElem?_getD, List.getElem?_eq_getElem hkx]; rfl
             rw [HTK.out, orK_snoc, hgd] at e1
             rw [e2] at i0
             have HST2 : Hid ((mixL (orL K.length (fw.take (i + 1))) (orL K.length (fw.take i)) k).set k (orK (fw.take i) k ||| 2 ^ x[k]) = mixL (orL K.length (fw.take (i + 1))) (orL K.length (fw.take i)) (k + 1)) := hide (by
              rw [← HST.out]
              congr 1
              exact (show (orL K.length (fw.take (i + 1)))[k] = _ by simp only [HTK.out]; exact e1).symm)
             have hbS : k < (strW x).size := by rw [strW_size]; exact hkx
             have hbSI : (k : Int) < ((strW x).size : Int) := by omega
             have hby := strW_at (ws := x) (fun y hy => by have := HX2.out y hy; omega) k hkx
             obtain ⟨cx, hcxe⟩ : ∃ v, x[k] = v := ⟨_, rfl⟩
             obtain ⟨sn, hsn⟩ : ∃ v, orK (fw.take i) k = v := ⟨_, rfl⟩
             rw [hcxe] at hc6 hby HST2
             rw [hsn] at i0 hs64 HST2
             have hbw : IntKind.u8.wrap ((cx : Int) + 97 - 97) = (cx : Int) := u8_letter2 cx hc6
             have hor := bOr sn hs64 cx hc6
             have hs2 := (pow_wraps cx hc6).2
             have h2c : 2 ^ cx < 64 := Nat.lt_of_lt_of_le (Nat.pow_lt_pow_right (by omega) hc6) (Nat.le_refl _)
             obtain ⟨g, hg⟩ : ∃ v, 2 ^ cx = v := ⟨_, rfl⟩
             rw [hg] at hor hs2 HST2 h2c
             clear hol hko hkn HST e1 e2 hgd hcxe hsn hg
             go_upto_region 14 with fail
             refine wp_region_grow_tail 12 (by kernel_rfl) (by kernel_rfl) ?_
             simp only [List.take_succ_cons, List.take_zero, List.drop_succ_cons, List.drop_zero]
             repeat (go_big_quiet_step (fail))
             refine wpQuiet_nil ?_
             clear hs2
             intro w7 hb7
             replace hb7 := ex_below hb7
             have hB7 := hBB.ext hb7
             have hz7 := hb7.size
             have i7 := (hb7.cell (p := ⟨bb, k, none⟩) il).trans i0
             have if7 := obj_fz hB7 k
             have il7 := obj_lt hB7
             go_wp2
             have hB8 : BlkAt (w7.setCell ⟨bb, k, none⟩ (.int .i64 ((sn ||| g : Nat) : Int))) bb (mcs (mixL (orL K.length (fw.take (i + 1))) (orL K.length (fw.take i)) (k + 1))) 3 := by
              rw [← HST2.out, ← mcs_set]
              exact set_obj hB7 k _
             exact ⟨⟨k + 1, by omega, by go_num, hB8, Below.setCell (below_step hb hb7 hzr) (by simp; omega) _⟩, by simp [intOf]; omega⟩
           · have hki : ¬ ((k : Int) < (K.length : Int)) := by omega
             obtain rfl : k = K.length := by omega
             have hBn : BlkAt wr bb (mcs (orL K.length (fw.take (i + 1)))) 3 := by
              have h := mixL_all _ _ hol
              rw [orL_len] at h
              rw [h] at hBB
              exact hBB
             clear hBB
             go_wp2
             exact ⟨⟨i + 1, by omega, by go_num, hBn, hb⟩, by simp [intOf]; omega⟩
        · have hii : ¬ ((i : Int) < (fl.length : Int)) := by omega
          have hall : fw.take i = fw := List.take_of_length_le (by omega)
          rw [hall] at hBB
          have hIo : I64 wr (some ⟨bb, 0, none⟩) (zs (orL K.length fw)) := by
           intro j x hj
           unfold zs at hj
           rw [List.getElem?_map] at hj
           cases hx : (orL K.length fw)[j]? with
           | none => rw [hx] at hj; cases hj
           | some y =>
             rw [hx] at hj; cases hj
             exact ⟨bb, 0, rfl, obj_lt hBB, Nat.le_of_lt (obj_lt hBB), by rw [Nat.zero_add]; exact obj_at hBB j _ (mcs_get _ j y hx)⟩
          have HOL := hide (orL_len K.length fw)
          clear hall
          go_wp2
          go_ret2
          refine .inr ⟨fun h => HZ.out (by rw [h]; rfl), some ⟨bb, 0, none⟩, K.length, ?_, hBr, by rw [HCSX.out, HFW.out]; exact hIo⟩
          rw [HCSX.out, HFW.out, HOL.out]
          rfl
     exact AllReadyH.nil
   exact AllReadyH.nil

end Go.Proofs.Ytgjfejpibielaaa
