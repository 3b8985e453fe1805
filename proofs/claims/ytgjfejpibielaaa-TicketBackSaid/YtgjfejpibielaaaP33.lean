/- Proved here: the reference: how many fit, and which, a part of the proofs about the ticket laws. Conditions: those that each theorem names, no others. -/
import Derived.Test.YtgjfejpibielaaaP32
import Derived.WalkKit
import Derived.WalkSpells
import Derived.WalkLawsBesides
import Derived.Below
import Derived.Deep.QuietTactic
import Derived.BigQuiet
import Derived.Deep.Light
set_option linter.unusedSimpArgs false
set_option linter.unusedVariables false
namespace Go.Proofs.Ytgjfejpibielaaa
open Go.RowKit Go.Maps Go.Shelf
attribute [local go_sem] Oper.semAt_some World.cell?_setCell_far
set_option maxRecDepth 100000 in
set_option maxHeartbeats 4000000 in
theorem rFits_bad (L n : Int) (A : Option Addr) (K : List Int) (c : Nat) (r : Int) (Y : Option Addr) (yl yc : Nat) (D : Option Addr) (rl dc : Nat) (w : World) (hA : I64 w A K) (hx : K.length ≤ 1000) (he : chkDay L n K r ≠ 0) : Calls Try.prog 27 #[.agg #[.int .i64 L, .int .i64 n, .slice A K.length c, .int .i64 r], .slice Y yl yc, .slice D rl dc] w (Gives w (.tuple #[.int .i64 0, .int .i64 0, .int .i64 (chkDay L n K r)])) := by
 obtain ⟨e0, he0⟩ : ∃ v, chkDay L n K r = v := ⟨_, rfl⟩
 rw [he0] at he ⊢
 have hen : (e0 != 0) = true := by simpa using he
 have HEE := hide he0
 clear he0
 go_enter Try.func27, Try.ntmps27
 go_upto_region 1 with fail
 obtain ⟨wa, hwa, hW, hX⟩ := boxed w #[.int .i64 L, .int .i64 n, .slice A K.length c, .int .i64 r] 24
 rw [hwa]
 clear hwa
 replace hA := hA.ext hW
 have q0 := obj_at hX 0 _ rfl
 have q1 := obj_at hX 1 _ rfl
 have q2 := obj_at hX 2 _ rfl
 have q3 := obj_at hX 3 _ rfl
 have ql := obj_lt hX
 have hWs := hW.size
 have tok0 : True := trivial
 go_wp2_with (first
 | (clear tok0; go_at_call 69; refine (rSold_bad L n A K c r Y yl yc D rl dc _ hA hx (by rw [HEE.out]; exact he)).mono ?_; rintro e u1 ⟨rfl, hb1⟩; replace hb1 := ex_below hb1; have hz1 := hb1.size; have hB1 := below_step hW hb1 (by omega); have hzB1 := hB1.size; have hA_1 := hA.ext hb1; have hX_1 := hX.ext hb1; clear q0 q1 q2 q3 ql; have q0 := obj_at hX_1 0 _ rfl; have q1 := obj_at hX_1 1 _ rfl; have q2 := obj_at hX_1 2 _ rfl; have q3 := obj_at hX_1 3 _ rfl; have ql := obj_lt hX_1; rw [HEE.out]; have tok1 : True := trivial)
 | (clear tok1; go_at_call 69; refine (rSold_bad L n A K c r Y yl yc D rl dc _ hA_1 hx (by rw [HEE.out]; exact he)).mono ?_; rintro e u2 ⟨rfl, hb2⟩; replace hb2 := ex_below hb2; have hz2 := hb2.size; have hB2 := below_step hB1 hb2 (by omega); have hzB2 := hB2.size; have hA_2 := hA_1.ext hb2; have hX_2 := hX_1.ext hb2; clear q0 q1 q2 q3 ql; have q0 := obj_at hX_2 0 _ rfl; have q1 := obj_at hX_2 1 _ rfl; have q2 := obj_at hX_2 2 _ rfl; have q3 := obj_at hX_2 3 _ rfl; have ql := obj_lt hX_2; rw [HEE.out]; have tok2 : True := trivial))
 go_ret3
 exact gives_of rfl hB2
set_option maxRecDepth 100000 in
set_option maxHeartbeats 4000000 in
theorem rFits_err (L rest : Nat) (A : Option Addr) (K : List Nat) (c : Nat)(Y : Option Addr) (torn : List Int) (yc : Nat) (D : Option Addr) (rs : List (Int × Int)) (dc : Nat) (w : World) (hd : OkD L rest K) (hA : I64 w A (zs K)) (hY : I64 w Y torn) (hD : Rng w D rs) (hl : rs.length ≤ 1000) (he : (sErr L rest K torn rs) ≠ 0) : Calls Try.prog 27 #[.agg #[.int .i64 (L : Nat), .int .i64 (K.length : Nat), .slice A K.length c, .int .i64 (rest : Nat)], .slice Y torn.length yc, .slice D rs.length dc] w (Gives w (.tuple #[.int .i64 0, .int .i64 0, .int .i64 (sErr L rest K torn rs)])) := by
 obtain ⟨e0, he0⟩ : ∃ v, sErr L rest K torn rs = v := ⟨_, rfl⟩
 rw [he0] at he ⊢
 have hen : (e0 != 0) = true := by simpa using he
 have HEE := hide he0
 clear he0
 go_enter Try.func27, Try.ntmps27
 go_upto_region 1 with fail
 obtain ⟨wa, hwa, hW, hX⟩ := boxed w #[.int .i64 (L : Nat), .int .i64 (K.length : Nat), .slice A K.length c, .int .i64 (rest : Nat)] 24
 rw [hwa]
 clear hwa
 replace hA := hA.ext hW
 have q0 := obj_at hX 0 _ rfl
 have q1 := obj_at hX 1 _ rfl
 have q2 := obj_at hX 2 _ rfl
 have q3 := obj_at hX 3 _ rfl
 have ql := obj_lt hX
 have hWs := hW.size
 have hY0 := hY.ext hW
 have hD0 : Rng wa D rs := Rd.ext hD hW
 have tok0 : True := trivial
 go_wp2_with (first
 | (clear tok0; go_at_call 69; refine (rSold_ok L rest A K c Y torn yc D rs dc _ hd hA hY0 hD0 hl).mono ?_; rintro e u1 ⟨rfl, hb1⟩; replace hb1 := ex_below hb1; have hz1 := hb1.size; have hB1 := below_step hW hb1 (by omega); have hzB1 := hB1.size; have hA_1 := hA.ext hb1; have hY0_1 := hY0.ext hb1; have hD0_1 := Rng.ext hD0 hb1; have hX_1 := hX.ext hb1; clear q0 q1 q2 q3 ql; have q0 := obj_at hX_1 0 _ rfl; have q1 := obj_at hX_1 1 _ rfl; have q2 := obj_at hX_1 2 _ rfl; have q3 := obj_at hX_1 3 _ rfl; have ql := obj_lt hX_1; rw [HEE.out]; have tok1 : True := trivial)
 | (clear tok1; go_at_call 69; refine (rSold_ok L rest A K c Y torn yc D rs dc _ hd hA_1 hY0_1 hD0_1 hl).mono ?_; rintro e u2 ⟨rfl, hb2⟩; replace hb2 := ex_below hb2; have hz2 := hb2.size; have hB2 := below_step hB1 hb2 (by omega); have hzB2 := hB2.size; have hA_2 := hA_1.ext hb2; have hY0_2 := hY0_1.ext hb2; have hD0_2 := hD0_1.ext hb2; have hX_2 := hX_1.ext hb2; clear q0 q1 q2 q3 ql; have q0 := obj_at hX_2 0 _ rfl; have q1 := obj_at hX_2 1 _ rfl; have q2 := obj_at hX_2 2 _ rfl; have q3 := obj_at hX_2 3 _ rfl; have ql := obj_lt hX_2; rw [HEE.out]; have tok2 : True := trivial))
 go_ret3
 exact gives_of rfl hB2
set_option maxRecDepth 100000 in
set_option maxHeartbeats 4000000 in
theorem rFits_right (L rest : Nat) (A : Option Addr) (K : List Nat) (c : Nat)(Y : Option Addr) (T : List Nat) (yc : Nat) (D : Option Addr) (rs : List (Int × Int)) (dc : Nat) (w : World) (hd : OkD L rest K) (hA : I64 w A (zs K))(hlT : T.length = K.length) (htT : ∀ t, t ∈ T → 1 ≤ t ∧ t < 2 ^ L) (hY : I64 w Y (zs T)) (hD : Rng w D rs) (hl : rs.length ≤ 1000) (hsd : chkSold ((Tt.codes L rest K).length : Nat) rs = 0) : Calls Try.prog 27 #[.agg #[.int .i64 (L : Nat), .int .i64 (K.length : Nat), .slice A K.length c, .int .i64 (rest : Nat)], .slice Y T.length yc, .slice D rs.length dc] w (Gives w (.tuple #[.int .i64 ((fitL L rest K T).length : Nat), .int .i64 ((fitL L rest K T).countP (fun i => soldI rs ((i : Nat) : Int)) : Nat), .int .i64 0])) := by
 have hn8 := hd.2.2.2.1
 have hL6 := hd.2.1
 have hcn : (Tt.codes L rest K).length ≤ 1679616 := by
  have h3 := Tt.cnt_small (L := L) (rest := rest) (ps := K.zip (Tt.fulls L K.length)) (la := -1) (s := 0) hL6 (by rw [List.length_zip]; omega)
  rwa [cnt_codes] at h3
 have hT64 : ∀ t, t ∈ T → t < 64 := fun t ht => by have := htT t ht; have := two_pow L hd.2.1; omega
 have hck := chk1_zero hlT htT
 have hfl : (fitL L rest K T).length ≤ 1679616 := by
  unfold fitL
  have h1 := List.length_filter_le (fitN L rest K T) (List.range (Tt.codes L rest K).length)
  rw [List.length_range] at h1
  omega
 have HS0 := hide (fun w' (h1 : I64 w' A (zs K)) (h2 : I64 w' Y (zs T)) (h3 : Rng w' D rs) => (show Calls Try.prog 69 #[.agg #[.int .i64 (L : Nat), .int .i64 (K.length : Nat), .slice A K.length c, .int .i64 (rest : Nat)], .slice Y T.length yc, .slice D rs.length dc] w' (Gives w' (.int .i64 0)) by
  have h := rSold_ok L rest A K c Y (zs T) yc D rs dc w' hd h1 h2 h3 hl
  unfold sErr at h
  rw [hck, if_neg (by simp), hsd, zs_len] at h
  exact h))
 have HNU := hide (fun w' (h1 : I64 w' A (zs K)) (h2 : I64 w' Y (zs T)) => rNumbers_any L rest A K c Y T yc w' hd h1 h2 hlT hT64)
 generalize fitL L rest K T = fl at *
 clear hsd hck hcn hT64 htT hlT
 go_enter Try.func27, Try.ntmps27
 go_upto_region 1 with fail
 obtain ⟨wa, hwa, hW, hX⟩ := boxed w #[.int .i64 (L : Nat), .int .i64 (K.length : Nat), .slice A K.length c, .int .i64 (rest : Nat)] 24
 rw [hwa]
 clear hwa
 replace hA := hA.ext hW
 have q0 := obj_at hX 0 _ rfl
 have q1 := obj_at hX 1 _ rfl
 have q2 := obj_at hX 2 _ rfl
 have q3 := obj_at hX 3 _ rfl
 have ql := obj_lt hX
 have hWs := hW.size
 have hY0 := hY.ext hW
 have hD0 : Rng wa D rs := Rd.ext hD hW
 have tok0 : True := trivial
 go_wp2_with (first
 | (clear tok0; go_at_call 69; refine (HS0.out _ hA hY0 hD0).mono ?_; rintro e u1 ⟨rfl, hb1⟩; replace hb1 := ex_below hb1; have hz1 := hb1.size; have hB1 := below_step hW hb1 (by omega); have hzB1 := hB1.size; have hA_1 := hA.ext hb1; have hY0_1 := hY0.ext hb1; have hD0_1 := Rng.ext hD0 hb1; have hX_1 := hX.ext hb1; clear q0 q1 q2 q3 ql; have q0 := obj_at hX_1 0 _ rfl; have q1 := obj_at hX_1 1 _ rfl; have q2 := obj_at hX_1 2 _ rfl; have q3 := obj_at hX_1 3 _ rfl; have ql := obj_lt hX_1; have tok1 : True := trivial)
 | (clear tok1; go_at_call 70; refine (HNU.out _ hA_1 hY0_1).mono ?_; rintro e u2 ⟨A1, c1, rfl, hb2, hI1⟩; have hz2 := hb2.size; have hB2 := below_step hB1 hb2 (by omega); have hzB2 := hB2.size; have hA_2 := hA_1.ext hb2; have hY0_2 := hY0_1.ext hb2; have hD0_2 := Rng.ext hD0_1 hb2; have hX_2 := hX_1.ext hb2; clear q0 q1 q2 q3 ql; have q0 := obj_at hX_2 0 _ rfl; have q1 := obj_at hX_2 1 _ rfl; have q2 := obj_at hX_2 2 _ rfl; have q3 := obj_at hX_2 3 _ rfl; have ql := obj_lt hX_2; have tok2 : True := trivial))
 go_loopw [10, 11] (fun nv iv wr => ∃ i : Nat, i ≤ fl.length ∧ iv = .int .i64 (i : Nat) ∧ nv = .int .i64 ((fl.take i).countP (fun i => soldI rs ((i : Nat) : Int)) : Nat) ∧ Below u2.heap.size u2 wr) (fun _ iv _ => fl.length - (intOf iv).toNat)
 case atStart => exact ⟨0, Nat.zero_le _, rfl, rfl, Below.refl _ _⟩
 case round =>
  obtain ⟨i, hi, rfl, rfl, hb⟩ := hrel
  have hzr := hb.size
  have hcl : (fl.take i).countP (fun i => soldI rs ((i : Nat) : Int)) ≤ 1679616 := Nat.le_trans List.countP_le_length (by rw [List.length_take]; omega)
  by_cases hlt : i < fl.length
  · have hki : (i : Int) < (fl.length : Int) := by omega
    have hIr := hI1.ext hb
    obtain ⟨lb, lo, rfl, hlb⟩ := hIr.form (by rw [zs_len]; omega)
    have hcx := hIr.at (k := i) (by rw [zs_len]; exact hlt)
    rw [zs_at fl i hlt] at hcx
    have HTK := hide (show (fl.take (i + 1)).countP (fun i => soldI rs ((i : Nat) : Int)) = (fl.take i).countP (fun i => soldI rs ((i : Nat) : Int)) + (if soldI rs ((fl[i] : Nat) : Int) = true then 1 else 0) by
     rw [take_snoc _ _ hlt, List.countP_append]
     simp [List.countP_cons])
    obtain ⟨x, hx⟩ : ∃ v, fl[i] = v := ⟨_, rfl⟩
    rw [hx] at hcx HTK
    obtain ⟨cn, hcne⟩ : ∃ v, (fl.take i).countP (fun i => soldI rs ((i : Nat) : Int)) = v := ⟨_, rfl⟩
    rw [hcne] at hcl HTK ⊢
    have hDr := Rng.ext hD0_2 hb
    clear hx hcne
    cases hbs : soldI rs (x : Int) with
    | true =>
      have HT2 : Hid ((fl.take (i + 1)).countP (fun i => soldI rs ((i : Nat) : Int)) = cn + 1) := hide (by rw [HTK.out, if_pos hbs])
      have HBS := hide hbs
      clear HTK hbs
      go_wp2_with (go_at_call 71; refine (rWasSold_any D rs dc (x : Nat) _ hDr hl).mono ?_; rintro e w4 ⟨rfl, hb4⟩; replace hb4 := ex_below hb4; have hz4 := hb4.size; rw [HBS.out])
      exact ⟨⟨i + 1, by omega, by go_num, by rw [HT2.out]; go_num, below_step hb hb4 hzr⟩, by simp [intOf]; omega⟩
    | false =>
      have HT2 : Hid ((fl.take (i + 1)).countP (fun i => soldI rs ((i : Nat) : Int)) = cn) := hide (by rw [HTK.out, hbs]; simp)
      have HBS := hide hbs
      clear HTK hbs
      go_wp2_with (go_at_call 71; refine (rWasSold_any D rs dc (x : Nat) _ hDr hl).mono ?_; rintro e w4 ⟨rfl, hb4⟩; replace hb4 := ex_below hb4; have hz4 := hb4.size; rw [HBS.out])
      exact ⟨⟨i + 1, by omega, by go_num, by rw [HT2.out], below_step hb hb4 hzr⟩, by simp [intOf]; omega⟩
  · have hki : ¬ ((i : Int) < (fl.length : Int)) := by omega
    obtain rfl : i = fl.length := by omega
    have hta : fl.take fl.length = fl := List.take_length
    rw [hta] at hcl ⊢
    clear hta
    go_wp2
    go_ret3
    exact gives_of rfl (below_step hB2 hb (by omega))

/-- the code of an index, or the error -/
def findR (l : List Nat) (x : Int) : Value := if x < 0 ∨ (l.length : Int) ≤ x then .tuple #[.int .i64 0, .int .i64 3] else .tuple #[.int .i64 (l.getD x.toNat 0 : Nat), .int .i64 0]
set_option maxRecDepth 100000 in
set_option maxHeartbeats 4000000 in
theorem rFind_bad (L n : Int) (A : Option Addr) (K : List Int) (c : Nat) (r : Int) (Y : Option Addr) (yl yc : Nat) (x : Int) (w : World) (hA : I64 w A K) (hx : K.length ≤ 1000) (he : chkDay L n K r ≠ 0) : Calls Try.prog 31 #[.agg #[.int .i64 L, .int .i64 n, .slice A K.length c, .int .i64 r], .slice Y yl yc, .int .i64 x] w (Gives w (.tuple #[.int .i64 0, .int .i64 (chkDay L n K r)])) := by
 obtain ⟨e0, he0⟩ : ∃ v, chkDay L n K r = v := ⟨_, rfl⟩
 rw [he0] at he ⊢
 have hen : (e0 != 0) = true := by simpa using he
 have HEE := hide he0
 clear he0
 go_enter Try.func31, Try.ntmps31
 go_upto_region 1 with fail
 obtain ⟨wa, hwa, hW, hX⟩ := boxed w #[.int .i64 L, .int .i64 n, .slice A K.length c, .int .i64 r] 24
 rw [hwa]
 clear hwa
 replace hA := hA.ext hW
 have q0 := obj_at hX 0 _ rfl
 have q1 := obj_at hX 1 _ rfl
 have q2 := obj_at hX 2 _ rfl
 have q3 := obj_at hX 3 _ rfl
 have ql := obj_lt hX
 have hWs := hW.size
 have tok0 : True := trivial
 go_wp2_with (first
 | (clear tok0; go_at_call 72; refine (rTorn_bad L n A K c r Y yl yc _ hA hx (by rw [HEE.out]; exact he)).mono ?_; rintro e u1 ⟨rfl, hb1⟩; replace hb1 := ex_below hb1; have hz1 := hb1.size; have hB1 := below_step hW hb1 (by omega); have hzB1 := hB1.size; have hA_1 := hA.ext hb1; have hX_1 := hX.ext hb1; clear q0 q1 q2 q3 ql; have q0 := obj_at hX_1 0 _ rfl; have q1 := obj_at hX_1 1 _ rfl; have q2 := obj_at hX_1 2 _ rfl; have q3 := obj_at hX_1 3 _ rfl; have ql := obj_lt hX_1; rw [HEE.out]; have tok1 : True := trivial)
 | (clear tok1; go_at_call 72; refine (rTorn_bad L n A K c r Y yl yc _ hA_1 hx (by rw [HEE.out]; exact he)).mono ?_; rintro e u2 ⟨rfl, hb2⟩; replace hb2 := ex_below hb2; have hz2 := hb2.size; have hB2 := below_step hB1 hb2 (by omega); have hzB2 := hB2.size; have hA_2 := hA_1.ext hb2; have hX_2 := hX_1.ext hb2; clear q0 q1 q2 q3 ql; have q0 := obj_at hX_2 0 _ rfl; have q1 := obj_at hX_2 1 _ rfl; have q2 := obj_at hX_2 2 _ rfl; have q3 := obj_at hX_2 3 _ rfl; have ql := obj_lt hX_2; rw [HEE.out]; have tok2 : True := trivial))
 go_ret2
 exact gives_of rfl hB2
set_option maxRecDepth 100000 in
set_option maxHeartbeats 4000000 in
theorem rFind_err (L rest : Nat) (A : Option Addr) (K : List Nat) (c : Nat)(Y : Option Addr) (torn : List Int) (yc : Nat) (x : Int) (w : World) (hd : OkD L rest K) (hA : I64 w A (zs K)) (hY : I64 w Y torn) (he : chk1 L K.length torn ≠ 0) : Calls Try.prog 31 #[.agg #[.int .i64 (L : Nat), .int .i64 (K.length : Nat), .slice A K.length c, .int .i64 (rest : Nat)], .slice Y torn.length yc, .int .i64 x] w (Gives w (.tuple #[.int .i64 0, .int .i64 (chk1 L K.length torn)])) := by
 obtain ⟨e0, he0⟩ : ∃ v, chk1 L K.length torn = v := ⟨_, rfl⟩
 rw [he0] at he ⊢
 have hen : (e0 != 0) = true := by simpa using he
 have HEE := hide he0
 clear he0
 go_enter Try.func31, Try.ntmps31
 go_upto_region 1 with fail
 obtain ⟨wa, hwa, hW, hX⟩ := boxed w #[.int .i64 (L : Nat), .int .i64 (K.length : Nat), .slice A K.length c, .int .i64 (rest : Nat)] 24
 rw [hwa]
 clear hwa
 replace hA := hA.ext hW
 have q0 := obj_at hX 0 _ rfl
 have q1 := obj_at hX 1 _ rfl
 have q2 := obj_at hX 2 _ rfl
 have q3 := obj_at hX 3 _ rfl
 have ql := obj_lt hX
 have hWs := hW.size
 have hY0 := hY.ext hW
 have tok0 : True := trivial
 go_wp2_with (first
 | (clear tok0; go_at_call 72; refine (rTorn_ok L rest A K c Y torn yc _ hd hA hY0).mono ?_; rintro e u1 ⟨rfl, hb1⟩; replace hb1 := ex_below hb1; have hz1 := hb1.size; have hB1 := below_step hW hb1 (by omega); have hzB1 := hB1.size; have hA_1 := hA.ext hb1; have hY0_1 := hY0.ext hb1; have hX_1 := hX.ext hb1; clear q0 q1 q2 q3 ql; have q0 := obj_at hX_1 0 _ rfl; have q1 := obj_at hX_1 1 _ rfl; have q2 := obj_at hX_1 2 _ rfl; have q3 := obj_at hX_1 3 _ rfl; have ql := obj_lt hX_1; rw [HEE.out]; have tok1 : True := trivial)
 | (clear tok1; go_at_call 72; refine (rTorn_ok L rest A K c Y torn yc _ hd hA_1 hY0_1).mono ?_; rintro e u2 ⟨rfl, hb2⟩; replace hb2 := ex_below hb2; have hz2 := hb2.size; have hB2 := below_step hB1 hb2 (by omega); have hzB2 := hB2.size; have hA_2 := hA_1.ext hb2; have hY0_2 := hY0_1.ext hb2; have hX_2 := hX_1.ext hb2; clear q0 q1 q2 q3 ql; have q0 := obj_at hX_2 0 _ rfl; have q1 := obj_at hX_2 1 _ rfl; have q2 := obj_at hX_2 2 _ rfl; have q3 := obj_at hX_2 3 _ rfl; have ql := obj_lt hX_2; rw [HEE.out]; have tok2 : True := trivial))
 go_ret2
 exact gives_of rfl hB2
set_option maxRecDepth 100000 in
set_option maxHeartbeats 4000000 in
theorem rFind_right (L rest : Nat) (A : Option Addr) (K : List Nat) (c : Nat)(Y : Option Addr) (T : List Nat) (yc : Nat) (x : Int) (w : World) (hd : OkD L rest K) (hA : I64 w A (zs K))(hlT : T.length = K.length) (htT : ∀ t, t ∈ T → 1 ≤ t ∧ t < 2 ^ L) (hY : I64 w Y (zs T)) : Calls Try.prog 31 #[.agg #[.int .i64 (L : Nat), .int .i64 (K.length : Nat), .slice A K.length c, .int .i64 (rest : Nat)], .slice Y T.length yc, .int .i64 x] w (Gives w (findR (fitL L rest K T) x)) := by
 have hn8 := hd.2.2.2.1
 have hL6 := hd.2.1
 have hT64 : ∀ t, t ∈ T → t < 64 := fun t ht => by have := htT t ht; have := two_pow L hd.2.1; omega
 have hck := chk1_zero hlT htT
 have HS0 := hide (fun w' (h1 : I64 w' A (zs K)) (h2 : I64 w' Y (zs T)) => (show Calls Try.prog 72 #[.agg #[.int .i64 (L : Nat), .int .i64 (K.length : Nat), .slice A K.length c, .int .i64 (rest : Nat)], .slice Y T.length yc] w' (Gives w' (.int .i64 0)) by
  have h := rTorn_ok L rest A K c Y (zs T) yc w' hd h1 h2
  rw [hck, zs_len] at h
  exact h))
 have HNU := hide (fun w' (h1 : I64 w' A (zs K)) (h2 : I64 w' Y (zs T)) => rNumbers_any L rest A K c Y T yc w' hd h1 h2 hlT hT64)
 obtain ⟨V, hV⟩ : ∃ v, findR (fitL L rest K T) x = v := ⟨_, rfl⟩
 have HV := hide hV
 rw [hV]
 generalize fitL L rest K T = fl at *
 clear hck hT64 htT hlT hV
 by_cases c1 : x < 0
 · have hVe : Hid (V = .tuple #[.int .i64 0, .int .i64 3]) := hide (by rw [← HV.out]; unfold findR; rw [if_pos (.inl c1)])
   clear HV
   go_enter Try.func31, Try.ntmps31
   go_upto_region 1 with fail
   obtain ⟨wa, hwa, hW, hX⟩ := boxed w #[.int .i64 (L : Nat), .int .i64 (K.length : Nat), .slice A K.length c, .int .i64 (rest : Nat)] 24
   rw [hwa]
   clear hwa
   replace hA := hA.ext hW
   have q0 := obj_at hX 0 _ rfl
   have q1 := obj_at hX 1 _ rfl
   have q2 := obj_at hX 2 _ rfl
   have q3 := obj_at hX 3 _ rfl
   have ql := obj_lt hX
   have hWs := hW.size
   have hY0 := hY.ext hW
   have tok0 : True := trivial
   go_wp2_with (first
 | (clear tok0; go_at_call 72; refine (HS0.out _ hA hY0).mono ?_; rintro e u1 ⟨rfl, hb1⟩; replace hb1 := ex_below hb1; have hz1 := hb1.size; have hB1 := below_step hW hb1 (by omega); have hzB1 := hB1.size; have hA_1 := hA.ext hb1; have hY0_1 := hY0.ext hb1; have hX_1 := hX.ext hb1; clear q0 q1 q2 q3 ql; have q0 := obj_at hX_1 0 _ rfl; have q1 := obj_at hX_1 1 _ rfl; have q2 := obj_at hX_1 2 _ rfl; have q3 := obj_at hX_1 3 _ rfl; have ql := obj_lt hX_1; have tok1 : True := trivial)
 | (clear tok1; go_at_call 70; refine (HNU.out _ hA_1 hY0_1).mono ?_; rintro e u2 ⟨A1, c1, rfl, hb2, hI1⟩; have hz2 := hb2.size; have hB2 := below_step hB1 hb2 (by omega); have hzB2 := hB2.size; have hA_2 := hA_1.ext hb2; have hY0_2 := hY0_1.ext hb2; have hX_2 := hX_1.ext hb2; clear q0 q1 q2 q3 ql; have q0 := obj_at hX_2 0 _ rfl; have q1 := obj_at hX_2 1 _ rfl; have q2 := obj_at hX_2 2 _ rfl; have q3 := obj_at hX_2 3 _ rfl; have ql := obj_lt hX_2; have tok2 : True := trivial))
   go_ret2
   exact gives_of (by rw [hVe.out]; rfl) hB2
 · by_cases c2 : (fl.length : Int) ≤ x
   · have hVe : Hid (V = .tuple #[.int .i64 0, .int .i64 3]) := hide (by rw [← HV.out]; unfold findR; rw [if_pos (.inr c2)])
     clear HV
     go_enter Try.func31, Try.ntmps31
     go_upto_region 1 with fail
     obtain ⟨wa, hwa, hW, hX⟩ := boxed w #[.int .i64 (L : Nat), .int .i64 (K.length : Nat), .slice A K.length c, .int .i64 (rest : Nat)] 24
     rw [hwa]
     clear hwa
     replace hA := hA.ext hW
     have q0 := obj_at hX 0 _ rfl
     have q1 := obj_at hX 1 _ rfl
     have q2 := obj_at hX 2 _ rfl
     have q3 := obj_at hX 3 _ rfl
     have ql := obj_lt hX
     have hWs := hW.size
     have hY0 := hY.ext hW
     have tok0 : True := trivial
     go_wp2_with (first
 | (clear tok0; go_at_call 72; refine (HS0.out _ hA hY0).mono ?_; rintro e u1 ⟨rfl, hb1⟩; replace hb1 := ex_below hb1; have hz1 := hb1.size; have hB1 := below_step hW hb1 (by omega); have hzB1 := hB1.size; have hA_1 := hA.ext hb1; have hY0_1 := hY0.ext hb1; have hX_1 := hX.ext hb1; clear q0 q1 q2 q3 ql; have q0 := obj_at hX_1 0 _ rfl; have q1 := obj_at hX_1 1 _ rfl; have q2 := obj_at hX_1 2 _ rfl; have q3 := obj_at hX_1 3 _ rfl; have ql := obj_lt hX_1; have tok1 : True := trivial)
 | (clear tok1; go_at_call 70; refine (HNU.out _ hA_1 hY0_1).mono ?_; rintro e u2 ⟨A1, c1, rfl, hb2, hI1⟩; have hz2 := hb2.size; have hB2 := below_step hB1 hb2 (by omega); have hzB2 := hB2.size; have hA_2 := hA_1.ext hb2; have hY0_2 := hY0_1.ext hb2; have hX_2 := hX_1.ext hb2; clear q0 q1 q2 q3 ql; have q0 := obj_at hX_2 0 _ rfl; have q1 := obj_at hX_2 1 _ rfl; have q2 := obj_at hX_2 2 _ rfl; have q3 := obj_at hX_2 3 _ rfl; have ql := obj_lt hX_2; have tok2 : True := trivial))
     go_ret2
     exact gives_of (by rw [hVe.out]; rfl) hB2
   · obtain ⟨i, rfl⟩ : ∃ i : Nat, x = (i : Nat) := ⟨x.toNat, by omega⟩
     have hil : i < fl.length := by omega
     have hiI : (i : Int) < (fl.length : Int) := by omega
     have hVe : Hid (V = .tuple #[.int .i64 (fl[i] : Nat), .int .i64 0]) := hide (by
      rw [← HV.out]; unfold findR; rw [if_neg (by omega), Int.toNat_natCast, List.getD_eq_getElem?_getD, List.getElem?_eq_getElem hil]; rfl)
     clear HV
     go_enter Try.func31, Try.ntmps31
     go_upto_region 1 with fail
     obtain ⟨wa, hwa, hW, hX⟩ := boxed w #[.int .i64 (L : Nat), .int .i64 (K.length : Nat), .slice A K.length c, .int .i64 (rest : Nat)] 24
     rw [hwa]
     clear hwa
     replace hA := hA.ext hW
     have q0 := obj_at hX 0 _ rfl
     have q1 := obj_at hX 1 _ rfl
     have q2 := obj_at hX 2 _ rfl
     have q3 := obj_at hX 3 _ rfl
     have ql := obj_lt hX
     have hWs := hW.size
     have hY0 := hY.ext hW
     have tok0 : True := trivial
     go_upto_region 6 with (first
 | (clear tok0; go_at_call 72; refine (HS0.out _ hA hY0).mono ?_; rintro e u1 ⟨rfl, hb1⟩; replace hb1 := ex_below hb1; have hz1 := hb1.size; have hB1 := below_step hW hb1 (by omega); have hzB1 := hB1.size; have hA_1 := hA.ext hb1; have hY0_1 := hY0.ext hb1; have hX_1 := hX.ext hb1; clear q0 q1 q2 q3 ql; have q0 := obj_at hX_1 0 _ rfl; have q1 := obj_at hX_1 1 _ rfl; have q2 := obj_at hX_1 2 _ rfl; have q3 := obj_at hX_1 3 _ rfl; have ql := obj_lt hX_1; have tok1 : True := trivial)
 | (clear tok1; go_at_call 70; refine (HNU.out _ hA_1 hY0_1).mono ?_; rintro e u2 ⟨A1, c1, rfl, hb2, hI1⟩; have hz2 := hb2.size; have hB2 := below_step hB1 hb2 (by omega); have hzB2 := hB2.size; have hA_2 := hA_1.ext hb2; have hY0_2 := hY0_1.ext hb2; have hX_2 := hX_1.ext hb2; clear q0 q1 q2 q3 ql; have q0 := obj_at hX_2 0 _ rfl; have q1 := obj_at hX_2 1 _ rfl; have q2 := obj_at hX_2 2 _ rfl; have q3 := obj_at hX_2 3 _ rfl; have ql := obj_lt hX_2; have tok2 : True := trivial))
     obtain ⟨lb, lo, rfl, hlb⟩ := hI1.form (by rw [zs_len]; omega)
     have hcx := hI1.at (k := i) (by rw [zs_len]; exact hil)
     rw [zs_at fl i hil] at hcx
     go_wp2
     go_ret2
     exact gives_of (by rw [hVe.out]; rfl) hB2

end Go.Proofs.Ytgjfejpibielaaa
