/- Proved here: the reference: kinds, how many codes, the code of a number; the reference: the number of a word, a part of the proofs about the ticket laws. Conditions: those that each theorem names, no others. -/
import Derived.Test.YtgjfejpibielaaaP33
import Derived.WalkKit
import Derived.WalkSpells
import Derived.WalkLawsBesides
import Derived.Below
import Derived.Deep.QuietTactic
import Derived.BigQuiet
import Derived.Deep.Light
set_option linter.unusedSimpArgs false
set_option linter.unusedVariables false
namespace Go.Proofs.Ytgjfejpibielaaa
open Go.RowKit Go.Maps Go.Shelf
attribute [local go_sem] Oper.semAt_some World.cell?_setCell_far
set_option maxRecDepth 100000 in
set_option maxHeartbeats 4000000 in
theorem rKind_of (x0 x1 x2 x3 y z : Value) (a b e : Int) (w : World) (H : ∀ w', Below w.heap.size w w' → Calls Try.prog 27 #[.agg #[x0, x1, x2, x3], y, z] w' (Gives w' (.tuple #[.int .i64 a, .int .i64 b, .int .i64 e]))) : Calls Try.prog 29 #[.agg #[x0, x1, x2, x3], y, z] w (Gives w (kindV a b e)) := by
 unfold kindV
 by_cases he : e = 0
 · rw [if_neg (by simpa using he)]
   have hen : (e != 0) = false := by simp [he]
   subst he
   by_cases hb : b = 0
   · rw [if_pos hb]
     have hbn : (b == 0) = true := by simp [hb]
     go_enter Try.func29, Try.ntmps29
     go_upto_region 1 with fail
     obtain ⟨wa, hwa, hW, hX⟩ := boxed w #[x0, x1, x2, x3] 24
     rw [hwa]
     clear hwa
     have q0 := obj_at hX 0 _ rfl
     have q1 := obj_at hX 1 _ rfl
     have q2 := obj_at hX 2 _ rfl
     have q3 := obj_at hX 3 _ rfl
     have ql := obj_lt hX
     have hWs := hW.size
     go_wp2_with (go_at_call 27; refine (H _ hW).mono ?_; rintro e1 u1 ⟨rfl, hb1⟩; replace hb1 := ex_below hb1; have hB1 : Below w.heap.size w u1 := below_step hW hb1 hWs)
     go_ret2
     exact gives_of rfl hB1
   · rw [if_neg hb]
     have hbn : (b == 0) = false := by simp [hb]
     by_cases hl : b < a
     · rw [if_pos hl]
       go_enter Try.func29, Try.ntmps29
       go_upto_region 1 with fail
       obtain ⟨wa, hwa, hW, hX⟩ := boxed w #[x0, x1, x2, x3] 24
       rw [hwa]
       clear hwa
       have q0 := obj_at hX 0 _ rfl
       have q1 := obj_at hX 1 _ rfl
       have q2 := obj_at hX 2 _ rfl
       have q3 := obj_at hX 3 _ rfl
       have ql := obj_lt hX
       have hWs := hW.size
       go_wp2_with (go_at_call 27; refine (H _ hW).mono ?_; rintro e1 u1 ⟨rfl, hb1⟩; replace hb1 := ex_below hb1; have hB1 : Below w.heap.size w u1 := below_step hW hb1 hWs)
       go_ret2
       exact gives_of rfl hB1
     · rw [if_neg hl]
       go_enter Try.func29, Try.ntmps29
       go_upto_region 1 with fail
       obtain ⟨wa, hwa, hW, hX⟩ := boxed w #[x0, x1, x2, x3] 24
       rw [hwa]
       clear hwa
       have q0 := obj_at hX 0 _ rfl
       have q1 := obj_at hX 1 _ rfl
       have q2 := obj_at hX 2 _ rfl
       have q3 := obj_at hX 3 _ rfl
       have ql := obj_lt hX
       have hWs := hW.size
       go_wp2_with (go_at_call 27; refine (H _ hW).mono ?_; rintro e1 u1 ⟨rfl, hb1⟩; replace hb1 := ex_below hb1; have hB1 : Below w.heap.size w u1 := below_step hW hb1 hWs)
       go_ret2
       exact gives_of rfl hB1
 · rw [if_pos he]
   have hen : (e != 0) = true := by simp [he]
   go_enter Try.func29, Try.ntmps29
   go_upto_region 1 with fail
   obtain ⟨wa, hwa, hW, hX⟩ := boxed w #[x0, x1, x2, x3] 24
   rw [hwa]
   clear hwa
   have q0 := obj_at hX 0 _ rfl
   have q1 := obj_at hX 1 _ rfl
   have q2 := obj_at hX 2 _ rfl
   have q3 := obj_at hX 3 _ rfl
   have ql := obj_lt hX
   have hWs := hW.size
   go_wp2_with (go_at_call 27; refine (H _ hW).mono ?_; rintro e1 u1 ⟨rfl, hb1⟩; replace hb1 := ex_below hb1; have hB1 : Below w.heap.size w u1 := below_step hW hb1 hWs)
   go_ret2
   exact gives_of rfl hB1
set_option maxRecDepth 100000 in
set_option maxHeartbeats 4000000 in
theorem rCount_bad (L n : Int) (A : Option Addr) (K : List Int) (c : Nat) (r : Int) (w : World) (hA : I64 w A K) (hx : K.length ≤ 1000) (he : chkDay L n K r ≠ 0) : Calls Try.prog 19 #[.agg #[.int .i64 L, .int .i64 n, .slice A K.length c, .int .i64 r]] w (Gives w (.tuple #[.int .i64 0, .int .i64 (chkDay L n K r)])) := by
 obtain ⟨e0, he0⟩ : ∃ v, chkDay L n K r = v := ⟨_, rfl⟩
 rw [he0] at he ⊢
 have hen : (e0 != 0) = true := by simpa using he
 have HEE := hide he0
 clear he0
 go_enter Try.func19, Try.ntmps19
 go_upto_region 1 with fail
 obtain ⟨wa, hwa, hW, hX⟩ := boxed w #[.int .i64 L, .int .i64 n, .slice A K.length c, .int .i64 r] 24
 rw [hwa]
 clear hwa
 replace hA := hA.ext hW
 have q0 := obj_at hX 0 _ rfl
 have q1 := obj_at hX 1 _ rfl
 have q2 := obj_at hX 2 _ rfl
 have q3 := obj_at hX 3 _ rfl
 have ql := obj_lt hX
 have hWs := hW.size
 have tok0 : True := trivial
 go_wp2_with (first
 | (clear tok0; go_at_call 25; refine (rCheckDay_any L n A K c r _ hA hx).mono ?_; rintro e u1 ⟨rfl, hb1⟩; replace hb1 := ex_below hb1; have hz1 := hb1.size; have hB1 := below_step hW hb1 (by omega); have hzB1 := hB1.size; have hA_1 := hA.ext hb1; have hX_1 := hX.ext hb1; clear q0 q1 q2 q3 ql; have q0 := obj_at hX_1 0 _ rfl; have q1 := obj_at hX_1 1 _ rfl; have q2 := obj_at hX_1 2 _ rfl; have q3 := obj_at hX_1 3 _ rfl; have ql := obj_lt hX_1; rw [HEE.out]; have tok1 : True := trivial)
 | (clear tok1; go_at_call 25; refine (rCheckDay_any L n A K c r _ hA_1 hx).mono ?_; rintro e u2 ⟨rfl, hb2⟩; replace hb2 := ex_below hb2; have hz2 := hb2.size; have hB2 := below_step hB1 hb2 (by omega); have hzB2 := hB2.size; have hA_2 := hA_1.ext hb2; have hX_2 := hX_1.ext hb2; clear q0 q1 q2 q3 ql; have q0 := obj_at hX_2 0 _ rfl; have q1 := obj_at hX_2 1 _ rfl; have q2 := obj_at hX_2 2 _ rfl; have q3 := obj_at hX_2 3 _ rfl; have ql := obj_lt hX_2; rw [HEE.out]; have tok2 : True := trivial))
 go_ret2
 exact gives_of rfl hB2
set_option maxRecDepth 100000 in
set_option maxHeartbeats 4000000 in
theorem rCount_ok (L rest : Nat) (A : Option Addr) (K : List Nat) (c : Nat)(w : World) (hd : OkD L rest K) (hA : I64 w A (zs K)) : Calls Try.prog 19 #[.agg #[.int .i64 (L : Nat), .int .i64 (K.length : Nat), .slice A K.length c, .int .i64 (rest : Nat)]] w (Gives w (.tuple #[.int .i64 ((Tt.codes L rest K).length : Nat), .int .i64 0])) := by
 have HD0 := hide (fun w' (h : I64 w' A (zs K)) => (show Calls Try.prog 25 #[.agg #[.int .i64 (L : Nat), .int .i64 (K.length : Nat), .slice A K.length c, .int .i64 (rest : Nat)]] w' (Gives w' (.int .i64 0)) by
  have h2 := rCheckDay_any (L : Nat) (K.length : Nat) A (zs K) c (rest : Nat) w' h (by rw [zs_len]; have := hd.2.2.2.1; omega)
  rw [zs_len, chk_zero hd] at h2
  exact h2))
 have HRC := hide (fun w' (h : I64 w' A (zs K)) => rCodes_any L rest A K c w' hd h)
 clear hd
 go_enter Try.func19, Try.ntmps19
 go_upto_region 1 with fail
 obtain ⟨wa, hwa, hW, hX⟩ := boxed w #[.int .i64 (L : Nat), .int .i64 (K.length : Nat), .slice A K.length c, .int .i64 (rest : Nat)] 24
 rw [hwa]
 clear hwa
 replace hA := hA.ext hW
 have q0 := obj_at hX 0 _ rfl
 have q1 := obj_at hX 1 _ rfl
 have q2 := obj_at hX 2 _ rfl
 have q3 := obj_at hX 3 _ rfl
 have ql := obj_lt hX
 have hWs := hW.size
 have tok0 : True := trivial
 go_wp2_with (first
 | (clear tok0; go_at_call 25; refine (HD0.out _ hA).mono ?_; rintro e u1 ⟨rfl, hb1⟩; replace hb1 := ex_below hb1; have hz1 := hb1.size; have hB1 := below_step hW hb1 (by omega); have hzB1 := hB1.size; have hA_1 := hA.ext hb1; have hX_1 := hX.ext hb1; clear q0 q1 q2 q3 ql; have q0 := obj_at hX_1 0 _ rfl; have q1 := obj_at hX_1 1 _ rfl; have q2 := obj_at hX_1 2 _ rfl; have q3 := obj_at hX_1 3 _ rfl; have ql := obj_lt hX_1; have tok1 : True := trivial)
 | (clear tok1; go_at_call 59; refine (HRC.out _ hA_1).mono ?_; rintro e u2 ⟨A1, c1, rfl, hb2, hO1⟩; have hz2 := hb2.size; have hB2 := below_step hB1 hb2 (by omega); have hzB2 := hB2.size; have hA_2 := hA_1.ext hb2; have hX_2 := hX_1.ext hb2; clear q0 q1 q2 q3 ql; have q0 := obj_at hX_2 0 _ rfl; have q1 := obj_at hX_2 1 _ rfl; have q2 := obj_at hX_2 2 _ rfl; have q3 := obj_at hX_2 3 _ rfl; have ql := obj_lt hX_2; have tok2 : True := trivial))
 go_ret2
 exact gives_of (by rw [← List.length_map (f := strW)]; rfl) hB2

/-- the code of a number, or the error -/
def codeR (l : List (List Nat)) (x : Int) : Value := if x < 0 ∨ (l.length : Int) ≤ x then .tuple #[.string ⟨#[]⟩, .int .i64 3] else .tuple #[.string (strW (l.getD x.toNat [])), .int .i64 0]
set_option maxRecDepth 100000 in
set_option maxHeartbeats 4000000 in
theorem rCode_bad (L n : Int) (A : Option Addr) (K : List Int) (c : Nat) (r : Int) (x : Int) (w : World) (hA : I64 w A K) (hx : K.length ≤ 1000) (he : chkDay L n K r ≠ 0) : Calls Try.prog 21 #[.agg #[.int .i64 L, .int .i64 n, .slice A K.length c, .int .i64 r], .int .i64 x] w (Gives w (.tuple #[.string ⟨#[]⟩, .int .i64 (chkDay L n K r)])) := by
 obtain ⟨e0, he0⟩ : ∃ v, chkDay L n K r = v := ⟨_, rfl⟩
 rw [he0] at he ⊢
 have hen : (e0 != 0) = true := by simpa using he
 have HEE := hide he0
 clear he0
 go_enter Try.func21, Try.ntmps21
 go_upto_region 1 with fail
 obtain ⟨wa, hwa, hW, hX⟩ := boxed w #[.int .i64 L, .int .i64 n, .slice A K.length c, .int .i64 r] 24
 rw [hwa]
 clear hwa
 replace hA := hA.ext hW
 have q0 := obj_at hX 0 _ rfl
 have q1 := obj_at hX 1 _ rfl
 have q2 := obj_at hX 2 _ rfl
 have q3 := obj_at hX 3 _ rfl
 have ql := obj_lt hX
 have hWs := hW.size
 have tok0 : True := trivial
 go_wp2_with (first
 | (clear tok0; go_at_call 25; refine (rCheckDay_any L n A K c r _ hA hx).mono ?_; rintro e u1 ⟨rfl, hb1⟩; replace hb1 := ex_below hb1; have hz1 := hb1.size; have hB1 := below_step hW hb1 (by omega); have hzB1 := hB1.size; have hA_1 := hA.ext hb1; have hX_1 := hX.ext hb1; clear q0 q1 q2 q3 ql; have q0 := obj_at hX_1 0 _ rfl; have q1 := obj_at hX_1 1 _ rfl; have q2 := obj_at hX_1 2 _ rfl; have q3 := obj_at hX_1 3 _ rfl; have ql := obj_lt hX_1; rw [HEE.out]; have tok1 : True := trivial)
 | (clear tok1; go_at_call 25; refine (rCheckDay_any L n A K c r _ hA_1 hx).mono ?_; rintro e u2 ⟨rfl, hb2⟩; replace hb2 := ex_below hb2; have hz2 := hb2.size; have hB2 := below_step hB1 hb2 (by omega); have hzB2 := hB2.size; have hA_2 := hA_1.ext hb2; have hX_2 := hX_1.ext hb2; clear q0 q1 q2 q3 ql; have q0 := obj_at hX_2 0 _ rfl; have q1 := obj_at hX_2 1 _ rfl; have q2 := obj_at hX_2 2 _ rfl; have q3 := obj_at hX_2 3 _ rfl; have ql := obj_lt hX_2; rw [HEE.out]; have tok2 : True := trivial))
 go_ret2
 exact gives_of rfl hB2
set_option maxRecDepth 100000 in
set_option maxHeartbeats 4000000 in
theorem rCode_ok (L rest : Nat) (A : Option Addr) (K : List Nat) (c : Nat)(x : Int) (w : World) (hd : OkD L rest K) (hA : I64 w A (zs K)) : Calls Try.prog 21 #[.agg #[.int .i64 (L : Nat), .int .i64 (K.length : Nat), .slice A K.length c, .int .i64 (rest : Nat)], .int .i64 x] w (Gives w (codeR (Tt.codes L rest K) x)) := by
 have HD0 := hide (fun w' (h : I64 w' A (zs K)) => (show Calls Try.prog 25 #[.agg #[.int .i64 (L : Nat), .int .i64 (K.length : Nat), .slice A K.length c, .int .i64 (rest : Nat)]] w' (Gives w' (.int .i64 0)) by
  have h2 := rCheckDay_any (L : Nat) (K.length : Nat) A (zs K) c (rest : Nat) w' h (by rw [zs_len]; have := hd.2.2.2.1; omega)
  rw [zs_len, chk_zero hd] at h2
  exact h2))
 have HRC := hide (fun w' (h : I64 w' A (zs K)) => rCodes_any L rest A K c w' hd h)
 obtain ⟨V, hV⟩ : ∃ v, codeR (Tt.codes L rest K) x = v := ⟨_, rfl⟩
 have HV := hide hV
 rw [hV]
 clear hV hd
 by_cases c1 : x < 0
 · have hVe : Hid (V = .tuple #[.string ⟨#[]⟩, .int .i64 3]) := hide (by rw [← HV.out]; unfold codeR; rw [if_pos (.inl c1)])
   clear HV
   go_enter Try.func21, Try.ntmps21
   go_upto_region 1 with fail
   obtain ⟨wa, hwa, hW, hX⟩ := boxed w #[.int .i64 (L : Nat), .int .i64 (K.length : Nat), .slice A K.length c, .int .i64 (rest : Nat)] 24
   rw [hwa]
   clear hwa
   replace hA := hA.ext hW
   have q0 := obj_at hX 0 _ rfl
   have q1 := obj_at hX 1 _ rfl
   have q2 := obj_at hX 2 _ rfl
   have q3 := obj_at hX 3 _ rfl
   have ql := obj_lt hX
   have hWs := hW.size
   have tok0 : True := trivial
   go_wp2_with (first
 | (clear tok0; go_at_call 25; refine (HD0.out _ hA).mono ?_; rintro e u1 ⟨rfl, hb1⟩; replace hb1 := ex_below hb1; have hz1 := hb1.size; have hB1 := below_step hW hb1 (by omega); have hzB1 := hB1.size; have hA_1 := hA.ext hb1; have hX_1 := hX.ext hb1; clear q0 q1 q2 q3 ql; have q0 := obj_at hX_1 0 _ rfl; have q1 := obj_at hX_1 1 _ rfl; have q2 := obj_at hX_1 2 _ rfl; have q3 := obj_at hX_1 3 _ rfl; have ql := obj_lt hX_1; have tok1 : True := trivial)
 | (clear tok1; go_at_call 59; refine (HRC.out _ hA_1).mono ?_; rintro e u2 ⟨A1, c1, rfl, hb2, hO1⟩; have hz2 := hb2.size; have hB2 := below_step hB1 hb2 (by omega); have hzB2 := hB2.size; have hA_2 := hA_1.ext hb2; have hX_2 := hX_1.ext hb2; clear q0 q1 q2 q3 ql; have q0 := obj_at hX_2 0 _ rfl; have q1 := obj_at hX_2 1 _ rfl; have q2 := obj_at hX_2 2 _ rfl; have q3 := obj_at hX_2 3 _ rfl; have ql := obj_lt hX_2; have tok2 : True := trivial))
   go_ret2
   exact gives_of (by rw [hVe.out]; rfl) hB2
 · by_cases c2 : ((Tt.codes L rest K).length : Int) ≤ x
   · have hVe : Hid (V = .tuple #[.string ⟨#[]⟩, .int .i64 3]) := hide (by rw [← HV.out]; unfold codeR; rw [if_pos (.inr c2)])
     clear HV
     go_enter Try.func21, Try.ntmps21
     go_upto_region 1 with fail
     obtain ⟨wa, hwa, hW, hX⟩ := boxed w #[.int .i64 (L : Nat), .int .i64 (K.length : Nat), .slice A K.length c, .int .i64 (rest : Nat)] 24
     rw [hwa]
     clear hwa
     replace hA := hA.ext hW
     have q0 := obj_at hX 0 _ rfl
     have q1 := obj_at hX 1 _ rfl
     have q2 := obj_at hX 2 _ rfl
     have q3 := obj_at hX 3 _ rfl
     have ql := obj_lt hX
     have hWs := hW.size
     have tok0 : True := trivial
     go_wp2_with (first
 | (clear tok0; go_at_call 25; refine (HD0.out _ hA).mono ?_; rintro e u1 ⟨rfl, hb1⟩; replace hb1 := ex_below hb1; have hz1 := hb1.size; have hB1 := below_step hW hb1 (by omega); have hzB1 := hB1.size; have hA_1 := hA.ext hb1; have hX_1 := hX.ext hb1; clear q0 q1 q2 q3 ql; have q0 := obj_at hX_1 0 _ rfl; have q1 := obj_at hX_1 1 _ rfl; have q2 := obj_at hX_1 2 _ rfl; have q3 := obj_at hX_1 3 _ rfl; have ql := obj_lt hX_1; have tok1 : True := trivial)
 | (clear tok1; go_at_call 59; refine (HRC.out _ hA_1).mono ?_; rintro e u2 ⟨A1, c1, rfl, hb2, hO1⟩; have hz2 := hb2.size; have hB2 := below_step hB1 hb2 (by omega); have hzB2 := hB2.size; have hA_2 := hA_1.ext hb2; have hX_2 := hX_1.ext hb2; clear q0 q1 q2 q3 ql; have q0 := obj_at hX_2 0 _ rfl; have q1 := obj_at hX_2 1 _ rfl; have q2 := obj_at hX_2 2 _ rfl; have q3 := obj_at hX_2 3 _ rfl; have ql := obj_lt hX_2; have tok2 : True := trivial))
     go_ret2
     exact gives_of (by rw [hVe.out]; rfl) hB2
   · obtain ⟨i, rfl⟩ : ∃ i : Nat, x = (i : Nat) := ⟨x.toNat, by omega⟩
     have hil : i < (Tt.codes L rest K).length := by omega
     have hiI : (i : Int) < ((Tt.codes L rest K).length : Int) := by omega
     have hVe : Hid (V = .tuple #[.string (strW (Tt.codes L rest K)[i]), .int .i64 0]) := hide (by
      rw [← HV.out]; unfold codeR; rw [if_neg (by omega), Int.toNat_natCast, List.getD_eq_getElem?_getD, List.getElem?_eq_getElem hil]; rfl)
     clear HV
     go_enter Try.func21, Try.ntmps21
     go_upto_region 1 with fail
     obtain ⟨wa, hwa, hW, hX⟩ := boxed w #[.int .i64 (L : Nat), .int .i64 (K.length : Nat), .slice A K.length c, .int .i64 (rest : Nat)] 24
     rw [hwa]
     clear hwa
     replace hA := hA.ext hW
     have q0 := obj_at hX 0 _ rfl
     have q1 := obj_at hX 1 _ rfl
     have q2 := obj_at hX 2 _ rfl
     have q3 := obj_at hX 3 _ rfl
     have ql := obj_lt hX
     have hWs := hW.size
     have tok0 : True := trivial
     go_upto_region 6 with (first
 | (clear tok0; go_at_call 25; refine (HD0.out _ hA).mono ?_; rintro e u1 ⟨rfl, hb1⟩; replace hb1 := ex_below hb1; have hz1 := hb1.size; have hB1 := below_step hW hb1 (by omega); have hzB1 := hB1.size; have hA_1 := hA.ext hb1; have hX_1 := hX.ext hb1; clear q0 q1 q2 q3 ql; have q0 := obj_at hX_1 0 _ rfl; have q1 := obj_at hX_1 1 _ rfl; have q2 := obj_at hX_1 2 _ rfl; have q3 := obj_at hX_1 3 _ rfl; have ql := obj_lt hX_1; have tok1 : True := trivial)
 | (clear tok1; go_at_call 59; refine (HRC.out _ hA_1).mono ?_; rintro e u2 ⟨A1, c1, rfl, hb2, hO1⟩; have hz2 := hb2.size; have hB2 := below_step hB1 hb2 (by omega); have hzB2 := hB2.size; have hA_2 := hA_1.ext hb2; have hX_2 := hX_1.ext hb2; clear q0 q1 q2 q3 ql; have q0 := obj_at hX_2 0 _ rfl; have q1 := obj_at hX_2 1 _ rfl; have q2 := obj_at hX_2 2 _ rfl; have q3 := obj_at hX_2 3 _ rfl; have ql := obj_lt hX_2; have tok2 : True := trivial))
     obtain ⟨ob, rfl, hob, hcell⟩ := own_at2 hO1 i (Value.string (strW (Tt.codes L rest K)[i])) (by rw [List.getElem?_map, List.getElem?_map, List.getElem?_eq_getElem hil]; rfl)
     go_wp2
     go_ret2
     exact gives_of (by rw [hVe.out]; rfl) hB2

end Go.Proofs.Ytgjfejpibielaaa
namespace Go.Proofs.Ytgjfejpibielaaa
open Go.RowKit Go.Maps Go.Shelf
attribute [local go_sem] Oper.semAt_some World.cell?_setCell_far

theorem less_strW : ∀ (v w : List Nat), (∀ x, x ∈ v → x < 100) → (∀ x, x ∈ w → x < 100) → Op.bytesLess (strW v).toList (strW w).toList = Tt.ltW v w := by
 have cons : ∀ (a : Nat) (v : List Nat), (strW (a :: v)).toList = unb a :: (strW v).toList := fun a v => by
  rw [ByteArray.toList_eq, ByteArray.toList_eq]
  rfl
 have nil : (strW []).toList = [] := by rw [ByteArray.toList_eq]; rfl
 intro v
 induction v with
 | nil => intro w _ _; cases w with
   | nil => rw [nil]; rfl
   | cons b w => rw [nil, cons]; rfl
 | cons a v ih =>
   intro w hv hw
   cases w with
   | nil => rw [nil, cons]; rfl
   | cons b w =>
     have ha := hv a (by simp)
     have hb := hw b (by simp)
     have h1 := unb_val ha
     have h2 := unb_val hb
     rw [cons, cons]
     simp only [Op.bytesLess, Tt.ltW, ih w (fun x hx => hv x (by simp [hx])) (fun x hx => hw x (by simp [hx]))]
     have e1 : decide (unb a < unb b) = decide (a < b) := by
      by_cases h : a < b <;> simp [h, UInt8.lt_iff_toNat_lt, h1, h2]
     have e2 : (unb a == unb b) = decide (a = b) := by
      by_cases h : a = b
      · subst h; simp
      · rw [decide_eq_false h, beq_eq_false_iff_ne]
        intro e
        rw [e, h2] at h1
        omega
     rw [e1, e2]
theorem tw_len {α : Type} (p : α → Bool) : ∀ (l : List α) (i : Nat), i ≤ l.length → (∀ j, (h : j < l.length) → j < i → p l[j] = true) → (∀ h : i < l.length, p l[i] = false) → (l.takeWhile p).length = i
 | [], i, hi, _, _ => by simp at hi; subst hi; rfl
 | a :: l, 0, _, _, h2 => by
   have := h2 (by simp)
   simp only [List.getElem_cons_zero] at this
   rw [List.takeWhile_cons, this]
   rfl
 | a :: l, i + 1, hi, h1, h2 => by
   have h0 := h1 0 (by simp) (by omega)
   simp only [List.getElem_cons_zero] at h0
   rw [List.takeWhile_cons, if_pos h0, List.length_cons, tw_len p l i (by simpa using hi) (fun j hj hji => by have := h1 (j + 1) (by simpa using hj) (by omega); simpa using this) (fun h => by have := h2 (by simpa using h); simpa using this)]
/-- the number of a word, or the error -/
def numR (L rest : Nat) (K : List Nat) (s : ByteArray) : Value :=
 if isW L K.length s = false then .tuple #[.int .i64 0, .int .i64 8]
 else if eqNb (-1) (lw s) = true then .tuple #[.int .i64 0, .int .i64 16]
 else if Tt.sumW L K 0 (lw s) ≠ rest then .tuple #[.int .i64 0, .int .i64 14]
 else .tuple #[.int .i64 (((Tt.codes L rest K).takeWhile fun v => Tt.ltW v (lw s)).length : Nat), .int .i64 0]
set_option maxRecDepth 100000 in
set_option maxHeartbeats 4000000 in
theorem rNumber_bad (L n : Int) (A : Option Addr) (K : List Int) (c : Nat) (r : Int) (s : ByteArray) (w : World) (hA : I64 w A K) (hx : K.length ≤ 1000) (he : chkDay L n K r ≠ 0) : Calls Try.prog 23 #[.agg #[.int .i64 L, .int .i64 n, .slice A K.length c, .int .i64 r], .string s] w (Gives w (.tuple #[.int .i64 0, .int .i64 (chkDay L n K r)])) := by
 obtain ⟨e0, he0⟩ : ∃ v, chkDay L n K r = v := ⟨_, rfl⟩
 rw [he0] at he ⊢
 have hen : (e0 != 0) = true := by simpa using he
 have HEE := hide he0
 clear he0
 go_enter Try.func23, Try.ntmps23
 go_upto_region 1 with fail
 obtain ⟨wa, hwa, hW, hX⟩ := boxed w #[.int .i64 L, .int .i64 n, .slice A K.length c, .int .i64 r] 24
 rw [hwa]
 clear hwa
 replace hA := hA.ext hW
 have q0 := obj_at hX 0 _ rfl
 have q1 := obj_at hX 1 _ rfl
 have q2 := obj_at hX 2 _ rfl
 have q3 := obj_at hX 3 _ rfl
 have ql := obj_lt hX
 have hWs := hW.size
 have tok0 : True := trivial
 go_wp2_with (first
 | (clear tok0; go_at_call 25; refine (rCheckDay_any L n A K c r _ hA hx).mono ?_; rintro e u1 ⟨rfl, hb1⟩; replace hb1 := ex_below hb1; have hz1 := hb1.size; have hB1 := below_step hW hb1 (by omega); have hzB1 := hB1.size; have hA_1 := hA.ext hb1; have hX_1 := hX.ext hb1; clear q0 q1 q2 q3 ql; have q0 := obj_at hX_1 0 _ rfl; have q1 := obj_at hX_1 1 _ rfl; have q2 := obj_at hX_1 2 _ rfl; have q3 := obj_at hX_1 3 _ rfl; have ql := obj_lt hX_1; rw [HEE.out]; have tok1 : True := trivial)
 | (clear tok1; go_at_call 25; refine (rCheckDay_any L n A K c r _ hA_1 hx).mono ?_; rintro e u2 ⟨rfl, hb2⟩; replace hb2 := ex_below hb2; have hz2 := hb2.size; have hB2 := below_step hB1 hb2 (by omega); have hzB2 := hB2.size; have hA_2 := hA_1.ext hb2; have hX_2 := hX_1.ext hb2; clear q0 q1 q2 q3 ql; have q0 := obj_at hX_2 0 _ rfl; have q1 := obj_at hX_2 1 _ rfl; have q2 := obj_at hX_2 2 _ rfl; have q3 := obj_at hX_2 3 _ rfl; have ql := obj_lt hX_2; rw [HEE.out]; have tok2 : True := trivial))
 go_ret2
 exact gives_of rfl hB2
set_option maxRecDepth 100000 in
set_option maxHeartbeats 4000000 in
theorem rNumber_ok (L rest : Nat) (A : Option Addr) (K : List Nat) (c : Nat)(s : ByteArray) (w : World) (hd : OkD L rest K) (hA : I64 w A (zs K)) (hs : s.size ≤ 1000) : Calls Try.prog 23 #[.agg #[.int .i64 (L : Nat), .int .i64 (K.length : Nat), .slice A K.length c, .int .i64 (rest : Nat)], .string s] w (Gives w (numR L rest K s)) := by
 have hn8 := hd.2.2.2.1
 have hn2 := hd.2.2.1
 have hL6 := hd.2.1
 have hs20 := hs
 have HD0 := hide (fun w' (h : I64 w' A (zs K)) => (show Calls Try.prog 25 #[.agg #[.int .i64 (L : Nat), .int .i64 (K.length : Nat), .slice A K.length c, .int .i64 (rest : Nat)]] w' (Gives w' (.int .i64 0)) by
  have h2 := rCheckDay_any (L : Nat) (K.length : Nat) A (zs K) c (rest : Nat) w' h (by rw [zs_len]; have := hd.2.2.2.1; omega)
  rw [zs_len, chk_zero hd] at h2
  exact h2))
 have HRC := hide (fun w' (h : I64 w' A (zs K)) => rCodes_any L rest A K c w' hd h)
 have HIW := hide (fun w' (h : I64 w' A (zs K)) => rIsWord_any L rest A K c s w' hd h hs)
 obtain ⟨V, hV⟩ : ∃ v, numR L rest K s = v := ⟨_, rfl⟩
 rw [hV]
 unfold numR at hV
 cases hw : isW L K.length s with
 | false =>
   rw [hw, if_pos rfl] at hV
   rw [hw] at HIW
   have HV := hide hV
   clear hV hw hd
   go_enter Try.func23, Try.ntmps23
   go_upto_region 1 with fail
   obtain ⟨wa, hwa, hW, hX⟩ := boxed w #[.int .i64 (L : Nat), .int .i64 (K.length : Nat), .slice A K.length c, .int .i64 (rest : Nat)] 24
   rw [hwa]
   clear hwa
   replace hA := hA.ext hW
   have q0 := obj_at hX 0 _ rfl
   have q1 := obj_at hX 1 _ rfl
   have q2 := obj_at hX 2 _ rfl
   have q3 := obj_at hX 3 _ rfl
   have ql := obj_lt hX
   have hWs := hW.size
   have tok0 : True := trivial
   go_wp2_with (first
 | (clear tok0; go_at_call 25; refine (HD0.out _ hA).mono ?_; rintro e u1 ⟨rfl, hb1⟩; replace hb1 := ex_below hb1; have hz1 := hb1.size; have hB1 := below_step hW hb1 (by omega); have hzB1 := hB1.size; have hA_1 := hA.ext hb1; have hX_1 := hX.ext hb1; clear q0 q1 q2 q3 ql; have q0 := obj_at hX_1 0 _ rfl; have q1 := obj_at hX_1 1 _ rfl; have q2 := obj_at hX_1 2 _ rfl; have q3 := obj_at hX_1 3 _ rfl; have ql := obj_lt hX_1; have tok1 : True := trivial)
 | (clear tok1; go_at_call 50; refine (HIW.out _ hA_1).mono ?_; rintro e u2 ⟨rfl, hb2⟩; replace hb2 := ex_below hb2; have hz2 := hb2.size; have hB2 := below_step hB1 hb2 (by omega); have hzB2 := hB2.size; have hA_2 := hA_1.ext hb2; have hX_2 := hX_1.ext hb2; clear q0 q1 q2 q3 ql; have q0 := obj_at hX_2 0 _ rfl; have q1 := obj_at hX_2 1 _ rfl; have q2 := obj_at hX_2 2 _ rfl; have q3 := obj_at hX_2 3 _ rfl; have ql := obj_lt hX_2; have tok2 : True := trivial))
   go_ret2
   exact gives_of (by rw [← HV.out]; rfl) hB2
 | true =>
   rw [hw, if_neg (by simp)] at hV
   rw [hw] at HIW
   obtain ⟨hse, hwn, hwL⟩ := isW_lw hw
   obtain ⟨ws, hws⟩ : ∃ v, lw s = v := ⟨_, rfl⟩
   rw [hws] at hV hse hwn hwL
   have HCK := hide (fun w' (h : I64 w' A (zs K)) => rChecks_any L rest A K c ws w' hd h hwn hwL)
   have HCM := hide (fun (x : List Nat) (h : x ∈ Tt.codes L rest K) => Tt.codes_mem h)
   have hcn : (Tt.codes L rest K).length ≤ 1679616 := by
    have h3 := Tt.cnt_small (L := L) (rest := rest) (ps := K.zip (Tt.fulls L K.length)) (la := -1) (s := 0) hL6 (by rw [List.length_zip]; omega)
    rwa [cnt_codes] at h3
   obtain ⟨E, hE⟩ : ∃ v, eqNb (-1) ws = v := ⟨_, rfl⟩
   have HE0 : Hid (∀ h0 : 0 < ws.length, eqNb ((ws[0]'h0 : Nat) : Int) (ws.drop 1) = E) := hide (fun h0 => by
    rw [← hE]
    cases ws with
    | nil => cases h0
    | cons a t =>
      rw [eqNb]
      have : decide ((a : Int) = -1) = false := by rw [decide_eq_false_iff_not]; omega
      rw [this, Bool.false_or]
      rfl)
   rw [hE] at hV
   obtain ⟨SM, hSM⟩ : ∃ v, decide (Tt.sumW L K 0 ws = rest) = v := ⟨_, rfl⟩
   rw [hSM] at HCK
   have hV2 : V = if E = true then Value.tuple #[.int .i64 0, .int .i64 16] else if SM = false then .tuple #[.int .i64 0, .int .i64 14] else .tuple #[.int .i64 (((Tt.codes L rest K).takeWhile fun v => Tt.ltW v ws).length : Nat), .int .i64 0] := by
    rw [← hV, ← hSM]
    by_cases h : Tt.sumW L K 0 ws = rest <;> simp [h]
   have HV := hide hV2
   subst hse
   have hsz := strW_size ws
   have HWL := hide hwL
   have HWN := hide hwn
   have hK2 : K.length ≤ 8 := hn8
   clear hV hV2 hw hd hE hSM hws hwL hwn hs
   go_enter Try.func23, Try.ntmps23
   go_upto_region 1 with fail
   obtain ⟨wa, hwa, hW, hX⟩ := boxed w #[.int .i64 (L : Nat), .int .i64 (K.length : Nat), .slice A K.length c, .int .i64 (rest : Nat)] 24
   rw [hwa]
   clear hwa
   replace hA := hA.ext hW
   have q0 := obj_at hX 0 _ rfl
   have q1 := obj_at hX 1 _ rfl
   have q2 := obj_at hX 2 _ rfl
   have q3 := obj_at hX 3 _ rfl
   have ql := obj_lt hX
   have hWs := hW.size
   have tok0 : True := trivial
   go_wp2_with (first
 | (clear tok0; go_at_call 25; refine (HD0.out _ hA).mono ?_; rintro e u1 ⟨rfl, hb1⟩; replace hb1 := ex_below hb1; have hz1 := hb1.size; have hB1 := below_step hW hb1 (by omega); have hzB1 := hB1.size; have hA_1 := hA.ext hb1; have hX_1 := hX.ext hb1; clear q0 q1 q2 q3 ql; have q0 := obj_at hX_1 0 _ rfl; have q1 := obj_at hX_1 1 _ rfl; have q2 := obj_at hX_1 2 _ rfl; have q3 := obj_at hX_1 3 _ rfl; have ql := obj_lt hX_1; have tok1 : True := trivial)
 | (clear tok1; go_at_call 50; refine (HIW.out _ hA_1).mono ?_; rintro e u2 ⟨rfl, hb2⟩; replace hb2 := ex_below hb2; have hz2 := hb2.size; have hB2 := below_step hB1 hb2 (by omega); have hzB2 := hB2.size; have hA_2 := hA_1.ext hb2; have hX_2 := hX_1.ext hb2; clear q0 q1 q2 q3 ql; have q0 := obj_at hX_2 0 _ rfl; have q1 := obj_at hX_2 1 _ rfl; have q2 := obj_at hX_2 2 _ rfl; have q3 := obj_at hX_2 3 _ rfl; have ql := obj_lt hX_2; have tok2 : True := trivial))
   go_loopw [6] (fun iv wr => ∃ i : Nat, 1 ≤ i ∧ i ≤ K.length ∧ iv = .int .i64 (i : Nat) ∧ Hid (∀ h : i - 1 < ws.length, eqNb ((ws[i - 1]'h : Nat) : Int) (ws.drop i) = E) ∧ Below u2.heap.size u2 wr) (fun iv _ => K.length - (intOf iv).toNat)
   case atStart => exact ⟨1, Nat.le_refl _, by omega, rfl, hide (fun h => HE0.out h), Below.refl _ _⟩
   case round =>
    obtain ⟨i, hi1, hi, rfl, HQ, hb⟩ := hrel
    have hzr := hb.size
    have hBr := below_step hB2 hb (by omega)
    have hXr := hX_2.ext hb
    clear q0 q1 q2 q3 ql
    have q0 := obj_at hXr 0 _ rfl
    have q1 := obj_at hXr 1 _ rfl
    have q2 := obj_at hXr 2 _ rfl
    have q3 := obj_at hXr 3 _ rfl
    have ql := obj_lt hXr
    by_cases hlt : i < K.length
    · have hki : (i : Int) < (K.length : Int) := by omega
      have hiw : i < ws.length := by rw [HWN.out]; exact hlt
      have hiw1 : i - 1 < ws.length := by omega
      have hbS : i < (strW ws).size := by rw [hsz]; exact hiw
      have hbSI : (i : Int) < ((strW ws).size : Int) := by omega
      have hbS1 : i - 1 < (strW ws).size := by omega
      have hbSI1 : ((i - 1 : Nat) : Int) < ((strW ws).size : Int) := by omega
      have hkw : IntKind.i64.wrap ((i : Int) - 1) = ((i - 1 : Nat) : Int) := by rw [IntKind.wrap_i64]; omega
      have hby := strW_at (ws := ws) (fun x hx => by have := HWL.out x hx; omega) i hiw
      have hby1 := strW_at (ws := ws) (fun x hx => by have := HWL.out x hx; omega) (i - 1) hiw1
      have hst : eqNb ((ws[i - 1] : Nat) : Int) (ws.drop i) = (decide (((ws[i] : Nat) : Int) = ((ws[i - 1] : Nat) : Int)) || eqNb ((ws[i] : Nat) : Int) (ws.drop (i + 1))) := by
       rw [List.drop_eq_getElem_cons hiw]
       rfl
      have hq := HQ.out hiw1
      rw [hst] at hq
      have HQ2 : Hid (eqNb ((ws[i] : Nat) : Int) (ws.drop (i + 1)) = E → ∀ h : i + 1 - 1 < ws.length, eqNb ((ws[i + 1 - 1]'h : Nat) : Int) (ws.drop (i + 1)) = E) := hide (fun h h2 => by simpa using h)
      clear hst HQ
      obtain ⟨x, hx⟩ : ∃ v, ws[i] = v := ⟨_, rfl⟩
      obtain ⟨y, hy⟩ : ∃ v, ws[i - 1] = v := ⟨_, rfl⟩
      rw [hx] at hby hq HQ2
      rw [hy] at hby1 hq
      have HQH := hide hq
      clear hx hy hq
      by_cases hxy : x = y
      · have hET : E = true := by rw [← HQH.out]; simp [hxy]
        have HVE : Hid (V = .tuple #[.int .i64 0, .int .i64 16]) := hide (by rw [HV.out, if_pos hET])
        have hxI : (((x : Int) + 97) == ((y : Int) + 97)) = true := by simp [hxy]
        have hxJ : (x : Int) + 97 = (y : Int) + 97 := by omega
        subst hxy
        clear HQH HQ2 hET hxJ
        go_upto_region 8 with fail
        refine wp_region_grow (by kernel_rfl) (by kernel_rfl) ?_
        repeat (go_big_quiet_step (fail))
        refine wpQuiet_nil ?_
        intro w4 hb4
        replace hb4 := ex_below hb4
        go_wp2
        go_ret2
        exact gives_of (by rw [HVE.out]; rfl) (below_step hBr hb4 (by omega))
      · have hq3 : eqNb (x : Int) (ws.drop (i + 1)) = E := by rw [← HQH.out]; have : ¬ ((x : Int) = (y : Int)) := by omega
                                                              simp [this]
        have HQ3 := hide (HQ2.out hq3)
        have hxI : (((x : Int) + 97) == ((y : Int) + 97)) = false := by simp; omega
        have hxJ : ¬ ((x : Int) + 97 = (y : Int) + 97) := by omega
        clear HQH HQ2 hq3
        go_upto_region 8 with fail
        refine wp_region_grow (by kernel_rfl) (by kernel_rfl) ?_
        repeat (go_big_quiet_step (fail))
        refine wpQuiet_nil ?_
        intro w4 hb4
        replace hb4 := ex_below hb4
        go_wp2
        exact ⟨⟨i + 1, by omega, by omega, by go_num, HQ3, below_step hb hb4 hzr⟩, by simp [intOf]; omega⟩
    · have hki : ¬ ((i : Int) < (K.length : Int)) := by omega
      have hEF : E = false := by
       have h := HQ.out (by rw [HWN.out]; omega)
       rw [List.drop_eq_nil_of_le (by rw [HWN.out]; omega)] at h
       exact h.symm
      have HV2 : Hid (V = if SM = false then .tuple #[.int .i64 0, .int .i64 14] else .tuple #[.int .i64 (((Tt.codes L rest K).takeWhile fun v => Tt.ltW v ws).length : Nat), .int .i64 0]) := hide (by rw [HV.out, hEF]; rfl)
      have hAr := hA_2.ext hb
      clear HQ hEF HV hki
      cases SM with
      | false =>
        have HVE : Hid (V = .tuple #[.int .i64 0, .int .i64 14]) := hide HV2.out
        clear HV2
        go_wp2_with (go_at_call 51; refine (HCK.out _ hAr).mono ?_; rintro e u3 ⟨rfl, hb3⟩; replace hb3 := ex_below hb3)
        go_ret2
        exact gives_of (by rw [HVE.out]; rfl) (below_step hBr hb3 (by omega))
      | true =>
        have HV3 : Hid (V = .tuple #[.int .i64 (((Tt.codes L rest K).takeWhile fun v => Tt.ltW v ws).length : Nat), .int .i64 0]) := hide HV2.out
        clear HV2
        go_wp2_with (first
 | (go_at_call 51; refine (HCK.out _ hAr).mono ?_; rintro e u3 ⟨rfl, hb3⟩; replace hb3 := ex_below hb3; have hz3 := hb3.size; have hXs := hXr.ext hb3; clear q0 q1 q2 q3 ql; have q0 := obj_at hXs 0 _ rfl; have q1 := obj_at hXs 1 _ rfl; have q2 := obj_at hXs 2 _ rfl; have q3 := obj_at hXs 3 _ rfl; have ql := obj_lt hXs)
 | (go_at_call 59; refine (HRC.out _ (hAr.ext hb3)).mono ?_; rintro e u4 ⟨A1, c1, rfl, hb5, hO1⟩; have hz4 := hb5.size))
        have hml : ((Tt.codes L rest K).map strW).length = (Tt.codes L rest K).length := List.length_map ..
        rw [hml] at hO1
        have hBs := below_step (below_step hBr hb3 (by omega)) hb5 (by omega)
        clear hml hXr hXs q0 q1 q2 q3 ql HRC HCK HD0 HIW HE0
        obtain ⟨Cs, hCs⟩ : ∃ v, Tt.codes L rest K = v := ⟨_, rfl⟩
        rw [hCs] at hcn HCM HV3 hO1 ⊢
        clear hCs
        go_loopw [8, 9] (fun nv iv wr => ∃ i : Nat, i ≤ Cs.length ∧ iv = .int .i64 (i : Nat) ∧ nv = .int .i64 (i : Nat) ∧ Hid (∀ j, (h : j < Cs.length) → j < i → Tt.ltW Cs[j] ws = true) ∧ Below u4.heap.size u4 wr) (fun _ iv _ => Cs.length - (intOf iv).toNat)
        case atStart => exact ⟨0, Nat.zero_le _, rfl, rfl, hide (fun j h hj => by omega), Below.refl _ _⟩
        case round =>
         obtain ⟨j, hj, rfl, rfl, HQ, hb6⟩ := hrel
         have hz6 := hb6.size
         have hBt := below_step hBs hb6 (by omega)
         by_cases hjl : j < Cs.length
         · have hji : (j : Int) < (Cs.length : Int) := by omega
           obtain ⟨ob, rfl, hob, hcell⟩ := own_at2 hO1 j (Value.string (strW Cs[j])) (by rw [List.getElem?_map, List.getElem?_map, List.getElem?_eq_getElem hjl]; rfl)
           have hce := (hb6.cell (p := ⟨ob, j, none⟩) hob).trans hcell
           have hobr : ob < wr.heap.size := by omega
           have hm2 := (HCM.out _ (List.getElem_mem hjl)).2
           have hls := less_strW Cs[j] ws (fun y hy => by have := hm2 y hy; omega) (fun y hy => by have := HWL.out y hy; omega)
           obtain ⟨lb, hlb⟩ : ∃ v, Tt.ltW Cs[j] ws = v := ⟨_, rfl⟩
           have HLB := hide hlb
           rw [hlb] at hls
           have HCX := hide (show strW Cs[j] = strW Cs[j] from rfl)
           cases lb with
           | true =>
             have HQ2 : Hid (∀ q, (h : q < Cs.length) → q < j + 1 → Tt.ltW Cs[q] ws = true) := hide (fun q h hq => by
              by_cases e : q = j
              · subst e; exact HLB.out
              · exact HQ.out q h (by omega))
             generalize Cs[j] = cj at *
             clear hlb hm2 hcell HLB HCX HQ
             go_wp2
             exact ⟨⟨j + 1, by omega, by go_num, by go_num, HQ2, hb6⟩, by simp [intOf]; omega⟩
           | false =>
             have HN : Hid ((Cs.takeWhile fun v => Tt.ltW v ws).length = j) := hide (tw_len _ Cs j hj (fun q h hq => HQ.out q h hq) (fun h => HLB.out))
             generalize Cs[j] = cj at *
             clear hlb hm2 hcell HLB HCX HQ
             go_wp2
             go_ret2
             exact gives_of (by rw [HV3.out, HN.out]; rfl) hBt
         · have hji : ¬ ((j : Int) < (Cs.length : Int)) := by omega
           have HN : Hid ((Cs.takeWhile fun v => Tt.ltW v ws).length = j) := hide (tw_len _ Cs j hj (fun q h hq => HQ.out q h hq) (fun h => absurd h hjl))
           clear HQ
           go_wp2
           go_ret2
           exact gives_of (by rw [HV3.out, HN.out]; rfl) hBt

end Go.Proofs.Ytgjfejpibielaaa
