/- Proved here: the law TicketDays, a part of the proofs about the ticket laws. Conditions: those that each theorem names, no others. -/
import Derived.Test.YtgjfejpibielaaaP42
import Derived.WalkKit
import Derived.WalkSpells
import Derived.WalkLawsBesides
import Derived.Below
import Derived.Deep.QuietTactic
import Derived.BigQuiet
import Derived.Deep.Light
import Derived.Deep.RegionHeld3
set_option linter.unusedSimpArgs false
set_option linter.unusedVariables false
namespace Go.Proofs.Ytgjfejpibielaaa
open Go.RowKit Go.Maps Go.Shelf
attribute [local go_sem] Oper.semAt_some World.cell?_setCell_far
set_option maxRecDepth 100000 in
set_option maxHeartbeats 8000000 in
theorem days_law (L n r : Int) (A : Option Addr) (K : List Int) (c : Nat) (x : Int) (s : ByteArray) (w : World) (hA : I64 w A K) (hl9 : K.length ≤ 9223372036854775807) (hs9 : s.size ≤ 9223372036854775807) : Calls Try.prog 3 #[.agg #[.int .i64 L, .int .i64 n, .slice A K.length c, .int .i64 r], .int .i64 x, .string s] w (Gives w (.bool true)) := by
 obtain ⟨b, hb15, hG⟩ := great_any L n r K hl9
 have HG := hide hG
 clear hG
 cases b with
 | true =>
   go_enter Try.func3, Try.ntmps3
   go_upto_region 1 with fail
   obtain ⟨wa, hwa, hW, hX⟩ := boxed w #[.int .i64 L, .int .i64 n, .slice A K.length c, .int .i64 r] 24
   rw [hwa]
   clear hwa
   replace hA := hA.ext hW
   have q0 := obj_at hX 0 _ rfl
   have q1 := obj_at hX 1 _ rfl
   have q2 := obj_at hX 2 _ rfl
   have q3 := obj_at hX 3 _ rfl
   have ql := obj_lt hX
   have hWs := hW.size
   have tok0 : True := trivial
   go_wp2_with (first
 | (clear tok0; go_at_call 16; refine (HG.out A c _ hA).mono ?_; rintro e u1 ⟨rfl, hb1⟩; replace hb1 := ex_below hb1; have hz1 := hb1.size; have hB1 := below_step hW hb1 (by omega); have hzB1 := hB1.size; have hA_1 := hA.ext hb1; have hX_1 := hX.ext hb1; clear q0 q1 q2 q3 ql; have q0 := obj_at hX_1 0 _ rfl; have q1 := obj_at hX_1 1 _ rfl; have q2 := obj_at hX_1 2 _ rfl; have q3 := obj_at hX_1 3 _ rfl; have ql := obj_lt hX_1; have tok1 : True := trivial)
 | (clear tok1; go_at_call 17; refine (works_any _).mono ?_; rintro e u2 ⟨rfl, hb2⟩; replace hb2 := ex_below hb2; have hz2 := hb2.size; have hB2 := below_step hB1 hb2 (by omega); have hzB2 := hB2.size; have hA_2 := hA_1.ext hb2; have hX_2 := hX_1.ext hb2; clear q0 q1 q2 q3 ql; have q0 := obj_at hX_2 0 _ rfl; have q1 := obj_at hX_2 1 _ rfl; have q2 := obj_at hX_2 2 _ rfl; have q3 := obj_at hX_2 3 _ rfl; have ql := obj_lt hX_2; have tok2 : True := trivial))
   go_ret
   exact gives_of rfl (below_step hB1 hb2 (by omega))
 | false =>
   have h15 := hb15 rfl
   by_cases h20 : 20 < s.size
   · have h20i : (20 : Int) < (s.size : Int) := by omega
     go_enter Try.func3, Try.ntmps3
     go_upto_region 1 with fail
     obtain ⟨wa, hwa, hW, hX⟩ := boxed w #[.int .i64 L, .int .i64 n, .slice A K.length c, .int .i64 r] 24
     rw [hwa]
     clear hwa
     replace hA := hA.ext hW
     have q0 := obj_at hX 0 _ rfl
     have q1 := obj_at hX 1 _ rfl
     have q2 := obj_at hX 2 _ rfl
     have q3 := obj_at hX 3 _ rfl
     have ql := obj_lt hX
     have hWs := hW.size
     have tok0 : True := trivial
     go_wp2_with (first
 | (clear tok0; go_at_call 16; refine (HG.out A c _ hA).mono ?_; rintro e u1 ⟨rfl, hb1⟩; replace hb1 := ex_below hb1; have hz1 := hb1.size; have hB1 := below_step hW hb1 (by omega); have hzB1 := hB1.size; have hA_1 := hA.ext hb1; have hX_1 := hX.ext hb1; clear q0 q1 q2 q3 ql; have q0 := obj_at hX_1 0 _ rfl; have q1 := obj_at hX_1 1 _ rfl; have q2 := obj_at hX_1 2 _ rfl; have q3 := obj_at hX_1 3 _ rfl; have ql := obj_lt hX_1; have tok1 : True := trivial)
 | (clear tok1; go_at_call 17; refine (works_any _).mono ?_; rintro e u2 ⟨rfl, hb2⟩; replace hb2 := ex_below hb2; have hz2 := hb2.size; have hB2 := below_step hB1 hb2 (by omega); have hzB2 := hB2.size; have hA_2 := hA_1.ext hb2; have hX_2 := hX_1.ext hb2; clear q0 q1 q2 q3 ql; have q0 := obj_at hX_2 0 _ rfl; have q1 := obj_at hX_2 1 _ rfl; have q2 := obj_at hX_2 2 _ rfl; have q3 := obj_at hX_2 3 _ rfl; have ql := obj_lt hX_2; have tok2 : True := trivial))
     go_ret
     exact gives_of rfl (below_step hB1 hb2 (by omega))
   · have h20i : ¬ ((20 : Int) < (s.size : Int)) := by omega
     obtain ⟨v1, e1, c1, c2⟩ := tCount L n r K (by omega)
     obtain ⟨t1, e2, d1, d2⟩ := tCode L n r K (by omega) x
     obtain ⟨v3, e3, n1, n2⟩ := tNumber L n r K (by omega) s (by omega)
     have C1 := hide c1
     have C2 := hide c2
     have D1 := hide d1
     have D2 := hide d2
     have N1 := hide n1
     have N2 := hide n2
     have E1 := hide (fun w' (h : I64 w' A K) => checkDay_any L n A K c r w' h (by omega))
     have E2 := hide (fun w' (h : I64 w' A K) => rCheckDay_any L n A K c r w' h (by omega))
     clear c1 c2 d1 d2 n1 n2
     generalize chkDay L n K r = e0 at *
     go_enter Try.func3, Try.ntmps3
     go_upto_region 1 with fail
     obtain ⟨wa, hwa, hW, hX⟩ := boxed w #[.int .i64 L, .int .i64 n, .slice A K.length c, .int .i64 r] 24
     rw [hwa]
     clear hwa
     replace hA := hA.ext hW
     have q0 := obj_at hX 0 _ rfl
     have q1 := obj_at hX 1 _ rfl
     have q2 := obj_at hX 2 _ rfl
     have q3 := obj_at hX 3 _ rfl
     have ql := obj_lt hX
     have hWs := hW.size
     have tok0 : True := trivial
     go_upto_region 9 with (first
 | (clear tok0; go_at_call 16; refine (HG.out A c _ hA).mono ?_; rintro e u1 ⟨rfl, hb1⟩; replace hb1 := ex_below hb1; have hz1 := hb1.size; have hB1 := below_step hW hb1 (by omega); have hzB1 := hB1.size; have hA_1 := hA.ext hb1; have hX_1 := hX.ext hb1; clear q0 q1 q2 q3 ql; have q0 := obj_at hX_1 0 _ rfl; have q1 := obj_at hX_1 1 _ rfl; have q2 := obj_at hX_1 2 _ rfl; have q3 := obj_at hX_1 3 _ rfl; have ql := obj_lt hX_1; have tok1 : True := trivial)
 | (clear tok1; go_at_call 18; refine (C1.out A c _ hA_1).mono ?_; rintro e u2 ⟨rfl, hb2⟩; replace hb2 := ex_below hb2; have hz2 := hb2.size; have hB2 := below_step hB1 hb2 (by omega); have hzB2 := hB2.size; have hA_2 := hA_1.ext hb2; have hX_2 := hX_1.ext hb2; clear q0 q1 q2 q3 ql; have q0 := obj_at hX_2 0 _ rfl; have q1 := obj_at hX_2 1 _ rfl; have q2 := obj_at hX_2 2 _ rfl; have q3 := obj_at hX_2 3 _ rfl; have ql := obj_lt hX_2; have tok2 : True := trivial)
 | (clear tok2; go_at_call 19; refine (C2.out A c _ hA_2).mono ?_; rintro e u3 ⟨rfl, hb3⟩; replace hb3 := ex_below hb3; have hz3 := hb3.size; have hB3 := below_step hB2 hb3 (by omega); have hzB3 := hB3.size; have hA_3 := hA_2.ext hb3; have hX_3 := hX_2.ext hb3; clear q0 q1 q2 q3 ql; have q0 := obj_at hX_3 0 _ rfl; have q1 := obj_at hX_3 1 _ rfl; have q2 := obj_at hX_3 2 _ rfl; have q3 := obj_at hX_3 3 _ rfl; have ql := obj_lt hX_3; have tok3 : True := trivial)
 | (clear tok3; go_at_call 20; refine (D1.out A c _ hA_3).mono ?_; rintro e u4 ⟨rfl, hb4⟩; replace hb4 := ex_below hb4; have hz4 := hb4.size; have hB4 := below_step hB3 hb4 (by omega); have hzB4 := hB4.size; have hA_4 := hA_3.ext hb4; have hX_4 := hX_3.ext hb4; clear q0 q1 q2 q3 ql; have q0 := obj_at hX_4 0 _ rfl; have q1 := obj_at hX_4 1 _ rfl; have q2 := obj_at hX_4 2 _ rfl; have q3 := obj_at hX_4 3 _ rfl; have ql := obj_lt hX_4; have tok4 : True := trivial)
 | (clear tok4; go_at_call 21; refine (D2.out A c _ hA_4).mono ?_; rintro e u5 ⟨rfl, hb5⟩; replace hb5 := ex_below hb5; have hz5 := hb5.size; have hB5 := below_step hB4 hb5 (by omega); have hzB5 := hB5.size; have hA_5 := hA_4.ext hb5; have hX_5 := hX_4.ext hb5; clear q0 q1 q2 q3 ql; have q0 := obj_at hX_5 0 _ rfl; have q1 := obj_at hX_5 1 _ rfl; have q2 := obj_at hX_5 2 _ rfl; have q3 := obj_at hX_5 3 _ rfl; have ql := obj_lt hX_5; have tok5 : True := trivial)
 | (clear tok5; go_at_call 22; refine (N1.out A c _ hA_5).mono ?_; rintro e u6 ⟨rfl, hb6⟩; replace hb6 := ex_below hb6; have hz6 := hb6.size; have hB6 := below_step hB5 hb6 (by omega); have hzB6 := hB6.size; have hA_6 := hA_5.ext hb6; have hX_6 := hX_5.ext hb6; clear q0 q1 q2 q3 ql; have q0 := obj_at hX_6 0 _ rfl; have q1 := obj_at hX_6 1 _ rfl; have q2 := obj_at hX_6 2 _ rfl; have q3 := obj_at hX_6 3 _ rfl; have ql := obj_lt hX_6; have tok6 : True := trivial)
 | (clear tok6; go_at_call 23; refine (N2.out A c _ hA_6).mono ?_; rintro e u7 ⟨rfl, hb7⟩; replace hb7 := ex_below hb7; have hz7 := hb7.size; have hB7 := below_step hB6 hb7 (by omega); have hzB7 := hB7.size; have hA_7 := hA_6.ext hb7; have hX_7 := hX_6.ext hb7; clear q0 q1 q2 q3 ql; have q0 := obj_at hX_7 0 _ rfl; have q1 := obj_at hX_7 1 _ rfl; have q2 := obj_at hX_7 2 _ rfl; have q3 := obj_at hX_7 3 _ rfl; have ql := obj_lt hX_7; have tok7 : True := trivial))
     refine wp_region_grow (by kernel_rfl) (by kernel_rfl) ?_
     repeat (go_big_quiet_step ((first | (go_at_call 24; exact Gives.quiet (E1.out _ (hA_7.ext (by (repeat (first | exact Below.refl _ _ | assumption | refine below_drewN ?_ _ | refine below_drew ?_ | refine below_gr ?_ ?_ _ | refine below_alloc ?_ ?_ _ | refine Below.setCell ?_ ?_ _ | refine below_step ?_ (by assumption) ?_ | omega | (simp only [zz] at *; omega))))))) | (go_at_call 25; exact Gives.quiet (E2.out _ (hA_7.ext (by (repeat (first | exact Below.refl _ _ | assumption | refine below_drewN ?_ _ | refine below_drew ?_ | refine below_gr ?_ ?_ _ | refine below_alloc ?_ ?_ _ | refine Below.setCell ?_ ?_ _ | refine below_step ?_ (by assumption) ?_ | omega | (simp only [zz] at *; omega))))))) | (go_at_call 17; exact Gives.quiet (works_any _)))))
     refine wpQuiet_nil ?_
     intro w9 hb9
     replace hb9 := ex_below hb9
     go_wp2
     go_ret
     exact gives_of rfl (below_step hB7 hb9 (by omega))

end Go.Proofs.Ytgjfejpibielaaa
