/- Proved here: the laws TicketNears and TicketFits, a part of the proofs about the ticket laws. Conditions: those that each theorem names, no others. -/
import Derived.Test.YtgjfejpibielaaaP42
import Derived.WalkKit
import Derived.WalkSpells
import Derived.WalkLawsBesides
import Derived.Below
import Derived.Deep.QuietTactic
import Derived.BigQuiet
import Derived.Deep.Light
import Derived.Deep.RegionHeld3
set_option linter.unusedSimpArgs false
set_option linter.unusedVariables false
namespace Go.Proofs.Ytgjfejpibielaaa
open Go.RowKit Go.Maps Go.Shelf
attribute [local go_sem] Oper.semAt_some World.cell?_setCell_far
set_option maxRecDepth 100000 in
set_option maxHeartbeats 8000000 in
theorem nears_law (L n r : Int) (A : Option Addr) (K : List Int) (c : Nat) (s : ByteArray) (w : World) (hA : I64 w A K) (hl9 : K.length ≤ 9223372036854775807) (hs9 : s.size ≤ 9223372036854775807) : Calls Try.prog 6 #[.agg #[.int .i64 L, .int .i64 n, .slice A K.length c, .int .i64 r], .string s] w (Gives w (.bool true)) := by
 obtain ⟨b, hb15, hG⟩ := great_any L n r K hl9
 have HG := hide hG
 clear hG
 cases b with
 | true =>
   go_enter Try.func6, Try.ntmps6
   go_upto_region 1 with fail
   obtain ⟨wa, hwa, hW, hX⟩ := boxed w #[.int .i64 L, .int .i64 n, .slice A K.length c, .int .i64 r] 24
   rw [hwa]
   clear hwa
   replace hA := hA.ext hW
   have q0 := obj_at hX 0 _ rfl
   have q1 := obj_at hX 1 _ rfl
   have q2 := obj_at hX 2 _ rfl
   have q3 := obj_at hX 3 _ rfl
   have ql := obj_lt hX
   have hWs := hW.size
   have tok0 : True := trivial
   go_wp2_with (first
 | (clear tok0; go_at_call 16; refine (HG.out A c _ hA).mono ?_; rintro e u1 ⟨rfl, hb1⟩; replace hb1 := ex_below hb1; have hz1 := hb1.size; have hB1 := below_step hW hb1 (by omega); have hzB1 := hB1.size; have hA_1 := hA.ext hb1; have hX_1 := hX.ext hb1; clear q0 q1 q2 q3 ql; have q0 := obj_at hX_1 0 _ rfl; have q1 := obj_at hX_1 1 _ rfl; have q2 := obj_at hX_1 2 _ rfl; have q3 := obj_at hX_1 3 _ rfl; have ql := obj_lt hX_1; have tok1 : True := trivial)
 | (clear tok1; go_at_call 17; refine (works_any _).mono ?_; rintro e u2 ⟨rfl, hb2⟩; replace hb2 := ex_below hb2; have hz2 := hb2.size; have hB2 := below_step hB1 hb2 (by omega); have hzB2 := hB2.size; have hA_2 := hA_1.ext hb2; have hX_2 := hX_1.ext hb2; clear q0 q1 q2 q3 ql; have q0 := obj_at hX_2 0 _ rfl; have q1 := obj_at hX_2 1 _ rfl; have q2 := obj_at hX_2 2 _ rfl; have q3 := obj_at hX_2 3 _ rfl; have ql := obj_lt hX_2; have tok2 : True := trivial))
   go_ret
   exact gives_of rfl (below_step hB1 hb2 (by omega))
 | false =>
   have h15 := hb15 rfl
   by_cases hs : 20 < s.size
   · have hsi : (20 : Int) < (s.size : Int) := by omega
     go_enter Try.func6, Try.ntmps6
     go_upto_region 1 with fail
     obtain ⟨wa, hwa, hW, hX⟩ := boxed w #[.int .i64 L, .int .i64 n, .slice A K.length c, .int .i64 r] 24
     rw [hwa]
     clear hwa
     replace hA := hA.ext hW
     have q0 := obj_at hX 0 _ rfl
     have q1 := obj_at hX 1 _ rfl
     have q2 := obj_at hX 2 _ rfl
     have q3 := obj_at hX 3 _ rfl
     have ql := obj_lt hX
     have hWs := hW.size
     have tok0 : True := trivial
     go_wp2_with (first
 | (clear tok0; go_at_call 16; refine (HG.out A c _ hA).mono ?_; rintro e u1 ⟨rfl, hb1⟩; replace hb1 := ex_below hb1; have hz1 := hb1.size; have hB1 := below_step hW hb1 (by omega); have hzB1 := hB1.size; have hA_1 := hA.ext hb1; have hX_1 := hX.ext hb1; clear q0 q1 q2 q3 ql; have q0 := obj_at hX_1 0 _ rfl; have q1 := obj_at hX_1 1 _ rfl; have q2 := obj_at hX_1 2 _ rfl; have q3 := obj_at hX_1 3 _ rfl; have ql := obj_lt hX_1; have tok1 : True := trivial)
 | (clear tok1; go_at_call 17; refine (works_any _).mono ?_; rintro e u2 ⟨rfl, hb2⟩; replace hb2 := ex_below hb2; have hz2 := hb2.size; have hB2 := below_step hB1 hb2 (by omega); have hzB2 := hB2.size; have hA_2 := hA_1.ext hb2; have hX_2 := hX_1.ext hb2; clear q0 q1 q2 q3 ql; have q0 := obj_at hX_2 0 _ rfl; have q1 := obj_at hX_2 1 _ rfl; have q2 := obj_at hX_2 2 _ rfl; have q3 := obj_at hX_2 3 _ rfl; have ql := obj_lt hX_2; have tok2 : True := trivial))
     go_ret
     exact gives_of rfl (below_step hB1 hb2 (by omega))
   · have hsi : ¬ ((20 : Int) < (s.size : Int)) := by omega
     obtain ⟨v1, t1, e1, c1, c2⟩ := tNear L n r K (by omega) s (by omega)
     have C1 := hide c1
     have C2 := hide c2
     clear c1 c2
     go_enter Try.func6, Try.ntmps6
     go_upto_region 1 with fail
     obtain ⟨wa, hwa, hW, hX⟩ := boxed w #[.int .i64 L, .int .i64 n, .slice A K.length c, .int .i64 r] 24
     rw [hwa]
     clear hwa
     replace hA := hA.ext hW
     have q0 := obj_at hX 0 _ rfl
     have q1 := obj_at hX 1 _ rfl
     have q2 := obj_at hX 2 _ rfl
     have q3 := obj_at hX 3 _ rfl
     have ql := obj_lt hX
     have hWs := hW.size
     have tok0 : True := trivial
     go_wp2_with (first
 | (clear tok0; go_at_call 16; refine (HG.out A c _ hA).mono ?_; rintro e u1 ⟨rfl, hb1⟩; replace hb1 := ex_below hb1; have hz1 := hb1.size; have hB1 := below_step hW hb1 (by omega); have hzB1 := hB1.size; have hA_1 := hA.ext hb1; have hX_1 := hX.ext hb1; clear q0 q1 q2 q3 ql; have q0 := obj_at hX_1 0 _ rfl; have q1 := obj_at hX_1 1 _ rfl; have q2 := obj_at hX_1 2 _ rfl; have q3 := obj_at hX_1 3 _ rfl; have ql := obj_lt hX_1; have tok1 : True := trivial)
 | (clear tok1; go_at_call 35; refine (C1.out A c _ hA_1).mono ?_; rintro e u2 ⟨rfl, hb2⟩; replace hb2 := ex_below hb2; have hz2 := hb2.size; have hB2 := below_step hB1 hb2 (by omega); have hzB2 := hB2.size; have hA_2 := hA_1.ext hb2; have hX_2 := hX_1.ext hb2; clear q0 q1 q2 q3 ql; have q0 := obj_at hX_2 0 _ rfl; have q1 := obj_at hX_2 1 _ rfl; have q2 := obj_at hX_2 2 _ rfl; have q3 := obj_at hX_2 3 _ rfl; have ql := obj_lt hX_2; have tok2 : True := trivial)
 | (clear tok2; go_at_call 36; refine (C2.out A c _ hA_2).mono ?_; rintro e u3 ⟨rfl, hb3⟩; replace hb3 := ex_below hb3; have hz3 := hb3.size; have hB3 := below_step hB2 hb3 (by omega); have hzB3 := hB3.size; have hA_3 := hA_2.ext hb3; have hX_3 := hX_2.ext hb3; clear q0 q1 q2 q3 ql; have q0 := obj_at hX_3 0 _ rfl; have q1 := obj_at hX_3 1 _ rfl; have q2 := obj_at hX_3 2 _ rfl; have q3 := obj_at hX_3 3 _ rfl; have ql := obj_lt hX_3; have tok3 : True := trivial)
 | (clear tok3; go_at_call 17; refine (works_any _).mono ?_; rintro e u4 ⟨rfl, hb4⟩; replace hb4 := ex_below hb4; have hz4 := hb4.size; have hB4 := below_step hB3 hb4 (by omega); have hzB4 := hB4.size; have hA_4 := hA_3.ext hb4; have hX_4 := hX_3.ext hb4; clear q0 q1 q2 q3 ql; have q0 := obj_at hX_4 0 _ rfl; have q1 := obj_at hX_4 1 _ rfl; have q2 := obj_at hX_4 2 _ rfl; have q3 := obj_at hX_4 3 _ rfl; have ql := obj_lt hX_4; have tok4 : True := trivial))
     go_ret
     exact gives_of rfl (below_step hB3 hb4 (by omega))

set_option maxRecDepth 100000 in
set_option maxHeartbeats 8000000 in
theorem fits_law (L n r : Int) (A : Option Addr) (K : List Int) (c : Nat) (Y : Option Addr) (torn : List Int) (yc : Nat) (D : Option Addr) (rs : List (Int × Int)) (dc : Nat) (w : World) (hA : I64 w A K) (hY : I64 w Y torn) (hD : Rng w D rs) (hl9 : K.length ≤ 9223372036854775807) (ht9 : torn.length ≤ 9223372036854775807) (hd9 : rs.length ≤ 9223372036854775807) : Calls Try.prog 4 #[.agg #[.int .i64 L, .int .i64 n, .slice A K.length c, .int .i64 r], .slice Y torn.length yc, .slice D rs.length dc] w (Gives w (.bool true)) := by
 obtain ⟨b, hb15, hG⟩ := great_any L n r K hl9
 have HG := hide hG
 clear hG
 cases b with
 | true =>
   go_enter Try.func4, Try.ntmps4
   go_upto_region 1 with fail
   obtain ⟨wa, hwa, hW, hX⟩ := boxed w #[.int .i64 L, .int .i64 n, .slice A K.length c, .int .i64 r] 24
   rw [hwa]
   clear hwa
   replace hA := hA.ext hW
   have q0 := obj_at hX 0 _ rfl
   have q1 := obj_at hX 1 _ rfl
   have q2 := obj_at hX 2 _ rfl
   have q3 := obj_at hX 3 _ rfl
   have ql := obj_lt hX
   have hWs := hW.size
   replace hY := hY.ext hW
   replace hD := hD.ext hW
   have tok0 : True := trivial
   go_wp2_with (first
 | (clear tok0; go_at_call 16; refine (HG.out A c _ hA).mono ?_; rintro e u1 ⟨rfl, hb1⟩; replace hb1 := ex_below hb1; have hz1 := hb1.size; have hB1 := below_step hW hb1 (by omega); have hzB1 := hB1.size; have hA_1 := hA.ext hb1; have hY_1 := hY.ext hb1; have hD_1 := hD.ext hb1; have hX_1 := hX.ext hb1; clear q0 q1 q2 q3 ql; have q0 := obj_at hX_1 0 _ rfl; have q1 := obj_at hX_1 1 _ rfl; have q2 := obj_at hX_1 2 _ rfl; have q3 := obj_at hX_1 3 _ rfl; have ql := obj_lt hX_1; have tok1 : True := trivial)
 | (clear tok1; go_at_call 17; refine (works_any _).mono ?_; rintro e u2 ⟨rfl, hb2⟩; replace hb2 := ex_below hb2; have hz2 := hb2.size; have hB2 := below_step hB1 hb2 (by omega); have hzB2 := hB2.size; have hA_2 := hA_1.ext hb2; have hY_2 := hY_1.ext hb2; have hD_2 := hD_1.ext hb2; have hX_2 := hX_1.ext hb2; clear q0 q1 q2 q3 ql; have q0 := obj_at hX_2 0 _ rfl; have q1 := obj_at hX_2 1 _ rfl; have q2 := obj_at hX_2 2 _ rfl; have q3 := obj_at hX_2 3 _ rfl; have ql := obj_lt hX_2; have tok2 : True := trivial))
   go_ret
   exact gives_of rfl (below_step hB1 hb2 (by omega))
 | false =>
   have h15 := hb15 rfl
   by_cases ht : 15 < torn.length
   · have hti : (15 : Int) < (torn.length : Int) := by omega
     go_enter Try.func4, Try.ntmps4
     go_upto_region 1 with fail
     obtain ⟨wa, hwa, hW, hX⟩ := boxed w #[.int .i64 L, .int .i64 n, .slice A K.length c, .int .i64 r] 24
     rw [hwa]
     clear hwa
     replace hA := hA.ext hW
     have q0 := obj_at hX 0 _ rfl
     have q1 := obj_at hX 1 _ rfl
     have q2 := obj_at hX 2 _ rfl
     have q3 := obj_at hX 3 _ rfl
     have ql := obj_lt hX
     have hWs := hW.size
     replace hY := hY.ext hW
     replace hD := hD.ext hW
     have tok0 : True := trivial
     go_wp2_with (first
 | (clear tok0; go_at_call 16; refine (HG.out A c _ hA).mono ?_; rintro e u1 ⟨rfl, hb1⟩; replace hb1 := ex_below hb1; have hz1 := hb1.size; have hB1 := below_step hW hb1 (by omega); have hzB1 := hB1.size; have hA_1 := hA.ext hb1; have hY_1 := hY.ext hb1; have hD_1 := hD.ext hb1; have hX_1 := hX.ext hb1; clear q0 q1 q2 q3 ql; have q0 := obj_at hX_1 0 _ rfl; have q1 := obj_at hX_1 1 _ rfl; have q2 := obj_at hX_1 2 _ rfl; have q3 := obj_at hX_1 3 _ rfl; have ql := obj_lt hX_1; have tok1 : True := trivial)
 | (clear tok1; go_at_call 17; refine (works_any _).mono ?_; rintro e u2 ⟨rfl, hb2⟩; replace hb2 := ex_below hb2; have hz2 := hb2.size; have hB2 := below_step hB1 hb2 (by omega); have hzB2 := hB2.size; have hA_2 := hA_1.ext hb2; have hY_2 := hY_1.ext hb2; have hD_2 := hD_1.ext hb2; have hX_2 := hX_1.ext hb2; clear q0 q1 q2 q3 ql; have q0 := obj_at hX_2 0 _ rfl; have q1 := obj_at hX_2 1 _ rfl; have q2 := obj_at hX_2 2 _ rfl; have q3 := obj_at hX_2 3 _ rfl; have ql := obj_lt hX_2; have tok2 : True := trivial))
     go_ret
     exact gives_of rfl (below_step hB1 hb2 (by omega))
   · have hti : ¬ ((15 : Int) < (torn.length : Int)) := by omega
     by_cases hd : 15 < rs.length
     · have hdi : (15 : Int) < (rs.length : Int) := by omega
       go_enter Try.func4, Try.ntmps4
       go_upto_region 1 with fail
       obtain ⟨wa, hwa, hW, hX⟩ := boxed w #[.int .i64 L, .int .i64 n, .slice A K.length c, .int .i64 r] 24
       rw [hwa]
       clear hwa
       replace hA := hA.ext hW
       have q0 := obj_at hX 0 _ rfl
       have q1 := obj_at hX 1 _ rfl
       have q2 := obj_at hX 2 _ rfl
       have q3 := obj_at hX 3 _ rfl
       have ql := obj_lt hX
       have hWs := hW.size
       replace hY := hY.ext hW
       replace hD := hD.ext hW
       have tok0 : True := trivial
       go_wp2_with (first
 | (clear tok0; go_at_call 16; refine (HG.out A c _ hA).mono ?_; rintro e u1 ⟨rfl, hb1⟩; replace hb1 := ex_below hb1; have hz1 := hb1.size; have hB1 := below_step hW hb1 (by omega); have hzB1 := hB1.size; have hA_1 := hA.ext hb1; have hY_1 := hY.ext hb1; have hD_1 := hD.ext hb1; have hX_1 := hX.ext hb1; clear q0 q1 q2 q3 ql; have q0 := obj_at hX_1 0 _ rfl; have q1 := obj_at hX_1 1 _ rfl; have q2 := obj_at hX_1 2 _ rfl; have q3 := obj_at hX_1 3 _ rfl; have ql := obj_lt hX_1; have tok1 : True := trivial)
 | (clear tok1; go_at_call 17; refine (works_any _).mono ?_; rintro e u2 ⟨rfl, hb2⟩; replace hb2 := ex_below hb2; have hz2 := hb2.size; have hB2 := below_step hB1 hb2 (by omega); have hzB2 := hB2.size; have hA_2 := hA_1.ext hb2; have hY_2 := hY_1.ext hb2; have hD_2 := hD_1.ext hb2; have hX_2 := hX_1.ext hb2; clear q0 q1 q2 q3 ql; have q0 := obj_at hX_2 0 _ rfl; have q1 := obj_at hX_2 1 _ rfl; have q2 := obj_at hX_2 2 _ rfl; have q3 := obj_at hX_2 3 _ rfl; have ql := obj_lt hX_2; have tok2 : True := trivial))
       go_ret
       exact gives_of rfl (below_step hB1 hb2 (by omega))
     · have hdi : ¬ ((15 : Int) < (rs.length : Int)) := by omega
       obtain ⟨v1, v2, e1, c1, c2⟩ := tFits L n r K (by omega) torn rs (by omega)
       obtain ⟨k1, e2, d1, d2⟩ := tKind L n r K (by omega) torn rs (by omega)
       have C1 := hide c1
       have C2 := hide c2
       have D1 := hide d1
       have D2 := hide d2
       clear c1 c2 d1 d2
       go_enter Try.func4, Try.ntmps4
       go_upto_region 1 with fail
       obtain ⟨wa, hwa, hW, hX⟩ := boxed w #[.int .i64 L, .int .i64 n, .slice A K.length c, .int .i64 r] 24
       rw [hwa]
       clear hwa
       replace hA := hA.ext hW
       have q0 := obj_at hX 0 _ rfl
       have q1 := obj_at hX 1 _ rfl
       have q2 := obj_at hX 2 _ rfl
       have q3 := obj_at hX 3 _ rfl
       have ql := obj_lt hX
       have hWs := hW.size
       replace hY := hY.ext hW
       replace hD := hD.ext hW
       have tok0 : True := trivial
       go_wp2_with (first
 | (clear tok0; go_at_call 16; refine (HG.out A c _ hA).mono ?_; rintro e u1 ⟨rfl, hb1⟩; replace hb1 := ex_below hb1; have hz1 := hb1.size; have hB1 := below_step hW hb1 (by omega); have hzB1 := hB1.size; have hA_1 := hA.ext hb1; have hY_1 := hY.ext hb1; have hD_1 := hD.ext hb1; have hX_1 := hX.ext hb1; clear q0 q1 q2 q3 ql; have q0 := obj_at hX_1 0 _ rfl; have q1 := obj_at hX_1 1 _ rfl; have q2 := obj_at hX_1 2 _ rfl; have q3 := obj_at hX_1 3 _ rfl; have ql := obj_lt hX_1; have tok1 : True := trivial)
 | (clear tok1; go_at_call 26; refine (C1.out A c Y yc D dc _ hA_1 hY_1 hD_1).mono ?_; rintro e u2 ⟨rfl, hb2⟩; replace hb2 := ex_below hb2; have hz2 := hb2.size; have hB2 := below_step hB1 hb2 (by omega); have hzB2 := hB2.size; have hA_2 := hA_1.ext hb2; have hY_2 := hY_1.ext hb2; have hD_2 := hD_1.ext hb2; have hX_2 := hX_1.ext hb2; clear q0 q1 q2 q3 ql; have q0 := obj_at hX_2 0 _ rfl; have q1 := obj_at hX_2 1 _ rfl; have q2 := obj_at hX_2 2 _ rfl; have q3 := obj_at hX_2 3 _ rfl; have ql := obj_lt hX_2; have tok2 : True := trivial)
 | (clear tok2; go_at_call 27; refine (C2.out A c Y yc D dc _ hA_2 hY_2 hD_2).mono ?_; rintro e u3 ⟨rfl, hb3⟩; replace hb3 := ex_below hb3; have hz3 := hb3.size; have hB3 := below_step hB2 hb3 (by omega); have hzB3 := hB3.size; have hA_3 := hA_2.ext hb3; have hY_3 := hY_2.ext hb3; have hD_3 := hD_2.ext hb3; have hX_3 := hX_2.ext hb3; clear q0 q1 q2 q3 ql; have q0 := obj_at hX_3 0 _ rfl; have q1 := obj_at hX_3 1 _ rfl; have q2 := obj_at hX_3 2 _ rfl; have q3 := obj_at hX_3 3 _ rfl; have ql := obj_lt hX_3; have tok3 : True := trivial)
 | (clear tok3; go_at_call 28; refine (D1.out A c Y yc D dc _ hA_3 hY_3 hD_3).mono ?_; rintro e u4 ⟨rfl, hb4⟩; replace hb4 := ex_below hb4; have hz4 := hb4.size; have hB4 := below_step hB3 hb4 (by omega); have hzB4 := hB4.size; have hA_4 := hA_3.ext hb4; have hY_4 := hY_3.ext hb4; have hD_4 := hD_3.ext hb4; have hX_4 := hX_3.ext hb4; clear q0 q1 q2 q3 ql; have q0 := obj_at hX_4 0 _ rfl; have q1 := obj_at hX_4 1 _ rfl; have q2 := obj_at hX_4 2 _ rfl; have q3 := obj_at hX_4 3 _ rfl; have ql := obj_lt hX_4; have tok4 : True := trivial)
 | (clear tok4; go_at_call 29; refine (D2.out A c Y yc D dc _ hA_4 hY_4 hD_4).mono ?_; rintro e u5 ⟨rfl, hb5⟩; replace hb5 := ex_below hb5; have hz5 := hb5.size; have hB5 := below_step hB4 hb5 (by omega); have hzB5 := hB5.size; have hA_5 := hA_4.ext hb5; have hY_5 := hY_4.ext hb5; have hD_5 := hD_4.ext hb5; have hX_5 := hX_4.ext hb5; clear q0 q1 q2 q3 ql; have q0 := obj_at hX_5 0 _ rfl; have q1 := obj_at hX_5 1 _ rfl; have q2 := obj_at hX_5 2 _ rfl; have q3 := obj_at hX_5 3 _ rfl; have ql := obj_lt hX_5; have tok5 : True := trivial)
 | (clear tok5; go_at_call 17; refine (works_any _).mono ?_; rintro e u6 ⟨rfl, hb6⟩; replace hb6 := ex_below hb6; have hz6 := hb6.size; have hB6 := below_step hB5 hb6 (by omega); have hzB6 := hB6.size; have hA_6 := hA_5.ext hb6; have hY_6 := hY_5.ext hb6; have hD_6 := hD_5.ext hb6; have hX_6 := hX_5.ext hb6; clear q0 q1 q2 q3 ql; have q0 := obj_at hX_6 0 _ rfl; have q1 := obj_at hX_6 1 _ rfl; have q2 := obj_at hX_6 2 _ rfl; have q3 := obj_at hX_6 3 _ rfl; have ql := obj_lt hX_6; have tok6 : True := trivial))
       go_ret
       exact gives_of rfl (below_step hB5 hb6 (by omega))

end Go.Proofs.Ytgjfejpibielaaa
