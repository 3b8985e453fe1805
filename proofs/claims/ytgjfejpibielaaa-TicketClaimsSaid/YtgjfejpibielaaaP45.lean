/- Proved here: the laws TicketFinds and TicketClaims, a part of the proofs about the ticket laws. Conditions: those that each theorem names, no others. -/
import Derived.Test.YtgjfejpibielaaaP42
import Derived.WalkKit
import Derived.WalkSpells
import Derived.WalkLawsBesides
import Derived.Below
import Derived.Deep.QuietTactic
import Derived.BigQuiet
import Derived.Deep.Light
import Derived.Deep.RegionHeld3
set_option linter.unusedSimpArgs false
set_option linter.unusedVariables false
namespace Go.Proofs.Ytgjfejpibielaaa
open Go.RowKit Go.Maps Go.Shelf
attribute [local go_sem] Oper.semAt_some World.cell?_setCell_far
theorem swapE {w w' : World} {xs : List Int} {e : Int} {en : Ending} (h : GivesE w xs e en w') : ∃ A c, en = .returned (.tuple #[.slice A xs.length c, .int .i64 e]) ∧ I64 w' A xs ∧ Below w.heap.size w w' := by
 obtain ⟨A, c, h1, h2, h3⟩ := h
 exact ⟨A, c, h1, h3, h2⟩
theorem swapP {P : List Int → Prop} {w w' : World} {f : Int} {en : Ending} (h : GivesP P w f en w') : ∃ xs A c, en = .returned (.tuple #[.slice A xs.length c, .int .i64 f]) ∧ I64 w' A xs ∧ P xs ∧ Below w.heap.size w w' := by
 obtain ⟨xs, ⟨A, c, h1, h2, h3⟩, h4⟩ := h
 exact ⟨xs, A, c, h1, h3, h4, h2⟩
theorem wide_no {rows : List LRow} (h : wideB rows = false) : rows.length ≤ 10 := by
 unfold wideB at h
 rw [Bool.or_eq_false_iff, decide_eq_false_iff_not] at h
 omega
theorem ints_same (P : Option Addr) (xs : List Int) (c : Nat) (Q : Option Addr) (d : Nat) (w : World) (hP : I64 w P xs) (hQ : I64 w Q xs) (hx : xs.length ≤ 1000) : Calls Try.prog 34 #[.slice P xs.length c, .slice Q xs.length d] w (Gives w (.bool true)) := by
 have h := ints_any P xs c Q xs d w hP hQ hx hx
 rwa [decide_eq_true (show xs = xs from rfl)] at h
set_option maxRecDepth 100000 in
set_option maxHeartbeats 8000000 in
theorem finds_law (L n r : Int) (A : Option Addr) (K : List Int) (c : Nat) (Y : Option Addr) (torn : List Int) (yc : Nat) (x : Int) (w : World) (hA : I64 w A K) (hY : I64 w Y torn) (hl9 : K.length ≤ 9223372036854775807) (ht9 : torn.length ≤ 9223372036854775807) : Calls Try.prog 5 #[.agg #[.int .i64 L, .int .i64 n, .slice A K.length c, .int .i64 r], .slice Y torn.length yc, .int .i64 x] w (Gives w (.bool true)) := by
 obtain ⟨b, hb15, hG⟩ := great_any L n r K hl9
 have HG := hide hG
 clear hG
 cases b with
 | true =>
   go_enter Try.func5, Try.ntmps5
   go_upto_region 1 with fail
   obtain ⟨wa, hwa, hW, hX⟩ := boxed w #[.int .i64 L, .int .i64 n, .slice A K.length c, .int .i64 r] 24
   rw [hwa]
   clear hwa
   replace hA := hA.ext hW
   have q0 := obj_at hX 0 _ rfl
   have q1 := obj_at hX 1 _ rfl
   have q2 := obj_at hX 2 _ rfl
   have q3 := obj_at hX 3 _ rfl
   have ql := obj_lt hX
   have hWs := hW.size
   replace hY := hY.ext hW
   have tok0 : True := trivial
   go_wp2_with (first
 | (clear tok0; go_at_call 16; refine (HG.out A c _ hA).mono ?_; rintro e u1 ⟨rfl, hb1⟩; replace hb1 := ex_below hb1; have hz1 := hb1.size; have hB1 := below_step hW hb1 (by omega); have hzB1 := hB1.size; have hA_1 := hA.ext hb1; have hY_1 := hY.ext hb1; have hX_1 := hX.ext hb1; clear q0 q1 q2 q3 ql; have q0 := obj_at hX_1 0 _ rfl; have q1 := obj_at hX_1 1 _ rfl; have q2 := obj_at hX_1 2 _ rfl; have q3 := obj_at hX_1 3 _ rfl; have ql := obj_lt hX_1; have tok1 : True := trivial)
 | (clear tok1; go_at_call 17; refine (works_any _).mono ?_; rintro e u2 ⟨rfl, hb2⟩; replace hb2 := ex_below hb2; have hz2 := hb2.size; have hB2 := below_step hB1 hb2 (by omega); have hzB2 := hB2.size; have hA_2 := hA_1.ext hb2; have hY_2 := hY_1.ext hb2; have hX_2 := hX_1.ext hb2; clear q0 q1 q2 q3 ql; have q0 := obj_at hX_2 0 _ rfl; have q1 := obj_at hX_2 1 _ rfl; have q2 := obj_at hX_2 2 _ rfl; have q3 := obj_at hX_2 3 _ rfl; have ql := obj_lt hX_2; have tok2 : True := trivial))
   go_ret
   exact gives_of rfl (below_step hB1 hb2 (by omega))
 | false =>
   have h15 := hb15 rfl
   by_cases ht : 15 < torn.length
   · have hti : (15 : Int) < (torn.length : Int) := by omega
     go_enter Try.func5, Try.ntmps5
     go_upto_region 1 with fail
     obtain ⟨wa, hwa, hW, hX⟩ := boxed w #[.int .i64 L, .int .i64 n, .slice A K.length c, .int .i64 r] 24
     rw [hwa]
     clear hwa
     replace hA := hA.ext hW
     have q0 := obj_at hX 0 _ rfl
     have q1 := obj_at hX 1 _ rfl
     have q2 := obj_at hX 2 _ rfl
     have q3 := obj_at hX 3 _ rfl
     have ql := obj_lt hX
     have hWs := hW.size
     replace hY := hY.ext hW
     have tok0 : True := trivial
     go_wp2_with (first
 | (clear tok0; go_at_call 16; refine (HG.out A c _ hA).mono ?_; rintro e u1 ⟨rfl, hb1⟩; replace hb1 := ex_below hb1; have hz1 := hb1.size; have hB1 := below_step hW hb1 (by omega); have hzB1 := hB1.size; have hA_1 := hA.ext hb1; have hY_1 := hY.ext hb1; have hX_1 := hX.ext hb1; clear q0 q1 q2 q3 ql; have q0 := obj_at hX_1 0 _ rfl; have q1 := obj_at hX_1 1 _ rfl; have q2 := obj_at hX_1 2 _ rfl; have q3 := obj_at hX_1 3 _ rfl; have ql := obj_lt hX_1; have tok1 : True := trivial)
 | (clear tok1; go_at_call 17; refine (works_any _).mono ?_; rintro e u2 ⟨rfl, hb2⟩; replace hb2 := ex_below hb2; have hz2 := hb2.size; have hB2 := below_step hB1 hb2 (by omega); have hzB2 := hB2.size; have hA_2 := hA_1.ext hb2; have hY_2 := hY_1.ext hb2; have hX_2 := hX_1.ext hb2; clear q0 q1 q2 q3 ql; have q0 := obj_at hX_2 0 _ rfl; have q1 := obj_at hX_2 1 _ rfl; have q2 := obj_at hX_2 2 _ rfl; have q3 := obj_at hX_2 3 _ rfl; have ql := obj_lt hX_2; have tok2 : True := trivial))
     go_ret
     exact gives_of rfl (below_step hB1 hb2 (by omega))
   · have hti : ¬ ((15 : Int) < (torn.length : Int)) := by omega
     obtain ⟨v1, e1, c1, c2⟩ := tFind L n r K (by omega) torn x
     obtain ⟨xs, e2, hxl, -, d1, d2⟩ := tSure L n r K (by omega) torn
     have C1 := hide c1
     have C2 := hide c2
     have D1 := hide d1
     have D2 := hide d2
     clear c1 c2 d1 d2
     go_enter Try.func5, Try.ntmps5
     go_upto_region 1 with fail
     obtain ⟨wa, hwa, hW, hX⟩ := boxed w #[.int .i64 L, .int .i64 n, .slice A K.length c, .int .i64 r] 24
     rw [hwa]
     clear hwa
     replace hA := hA.ext hW
     have q0 := obj_at hX 0 _ rfl
     have q1 := obj_at hX 1 _ rfl
     have q2 := obj_at hX 2 _ rfl
     have q3 := obj_at hX 3 _ rfl
     have ql := obj_lt hX
     have hWs := hW.size
     replace hY := hY.ext hW
     have tok0 : True := trivial
     go_wp2_with (first
 | (clear tok0; go_at_call 16; refine (HG.out A c _ hA).mono ?_; rintro e u1 ⟨rfl, hb1⟩; replace hb1 := ex_below hb1; have hz1 := hb1.size; have hB1 := below_step hW hb1 (by omega); have hzB1 := hB1.size; have hA_1 := hA.ext hb1; have hY_1 := hY.ext hb1; have hX_1 := hX.ext hb1; clear q0 q1 q2 q3 ql; have q0 := obj_at hX_1 0 _ rfl; have q1 := obj_at hX_1 1 _ rfl; have q2 := obj_at hX_1 2 _ rfl; have q3 := obj_at hX_1 3 _ rfl; have ql := obj_lt hX_1; have tok1 : True := trivial)
 | (clear tok1; go_at_call 30; refine (C1.out A c Y yc _ hA_1 hY_1).mono ?_; rintro e u2 ⟨rfl, hb2⟩; replace hb2 := ex_below hb2; have hz2 := hb2.size; have hB2 := below_step hB1 hb2 (by omega); have hzB2 := hB2.size; have hA_2 := hA_1.ext hb2; have hY_2 := hY_1.ext hb2; have hX_2 := hX_1.ext hb2; clear q0 q1 q2 q3 ql; have q0 := obj_at hX_2 0 _ rfl; have q1 := obj_at hX_2 1 _ rfl; have q2 := obj_at hX_2 2 _ rfl; have q3 := obj_at hX_2 3 _ rfl; have ql := obj_lt hX_2; have tok2 : True := trivial)
 | (clear tok2; go_at_call 31; refine (C2.out A c Y yc _ hA_2 hY_2).mono ?_; rintro e u3 ⟨rfl, hb3⟩; replace hb3 := ex_below hb3; have hz3 := hb3.size; have hB3 := below_step hB2 hb3 (by omega); have hzB3 := hB3.size; have hA_3 := hA_2.ext hb3; have hY_3 := hY_2.ext hb3; have hX_3 := hX_2.ext hb3; clear q0 q1 q2 q3 ql; have q0 := obj_at hX_3 0 _ rfl; have q1 := obj_at hX_3 1 _ rfl; have q2 := obj_at hX_3 2 _ rfl; have q3 := obj_at hX_3 3 _ rfl; have ql := obj_lt hX_3; have tok3 : True := trivial)
 | (clear tok3; go_at_call 32; refine ((D1.out A c Y yc _ hA_3 hY_3).mono fun _ _ h => swapE h).mono ?_; rintro e u4 ⟨U1, uc1, rfl, hU1, hb4⟩; have hz4 := hb4.size; have hB4 := below_step hB3 hb4 (by omega); have hzB4 := hB4.size; have hA_4 := hA_3.ext hb4; have hY_4 := hY_3.ext hb4; have hX_4 := hX_3.ext hb4; clear q0 q1 q2 q3 ql; have q0 := obj_at hX_4 0 _ rfl; have q1 := obj_at hX_4 1 _ rfl; have q2 := obj_at hX_4 2 _ rfl; have q3 := obj_at hX_4 3 _ rfl; have ql := obj_lt hX_4; have tok4 : True := trivial)
 | (clear tok4; go_at_call 33; refine ((D2.out A c Y yc _ hA_4 hY_4).mono fun _ _ h => swapE h).mono ?_; rintro e u5 ⟨U2, uc2, rfl, hU2, hb5⟩; have hz5 := hb5.size; have hB5 := below_step hB4 hb5 (by omega); have hzB5 := hB5.size; have hA_5 := hA_4.ext hb5; have hY_5 := hY_4.ext hb5; have hU1_5 := hU1.ext hb5; have hX_5 := hX_4.ext hb5; clear q0 q1 q2 q3 ql; have q0 := obj_at hX_5 0 _ rfl; have q1 := obj_at hX_5 1 _ rfl; have q2 := obj_at hX_5 2 _ rfl; have q3 := obj_at hX_5 3 _ rfl; have ql := obj_lt hX_5; have tok5 : True := trivial)
 | (clear tok5; go_at_call 34; refine (ints_same U1 xs uc1 U2 uc2 _ hU1_5 hU2 hxl).mono ?_; rintro e u6 ⟨rfl, hb6⟩; replace hb6 := ex_below hb6; have hz6 := hb6.size; have hB6 := below_step hB5 hb6 (by omega); have hzB6 := hB6.size; have hA_6 := hA_5.ext hb6; have hY_6 := hY_5.ext hb6; have hU1_6 := hU1_5.ext hb6; have hU2_6 := hU2.ext hb6; have hX_6 := hX_5.ext hb6; clear q0 q1 q2 q3 ql; have q0 := obj_at hX_6 0 _ rfl; have q1 := obj_at hX_6 1 _ rfl; have q2 := obj_at hX_6 2 _ rfl; have q3 := obj_at hX_6 3 _ rfl; have ql := obj_lt hX_6; have tok6 : True := trivial)
 | (clear tok6; go_at_call 17; refine (works_any _).mono ?_; rintro e u7 ⟨rfl, hb7⟩; replace hb7 := ex_below hb7; have hz7 := hb7.size; have hB7 := below_step hB6 hb7 (by omega); have hzB7 := hB7.size; have hA_7 := hA_6.ext hb7; have hY_7 := hY_6.ext hb7; have hU1_7 := hU1_6.ext hb7; have hU2_7 := hU2_6.ext hb7; have hX_7 := hX_6.ext hb7; clear q0 q1 q2 q3 ql; have q0 := obj_at hX_7 0 _ rfl; have q1 := obj_at hX_7 1 _ rfl; have q2 := obj_at hX_7 2 _ rfl; have q3 := obj_at hX_7 3 _ rfl; have ql := obj_lt hX_7; have tok7 : True := trivial))
     go_ret
     exact gives_of rfl (below_step hB6 hb7 (by omega))

set_option maxRecDepth 100000 in
set_option maxHeartbeats 8000000 in
theorem claims_law (L n r : Int) (A : Option Addr) (K : List Int) (c : Nat) (Y : Option Addr) (rows : List LRow) (yc : Nat) (D : Option Addr) (rs : List (Int × Int)) (dc : Nat) (Sa : Option Addr) (ss : List Int) (sc : Nat) (w : World) (hA : I64 w A K) (hY : Lst w Y rows) (hD : Rng w D rs) (hS : I64 w Sa ss) (hl9 : K.length ≤ 9223372036854775807) (hr9 : rows.length ≤ 9223372036854775807) (h9 : ∀ r, r ∈ rows → r.2.1.length ≤ 9223372036854775807) (hd9 : rs.length ≤ 9223372036854775807) (hs9 : ss.length ≤ 9223372036854775807) : Calls Try.prog 7 #[.agg #[.int .i64 L, .int .i64 n, .slice A K.length c, .int .i64 r], .slice Y rows.length yc, .slice D rs.length dc, .slice Sa ss.length sc] w (Gives w (.bool true)) := by
 obtain ⟨b, hb15, hG⟩ := great_any L n r K hl9
 have HG := hide hG
 clear hG
 cases b with
 | true =>
   go_enter Try.func7, Try.ntmps7
   go_upto_region 1 with fail
   obtain ⟨wa, hwa, hW, hX⟩ := boxed w #[.int .i64 L, .int .i64 n, .slice A K.length c, .int .i64 r] 24
   rw [hwa]
   clear hwa
   replace hA := hA.ext hW
   have q0 := obj_at hX 0 _ rfl
   have q1 := obj_at hX 1 _ rfl
   have q2 := obj_at hX 2 _ rfl
   have q3 := obj_at hX 3 _ rfl
   have ql := obj_lt hX
   have hWs := hW.size
   replace hY := hY.ext hW
   replace hD := hD.ext hW
   replace hS := hS.ext hW
   have tok0 : True := trivial
   go_wp2_with (first
 | (clear tok0; go_at_call 16; refine (HG.out A c _ hA).mono ?_; rintro e u1 ⟨rfl, hb1⟩; replace hb1 := ex_below hb1; have hz1 := hb1.size; have hB1 := below_step hW hb1 (by omega); have hzB1 := hB1.size; have hA_1 := hA.ext hb1; have hY_1 := hY.ext hb1; have hD_1 := hD.ext hb1; have hS_1 := hS.ext hb1; have hX_1 := hX.ext hb1; clear q0 q1 q2 q3 ql; have q0 := obj_at hX_1 0 _ rfl; have q1 := obj_at hX_1 1 _ rfl; have q2 := obj_at hX_1 2 _ rfl; have q3 := obj_at hX_1 3 _ rfl; have ql := obj_lt hX_1; have tok1 : True := trivial)
 | (clear tok1; go_at_call 17; refine (works_any _).mono ?_; rintro e u2 ⟨rfl, hb2⟩; replace hb2 := ex_below hb2; have hz2 := hb2.size; have hB2 := below_step hB1 hb2 (by omega); have hzB2 := hB2.size; have hA_2 := hA_1.ext hb2; have hY_2 := hY_1.ext hb2; have hD_2 := hD_1.ext hb2; have hS_2 := hS_1.ext hb2; have hX_2 := hX_1.ext hb2; clear q0 q1 q2 q3 ql; have q0 := obj_at hX_2 0 _ rfl; have q1 := obj_at hX_2 1 _ rfl; have q2 := obj_at hX_2 2 _ rfl; have q3 := obj_at hX_2 3 _ rfl; have ql := obj_lt hX_2; have tok2 : True := trivial))
   go_ret
   exact gives_of rfl (below_step hB1 hb2 (by omega))
 | false =>
   have h15 := hb15 rfl
   cases hwd : wideB rows with
   | true =>
     go_enter Try.func7, Try.ntmps7
     go_upto_region 1 with fail
     obtain ⟨wa, hwa, hW, hX⟩ := boxed w #[.int .i64 L, .int .i64 n, .slice A K.length c, .int .i64 r] 24
     rw [hwa]
     clear hwa
     replace hA := hA.ext hW
     have q0 := obj_at hX 0 _ rfl
     have q1 := obj_at hX 1 _ rfl
     have q2 := obj_at hX 2 _ rfl
     have q3 := obj_at hX 3 _ rfl
     have ql := obj_lt hX
     have hWs := hW.size
     replace hY := hY.ext hW
     replace hD := hD.ext hW
     replace hS := hS.ext hW
     have tok0 : True := trivial
     go_wp2_with (first
 | (clear tok0; go_at_call 16; refine (HG.out A c _ hA).mono ?_; rintro e u1 ⟨rfl, hb1⟩; replace hb1 := ex_below hb1; have hz1 := hb1.size; have hB1 := below_step hW hb1 (by omega); have hzB1 := hB1.size; have hA_1 := hA.ext hb1; have hY_1 := hY.ext hb1; have hD_1 := hD.ext hb1; have hS_1 := hS.ext hb1; have hX_1 := hX.ext hb1; clear q0 q1 q2 q3 ql; have q0 := obj_at hX_1 0 _ rfl; have q1 := obj_at hX_1 1 _ rfl; have q2 := obj_at hX_1 2 _ rfl; have q3 := obj_at hX_1 3 _ rfl; have ql := obj_lt hX_1; have tok1 : True := trivial)
 | (clear tok1; go_at_call 37; refine (wide_any Y rows yc _ hY_1 hr9 h9).mono ?_; rintro e u2 ⟨rfl, hb2⟩; replace hb2 := ex_below hb2; have hz2 := hb2.size; have hB2 := below_step hB1 hb2 (by omega); have hzB2 := hB2.size; have hA_2 := hA_1.ext hb2; have hY_2 := hY_1.ext hb2; have hD_2 := hD_1.ext hb2; have hS_2 := hS_1.ext hb2; have hX_2 := hX_1.ext hb2; clear q0 q1 q2 q3 ql; have q0 := obj_at hX_2 0 _ rfl; have q1 := obj_at hX_2 1 _ rfl; have q2 := obj_at hX_2 2 _ rfl; have q3 := obj_at hX_2 3 _ rfl; have ql := obj_lt hX_2; (try rw [hwd]); have tok2 : True := trivial)
 | (clear tok2; go_at_call 17; refine (works_any _).mono ?_; rintro e u3 ⟨rfl, hb3⟩; replace hb3 := ex_below hb3; have hz3 := hb3.size; have hB3 := below_step hB2 hb3 (by omega); have hzB3 := hB3.size; have hA_3 := hA_2.ext hb3; have hY_3 := hY_2.ext hb3; have hD_3 := hD_2.ext hb3; have hS_3 := hS_2.ext hb3; have hX_3 := hX_2.ext hb3; clear q0 q1 q2 q3 ql; have q0 := obj_at hX_3 0 _ rfl; have q1 := obj_at hX_3 1 _ rfl; have q2 := obj_at hX_3 2 _ rfl; have q3 := obj_at hX_3 3 _ rfl; have ql := obj_lt hX_3; have tok3 : True := trivial))
     go_ret
     exact gives_of rfl (below_step hB2 hb3 (by omega))
   | false =>
     have hr10 : rows.length ≤ 10 := wide_no hwd
     by_cases hd : 15 < rs.length
     · have hdi : (15 : Int) < (rs.length : Int) := by omega
       go_enter Try.func7, Try.ntmps7
       go_upto_region 1 with fail
       obtain ⟨wa, hwa, hW, hX⟩ := boxed w #[.int .i64 L, .int .i64 n, .slice A K.length c, .int .i64 r] 24
       rw [hwa]
       clear hwa
       replace hA := hA.ext hW
       have q0 := obj_at hX 0 _ rfl
       have q1 := obj_at hX 1 _ rfl
       have q2 := obj_at hX 2 _ rfl
       have q3 := obj_at hX 3 _ rfl
       have ql := obj_lt hX
       have hWs := hW.size
       replace hY := hY.ext hW
       replace hD := hD.ext hW
       replace hS := hS.ext hW
       have tok0 : True := trivial
       go_wp2_with (first
 | (clear tok0; go_at_call 16; refine (HG.out A c _ hA).mono ?_; rintro e u1 ⟨rfl, hb1⟩; replace hb1 := ex_below hb1; have hz1 := hb1.size; have hB1 := below_step hW hb1 (by omega); have hzB1 := hB1.size; have hA_1 := hA.ext hb1; have hY_1 := hY.ext hb1; have hD_1 := hD.ext hb1; have hS_1 := hS.ext hb1; have hX_1 := hX.ext hb1; clear q0 q1 q2 q3 ql; have q0 := obj_at hX_1 0 _ rfl; have q1 := obj_at hX_1 1 _ rfl; have q2 := obj_at hX_1 2 _ rfl; have q3 := obj_at hX_1 3 _ rfl; have ql := obj_lt hX_1; have tok1 : True := trivial)
 | (clear tok1; go_at_call 37; refine (wide_any Y rows yc _ hY_1 hr9 h9).mono ?_; rintro e u2 ⟨rfl, hb2⟩; replace hb2 := ex_below hb2; have hz2 := hb2.size; have hB2 := below_step hB1 hb2 (by omega); have hzB2 := hB2.size; have hA_2 := hA_1.ext hb2; have hY_2 := hY_1.ext hb2; have hD_2 := hD_1.ext hb2; have hS_2 := hS_1.ext hb2; have hX_2 := hX_1.ext hb2; clear q0 q1 q2 q3 ql; have q0 := obj_at hX_2 0 _ rfl; have q1 := obj_at hX_2 1 _ rfl; have q2 := obj_at hX_2 2 _ rfl; have q3 := obj_at hX_2 3 _ rfl; have ql := obj_lt hX_2; (try rw [hwd]); have tok2 : True := trivial)
 | (clear tok2; go_at_call 17; refine (works_any _).mono ?_; rintro e u3 ⟨rfl, hb3⟩; replace hb3 := ex_below hb3; have hz3 := hb3.size; have hB3 := below_step hB2 hb3 (by omega); have hzB3 := hB3.size; have hA_3 := hA_2.ext hb3; have hY_3 := hY_2.ext hb3; have hD_3 := hD_2.ext hb3; have hS_3 := hS_2.ext hb3; have hX_3 := hX_2.ext hb3; clear q0 q1 q2 q3 ql; have q0 := obj_at hX_3 0 _ rfl; have q1 := obj_at hX_3 1 _ rfl; have q2 := obj_at hX_3 2 _ rfl; have q3 := obj_at hX_3 3 _ rfl; have ql := obj_lt hX_3; have tok3 : True := trivial))
       go_ret
       exact gives_of rfl (below_step hB2 hb3 (by omega))
     · have hdi : ¬ ((15 : Int) < (rs.length : Int)) := by omega
       by_cases hs : 15 < ss.length
       · have hsi : (15 : Int) < (ss.length : Int) := by omega
         go_enter Try.func7, Try.ntmps7
         go_upto_region 1 with fail
         obtain ⟨wa, hwa, hW, hX⟩ := boxed w #[.int .i64 L, .int .i64 n, .slice A K.length c, .int .i64 r] 24
         rw [hwa]
         clear hwa
         replace hA := hA.ext hW
         have q0 := obj_at hX 0 _ rfl
         have q1 := obj_at hX 1 _ rfl
         have q2 := obj_at hX 2 _ rfl
         have q3 := obj_at hX 3 _ rfl
         have ql := obj_lt hX
         have hWs := hW.size
         replace hY := hY.ext hW
         replace hD := hD.ext hW
         replace hS := hS.ext hW
         have tok0 : True := trivial
         go_wp2_with (first
 | (clear tok0; go_at_call 16; refine (HG.out A c _ hA).mono ?_; rintro e u1 ⟨rfl, hb1⟩; replace hb1 := ex_below hb1; have hz1 := hb1.size; have hB1 := below_step hW hb1 (by omega); have hzB1 := hB1.size; have hA_1 := hA.ext hb1; have hY_1 := hY.ext hb1; have hD_1 := hD.ext hb1; have hS_1 := hS.ext hb1; have hX_1 := hX.ext hb1; clear q0 q1 q2 q3 ql; have q0 := obj_at hX_1 0 _ rfl; have q1 := obj_at hX_1 1 _ rfl; have q2 := obj_at hX_1 2 _ rfl; have q3 := obj_at hX_1 3 _ rfl; have ql := obj_lt hX_1; have tok1 : True := trivial)
 | (clear tok1; go_at_call 37; refine (wide_any Y rows yc _ hY_1 hr9 h9).mono ?_; rintro e u2 ⟨rfl, hb2⟩; replace hb2 := ex_below hb2; have hz2 := hb2.size; have hB2 := below_step hB1 hb2 (by omega); have hzB2 := hB2.size; have hA_2 := hA_1.ext hb2; have hY_2 := hY_1.ext hb2; have hD_2 := hD_1.ext hb2; have hS_2 := hS_1.ext hb2; have hX_2 := hX_1.ext hb2; clear q0 q1 q2 q3 ql; have q0 := obj_at hX_2 0 _ rfl; have q1 := obj_at hX_2 1 _ rfl; have q2 := obj_at hX_2 2 _ rfl; have q3 := obj_at hX_2 3 _ rfl; have ql := obj_lt hX_2; (try rw [hwd]); have tok2 : True := trivial)
 | (clear tok2; go_at_call 17; refine (works_any _).mono ?_; rintro e u3 ⟨rfl, hb3⟩; replace hb3 := ex_below hb3; have hz3 := hb3.size; have hB3 := below_step hB2 hb3 (by omega); have hzB3 := hB3.size; have hA_3 := hA_2.ext hb3; have hY_3 := hY_2.ext hb3; have hD_3 := hD_2.ext hb3; have hS_3 := hS_2.ext hb3; have hX_3 := hX_2.ext hb3; clear q0 q1 q2 q3 ql; have q0 := obj_at hX_3 0 _ rfl; have q1 := obj_at hX_3 1 _ rfl; have q2 := obj_at hX_3 2 _ rfl; have q3 := obj_at hX_3 3 _ rfl; have ql := obj_lt hX_3; have tok3 : True := trivial))
         go_ret
         exact gives_of rfl (below_step hB2 hb3 (by omega))
       · have hsi : ¬ ((15 : Int) < (ss.length : Int)) := by omega
         obtain ⟨ts, hts⟩ : ∃ ts, (rows.map fun r => r.2.1) = ts := ⟨_, rfl⟩
         have htl : ts.length ≤ 1000 := by rw [← hts, List.length_map]; omega
         obtain ⟨f, l, ⟨k1, k2, k3, k4⟩, hss⟩ := tClaims L n r K (by omega) ts htl rs (by omega)
         obtain ⟨v1, e1, p1, p2⟩ := hss ss (by omega)
         have HP1 := hide p1
         have HP2 := hide p2
         have HK1 := hide k1
         have HK2 := hide k2
         have HK3 := hide k3
         have HK4 := hide k4
         have HTS := hide hts
         clear p1 p2 k1 k2 k3 k4 hss htl hts
         by_cases hf : f = 0
         · subst hf
           go_enter Try.func7, Try.ntmps7
           go_upto_region 1 with fail
           obtain ⟨wa, hwa, hW, hX⟩ := boxed w #[.int .i64 L, .int .i64 n, .slice A K.length c, .int .i64 r] 24
           rw [hwa]
           clear hwa
           replace hA := hA.ext hW
           have q0 := obj_at hX 0 _ rfl
           have q1 := obj_at hX 1 _ rfl
           have q2 := obj_at hX 2 _ rfl
           have q3 := obj_at hX 3 _ rfl
           have ql := obj_lt hX
           have hWs := hW.size
           replace hY := hY.ext hW
           replace hD := hD.ext hW
           replace hS := hS.ext hW
           have tok0 : True := trivial
           go_wp2_with (first
 | (clear tok0; go_at_call 16; refine (HG.out A c _ hA).mono ?_; rintro e u1 ⟨rfl, hb1⟩; replace hb1 := ex_below hb1; have hz1 := hb1.size; have hB1 := below_step hW hb1 (by omega); have hzB1 := hB1.size; have hA_1 := hA.ext hb1; have hY_1 := hY.ext hb1; have hD_1 := hD.ext hb1; have hS_1 := hS.ext hb1; have hX_1 := hX.ext hb1; clear q0 q1 q2 q3 ql; have q0 := obj_at hX_1 0 _ rfl; have q1 := obj_at hX_1 1 _ rfl; have q2 := obj_at hX_1 2 _ rfl; have q3 := obj_at hX_1 3 _ rfl; have ql := obj_lt hX_1; have tok1 : True := trivial)
 | (clear tok1; go_at_call 37; refine (wide_any Y rows yc _ hY_1 hr9 h9).mono ?_; rintro e u2 ⟨rfl, hb2⟩; replace hb2 := ex_below hb2; have hz2 := hb2.size; have hB2 := below_step hB1 hb2 (by omega); have hzB2 := hB2.size; have hA_2 := hA_1.ext hb2; have hY_2 := hY_1.ext hb2; have hD_2 := hD_1.ext hb2; have hS_2 := hS_1.ext hb2; have hX_2 := hX_1.ext hb2; clear q0 q1 q2 q3 ql; have q0 := obj_at hX_2 0 _ rfl; have q1 := obj_at hX_2 1 _ rfl; have q2 := obj_at hX_2 2 _ rfl; have q3 := obj_at hX_2 3 _ rfl; have ql := obj_lt hX_2; (try rw [hwd]); have tok2 : True := trivial)
 | (clear tok2; go_at_call 38; refine (HP1.out A c Y rows yc D dc Sa sc _ hA_2 hY_2 HTS.out hD_2 hS_2).mono ?_; rintro e u3 ⟨rfl, hb3⟩; replace hb3 := ex_below hb3; have hz3 := hb3.size; have hB3 := below_step hB2 hb3 (by omega); have hzB3 := hB3.size; have hA_3 := hA_2.ext hb3; have hY_3 := hY_2.ext hb3; have hD_3 := hD_2.ext hb3; have hS_3 := hS_2.ext hb3; have hX_3 := hX_2.ext hb3; clear q0 q1 q2 q3 ql; have q0 := obj_at hX_3 0 _ rfl; have q1 := obj_at hX_3 1 _ rfl; have q2 := obj_at hX_3 2 _ rfl; have q3 := obj_at hX_3 3 _ rfl; have ql := obj_lt hX_3; have tok3 : True := trivial)
 | (clear tok3; go_at_call 39; refine (HP2.out A c Y rows yc D dc Sa sc _ hA_3 hY_3 HTS.out hD_3 hS_3).mono ?_; rintro e u4 ⟨rfl, hb4⟩; replace hb4 := ex_below hb4; have hz4 := hb4.size; have hB4 := below_step hB3 hb4 (by omega); have hzB4 := hB4.size; have hA_4 := hA_3.ext hb4; have hY_4 := hY_3.ext hb4; have hD_4 := hD_3.ext hb4; have hS_4 := hS_3.ext hb4; have hX_4 := hX_3.ext hb4; clear q0 q1 q2 q3 ql; have q0 := obj_at hX_4 0 _ rfl; have q1 := obj_at hX_4 1 _ rfl; have q2 := obj_at hX_4 2 _ rfl; have q3 := obj_at hX_4 3 _ rfl; have ql := obj_lt hX_4; have tok4 : True := trivial)
 | (clear tok4; go_at_call 40; refine ((HK3.out A c Y rows yc D dc _ hA_4 hY_4 HTS.out hD_4).mono fun _ _ h => swapP h).mono ?_; rintro e u5 ⟨s1, U1, uc1, rfl, hU1, hP1, hb5⟩; have hz5 := hb5.size; have hB5 := below_step hB4 hb5 (by omega); have hzB5 := hB5.size; have hA_5 := hA_4.ext hb5; have hY_5 := hY_4.ext hb5; have hD_5 := hD_4.ext hb5; have hS_5 := hS_4.ext hb5; have hX_5 := hX_4.ext hb5; clear q0 q1 q2 q3 ql; have q0 := obj_at hX_5 0 _ rfl; have q1 := obj_at hX_5 1 _ rfl; have q2 := obj_at hX_5 2 _ rfl; have q3 := obj_at hX_5 3 _ rfl; have ql := obj_lt hX_5; obtain ⟨hl1, _, hq1⟩ := hP1; have HS1 := hide (hq1 (by first | rfl | trivial)); clear hq1; have tok5 : True := trivial)
 | (clear tok5; go_at_call 41; refine ((HK4.out A c Y rows yc D dc _ hA_5 hY_5 HTS.out hD_5).mono fun _ _ h => swapP h).mono ?_; rintro e u6 ⟨s2, U2, uc2, rfl, hU2, hP2, hb6⟩; have hz6 := hb6.size; have hB6 := below_step hB5 hb6 (by omega); have hzB6 := hB6.size; have hA_6 := hA_5.ext hb6; have hY_6 := hY_5.ext hb6; have hD_6 := hD_5.ext hb6; have hS_6 := hS_5.ext hb6; have hU1_6 := hU1.ext hb6; have hX_6 := hX_5.ext hb6; clear q0 q1 q2 q3 ql; have q0 := obj_at hX_6 0 _ rfl; have q1 := obj_at hX_6 1 _ rfl; have q2 := obj_at hX_6 2 _ rfl; have q3 := obj_at hX_6 3 _ rfl; have ql := obj_lt hX_6; obtain ⟨hl2, _, hq2⟩ := hP2; have HS2 := hide (hq2 (by first | rfl | trivial)); clear hq2; have tok6 : True := trivial)
 | (clear tok6; go_at_call 42; refine (HK1.out A c Y rows yc D dc _ hA_6 hY_6 HTS.out hD_6).mono ?_; rintro e u7 ⟨rfl, hb7⟩; replace hb7 := ex_below hb7; have hz7 := hb7.size; have hB7 := below_step hB6 hb7 (by omega); have hzB7 := hB7.size; have hA_7 := hA_6.ext hb7; have hY_7 := hY_6.ext hb7; have hD_7 := hD_6.ext hb7; have hS_7 := hS_6.ext hb7; have hU1_7 := hU1_6.ext hb7; have hU2_7 := hU2.ext hb7; have hX_7 := hX_6.ext hb7; clear q0 q1 q2 q3 ql; have q0 := obj_at hX_7 0 _ rfl; have q1 := obj_at hX_7 1 _ rfl; have q2 := obj_at hX_7 2 _ rfl; have q3 := obj_at hX_7 3 _ rfl; have ql := obj_lt hX_7; have tok7 : True := trivial)
 | (clear tok7; go_at_call 43; refine (HK2.out (by first | rfl | trivial) A c Y rows yc D dc _ hA_7 hY_7 HTS.out hD_7).mono ?_; rintro e u8 ⟨rfl, hb8⟩; replace hb8 := ex_below hb8; have hz8 := hb8.size; have hB8 := below_step hB7 hb8 (by omega); have hzB8 := hB8.size; have hA_8 := hA_7.ext hb8; have hY_8 := hY_7.ext hb8; have hD_8 := hD_7.ext hb8; have hS_8 := hS_7.ext hb8; have hU1_8 := hU1_7.ext hb8; have hU2_8 := hU2_7.ext hb8; have hX_8 := hX_7.ext hb8; clear q0 q1 q2 q3 ql; have q0 := obj_at hX_8 0 _ rfl; have q1 := obj_at hX_8 1 _ rfl; have q2 := obj_at hX_8 2 _ rfl; have q3 := obj_at hX_8 3 _ rfl; have ql := obj_lt hX_8; have tok8 : True := trivial)
 | (clear tok8; go_at_call 39; refine (HS1.out A c Y rows yc D dc U1 uc1 _ hA_8 hY_8 HTS.out hD_8 hU1_8).mono ?_; rintro e u9 ⟨rfl, hb9⟩; replace hb9 := ex_below hb9; have hz9 := hb9.size; have hB9 := below_step hB8 hb9 (by omega); have hzB9 := hB9.size; have hA_9 := hA_8.ext hb9; have hY_9 := hY_8.ext hb9; have hD_9 := hD_8.ext hb9; have hS_9 := hS_8.ext hb9; have hU1_9 := hU1_8.ext hb9; have hU2_9 := hU2_8.ext hb9; have hX_9 := hX_8.ext hb9; clear q0 q1 q2 q3 ql; have q0 := obj_at hX_9 0 _ rfl; have q1 := obj_at hX_9 1 _ rfl; have q2 := obj_at hX_9 2 _ rfl; have q3 := obj_at hX_9 3 _ rfl; have ql := obj_lt hX_9; have tok9 : True := trivial)
 | (clear tok9; go_at_call 44; refine (HS2.out A c Y rows yc D dc U2 uc2 _ hA_9 hY_9 HTS.out hD_9 hU2_9).mono ?_; rintro e u10 ⟨rfl, hb10⟩; replace hb10 := ex_below hb10; have hz10 := hb10.size; have hB10 := below_step hB9 hb10 (by omega); have hzB10 := hB10.size; have hA_10 := hA_9.ext hb10; have hY_10 := hY_9.ext hb10; have hD_10 := hD_9.ext hb10; have hS_10 := hS_9.ext hb10; have hU1_10 := hU1_9.ext hb10; have hU2_10 := hU2_9.ext hb10; have hX_10 := hX_9.ext hb10; clear q0 q1 q2 q3 ql; have q0 := obj_at hX_10 0 _ rfl; have q1 := obj_at hX_10 1 _ rfl; have q2 := obj_at hX_10 2 _ rfl; have q3 := obj_at hX_10 3 _ rfl; have ql := obj_lt hX_10; have tok10 : True := trivial)
 | (clear tok10; go_at_call 17; refine (works_any _).mono ?_; rintro e u11 ⟨rfl, hb11⟩; replace hb11 := ex_below hb11; have hz11 := hb11.size; have hB11 := below_step hB10 hb11 (by omega); have hzB11 := hB11.size; have hA_11 := hA_10.ext hb11; have hY_11 := hY_10.ext hb11; have hD_11 := hD_10.ext hb11; have hS_11 := hS_10.ext hb11; have hU1_11 := hU1_10.ext hb11; have hU2_11 := hU2_10.ext hb11; have hX_11 := hX_10.ext hb11; clear q0 q1 q2 q3 ql; have q0 := obj_at hX_11 0 _ rfl; have q1 := obj_at hX_11 1 _ rfl; have q2 := obj_at hX_11 2 _ rfl; have q3 := obj_at hX_11 3 _ rfl; have ql := obj_lt hX_11; have tok11 : True := trivial))
           go_ret
           exact gives_of rfl (below_step hB10 hb11 (by omega))
         · have hfn : (f != 0) = true := by simpa using hf
           go_enter Try.func7, Try.ntmps7
           go_upto_region 1 with fail
           obtain ⟨wa, hwa, hW, hX⟩ := boxed w #[.int .i64 L, .int .i64 n, .slice A K.length c, .int .i64 r] 24
           rw [hwa]
           clear hwa
           replace hA := hA.ext hW
           have q0 := obj_at hX 0 _ rfl
           have q1 := obj_at hX 1 _ rfl
           have q2 := obj_at hX 2 _ rfl
           have q3 := obj_at hX 3 _ rfl
           have ql := obj_lt hX
           have hWs := hW.size
           replace hY := hY.ext hW
           replace hD := hD.ext hW
           replace hS := hS.ext hW
           have tok0 : True := trivial
           go_wp2_with (first
 | (clear tok0; go_at_call 16; refine (HG.out A c _ hA).mono ?_; rintro e u1 ⟨rfl, hb1⟩; replace hb1 := ex_below hb1; have hz1 := hb1.size; have hB1 := below_step hW hb1 (by omega); have hzB1 := hB1.size; have hA_1 := hA.ext hb1; have hY_1 := hY.ext hb1; have hD_1 := hD.ext hb1; have hS_1 := hS.ext hb1; have hX_1 := hX.ext hb1; clear q0 q1 q2 q3 ql; have q0 := obj_at hX_1 0 _ rfl; have q1 := obj_at hX_1 1 _ rfl; have q2 := obj_at hX_1 2 _ rfl; have q3 := obj_at hX_1 3 _ rfl; have ql := obj_lt hX_1; have tok1 : True := trivial)
 | (clear tok1; go_at_call 37; refine (wide_any Y rows yc _ hY_1 hr9 h9).mono ?_; rintro e u2 ⟨rfl, hb2⟩; replace hb2 := ex_below hb2; have hz2 := hb2.size; have hB2 := below_step hB1 hb2 (by omega); have hzB2 := hB2.size; have hA_2 := hA_1.ext hb2; have hY_2 := hY_1.ext hb2; have hD_2 := hD_1.ext hb2; have hS_2 := hS_1.ext hb2; have hX_2 := hX_1.ext hb2; clear q0 q1 q2 q3 ql; have q0 := obj_at hX_2 0 _ rfl; have q1 := obj_at hX_2 1 _ rfl; have q2 := obj_at hX_2 2 _ rfl; have q3 := obj_at hX_2 3 _ rfl; have ql := obj_lt hX_2; (try rw [hwd]); have tok2 : True := trivial)
 | (clear tok2; go_at_call 38; refine (HP1.out A c Y rows yc D dc Sa sc _ hA_2 hY_2 HTS.out hD_2 hS_2).mono ?_; rintro e u3 ⟨rfl, hb3⟩; replace hb3 := ex_below hb3; have hz3 := hb3.size; have hB3 := below_step hB2 hb3 (by omega); have hzB3 := hB3.size; have hA_3 := hA_2.ext hb3; have hY_3 := hY_2.ext hb3; have hD_3 := hD_2.ext hb3; have hS_3 := hS_2.ext hb3; have hX_3 := hX_2.ext hb3; clear q0 q1 q2 q3 ql; have q0 := obj_at hX_3 0 _ rfl; have q1 := obj_at hX_3 1 _ rfl; have q2 := obj_at hX_3 2 _ rfl; have q3 := obj_at hX_3 3 _ rfl; have ql := obj_lt hX_3; have tok3 : True := trivial)
 | (clear tok3; go_at_call 39; refine (HP2.out A c Y rows yc D dc Sa sc _ hA_3 hY_3 HTS.out hD_3 hS_3).mono ?_; rintro e u4 ⟨rfl, hb4⟩; replace hb4 := ex_below hb4; have hz4 := hb4.size; have hB4 := below_step hB3 hb4 (by omega); have hzB4 := hB4.size; have hA_4 := hA_3.ext hb4; have hY_4 := hY_3.ext hb4; have hD_4 := hD_3.ext hb4; have hS_4 := hS_3.ext hb4; have hX_4 := hX_3.ext hb4; clear q0 q1 q2 q3 ql; have q0 := obj_at hX_4 0 _ rfl; have q1 := obj_at hX_4 1 _ rfl; have q2 := obj_at hX_4 2 _ rfl; have q3 := obj_at hX_4 3 _ rfl; have ql := obj_lt hX_4; have tok4 : True := trivial)
 | (clear tok4; go_at_call 40; refine ((HK3.out A c Y rows yc D dc _ hA_4 hY_4 HTS.out hD_4).mono fun _ _ h => swapP h).mono ?_; rintro e u5 ⟨s1, U1, uc1, rfl, hU1, hP1, hb5⟩; have hz5 := hb5.size; have hB5 := below_step hB4 hb5 (by omega); have hzB5 := hB5.size; have hA_5 := hA_4.ext hb5; have hY_5 := hY_4.ext hb5; have hD_5 := hD_4.ext hb5; have hS_5 := hS_4.ext hb5; have hX_5 := hX_4.ext hb5; clear q0 q1 q2 q3 ql; have q0 := obj_at hX_5 0 _ rfl; have q1 := obj_at hX_5 1 _ rfl; have q2 := obj_at hX_5 2 _ rfl; have q3 := obj_at hX_5 3 _ rfl; have ql := obj_lt hX_5; obtain ⟨_, hz1, _⟩ := hP1; obtain rfl := hz1 hf; have tok5 : True := trivial)
 | (clear tok5; go_at_call 41; refine ((HK4.out A c Y rows yc D dc _ hA_5 hY_5 HTS.out hD_5).mono fun _ _ h => swapP h).mono ?_; rintro e u6 ⟨s2, U2, uc2, rfl, hU2, hP2, hb6⟩; have hz6 := hb6.size; have hB6 := below_step hB5 hb6 (by omega); have hzB6 := hB6.size; have hA_6 := hA_5.ext hb6; have hY_6 := hY_5.ext hb6; have hD_6 := hD_5.ext hb6; have hS_6 := hS_5.ext hb6; have hU1_6 := hU1.ext hb6; have hX_6 := hX_5.ext hb6; clear q0 q1 q2 q3 ql; have q0 := obj_at hX_6 0 _ rfl; have q1 := obj_at hX_6 1 _ rfl; have q2 := obj_at hX_6 2 _ rfl; have q3 := obj_at hX_6 3 _ rfl; have ql := obj_lt hX_6; obtain ⟨_, hz2, _⟩ := hP2; obtain rfl := hz2 hf; have tok6 : True := trivial)
 | (clear tok6; go_at_call 42; refine (HK1.out A c Y rows yc D dc _ hA_6 hY_6 HTS.out hD_6).mono ?_; rintro e u7 ⟨rfl, hb7⟩; replace hb7 := ex_below hb7; have hz7 := hb7.size; have hB7 := below_step hB6 hb7 (by omega); have hzB7 := hB7.size; have hA_7 := hA_6.ext hb7; have hY_7 := hY_6.ext hb7; have hD_7 := hD_6.ext hb7; have hS_7 := hS_6.ext hb7; have hU1_7 := hU1_6.ext hb7; have hU2_7 := hU2.ext hb7; have hX_7 := hX_6.ext hb7; clear q0 q1 q2 q3 ql; have q0 := obj_at hX_7 0 _ rfl; have q1 := obj_at hX_7 1 _ rfl; have q2 := obj_at hX_7 2 _ rfl; have q3 := obj_at hX_7 3 _ rfl; have ql := obj_lt hX_7; have tok7 : True := trivial)
 | (clear tok7; go_at_call 17; refine (works_any _).mono ?_; rintro e u8 ⟨rfl, hb8⟩; replace hb8 := ex_below hb8; have hz8 := hb8.size; have hB8 := below_step hB7 hb8 (by omega); have hzB8 := hB8.size; have hA_8 := hA_7.ext hb8; have hY_8 := hY_7.ext hb8; have hD_8 := hD_7.ext hb8; have hS_8 := hS_7.ext hb8; have hU1_8 := hU1_7.ext hb8; have hU2_8 := hU2_7.ext hb8; have hX_8 := hX_7.ext hb8; clear q0 q1 q2 q3 ql; have q0 := obj_at hX_8 0 _ rfl; have q1 := obj_at hX_8 1 _ rfl; have q2 := obj_at hX_8 2 _ rfl; have q3 := obj_at hX_8 3 _ rfl; have ql := obj_lt hX_8; have tok8 : True := trivial))
           go_ret
           exact gives_of rfl (below_step hB7 hb8 (by omega))

end Go.Proofs.Ytgjfejpibielaaa
