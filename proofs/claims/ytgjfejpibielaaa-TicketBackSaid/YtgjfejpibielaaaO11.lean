/- Proved here: the law TicketBack, a part of the proofs about the ticket laws. Conditions: those that each theorem names, no others. -/
import Derived.Test.YtgjfejpibielaaaO10
import Derived.WalkKit
import Derived.WalkSpells
import Derived.WalkLawsBesides
import Derived.Below
import Derived.Deep.QuietTactic
import Derived.BigQuiet
import Derived.Deep.Light
import Derived.Test.YtgjfejpibielaaaO4
import Derived.Deep.RegionHeld3
set_option linter.unusedSimpArgs false
set_option linter.unusedVariables false
namespace Go.Proofs.Ytgjfejpibielaaa
open Go.RowKit Go.Maps Go.Shelf
attribute [local go_sem] Oper.semAt_some World.cell?_setCell_far
theorem box4 {W : World} {B : Nat} {t : TypeId} {x0 x1 x2 x3 : Value} (h : BlkAt W B #[x0, x1, x2, x3] t) : W.cell? ⟨B, 0, none⟩ = some x0 ∧ W.cell? ⟨B, 1, none⟩ = some x1 ∧ W.cell? ⟨B, 2, none⟩ = some x2 ∧ W.cell? ⟨B, 3, none⟩ = some x3 ∧ B < W.heap.size :=
 ⟨obj_at h 0 _ rfl, obj_at h 1 _ rfl, obj_at h 2 _ rfl, obj_at h 3 _ rfl, obj_lt h⟩
set_option maxRecDepth 100000 in
set_option maxHeartbeats 8000000 in
theorem back_law (L n r : Int) (A : Option Addr) (K : List Int) (c : Nat) (num : Nat) (B : Option Addr) (bs : List Nat) (bc : Nat) (w : World) (hA : I64 w A K) (hBy : U8 w B bs) (hl9 : K.length ≤ 9223372036854775807) (hb9 : bs.length ≤ 9223372036854775807) (hnm : num < 65536) : Calls Try.prog 9 #[.agg #[.int .i64 L, .int .i64 n, .slice A K.length c, .int .i64 r], .int .u16 (num : Nat), .slice B bs.length bc] w (Gives w (.bool true)) := by
 obtain ⟨b, hb, hF⟩ := fine_any L n r K hl9
 have HF := hide hF
 clear hF
 cases b with
 | false =>
   clear hb
   go_enter Try.func9, Try.ntmps9
   go_upto_region 1 with fail
   obtain ⟨wa, hwa, hW, hX⟩ := boxed w #[.int .i64 L, .int .i64 n, .slice A K.length c, .int .i64 r] 24
   rw [hwa]
   clear hwa
   replace hA := hA.ext hW
   have q0 := obj_at hX 0 _ rfl
   have q1 := obj_at hX 1 _ rfl
   have q2 := obj_at hX 2 _ rfl
   have q3 := obj_at hX 3 _ rfl
   have ql := obj_lt hX
   have hWs := hW.size
   have tok0 : True := trivial
   go_wp2_with (first
 | (clear tok0; go_at_call 45; refine (HF.out A c _ hA).mono ?_; rintro e u1 ⟨rfl, hb1⟩; replace hb1 := ex_below hb1; have hB1 := below_step hW hb1 hW.size; have hA_1 := hA.ext hb1; have hX_1 := hX.ext hb1; clear q0 q1 q2 q3 ql; obtain ⟨q0, q1, q2, q3, ql⟩ := box4 hX_1; have tok1 : True := trivial)
 | (clear tok1; go_at_call 17; refine (works_any _).mono ?_; rintro e u2 ⟨rfl, hb2⟩; replace hb2 := ex_below hb2; have hB2 := below_step hB1 hb2 hB1.size; have hA_2 := hA_1.ext hb2; have hX_2 := hX_1.ext hb2; clear q0 q1 q2 q3 ql; obtain ⟨q0, q1, q2, q3, ql⟩ := box4 hX_2; have tok2 : True := trivial))
   go_ret
   exact gives_of rfl hB2
 | true =>
   obtain ⟨l, rest, k, rfl, rfl, rfl, rfl, hd, _⟩ := hb rfl
   clear hb
   rw [zs_len] at HF hl9 ⊢
   by_cases h20 : 20 < bs.length
   · have h20i : (20 : Int) < (bs.length : Int) := by omega
     clear hd
     go_enter Try.func9, Try.ntmps9
     go_upto_region 1 with fail
     obtain ⟨wa, hwa, hW, hX⟩ := boxed w #[.int .i64 (l : Nat), .int .i64 (k.length : Nat), .slice A k.length c, .int .i64 (rest : Nat)] 24
     rw [hwa]
     clear hwa
     replace hA := hA.ext hW
     have q0 := obj_at hX 0 _ rfl
     have q1 := obj_at hX 1 _ rfl
     have q2 := obj_at hX 2 _ rfl
     have q3 := obj_at hX 3 _ rfl
     have ql := obj_lt hX
     have hWs := hW.size
     have tok0 : True := trivial
     go_wp2_with (first
 | (clear tok0; go_at_call 45; refine (HF.out A c _ hA).mono ?_; rintro e u1 ⟨rfl, hb1⟩; replace hb1 := ex_below hb1; have hB1 := below_step hW hb1 hW.size; have hA_1 := hA.ext hb1; have hX_1 := hX.ext hb1; clear q0 q1 q2 q3 ql; obtain ⟨q0, q1, q2, q3, ql⟩ := box4 hX_1; have tok1 : True := trivial)
 | (clear tok1; go_at_call 17; refine (works_any _).mono ?_; rintro e u2 ⟨rfl, hb2⟩; replace hb2 := ex_below hb2; have hB2 := below_step hB1 hb2 hB1.size; have hA_2 := hA_1.ext hb2; have hX_2 := hX_1.ext hb2; clear q0 q1 q2 q3 ql; obtain ⟨q0, q1, q2, q3, ql⟩ := box4 hX_2; have tok2 : True := trivial))
     go_ret
     exact gives_of rfl hB2
   · have h20i : ¬ ((20 : Int) < (bs.length : Int)) := by omega
     have hl2 := hd.1
     have hl6 := hd.2.1
     have hk2 := hd.2.2.1
     have hk8 := hd.2.2.2.1
     have HN := hide (fun w' (h : I64 w' A (zs k)) => count_any l rest A k c w' hd h)
     have HCN := hide (fun w' (h : I64 w' A (zs k)) => Count_ok l rest A k c w' hd h)
     rw [cnt_codes] at HCN
     have HWD := hide (fun w' (h : I64 w' A (zs k)) (hU : U8 w' B bs) => word_any l rest A k c B bs bc w' hd h hU)
     have hwl := wordL_len l k.length bs
     have hwx := wordL_in hl2 k.length bs
     have HNU := hide (fun w' (h : I64 w' A (zs k)) => Number_ok l rest A k c (strW (wordL l k.length bs)) w' hd h)
     have hnum := num_at2 (L := l) (rest := rest) hl6 hwl hwx
     have HCO := hide (fun w' (h : I64 w' A (zs k)) => Code_ok l rest A k c ((Tt.codes l rest k).length : Nat) w' hd h)
     rw [code_over] at HCO
     have hcnt : (Tt.codes l rest k).length ≤ 1679616 := by
      have h3 := Tt.cnt_small (L := l) (rest := rest) (ps := k.zip (Tt.fulls l k.length)) (la := -1) (s := 0) hl6 (by rw [List.length_zip]; omega)
      rwa [cnt_codes] at h3
     have HCI := hide (fun i (hi : i < (Tt.codes l rest k).length) w' (h : I64 w' A (zs k)) => (show Calls Try.prog 20 #[.agg #[.int .i64 (l : Nat), .int .i64 (k.length : Nat), .slice A k.length c, .int .i64 (rest : Nat)], .int .i64 (i : Nat)] w' (Gives w' (.tuple #[.string (strW (Tt.codes l rest k)[i]), .int .i64 0])) by
      have h3 := Code_ok l rest A k c (i : Nat) w' hd h
      rwa [code_at l rest k hi] at h3))
     have HNI := hide (fun i (hi : i < (Tt.codes l rest k).length) w' (h : I64 w' A (zs k)) => (show Calls Try.prog 22 #[.agg #[.int .i64 (l : Nat), .int .i64 (k.length : Nat), .slice A k.length c, .int .i64 (rest : Nat)], .string (strW (Tt.codes l rest k)[i])] w' (Gives w' (.tuple #[.int .i64 (i : Nat), .int .i64 0])) by
      have h3 := Number_ok l rest A k c (strW (Tt.codes l rest k)[i]) w' hd h
      rwa [num_code hl6 hi] at h3))
     have HWI := hide (fun i (hi : i < (Tt.codes l rest k).length) w' (h : I64 w' A (zs k)) => (show Calls Try.prog 50 #[.agg #[.int .i64 (l : Nat), .int .i64 (k.length : Nat), .slice A k.length c, .int .i64 (rest : Nat)], .string (strW (Tt.codes l rest k)[i])] w' (Gives w' (.bool true)) by
      obtain ⟨x1, x2, x3⟩ := codes_sum (List.getElem_mem hi)
      have h3 := rIsWord_any l rest A k c (strW (Tt.codes l rest k)[i]) w' hd h (by rw [strW_size, x1]; omega)
      rwa [isW_strW x1 x2 hl6] at h3))
     have HKI := hide (fun i (hi : i < (Tt.codes l rest k).length) w' (h : I64 w' A (zs k)) => (show Calls Try.prog 51 #[.agg #[.int .i64 (l : Nat), .int .i64 (k.length : Nat), .slice A k.length c, .int .i64 (rest : Nat)], .string (strW (Tt.codes l rest k)[i])] w' (Gives w' (.bool true)) by
      obtain ⟨x1, x2, x3⟩ := codes_sum (List.getElem_mem hi)
      have h3 := rChecks_any l rest A k c (Tt.codes l rest k)[i] w' hd h x1 x2
      rwa [decide_eq_true x3] at h3))
     have HLS := hide (fun i (h1 : i < (Tt.codes l rest k).length) (hi : i + 1 < (Tt.codes l rest k).length) => (show Op.bytesLess (strW ((Tt.codes l rest k)[i]'h1)).toList (strW ((Tt.codes l rest k)[i + 1]'hi)).toList = true by
      obtain ⟨x1, x2, x3⟩ := codes_sum (List.getElem_mem h1)
      obtain ⟨y1, y2, y3⟩ := codes_sum (List.getElem_mem hi)
      rw [less_strW _ _ (fun x hx => by have := x2 x hx; omega) (fun x hx => by have := y2 x hx; omega)]
      exact (Tt.sorted_lt (Tt.codes_sorted l rest k) h1 hi).2 (by omega)))
     clear hd hwx hwl
     generalize wordL l k.length bs = W at *
     have h1680 : Hid ((Tt.codes l rest k).length ≤ 1679616) := hide hcnt
     clear hcnt
     obtain ⟨C, hC⟩ : ∃ v, Tt.codes l rest k = v := ⟨_, rfl⟩
     rw [hC] at HCN HN HCO HCI HNI HWI HKI HLS h1680 hnum
     clear hC
     obtain ⟨N, hN⟩ : ∃ v, C.length = v := ⟨_, rfl⟩
     rw [hN] at HCN HN HCO h1680
     have hN16 : N ≤ 1679616 := h1680.out
     clear h1680
     rcases hnum with ⟨i, hi, e, hv⟩ | ⟨hnm, ee, hee, hv⟩
     · rw [hv] at HNU
       have HC1 := hide (HCI.out i hi)
       rw [e] at HC1
       have hiN : i < N := by omega
       have hi1 : ¬ ((i : Int) < 0) := by omega
       have hi2 : ¬ ((N : Int) ≤ (i : Int)) := by omega
       have hN0 : ¬ (N = 0) := by omega
       have hN0i : ¬ ((N : Int) = 0) := by omega
       have hN0b : ((N : Int) == 0) = false := by simp; omega
       clear e hi hv
       have hj := Nat.mod_lt num (show N > 0 by omega)
       have hrem := rem_nat num N
       obtain ⟨j, hje⟩ : ∃ j, num % N = j := ⟨_, rfl⟩
       rw [hje] at hj hrem
       clear hje
       have HCJ := hide (HCI.out j (by omega))
       have HNJ := hide (HNI.out j (by omega))
       have HIW := hide (HWI.out j (by omega))
       have HCK := hide (HKI.out j (by omega))
       by_cases hjn : j + 1 = N
       · have hjni : (j : Int) + 1 = (N : Int) := by omega
         generalize C[j] = cj at *
         clear HCI HNI HWI HKI HLS hN
         go_enter Try.func9, Try.ntmps9
         go_upto_region 1 with fail
         obtain ⟨wa, hwa, hW, hX⟩ := boxed w #[.int .i64 (l : Nat), .int .i64 (k.length : Nat), .slice A k.length c, .int .i64 (rest : Nat)] 24
         rw [hwa]
         clear hwa
         replace hA := hA.ext hW
         have q0 := obj_at hX 0 _ rfl
         have q1 := obj_at hX 1 _ rfl
         have q2 := obj_at hX 2 _ rfl
         have q3 := obj_at hX 3 _ rfl
         have ql := obj_lt hX
         have hWs := hW.size
         have hU := hBy.ext hW
         have tok0 : True := trivial
         go_wp2_with (first
 | (clear tok0; go_at_call 45; refine (HF.out A c _ hA).mono ?_; rintro e u1 ⟨rfl, hb1⟩; replace hb1 := ex_below hb1; have hB1 := below_step hW hb1 hW.size; have hA_1 := hA.ext hb1; have hU_1 := hU.ext hb1; have hX_1 := hX.ext hb1; clear q0 q1 q2 q3 ql; obtain ⟨q0, q1, q2, q3, ql⟩ := box4 hX_1; have tok1 : True := trivial)
 | (clear tok1; go_at_call 18; refine (HCN.out _ hA_1).mono ?_; rintro e u2 ⟨rfl, hb2⟩; replace hb2 := ex_below hb2; have hB2 := below_step hB1 hb2 hB1.size; have hA_2 := hA_1.ext hb2; have hU_2 := hU_1.ext hb2; have hX_2 := hX_1.ext hb2; clear q0 q1 q2 q3 ql; obtain ⟨q0, q1, q2, q3, ql⟩ := box4 hX_2; have tok2 : True := trivial)
 | (clear tok2; go_at_call 47; refine (HN.out _ hA_2).mono ?_; rintro e u3 ⟨rfl, hb3⟩; replace hb3 := ex_below hb3; have hB3 := below_step hB2 hb3 hB2.size; have hA_3 := hA_2.ext hb3; have hU_3 := hU_2.ext hb3; have hX_3 := hX_2.ext hb3; clear q0 q1 q2 q3 ql; obtain ⟨q0, q1, q2, q3, ql⟩ := box4 hX_3; have tok3 : True := trivial)
 | (clear tok3; go_at_call 49; refine (HWD.out _ hA_3 hU_3).mono ?_; rintro e u4 ⟨rfl, hb4⟩; replace hb4 := ex_below hb4; have hB4 := below_step hB3 hb4 hB3.size; have hA_4 := hA_3.ext hb4; have hU_4 := hU_3.ext hb4; have hX_4 := hX_3.ext hb4; clear q0 q1 q2 q3 ql; obtain ⟨q0, q1, q2, q3, ql⟩ := box4 hX_4; have tok4 : True := trivial)
 | (clear tok4; go_at_call 22; refine (HNU.out _ hA_4).mono ?_; rintro e u5 ⟨rfl, hb5⟩; replace hb5 := ex_below hb5; have hB5 := below_step hB4 hb5 hB4.size; have hA_5 := hA_4.ext hb5; have hU_5 := hU_4.ext hb5; have hX_5 := hX_4.ext hb5; clear q0 q1 q2 q3 ql; obtain ⟨q0, q1, q2, q3, ql⟩ := box4 hX_5; have tok5 : True := trivial)
 | (clear tok5; go_at_call 20; refine (HC1.out _ hA_5).mono ?_; rintro e u6 ⟨rfl, hb6⟩; replace hb6 := ex_below hb6; have hB6 := below_step hB5 hb6 hB5.size; have hA_6 := hA_5.ext hb6; have hU_6 := hU_5.ext hb6; have hX_6 := hX_5.ext hb6; clear q0 q1 q2 q3 ql; obtain ⟨q0, q1, q2, q3, ql⟩ := box4 hX_6; have tok6 : True := trivial)
 | (clear tok6; go_at_call 20; refine (HCO.out _ hA_6).mono ?_; rintro e u7 ⟨rfl, hb7⟩; replace hb7 := ex_below hb7; have hB7 := below_step hB6 hb7 hB6.size; have hA_7 := hA_6.ext hb7; have hU_7 := hU_6.ext hb7; have hX_7 := hX_6.ext hb7; clear q0 q1 q2 q3 ql; obtain ⟨q0, q1, q2, q3, ql⟩ := box4 hX_7; have tok7 : True := trivial)
 | (clear tok7; go_at_call 20; refine (HCJ.out _ hA_7).mono ?_; rintro e u8 ⟨rfl, hb8⟩; replace hb8 := ex_below hb8; have hB8 := below_step hB7 hb8 hB7.size; have hA_8 := hA_7.ext hb8; have hU_8 := hU_7.ext hb8; have hX_8 := hX_7.ext hb8; clear q0 q1 q2 q3 ql; obtain ⟨q0, q1, q2, q3, ql⟩ := box4 hX_8; have tok8 : True := trivial)
 | (clear tok8; go_at_call 22; refine (HNJ.out _ hA_8).mono ?_; rintro e u9 ⟨rfl, hb9⟩; replace hb9 := ex_below hb9; have hB9 := below_step hB8 hb9 hB8.size; have hA_9 := hA_8.ext hb9; have hU_9 := hU_8.ext hb9; have hX_9 := hX_8.ext hb9; clear q0 q1 q2 q3 ql; obtain ⟨q0, q1, q2, q3, ql⟩ := box4 hX_9; have tok9 : True := trivial)
 | (clear tok9; go_at_call 50; refine (HIW.out _ hA_9).mono ?_; rintro e u10 ⟨rfl, hb10⟩; replace hb10 := ex_below hb10; have hB10 := below_step hB9 hb10 hB9.size; have hA_10 := hA_9.ext hb10; have hU_10 := hU_9.ext hb10; have hX_10 := hX_9.ext hb10; clear q0 q1 q2 q3 ql; obtain ⟨q0, q1, q2, q3, ql⟩ := box4 hX_10; have tok10 : True := trivial)
 | (clear tok10; go_at_call 51; refine (HCK.out _ hA_10).mono ?_; rintro e u11 ⟨rfl, hb11⟩; replace hb11 := ex_below hb11; have hB11 := below_step hB10 hb11 hB10.size; have hA_11 := hA_10.ext hb11; have hU_11 := hU_10.ext hb11; have hX_11 := hX_10.ext hb11; clear q0 q1 q2 q3 ql; obtain ⟨q0, q1, q2, q3, ql⟩ := box4 hX_11; have tok11 : True := trivial)
 | (clear tok11; go_at_call 17; refine (works_any _).mono ?_; rintro e u12 ⟨rfl, hb12⟩; replace hb12 := ex_below hb12; have hB12 := below_step hB11 hb12 hB11.size; have hA_12 := hA_11.ext hb12; have hU_12 := hU_11.ext hb12; have hX_12 := hX_11.ext hb12; clear q0 q1 q2 q3 ql; obtain ⟨q0, q1, q2, q3, ql⟩ := box4 hX_12; have tok12 : True := trivial))
         go_ret
         exact gives_of rfl hB12
       · have hjni : ¬ ((j : Int) + 1 = (N : Int)) := by omega
         have hjnb : ((j : Int) + 1 == (N : Int)) = false := by simpa using hjni
         have HCX := hide (HCI.out (j + 1) (by omega))
         rw [show ((j + 1 : Nat) : Int) = (j : Int) + 1 from rfl] at HCX
         have hls := HLS.out j (by omega) (by omega)
         generalize C[j] = cj at *
         generalize C[j + 1] = cn at *
         clear HCI HNI HWI HKI HLS hN
         go_enter Try.func9, Try.ntmps9
         go_upto_region 1 with fail
         obtain ⟨wa, hwa, hW, hX⟩ := boxed w #[.int .i64 (l : Nat), .int .i64 (k.length : Nat), .slice A k.length c, .int .i64 (rest : Nat)] 24
         rw [hwa]
         clear hwa
         replace hA := hA.ext hW
         have q0 := obj_at hX 0 _ rfl
         have q1 := obj_at hX 1 _ rfl
         have q2 := obj_at hX 2 _ rfl
         have q3 := obj_at hX 3 _ rfl
         have ql := obj_lt hX
         have hWs := hW.size
         have hU := hBy.ext hW
         have tok0 : True := trivial
         go_wp2_with (first
 | (clear tok0; go_at_call 45; refine (HF.out A c _ hA).mono ?_; rintro e u1 ⟨rfl, hb1⟩; replace hb1 := ex_below hb1; have hB1 := below_step hW hb1 hW.size; have hA_1 := hA.ext hb1; have hU_1 := hU.ext hb1; have hX_1 := hX.ext hb1; clear q0 q1 q2 q3 ql; obtain ⟨q0, q1, q2, q3, ql⟩ := box4 hX_1; have tok1 : True := trivial)
 | (clear tok1; go_at_call 18; refine (HCN.out _ hA_1).mono ?_; rintro e u2 ⟨rfl, hb2⟩; replace hb2 := ex_below hb2; have hB2 := below_step hB1 hb2 hB1.size; have hA_2 := hA_1.ext hb2; have hU_2 := hU_1.ext hb2; have hX_2 := hX_1.ext hb2; clear q0 q1 q2 q3 ql; obtain ⟨q0, q1, q2, q3, ql⟩ := box4 hX_2; have tok2 : True := trivial)
 | (clear tok2; go_at_call 47; refine (HN.out _ hA_2).mono ?_; rintro e u3 ⟨rfl, hb3⟩; replace hb3 := ex_below hb3; have hB3 := below_step hB2 hb3 hB2.size; have hA_3 := hA_2.ext hb3; have hU_3 := hU_2.ext hb3; have hX_3 := hX_2.ext hb3; clear q0 q1 q2 q3 ql; obtain ⟨q0, q1, q2, q3, ql⟩ := box4 hX_3; have tok3 : True := trivial)
 | (clear tok3; go_at_call 49; refine (HWD.out _ hA_3 hU_3).mono ?_; rintro e u4 ⟨rfl, hb4⟩; replace hb4 := ex_below hb4; have hB4 := below_step hB3 hb4 hB3.size; have hA_4 := hA_3.ext hb4; have hU_4 := hU_3.ext hb4; have hX_4 := hX_3.ext hb4; clear q0 q1 q2 q3 ql; obtain ⟨q0, q1, q2, q3, ql⟩ := box4 hX_4; have tok4 : True := trivial)
 | (clear tok4; go_at_call 22; refine (HNU.out _ hA_4).mono ?_; rintro e u5 ⟨rfl, hb5⟩; replace hb5 := ex_below hb5; have hB5 := below_step hB4 hb5 hB4.size; have hA_5 := hA_4.ext hb5; have hU_5 := hU_4.ext hb5; have hX_5 := hX_4.ext hb5; clear q0 q1 q2 q3 ql; obtain ⟨q0, q1, q2, q3, ql⟩ := box4 hX_5; have tok5 : True := trivial)
 | (clear tok5; go_at_call 20; refine (HC1.out _ hA_5).mono ?_; rintro e u6 ⟨rfl, hb6⟩; replace hb6 := ex_below hb6; have hB6 := below_step hB5 hb6 hB5.size; have hA_6 := hA_5.ext hb6; have hU_6 := hU_5.ext hb6; have hX_6 := hX_5.ext hb6; clear q0 q1 q2 q3 ql; obtain ⟨q0, q1, q2, q3, ql⟩ := box4 hX_6; have tok6 : True := trivial)
 | (clear tok6; go_at_call 20; refine (HCO.out _ hA_6).mono ?_; rintro e u7 ⟨rfl, hb7⟩; replace hb7 := ex_below hb7; have hB7 := below_step hB6 hb7 hB6.size; have hA_7 := hA_6.ext hb7; have hU_7 := hU_6.ext hb7; have hX_7 := hX_6.ext hb7; clear q0 q1 q2 q3 ql; obtain ⟨q0, q1, q2, q3, ql⟩ := box4 hX_7; have tok7 : True := trivial)
 | (clear tok7; go_at_call 20; refine (HCJ.out _ hA_7).mono ?_; rintro e u8 ⟨rfl, hb8⟩; replace hb8 := ex_below hb8; have hB8 := below_step hB7 hb8 hB7.size; have hA_8 := hA_7.ext hb8; have hU_8 := hU_7.ext hb8; have hX_8 := hX_7.ext hb8; clear q0 q1 q2 q3 ql; obtain ⟨q0, q1, q2, q3, ql⟩ := box4 hX_8; have tok8 : True := trivial)
 | (clear tok8; go_at_call 22; refine (HNJ.out _ hA_8).mono ?_; rintro e u9 ⟨rfl, hb9⟩; replace hb9 := ex_below hb9; have hB9 := below_step hB8 hb9 hB8.size; have hA_9 := hA_8.ext hb9; have hU_9 := hU_8.ext hb9; have hX_9 := hX_8.ext hb9; clear q0 q1 q2 q3 ql; obtain ⟨q0, q1, q2, q3, ql⟩ := box4 hX_9; have tok9 : True := trivial)
 | (clear tok9; go_at_call 50; refine (HIW.out _ hA_9).mono ?_; rintro e u10 ⟨rfl, hb10⟩; replace hb10 := ex_below hb10; have hB10 := below_step hB9 hb10 hB9.size; have hA_10 := hA_9.ext hb10; have hU_10 := hU_9.ext hb10; have hX_10 := hX_9.ext hb10; clear q0 q1 q2 q3 ql; obtain ⟨q0, q1, q2, q3, ql⟩ := box4 hX_10; have tok10 : True := trivial)
 | (clear tok10; go_at_call 51; refine (HCK.out _ hA_10).mono ?_; rintro e u11 ⟨rfl, hb11⟩; replace hb11 := ex_below hb11; have hB11 := below_step hB10 hb11 hB10.size; have hA_11 := hA_10.ext hb11; have hU_11 := hU_10.ext hb11; have hX_11 := hX_10.ext hb11; clear q0 q1 q2 q3 ql; obtain ⟨q0, q1, q2, q3, ql⟩ := box4 hX_11; have tok11 : True := trivial)
 | (clear tok11; go_at_call 20; refine (HCX.out _ hA_11).mono ?_; rintro e u12 ⟨rfl, hb12⟩; replace hb12 := ex_below hb12; have hB12 := below_step hB11 hb12 hB11.size; have hA_12 := hA_11.ext hb12; have hU_12 := hU_11.ext hb12; have hX_12 := hX_11.ext hb12; clear q0 q1 q2 q3 ql; obtain ⟨q0, q1, q2, q3, ql⟩ := box4 hX_12; have tok12 : True := trivial)
 | (clear tok12; go_at_call 17; refine (works_any _).mono ?_; rintro e u13 ⟨rfl, hb13⟩; replace hb13 := ex_below hb13; have hB13 := below_step hB12 hb13 hB12.size; have hA_13 := hA_12.ext hb13; have hU_13 := hU_12.ext hb13; have hX_13 := hX_12.ext hb13; clear q0 q1 q2 q3 ql; obtain ⟨q0, q1, q2, q3, ql⟩ := box4 hX_13; have tok13 : True := trivial))
         go_ret
         exact gives_of rfl hB13
     · rw [hv] at HNU
       clear hv hnm
       by_cases hN0 : N = 0
       · subst hN0
         clear HCI HNI HWI HKI HLS hN
         have hen : (ee != 0) = true := by rcases hee with rfl | rfl <;> rfl
         rcases hee with rfl | rfl
         · clear hen
           go_enter Try.func9, Try.ntmps9
           go_upto_region 1 with fail
           obtain ⟨wa, hwa, hW, hX⟩ := boxed w #[.int .i64 (l : Nat), .int .i64 (k.length : Nat), .slice A k.length c, .int .i64 (rest : Nat)] 24
           rw [hwa]
           clear hwa
           replace hA := hA.ext hW
           have q0 := obj_at hX 0 _ rfl
           have q1 := obj_at hX 1 _ rfl
           have q2 := obj_at hX 2 _ rfl
           have q3 := obj_at hX 3 _ rfl
           have ql := obj_lt hX
           have hWs := hW.size
           have hU := hBy.ext hW
           have tok0 : True := trivial
           go_wp2_with (first
 | (clear tok0; go_at_call 45; refine (HF.out A c _ hA).mono ?_; rintro e u1 ⟨rfl, hb1⟩; replace hb1 := ex_below hb1; have hB1 := below_step hW hb1 hW.size; have hA_1 := hA.ext hb1; have hU_1 := hU.ext hb1; have hX_1 := hX.ext hb1; clear q0 q1 q2 q3 ql; obtain ⟨q0, q1, q2, q3, ql⟩ := box4 hX_1; have tok1 : True := trivial)
 | (clear tok1; go_at_call 18; refine (HCN.out _ hA_1).mono ?_; rintro e u2 ⟨rfl, hb2⟩; replace hb2 := ex_below hb2; have hB2 := below_step hB1 hb2 hB1.size; have hA_2 := hA_1.ext hb2; have hU_2 := hU_1.ext hb2; have hX_2 := hX_1.ext hb2; clear q0 q1 q2 q3 ql; obtain ⟨q0, q1, q2, q3, ql⟩ := box4 hX_2; have tok2 : True := trivial)
 | (clear tok2; go_at_call 47; refine (HN.out _ hA_2).mono ?_; rintro e u3 ⟨rfl, hb3⟩; replace hb3 := ex_below hb3; have hB3 := below_step hB2 hb3 hB2.size; have hA_3 := hA_2.ext hb3; have hU_3 := hU_2.ext hb3; have hX_3 := hX_2.ext hb3; clear q0 q1 q2 q3 ql; obtain ⟨q0, q1, q2, q3, ql⟩ := box4 hX_3; have tok3 : True := trivial)
 | (clear tok3; go_at_call 49; refine (HWD.out _ hA_3 hU_3).mono ?_; rintro e u4 ⟨rfl, hb4⟩; replace hb4 := ex_below hb4; have hB4 := below_step hB3 hb4 hB3.size; have hA_4 := hA_3.ext hb4; have hU_4 := hU_3.ext hb4; have hX_4 := hX_3.ext hb4; clear q0 q1 q2 q3 ql; obtain ⟨q0, q1, q2, q3, ql⟩ := box4 hX_4; have tok4 : True := trivial)
 | (clear tok4; go_at_call 22; refine (HNU.out _ hA_4).mono ?_; rintro e u5 ⟨rfl, hb5⟩; replace hb5 := ex_below hb5; have hB5 := below_step hB4 hb5 hB4.size; have hA_5 := hA_4.ext hb5; have hU_5 := hU_4.ext hb5; have hX_5 := hX_4.ext hb5; clear q0 q1 q2 q3 ql; obtain ⟨q0, q1, q2, q3, ql⟩ := box4 hX_5; have tok5 : True := trivial)
 | (clear tok5; go_at_call 20; refine (HCO.out _ hA_5).mono ?_; rintro e u6 ⟨rfl, hb6⟩; replace hb6 := ex_below hb6; have hB6 := below_step hB5 hb6 hB5.size; have hA_6 := hA_5.ext hb6; have hU_6 := hU_5.ext hb6; have hX_6 := hX_5.ext hb6; clear q0 q1 q2 q3 ql; obtain ⟨q0, q1, q2, q3, ql⟩ := box4 hX_6; have tok6 : True := trivial)
 | (clear tok6; go_at_call 17; refine (works_any _).mono ?_; rintro e u7 ⟨rfl, hb7⟩; replace hb7 := ex_below hb7; have hB7 := below_step hB6 hb7 hB6.size; have hA_7 := hA_6.ext hb7; have hU_7 := hU_6.ext hb7; have hX_7 := hX_6.ext hb7; clear q0 q1 q2 q3 ql; obtain ⟨q0, q1, q2, q3, ql⟩ := box4 hX_7; have tok7 : True := trivial))
           go_ret
           exact gives_of rfl hB7
         · clear hen
           go_enter Try.func9, Try.ntmps9
           go_upto_region 1 with fail
           obtain ⟨wa, hwa, hW, hX⟩ := boxed w #[.int .i64 (l : Nat), .int .i64 (k.length : Nat), .slice A k.length c, .int .i64 (rest : Nat)] 24
           rw [hwa]
           clear hwa
           replace hA := hA.ext hW
           have q0 := obj_at hX 0 _ rfl
           have q1 := obj_at hX 1 _ rfl
           have q2 := obj_at hX 2 _ rfl
           have q3 := obj_at hX 3 _ rfl
           have ql := obj_lt hX
           have hWs := hW.size
           have hU := hBy.ext hW
           have tok0 : True := trivial
           go_wp2_with (first
 | (clear tok0; go_at_call 45; refine (HF.out A c _ hA).mono ?_; rintro e u1 ⟨rfl, hb1⟩; replace hb1 := ex_below hb1; have hB1 := below_step hW hb1 hW.size; have hA_1 := hA.ext hb1; have hU_1 := hU.ext hb1; have hX_1 := hX.ext hb1; clear q0 q1 q2 q3 ql; obtain ⟨q0, q1, q2, q3, ql⟩ := box4 hX_1; have tok1 : True := trivial)
 | (clear tok1; go_at_call 18; refine (HCN.out _ hA_1).mono ?_; rintro e u2 ⟨rfl, hb2⟩; replace hb2 := ex_below hb2; have hB2 := below_step hB1 hb2 hB1.size; have hA_2 := hA_1.ext hb2; have hU_2 := hU_1.ext hb2; have hX_2 := hX_1.ext hb2; clear q0 q1 q2 q3 ql; obtain ⟨q0, q1, q2, q3, ql⟩ := box4 hX_2; have tok2 : True := trivial)
 | (clear tok2; go_at_call 47; refine (HN.out _ hA_2).mono ?_; rintro e u3 ⟨rfl, hb3⟩; replace hb3 := ex_below hb3; have hB3 := below_step hB2 hb3 hB2.size; have hA_3 := hA_2.ext hb3; have hU_3 := hU_2.ext hb3; have hX_3 := hX_2.ext hb3; clear q0 q1 q2 q3 ql; obtain ⟨q0, q1, q2, q3, ql⟩ := box4 hX_3; have tok3 : True := trivial)
 | (clear tok3; go_at_call 49; refine (HWD.out _ hA_3 hU_3).mono ?_; rintro e u4 ⟨rfl, hb4⟩; replace hb4 := ex_below hb4; have hB4 := below_step hB3 hb4 hB3.size; have hA_4 := hA_3.ext hb4; have hU_4 := hU_3.ext hb4; have hX_4 := hX_3.ext hb4; clear q0 q1 q2 q3 ql; obtain ⟨q0, q1, q2, q3, ql⟩ := box4 hX_4; have tok4 : True := trivial)
 | (clear tok4; go_at_call 22; refine (HNU.out _ hA_4).mono ?_; rintro e u5 ⟨rfl, hb5⟩; replace hb5 := ex_below hb5; have hB5 := below_step hB4 hb5 hB4.size; have hA_5 := hA_4.ext hb5; have hU_5 := hU_4.ext hb5; have hX_5 := hX_4.ext hb5; clear q0 q1 q2 q3 ql; obtain ⟨q0, q1, q2, q3, ql⟩ := box4 hX_5; have tok5 : True := trivial)
 | (clear tok5; go_at_call 20; refine (HCO.out _ hA_5).mono ?_; rintro e u6 ⟨rfl, hb6⟩; replace hb6 := ex_below hb6; have hB6 := below_step hB5 hb6 hB5.size; have hA_6 := hA_5.ext hb6; have hU_6 := hU_5.ext hb6; have hX_6 := hX_5.ext hb6; clear q0 q1 q2 q3 ql; obtain ⟨q0, q1, q2, q3, ql⟩ := box4 hX_6; have tok6 : True := trivial)
 | (clear tok6; go_at_call 17; refine (works_any _).mono ?_; rintro e u7 ⟨rfl, hb7⟩; replace hb7 := ex_below hb7; have hB7 := below_step hB6 hb7 hB6.size; have hA_7 := hA_6.ext hb7; have hU_7 := hU_6.ext hb7; have hX_7 := hX_6.ext hb7; clear q0 q1 q2 q3 ql; obtain ⟨q0, q1, q2, q3, ql⟩ := box4 hX_7; have tok7 : True := trivial))
           go_ret
           exact gives_of rfl hB7
       · have hN0i : ¬ ((N : Int) = 0) := by omega
         have hN0b : ((N : Int) == 0) = false := by simp; omega
         rcases hee with rfl | rfl
         · skip
           have hj := Nat.mod_lt num (show N > 0 by omega)
           have hrem := rem_nat num N
           obtain ⟨j, hje⟩ : ∃ j, num % N = j := ⟨_, rfl⟩
           rw [hje] at hj hrem
           clear hje
           have HCJ := hide (HCI.out j (by omega))
           have HNJ := hide (HNI.out j (by omega))
           have HIW := hide (HWI.out j (by omega))
           have HCK := hide (HKI.out j (by omega))
           by_cases hjn : j + 1 = N
           · have hjni : (j : Int) + 1 = (N : Int) := by omega
             generalize C[j] = cj at *
             clear HCI HNI HWI HKI HLS hN
             go_enter Try.func9, Try.ntmps9
             go_upto_region 1 with fail
             obtain ⟨wa, hwa, hW, hX⟩ := boxed w #[.int .i64 (l : Nat), .int .i64 (k.length : Nat), .slice A k.length c, .int .i64 (rest : Nat)] 24
             rw [hwa]
             clear hwa
             replace hA := hA.ext hW
             have q0 := obj_at hX 0 _ rfl
             have q1 := obj_at hX 1 _ rfl
             have q2 := obj_at hX 2 _ rfl
             have q3 := obj_at hX 3 _ rfl
             have ql := obj_lt hX
             have hWs := hW.size
             have hU := hBy.ext hW
             have tok0 : True := trivial
             go_wp2_with (first
 | (clear tok0; go_at_call 45; refine (HF.out A c _ hA).mono ?_; rintro e u1 ⟨rfl, hb1⟩; replace hb1 := ex_below hb1; have hB1 := below_step hW hb1 hW.size; have hA_1 := hA.ext hb1; have hU_1 := hU.ext hb1; have hX_1 := hX.ext hb1; clear q0 q1 q2 q3 ql; obtain ⟨q0, q1, q2, q3, ql⟩ := box4 hX_1; have tok1 : True := trivial)
 | (clear tok1; go_at_call 18; refine (HCN.out _ hA_1).mono ?_; rintro e u2 ⟨rfl, hb2⟩; replace hb2 := ex_below hb2; have hB2 := below_step hB1 hb2 hB1.size; have hA_2 := hA_1.ext hb2; have hU_2 := hU_1.ext hb2; have hX_2 := hX_1.ext hb2; clear q0 q1 q2 q3 ql; obtain ⟨q0, q1, q2, q3, ql⟩ := box4 hX_2; have tok2 : True := trivial)
 | (clear tok2; go_at_call 47; refine (HN.out _ hA_2).mono ?_; rintro e u3 ⟨rfl, hb3⟩; replace hb3 := ex_below hb3; have hB3 := below_step hB2 hb3 hB2.size; have hA_3 := hA_2.ext hb3; have hU_3 := hU_2.ext hb3; have hX_3 := hX_2.ext hb3; clear q0 q1 q2 q3 ql; obtain ⟨q0, q1, q2, q3, ql⟩ := box4 hX_3; have tok3 : True := trivial)
 | (clear tok3; go_at_call 49; refine (HWD.out _ hA_3 hU_3).mono ?_; rintro e u4 ⟨rfl, hb4⟩; replace hb4 := ex_below hb4; have hB4 := below_step hB3 hb4 hB3.size; have hA_4 := hA_3.ext hb4; have hU_4 := hU_3.ext hb4; have hX_4 := hX_3.ext hb4; clear q0 q1 q2 q3 ql; obtain ⟨q0, q1, q2, q3, ql⟩ := box4 hX_4; have tok4 : True := trivial)
 | (clear tok4; go_at_call 22; refine (HNU.out _ hA_4).mono ?_; rintro e u5 ⟨rfl, hb5⟩; replace hb5 := ex_below hb5; have hB5 := below_step hB4 hb5 hB4.size; have hA_5 := hA_4.ext hb5; have hU_5 := hU_4.ext hb5; have hX_5 := hX_4.ext hb5; clear q0 q1 q2 q3 ql; obtain ⟨q0, q1, q2, q3, ql⟩ := box4 hX_5; have tok5 : True := trivial)
 | (clear tok5; go_at_call 20; refine (HCO.out _ hA_5).mono ?_; rintro e u6 ⟨rfl, hb6⟩; replace hb6 := ex_below hb6; have hB6 := below_step hB5 hb6 hB5.size; have hA_6 := hA_5.ext hb6; have hU_6 := hU_5.ext hb6; have hX_6 := hX_5.ext hb6; clear q0 q1 q2 q3 ql; obtain ⟨q0, q1, q2, q3, ql⟩ := box4 hX_6; have tok6 : True := trivial)
 | (clear tok6; go_at_call 20; refine (HCJ.out _ hA_6).mono ?_; rintro e u7 ⟨rfl, hb7⟩; replace hb7 := ex_below hb7; have hB7 := below_step hB6 hb7 hB6.size; have hA_7 := hA_6.ext hb7; have hU_7 := hU_6.ext hb7; have hX_7 := hX_6.ext hb7; clear q0 q1 q2 q3 ql; obtain ⟨q0, q1, q2, q3, ql⟩ := box4 hX_7; have tok7 : True := trivial)
 | (clear tok7; go_at_call 22; refine (HNJ.out _ hA_7).mono ?_; rintro e u8 ⟨rfl, hb8⟩; replace hb8 := ex_below hb8; have hB8 := below_step hB7 hb8 hB7.size; have hA_8 := hA_7.ext hb8; have hU_8 := hU_7.ext hb8; have hX_8 := hX_7.ext hb8; clear q0 q1 q2 q3 ql; obtain ⟨q0, q1, q2, q3, ql⟩ := box4 hX_8; have tok8 : True := trivial)
 | (clear tok8; go_at_call 50; refine (HIW.out _ hA_8).mono ?_; rintro e u9 ⟨rfl, hb9⟩; replace hb9 := ex_below hb9; have hB9 := below_step hB8 hb9 hB8.size; have hA_9 := hA_8.ext hb9; have hU_9 := hU_8.ext hb9; have hX_9 := hX_8.ext hb9; clear q0 q1 q2 q3 ql; obtain ⟨q0, q1, q2, q3, ql⟩ := box4 hX_9; have tok9 : True := trivial)
 | (clear tok9; go_at_call 51; refine (HCK.out _ hA_9).mono ?_; rintro e u10 ⟨rfl, hb10⟩; replace hb10 := ex_below hb10; have hB10 := below_step hB9 hb10 hB9.size; have hA_10 := hA_9.ext hb10; have hU_10 := hU_9.ext hb10; have hX_10 := hX_9.ext hb10; clear q0 q1 q2 q3 ql; obtain ⟨q0, q1, q2, q3, ql⟩ := box4 hX_10; have tok10 : True := trivial)
 | (clear tok10; go_at_call 17; refine (works_any _).mono ?_; rintro e u11 ⟨rfl, hb11⟩; replace hb11 := ex_below hb11; have hB11 := below_step hB10 hb11 hB10.size; have hA_11 := hA_10.ext hb11; have hU_11 := hU_10.ext hb11; have hX_11 := hX_10.ext hb11; clear q0 q1 q2 q3 ql; obtain ⟨q0, q1, q2, q3, ql⟩ := box4 hX_11; have tok11 : True := trivial))
             go_ret
             exact gives_of rfl hB11
           · have hjni : ¬ ((j : Int) + 1 = (N : Int)) := by omega
             have hjnb : ((j : Int) + 1 == (N : Int)) = false := by simpa using hjni
             have HCX := hide (HCI.out (j + 1) (by omega))
             rw [show ((j + 1 : Nat) : Int) = (j : Int) + 1 from rfl] at HCX
             have hls := HLS.out j (by omega) (by omega)
             generalize C[j] = cj at *
             generalize C[j + 1] = cn at *
             clear HCI HNI HWI HKI HLS hN
             go_enter Try.func9, Try.ntmps9
             go_upto_region 1 with fail
             obtain ⟨wa, hwa, hW, hX⟩ := boxed w #[.int .i64 (l : Nat), .int .i64 (k.length : Nat), .slice A k.length c, .int .i64 (rest : Nat)] 24
             rw [hwa]
             clear hwa
             replace hA := hA.ext hW
             have q0 := obj_at hX 0 _ rfl
             have q1 := obj_at hX 1 _ rfl
             have q2 := obj_at hX 2 _ rfl
             have q3 := obj_at hX 3 _ rfl
             have ql := obj_lt hX
             have hWs := hW.size
             have hU := hBy.ext hW
             have tok0 : True := trivial
             go_wp2_with (first
 | (clear tok0; go_at_call 45; refine (HF.out A c _ hA).mono ?_; rintro e u1 ⟨rfl, hb1⟩; replace hb1 := ex_below hb1; have hB1 := below_step hW hb1 hW.size; have hA_1 := hA.ext hb1; have hU_1 := hU.ext hb1; have hX_1 := hX.ext hb1; clear q0 q1 q2 q3 ql; obtain ⟨q0, q1, q2, q3, ql⟩ := box4 hX_1; have tok1 : True := trivial)
 | (clear tok1; go_at_call 18; refine (HCN.out _ hA_1).mono ?_; rintro e u2 ⟨rfl, hb2⟩; replace hb2 := ex_below hb2; have hB2 := below_step hB1 hb2 hB1.size; have hA_2 := hA_1.ext hb2; have hU_2 := hU_1.ext hb2; have hX_2 := hX_1.ext hb2; clear q0 q1 q2 q3 ql; obtain ⟨q0, q1, q2, q3, ql⟩ := box4 hX_2; have tok2 : True := trivial)
 | (clear tok2; go_at_call 47; refine (HN.out _ hA_2).mono ?_; rintro e u3 ⟨rfl, hb3⟩; replace hb3 := ex_below hb3; have hB3 := below_step hB2 hb3 hB2.size; have hA_3 := hA_2.ext hb3; have hU_3 := hU_2.ext hb3; have hX_3 := hX_2.ext hb3; clear q0 q1 q2 q3 ql; obtain ⟨q0, q1, q2, q3, ql⟩ := box4 hX_3; have tok3 : True := trivial)
 | (clear tok3; go_at_call 49; refine (HWD.out _ hA_3 hU_3).mono ?_; rintro e u4 ⟨rfl, hb4⟩; replace hb4 := ex_below hb4; have hB4 := below_step hB3 hb4 hB3.size; have hA_4 := hA_3.ext hb4; have hU_4 := hU_3.ext hb4; have hX_4 := hX_3.ext hb4; clear q0 q1 q2 q3 ql; obtain ⟨q0, q1, q2, q3, ql⟩ := box4 hX_4; have tok4 : True := trivial)
 | (clear tok4; go_at_call 22; refine (HNU.out _ hA_4).mono ?_; rintro e u5 ⟨rfl, hb5⟩; replace hb5 := ex_below hb5; have hB5 := below_step hB4 hb5 hB4.size; have hA_5 := hA_4.ext hb5; have hU_5 := hU_4.ext hb5; have hX_5 := hX_4.ext hb5; clear q0 q1 q2 q3 ql; obtain ⟨q0, q1, q2, q3, ql⟩ := box4 hX_5; have tok5 : True := trivial)
 | (clear tok5; go_at_call 20; refine (HCO.out _ hA_5).mono ?_; rintro e u6 ⟨rfl, hb6⟩; replace hb6 := ex_below hb6; have hB6 := below_step hB5 hb6 hB5.size; have hA_6 := hA_5.ext hb6; have hU_6 := hU_5.ext hb6; have hX_6 := hX_5.ext hb6; clear q0 q1 q2 q3 ql; obtain ⟨q0, q1, q2, q3, ql⟩ := box4 hX_6; have tok6 : True := trivial)
 | (clear tok6; go_at_call 20; refine (HCJ.out _ hA_6).mono ?_; rintro e u7 ⟨rfl, hb7⟩; replace hb7 := ex_below hb7; have hB7 := below_step hB6 hb7 hB6.size; have hA_7 := hA_6.ext hb7; have hU_7 := hU_6.ext hb7; have hX_7 := hX_6.ext hb7; clear q0 q1 q2 q3 ql; obtain ⟨q0, q1, q2, q3, ql⟩ := box4 hX_7; have tok7 : True := trivial)
 | (clear tok7; go_at_call 22; refine (HNJ.out _ hA_7).mono ?_; rintro e u8 ⟨rfl, hb8⟩; replace hb8 := ex_below hb8; have hB8 := below_step hB7 hb8 hB7.size; have hA_8 := hA_7.ext hb8; have hU_8 := hU_7.ext hb8; have hX_8 := hX_7.ext hb8; clear q0 q1 q2 q3 ql; obtain ⟨q0, q1, q2, q3, ql⟩ := box4 hX_8; have tok8 : True := trivial)
 | (clear tok8; go_at_call 50; refine (HIW.out _ hA_8).mono ?_; rintro e u9 ⟨rfl, hb9⟩; replace hb9 := ex_below hb9; have hB9 := below_step hB8 hb9 hB8.size; have hA_9 := hA_8.ext hb9; have hU_9 := hU_8.ext hb9; have hX_9 := hX_8.ext hb9; clear q0 q1 q2 q3 ql; obtain ⟨q0, q1, q2, q3, ql⟩ := box4 hX_9; have tok9 : True := trivial)
 | (clear tok9; go_at_call 51; refine (HCK.out _ hA_9).mono ?_; rintro e u10 ⟨rfl, hb10⟩; replace hb10 := ex_below hb10; have hB10 := below_step hB9 hb10 hB9.size; have hA_10 := hA_9.ext hb10; have hU_10 := hU_9.ext hb10; have hX_10 := hX_9.ext hb10; clear q0 q1 q2 q3 ql; obtain ⟨q0, q1, q2, q3, ql⟩ := box4 hX_10; have tok10 : True := trivial)
 | (clear tok10; go_at_call 20; refine (HCX.out _ hA_10).mono ?_; rintro e u11 ⟨rfl, hb11⟩; replace hb11 := ex_below hb11; have hB11 := below_step hB10 hb11 hB10.size; have hA_11 := hA_10.ext hb11; have hU_11 := hU_10.ext hb11; have hX_11 := hX_10.ext hb11; clear q0 q1 q2 q3 ql; obtain ⟨q0, q1, q2, q3, ql⟩ := box4 hX_11; have tok11 : True := trivial)
 | (clear tok11; go_at_call 17; refine (works_any _).mono ?_; rintro e u12 ⟨rfl, hb12⟩; replace hb12 := ex_below hb12; have hB12 := below_step hB11 hb12 hB11.size; have hA_12 := hA_11.ext hb12; have hU_12 := hU_11.ext hb12; have hX_12 := hX_11.ext hb12; clear q0 q1 q2 q3 ql; obtain ⟨q0, q1, q2, q3, ql⟩ := box4 hX_12; have tok12 : True := trivial))
             go_ret
             exact gives_of rfl hB12
         · skip
           have hj := Nat.mod_lt num (show N > 0 by omega)
           have hrem := rem_nat num N
           obtain ⟨j, hje⟩ : ∃ j, num % N = j := ⟨_, rfl⟩
           rw [hje] at hj hrem
           clear hje
           have HCJ := hide (HCI.out j (by omega))
           have HNJ := hide (HNI.out j (by omega))
           have HIW := hide (HWI.out j (by omega))
           have HCK := hide (HKI.out j (by omega))
           by_cases hjn : j + 1 = N
           · have hjni : (j : Int) + 1 = (N : Int) := by omega
             generalize C[j] = cj at *
             clear HCI HNI HWI HKI HLS hN
             go_enter Try.func9, Try.ntmps9
             go_upto_region 1 with fail
             obtain ⟨wa, hwa, hW, hX⟩ := boxed w #[.int .i64 (l : Nat), .int .i64 (k.length : Nat), .slice A k.length c, .int .i64 (rest : Nat)] 24
             rw [hwa]
             clear hwa
             replace hA := hA.ext hW
             have q0 := obj_at hX 0 _ rfl
             have q1 := obj_at hX 1 _ rfl
             have q2 := obj_at hX 2 _ rfl
             have q3 := obj_at hX 3 _ rfl
             have ql := obj_lt hX
             have hWs := hW.size
             have hU := hBy.ext hW
             have tok0 : True := trivial
             go_wp2_with (first
 | (clear tok0; go_at_call 45; refine (HF.out A c _ hA).mono ?_; rintro e u1 ⟨rfl, hb1⟩; replace hb1 := ex_below hb1; have hB1 := below_step hW hb1 hW.size; have hA_1 := hA.ext hb1; have hU_1 := hU.ext hb1; have hX_1 := hX.ext hb1; clear q0 q1 q2 q3 ql; obtain ⟨q0, q1, q2, q3, ql⟩ := box4 hX_1; have tok1 : True := trivial)
 | (clear tok1; go_at_call 18; refine (HCN.out _ hA_1).mono ?_; rintro e u2 ⟨rfl, hb2⟩; replace hb2 := ex_below hb2; have hB2 := below_step hB1 hb2 hB1.size; have hA_2 := hA_1.ext hb2; have hU_2 := hU_1.ext hb2; have hX_2 := hX_1.ext hb2; clear q0 q1 q2 q3 ql; obtain ⟨q0, q1, q2, q3, ql⟩ := box4 hX_2; have tok2 : True := trivial)
 | (clear tok2; go_at_call 47; refine (HN.out _ hA_2).mono ?_; rintro e u3 ⟨rfl, hb3⟩; replace hb3 := ex_below hb3; have hB3 := below_step hB2 hb3 hB2.size; have hA_3 := hA_2.ext hb3; have hU_3 := hU_2.ext hb3; have hX_3 := hX_2.ext hb3; clear q0 q1 q2 q3 ql; obtain ⟨q0, q1, q2, q3, ql⟩ := box4 hX_3; have tok3 : True := trivial)
 | (clear tok3; go_at_call 49; refine (HWD.out _ hA_3 hU_3).mono ?_; rintro e u4 ⟨rfl, hb4⟩; replace hb4 := ex_below hb4; have hB4 := below_step hB3 hb4 hB3.size; have hA_4 := hA_3.ext hb4; have hU_4 := hU_3.ext hb4; have hX_4 := hX_3.ext hb4; clear q0 q1 q2 q3 ql; obtain ⟨q0, q1, q2, q3, ql⟩ := box4 hX_4; have tok4 : True := trivial)
 | (clear tok4; go_at_call 22; refine (HNU.out _ hA_4).mono ?_; rintro e u5 ⟨rfl, hb5⟩; replace hb5 := ex_below hb5; have hB5 := below_step hB4 hb5 hB4.size; have hA_5 := hA_4.ext hb5; have hU_5 := hU_4.ext hb5; have hX_5 := hX_4.ext hb5; clear q0 q1 q2 q3 ql; obtain ⟨q0, q1, q2, q3, ql⟩ := box4 hX_5; have tok5 : True := trivial)
 | (clear tok5; go_at_call 20; refine (HCO.out _ hA_5).mono ?_; rintro e u6 ⟨rfl, hb6⟩; replace hb6 := ex_below hb6; have hB6 := below_step hB5 hb6 hB5.size; have hA_6 := hA_5.ext hb6; have hU_6 := hU_5.ext hb6; have hX_6 := hX_5.ext hb6; clear q0 q1 q2 q3 ql; obtain ⟨q0, q1, q2, q3, ql⟩ := box4 hX_6; have tok6 : True := trivial)
 | (clear tok6; go_at_call 20; refine (HCJ.out _ hA_6).mono ?_; rintro e u7 ⟨rfl, hb7⟩; replace hb7 := ex_below hb7; have hB7 := below_step hB6 hb7 hB6.size; have hA_7 := hA_6.ext hb7; have hU_7 := hU_6.ext hb7; have hX_7 := hX_6.ext hb7; clear q0 q1 q2 q3 ql; obtain ⟨q0, q1, q2, q3, ql⟩ := box4 hX_7; have tok7 : True := trivial)
 | (clear tok7; go_at_call 22; refine (HNJ.out _ hA_7).mono ?_; rintro e u8 ⟨rfl, hb8⟩; replace hb8 := ex_below hb8; have hB8 := below_step hB7 hb8 hB7.size; have hA_8 := hA_7.ext hb8; have hU_8 := hU_7.ext hb8; have hX_8 := hX_7.ext hb8; clear q0 q1 q2 q3 ql; obtain ⟨q0, q1, q2, q3, ql⟩ := box4 hX_8; have tok8 : True := trivial)
 | (clear tok8; go_at_call 50; refine (HIW.out _ hA_8).mono ?_; rintro e u9 ⟨rfl, hb9⟩; replace hb9 := ex_below hb9; have hB9 := below_step hB8 hb9 hB8.size; have hA_9 := hA_8.ext hb9; have hU_9 := hU_8.ext hb9; have hX_9 := hX_8.ext hb9; clear q0 q1 q2 q3 ql; obtain ⟨q0, q1, q2, q3, ql⟩ := box4 hX_9; have tok9 : True := trivial)
 | (clear tok9; go_at_call 51; refine (HCK.out _ hA_9).mono ?_; rintro e u10 ⟨rfl, hb10⟩; replace hb10 := ex_below hb10; have hB10 := below_step hB9 hb10 hB9.size; have hA_10 := hA_9.ext hb10; have hU_10 := hU_9.ext hb10; have hX_10 := hX_9.ext hb10; clear q0 q1 q2 q3 ql; obtain ⟨q0, q1, q2, q3, ql⟩ := box4 hX_10; have tok10 : True := trivial)
 | (clear tok10; go_at_call 17; refine (works_any _).mono ?_; rintro e u11 ⟨rfl, hb11⟩; replace hb11 := ex_below hb11; have hB11 := below_step hB10 hb11 hB10.size; have hA_11 := hA_10.ext hb11; have hU_11 := hU_10.ext hb11; have hX_11 := hX_10.ext hb11; clear q0 q1 q2 q3 ql; obtain ⟨q0, q1, q2, q3, ql⟩ := box4 hX_11; have tok11 : True := trivial))
             go_ret
             exact gives_of rfl hB11
           · have hjni : ¬ ((j : Int) + 1 = (N : Int)) := by omega
             have hjnb : ((j : Int) + 1 == (N : Int)) = false := by simpa using hjni
             have HCX := hide (HCI.out (j + 1) (by omega))
             rw [show ((j + 1 : Nat) : Int) = (j : Int) + 1 from rfl] at HCX
             have hls := HLS.out j (by omega) (by omega)
             generalize C[j] = cj at *
             generalize C[j + 1] = cn at *
             clear HCI HNI HWI HKI HLS hN
             go_enter Try.func9, Try.ntmps9
             go_upto_region 1 with fail
             obtain ⟨wa, hwa, hW, hX⟩ := boxed w #[.int .i64 (l : Nat), .int .i64 (k.length : Nat), .slice A k.length c, .int .i64 (rest : Nat)] 24
             rw [hwa]
             clear hwa
             replace hA := hA.ext hW
             have q0 := obj_at hX 0 _ rfl
             have q1 := obj_at hX 1 _ rfl
             have q2 := obj_at hX 2 _ rfl
             have q3 := obj_at hX 3 _ rfl
             have ql := obj_lt hX
             have hWs := hW.size
             have hU := hBy.ext hW
             have tok0 : True := trivial
             go_wp2_with (first
 | (clear tok0; go_at_call 45; refine (HF.out A c _ hA).mono ?_; rintro e u1 ⟨rfl, hb1⟩; replace hb1 := ex_below hb1; have hB1 := below_step hW hb1 hW.size; have hA_1 := hA.ext hb1; have hU_1 := hU.ext hb1; have hX_1 := hX.ext hb1; clear q0 q1 q2 q3 ql; obtain ⟨q0, q1, q2, q3, ql⟩ := box4 hX_1; have tok1 : True := trivial)
 | (clear tok1; go_at_call 18; refine (HCN.out _ hA_1).mono ?_; rintro e u2 ⟨rfl, hb2⟩; replace hb2 := ex_below hb2; have hB2 := below_step hB1 hb2 hB1.size; have hA_2 := hA_1.ext hb2; have hU_2 := hU_1.ext hb2; have hX_2 := hX_1.ext hb2; clear q0 q1 q2 q3 ql; obtain ⟨q0, q1, q2, q3, ql⟩ := box4 hX_2; have tok2 : True := trivial)
 | (clear tok2; go_at_call 47; refine (HN.out _ hA_2).mono ?_; rintro e u3 ⟨rfl, hb3⟩; replace hb3 := ex_below hb3; have hB3 := below_step hB2 hb3 hB2.size; have hA_3 := hA_2.ext hb3; have hU_3 := hU_2.ext hb3; have hX_3 := hX_2.ext hb3; clear q0 q1 q2 q3 ql; obtain ⟨q0, q1, q2, q3, ql⟩ := box4 hX_3; have tok3 : True := trivial)
 | (clear tok3; go_at_call 49; refine (HWD.out _ hA_3 hU_3).mono ?_; rintro e u4 ⟨rfl, hb4⟩; replace hb4 := ex_below hb4; have hB4 := below_step hB3 hb4 hB3.size; have hA_4 := hA_3.ext hb4; have hU_4 := hU_3.ext hb4; have hX_4 := hX_3.ext hb4; clear q0 q1 q2 q3 ql; obtain ⟨q0, q1, q2, q3, ql⟩ := box4 hX_4; have tok4 : True := trivial)
 | (clear tok4; go_at_call 22; refine (HNU.out _ hA_4).mono ?_; rintro e u5 ⟨rfl, hb5⟩; replace hb5 := ex_below hb5; have hB5 := below_step hB4 hb5 hB4.size; have hA_5 := hA_4.ext hb5; have hU_5 := hU_4.ext hb5; have hX_5 := hX_4.ext hb5; clear q0 q1 q2 q3 ql; obtain ⟨q0, q1, q2, q3, ql⟩ := box4 hX_5; have tok5 : True := trivial)
 | (clear tok5; go_at_call 20; refine (HCO.out _ hA_5).mono ?_; rintro e u6 ⟨rfl, hb6⟩; replace hb6 := ex_below hb6; have hB6 := below_step hB5 hb6 hB5.size; have hA_6 := hA_5.ext hb6; have hU_6 := hU_5.ext hb6; have hX_6 := hX_5.ext hb6; clear q0 q1 q2 q3 ql; obtain ⟨q0, q1, q2, q3, ql⟩ := box4 hX_6; have tok6 : True := trivial)
 | (clear tok6; go_at_call 20; refine (HCJ.out _ hA_6).mono ?_; rintro e u7 ⟨rfl, hb7⟩; replace hb7 := ex_below hb7; have hB7 := below_step hB6 hb7 hB6.size; have hA_7 := hA_6.ext hb7; have hU_7 := hU_6.ext hb7; have hX_7 := hX_6.ext hb7; clear q0 q1 q2 q3 ql; obtain ⟨q0, q1, q2, q3, ql⟩ := box4 hX_7; have tok7 : True := trivial)
 | (clear tok7; go_at_call 22; refine (HNJ.out _ hA_7).mono ?_; rintro e u8 ⟨rfl, hb8⟩; replace hb8 := ex_below hb8; have hB8 := below_step hB7 hb8 hB7.size; have hA_8 := hA_7.ext hb8; have hU_8 := hU_7.ext hb8; have hX_8 := hX_7.ext hb8; clear q0 q1 q2 q3 ql; obtain ⟨q0, q1, q2, q3, ql⟩ := box4 hX_8; have tok8 : True := trivial)
 | (clear tok8; go_at_call 50; refine (HIW.out _ hA_8).mono ?_; rintro e u9 ⟨rfl, hb9⟩; replace hb9 := ex_below hb9; have hB9 := below_step hB8 hb9 hB8.size; have hA_9 := hA_8.ext hb9; have hU_9 := hU_8.ext hb9; have hX_9 := hX_8.ext hb9; clear q0 q1 q2 q3 ql; obtain ⟨q0, q1, q2, q3, ql⟩ := box4 hX_9; have tok9 : True := trivial)
 | (clear tok9; go_at_call 51; refine (HCK.out _ hA_9).mono ?_; rintro e u10 ⟨rfl, hb10⟩; replace hb10 := ex_below hb10; have hB10 := below_step hB9 hb10 hB9.size; have hA_10 := hA_9.ext hb10; have hU_10 := hU_9.ext hb10; have hX_10 := hX_9.ext hb10; clear q0 q1 q2 q3 ql; obtain ⟨q0, q1, q2, q3, ql⟩ := box4 hX_10; have tok10 : True := trivial)
 | (clear tok10; go_at_call 20; refine (HCX.out _ hA_10).mono ?_; rintro e u11 ⟨rfl, hb11⟩; replace hb11 := ex_below hb11; have hB11 := below_step hB10 hb11 hB10.size; have hA_11 := hA_10.ext hb11; have hU_11 := hU_10.ext hb11; have hX_11 := hX_10.ext hb11; clear q0 q1 q2 q3 ql; obtain ⟨q0, q1, q2, q3, ql⟩ := box4 hX_11; have tok11 : True := trivial)
 | (clear tok11; go_at_call 17; refine (works_any _).mono ?_; rintro e u12 ⟨rfl, hb12⟩; replace hb12 := ex_below hb12; have hB12 := below_step hB11 hb12 hB11.size; have hA_12 := hA_11.ext hb12; have hU_12 := hU_11.ext hb12; have hX_12 := hX_11.ext hb12; clear q0 q1 q2 q3 ql; obtain ⟨q0, q1, q2, q3, ql⟩ := box4 hX_12; have tok12 : True := trivial))
             go_ret
             exact gives_of rfl hB12

end Go.Proofs.Ytgjfejpibielaaa
