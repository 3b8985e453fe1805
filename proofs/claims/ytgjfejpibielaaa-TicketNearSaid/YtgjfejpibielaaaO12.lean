/- Proved here: the law TicketNear, a part of the proofs about the ticket laws. Conditions: those that each theorem names, no others. -/
import Derived.Test.YtgjfejpibielaaaO10
import Derived.WalkKit
import Derived.WalkSpells
import Derived.WalkLawsBesides
import Derived.Below
import Derived.Deep.QuietTactic
import Derived.BigQuiet
import Derived.Deep.Light
import Derived.Test.YtgjfejpibielaaaO7
import Derived.Test.YtgjfejpibielaaaO8
import Derived.Deep.RegionHeld3
set_option linter.unusedSimpArgs false
set_option linter.unusedVariables false
namespace Go.Proofs.Ytgjfejpibielaaa
open Go.RowKit Go.Maps Go.Shelf
attribute [local go_sem] Oper.semAt_some World.cell?_setCell_far
theorem box4 {W : World} {B : Nat} {t : TypeId} {x0 x1 x2 x3 : Value} (h : BlkAt W B #[x0, x1, x2, x3] t) : W.cell? ⟨B, 0, none⟩ = some x0 ∧ W.cell? ⟨B, 1, none⟩ = some x1 ∧ W.cell? ⟨B, 2, none⟩ = some x2 ∧ W.cell? ⟨B, 3, none⟩ = some x3 ∧ B < W.heap.size :=
  ⟨obj_at h 0 _ rfl, obj_at h 1 _ rfl, obj_at h 2 _ rfl, obj_at h 3 _ rfl, obj_lt h⟩
theorem iw {x : Int} (h : -9223372036854775808 ≤ x ∧ x ≤ 9223372036854775807) : IntKind.i64.wrap x = x := by rw [IntKind.wrap_i64]; omega
theorem near_w {lt y p : Nat} (h1 : lt < 256) (h2 : y < 6) (h3 : p < 8) : IntKind.i64.wrap (97 + (y : Int)) = 97 + (y : Int) ∧ IntKind.i64.wrap (lt : Int) = (lt : Int) ∧ IntKind.i64.wrap ((p : Int) + 1) = (p : Int) + 1 := ⟨iw (by omega), iw (by omega), iw (by omega)⟩
theorem strW_take (w : List Nat) (i : Nat) : (strW w).extract 0 i = strW (w.take i) := by
  apply ByteArray.ext
  rw [ByteArray.data_extract]
  unfold strW
  apply Array.ext'
  simp [List.map_take]
theorem strW_drop (w : List Nat) (i : Nat) : (strW w).extract i (strW w).size = strW (w.drop i) := by
  apply ByteArray.ext
  rw [ByteArray.data_extract, strW_size]
  unfold strW
  apply Array.ext'
  simp only [Array.toList_extract, List.extract]
  rw [← List.map_drop, List.take_of_length_le (by simp)]
set_option maxRecDepth 100000 in
set_option maxHeartbeats 8000000 in
theorem near_law (L n r : Int) (A : Option Addr) (K : List Int) (c : Nat) (B : Option Addr) (bs : List Nat) (bc : Nat) (num pl lt : Nat) (w : World) (hA : I64 w A K) (hBy : U8 w B bs) (hl9 : K.length ≤ 9223372036854775807) (hb9 : bs.length ≤ 9223372036854775807) (hnm : num < 65536) (hpl : pl < 256) (hlt : lt < 256) : Calls Try.prog 13 #[.agg #[.int .i64 L, .int .i64 n, .slice A K.length c, .int .i64 r], .slice B bs.length bc, .int .u16 (num : Nat), .int .u8 (pl : Nat), .int .u8 (lt : Nat)] w (Gives w (.bool true)) := by
  obtain ⟨b, hb, hF⟩ := fine_any L n r K hl9
  have HF := hide hF
  clear hF
  cases b with
  | false =>
    clear hb
    go_enter Try.func13, Try.ntmps13
    go_upto_region 1 with fail
    have hW : Below w.heap.size w (w.alloc (.cells #[.int .i64 L, .int .i64 n, .slice A K.length c, .int .i64 r] 24)) := below_alloc (Below.refl _ _) (Nat.le_refl _) _
    have hX : BlkAt (w.alloc (.cells #[.int .i64 L, .int .i64 n, .slice A K.length c, .int .i64 r] 24)) w.heap.size #[.int .i64 L, .int .i64 n, .slice A K.length c, .int .i64 r] 24 := heap_alloc_new _ _
    obtain ⟨wa, hwa⟩ : ∃ wa, (w.alloc (.cells #[.int .i64 L, .int .i64 n, .slice A K.length c, .int .i64 r] 24)) = wa := ⟨_, rfl⟩
    rw [hwa] at hW hX ⊢
    clear hwa
    replace hA := hA.ext hW
    have q0 := obj_at hX 0 _ rfl
    have q1 := obj_at hX 1 _ rfl
    have q2 := obj_at hX 2 _ rfl
    have q3 := obj_at hX 3 _ rfl
    have ql := obj_lt hX
    have hWs := hW.size
    have tok0 : True := trivial
    go_wp2_with (first
        | (clear tok0; go_at_call 45; refine (HF.out A c _ hA).mono ?_; rintro e u1 ⟨rfl, hb1⟩; replace hb1 := ex_below hb1; have hB1 := below_step hW hb1 hW.size; have hA_1 := hA.ext hb1; have hX_1 := hX.ext hb1; clear q0 q1 q2 q3 ql; obtain ⟨q0, q1, q2, q3, ql⟩ := box4 hX_1; have tok1 : True := trivial)
        | (clear tok1; go_at_call 17; refine (works_any _).mono ?_; rintro e u2 ⟨rfl, hb2⟩; replace hb2 := ex_below hb2; have hB2 := below_step hB1 hb2 hB1.size; have hA_2 := hA_1.ext hb2; have hX_2 := hX_1.ext hb2; clear q0 q1 q2 q3 ql; obtain ⟨q0, q1, q2, q3, ql⟩ := box4 hX_2; have tok2 : True := trivial))
    go_ret
    exact gives_of rfl hB2
  | true =>
    obtain ⟨l, rest, k, rfl, rfl, rfl, rfl, hd, _⟩ := hb rfl
    clear hb
    rw [zs_len] at HF hl9 ⊢
    by_cases h20 : 20 < bs.length
    · have h20i : (20 : Int) < (bs.length : Int) := by omega
      clear hd
      go_enter Try.func13, Try.ntmps13
      go_upto_region 1 with fail
      have hW : Below w.heap.size w (w.alloc (.cells #[.int .i64 (l : Nat), .int .i64 (k.length : Nat), .slice A k.length c, .int .i64 (rest : Nat)] 24)) := below_alloc (Below.refl _ _) (Nat.le_refl _) _
      have hX : BlkAt (w.alloc (.cells #[.int .i64 (l : Nat), .int .i64 (k.length : Nat), .slice A k.length c, .int .i64 (rest : Nat)] 24)) w.heap.size #[.int .i64 (l : Nat), .int .i64 (k.length : Nat), .slice A k.length c, .int .i64 (rest : Nat)] 24 := heap_alloc_new _ _
      obtain ⟨wa, hwa⟩ : ∃ wa, (w.alloc (.cells #[.int .i64 (l : Nat), .int .i64 (k.length : Nat), .slice A k.length c, .int .i64 (rest : Nat)] 24)) = wa := ⟨_, rfl⟩
      rw [hwa] at hW hX ⊢
      clear hwa
      replace hA := hA.ext hW
      have q0 := obj_at hX 0 _ rfl
      have q1 := obj_at hX 1 _ rfl
      have q2 := obj_at hX 2 _ rfl
      have q3 := obj_at hX 3 _ rfl
      have ql := obj_lt hX
      have hWs := hW.size
      have tok0 : True := trivial
      go_wp2_with (first
          | (clear tok0; go_at_call 45; refine (HF.out A c _ hA).mono ?_; rintro e u1 ⟨rfl, hb1⟩; replace hb1 := ex_below hb1; have hB1 := below_step hW hb1 hW.size; have hA_1 := hA.ext hb1; have hX_1 := hX.ext hb1; clear q0 q1 q2 q3 ql; obtain ⟨q0, q1, q2, q3, ql⟩ := box4 hX_1; have tok1 : True := trivial)
          | (clear tok1; go_at_call 17; refine (works_any _).mono ?_; rintro e u2 ⟨rfl, hb2⟩; replace hb2 := ex_below hb2; have hB2 := below_step hB1 hb2 hB1.size; have hA_2 := hA_1.ext hb2; have hX_2 := hX_1.ext hb2; clear q0 q1 q2 q3 ql; obtain ⟨q0, q1, q2, q3, ql⟩ := box4 hX_2; have tok2 : True := trivial))
      go_ret
      exact gives_of rfl hB2
    · have h20i : ¬ ((20 : Int) < (bs.length : Int)) := by omega
      have hl2 := hd.1
      have hl6 := hd.2.1
      have hk2 := hd.2.2.1
      have hk8 := hd.2.2.2.1
      have HN := hide (fun w' (h : I64 w' A (zs k)) => count_any l rest A k c w' hd h)
      have HWD := hide (fun w' (h : I64 w' A (zs k)) (hU : U8 w' B bs) => word_any l rest A k c B bs bc w' hd h hU)
      have hwl := wordL_len l k.length bs
      have hwx := wordL_in hl2 k.length bs
      have HNE := hide (fun w' (h : I64 w' A (zs k)) => Near_ok l rest A k c (strW (wordL l k.length bs)) w' hd h)
      have HNU := hide (fun w' (h : I64 w' A (zs k)) => Number_ok l rest A k c (strW (wordL l k.length bs)) w' hd h)
      have hnum := num_at2 (L := l) (rest := rest) hl6 hwl hwx
      by_cases hN0 : (Tt.codes l rest k).length = 0
      · rw [near_none hl6 hwl hwx hN0] at HNE
        rw [hN0] at HN
        obtain ⟨v, e, hv⟩ : ∃ v e : Int, numV l rest k (strW (wordL l k.length bs)) = .tuple #[.int .i64 v, .int .i64 e] := by
          rcases hnum with ⟨i, _, _, hv⟩ | ⟨_, e, _, hv⟩
          · exact ⟨_, _, hv⟩
          · exact ⟨_, _, hv⟩
        rw [hv] at HNU
        clear hnum hv hd hwl hwx hN0
        generalize wordL l k.length bs = W at *
        go_enter Try.func13, Try.ntmps13
        go_upto_region 1 with fail
        have hW : Below w.heap.size w (w.alloc (.cells #[.int .i64 (l : Nat), .int .i64 (k.length : Nat), .slice A k.length c, .int .i64 (rest : Nat)] 24)) := below_alloc (Below.refl _ _) (Nat.le_refl _) _
        have hX : BlkAt (w.alloc (.cells #[.int .i64 (l : Nat), .int .i64 (k.length : Nat), .slice A k.length c, .int .i64 (rest : Nat)] 24)) w.heap.size #[.int .i64 (l : Nat), .int .i64 (k.length : Nat), .slice A k.length c, .int .i64 (rest : Nat)] 24 := heap_alloc_new _ _
        obtain ⟨wa, hwa⟩ : ∃ wa, (w.alloc (.cells #[.int .i64 (l : Nat), .int .i64 (k.length : Nat), .slice A k.length c, .int .i64 (rest : Nat)] 24)) = wa := ⟨_, rfl⟩
        rw [hwa] at hW hX ⊢
        clear hwa
        replace hA := hA.ext hW
        have q0 := obj_at hX 0 _ rfl
        have q1 := obj_at hX 1 _ rfl
        have q2 := obj_at hX 2 _ rfl
        have q3 := obj_at hX 3 _ rfl
        have ql := obj_lt hX
        have hWs := hW.size
        have hU := hBy.ext hW
        have tok0 : True := trivial
        go_wp2_with (first
            | (clear tok0; go_at_call 45; refine (HF.out A c _ hA).mono ?_; rintro e u1 ⟨rfl, hb1⟩; replace hb1 := ex_below hb1; have hB1 := below_step hW hb1 hW.size; have hA_1 := hA.ext hb1; have hU_1 := hU.ext hb1; have hX_1 := hX.ext hb1; clear q0 q1 q2 q3 ql; obtain ⟨q0, q1, q2, q3, ql⟩ := box4 hX_1; have tok1 : True := trivial)
            | (clear tok1; go_at_call 49; refine (HWD.out _ hA_1 hU_1).mono ?_; rintro e u2 ⟨rfl, hb2⟩; replace hb2 := ex_below hb2; have hB2 := below_step hB1 hb2 hB1.size; have hA_2 := hA_1.ext hb2; have hU_2 := hU_1.ext hb2; have hX_2 := hX_1.ext hb2; clear q0 q1 q2 q3 ql; obtain ⟨q0, q1, q2, q3, ql⟩ := box4 hX_2; have tok2 : True := trivial)
            | (clear tok2; go_at_call 35; refine (HNE.out _ hA_2).mono ?_; rintro e u3 ⟨rfl, hb3⟩; replace hb3 := ex_below hb3; have hB3 := below_step hB2 hb3 hB2.size; have hA_3 := hA_2.ext hb3; have hU_3 := hU_2.ext hb3; have hX_3 := hX_2.ext hb3; clear q0 q1 q2 q3 ql; obtain ⟨q0, q1, q2, q3, ql⟩ := box4 hX_3; have tok3 : True := trivial)
            | (clear tok3; go_at_call 22; refine (HNU.out _ hA_3).mono ?_; rintro e u4 ⟨rfl, hb4⟩; replace hb4 := ex_below hb4; have hB4 := below_step hB3 hb4 hB3.size; have hA_4 := hA_3.ext hb4; have hU_4 := hU_3.ext hb4; have hX_4 := hX_3.ext hb4; clear q0 q1 q2 q3 ql; obtain ⟨q0, q1, q2, q3, ql⟩ := box4 hX_4; have tok4 : True := trivial)
            | (clear tok4; go_at_call 47; refine (HN.out _ hA_4).mono ?_; rintro e u5 ⟨rfl, hb5⟩; replace hb5 := ex_below hb5; have hB5 := below_step hB4 hb5 hB4.size; have hA_5 := hA_4.ext hb5; have hU_5 := hU_4.ext hb5; have hX_5 := hX_4.ext hb5; clear q0 q1 q2 q3 ql; obtain ⟨q0, q1, q2, q3, ql⟩ := box4 hX_5; have tok5 : True := trivial)
            | (clear tok5; go_at_call 17; refine (works_any _).mono ?_; rintro e u6 ⟨rfl, hb6⟩; replace hb6 := ex_below hb6; have hB6 := below_step hB5 hb6 hB5.size; have hA_6 := hA_5.ext hb6; have hU_6 := hU_5.ext hb6; have hX_6 := hX_5.ext hb6; clear q0 q1 q2 q3 ql; obtain ⟨q0, q1, q2, q3, ql⟩ := box4 hX_6; have tok6 : True := trivial))
        go_ret
        exact gives_of rfl hB6
      · obtain ⟨c0, hc0, hnv, hdl, hle, htie, hz0⟩ := near_at (rest := rest) hl6 hk8 hwl hwx hN0
        rw [hnv] at HNE
        obtain ⟨x1, x2, _⟩ := codes_sum hc0
        have h6 : ∀ x, x ∈ wordL l k.length bs → x < 6 := fun x h => by have := hwx x h; omega
        have h60 : ∀ x, x ∈ c0 → x < 6 := fun x h => by have := x2 x h; omega
        have HIW := hide (fun w' (h : I64 w' A (zs k)) => (show Calls Try.prog 50 #[.agg #[.int .i64 (l : Nat), .int .i64 (k.length : Nat), .slice A k.length c, .int .i64 (rest : Nat)], .string (strW c0)] w' (Gives w' (.bool true)) by
          have h3 := rIsWord_any l rest A k c (strW c0) w' hd h (by rw [strW_size, x1]; omega)
          rwa [isW_strW x1 x2 hl6] at h3))
        have HDF := hide (fun w' => rDiffers_any (wordL l k.length bs) c0 w' (by omega) h6 h60 (by omega))
        obtain ⟨i0, hi0, rfl⟩ := List.getElem_of_mem hc0
        have HNC := hide (fun w' (h : I64 w' A (zs k)) => (show Calls Try.prog 22 #[.agg #[.int .i64 (l : Nat), .int .i64 (k.length : Nat), .slice A k.length c, .int .i64 (rest : Nat)], .string (strW (Tt.codes l rest k)[i0])] w' (Gives w' (.tuple #[.int .i64 (i0 : Nat), .int .i64 0])) by
          have h3 := Number_ok l rest A k c (strW (Tt.codes l rest k)[i0]) w' hd h
          rwa [num_code hl6 hi0] at h3))
        have hj := Nat.mod_lt num (show (Tt.codes l rest k).length > 0 by omega)
        have hrem := rem_nat num (Tt.codes l rest k).length
        obtain ⟨j, hje⟩ : ∃ j, num % (Tt.codes l rest k).length = j := ⟨_, rfl⟩
        rw [hje] at hj hrem
        clear hje
        have HCJ := hide (fun w' (h : I64 w' A (zs k)) => (show Calls Try.prog 20 #[.agg #[.int .i64 (l : Nat), .int .i64 (k.length : Nat), .slice A k.length c, .int .i64 (rest : Nat)], .int .i64 (j : Nat)] w' (Gives w' (.tuple #[.string (strW (Tt.codes l rest k)[j]), .int .i64 0])) by
          have h3 := Code_ok l rest A k c (j : Nat) w' hd h
          rwa [code_at l rest k hj] at h3))
        obtain ⟨y1, y2, _⟩ := codes_sum (List.getElem_mem hj)
        have h6j : ∀ x, x ∈ (Tt.codes l rest k)[j] → x < 6 := fun x h => by have := y2 x h; omega
        have HIO := hide (fun w' (h : I64 w' A (zs k)) => (show Calls Try.prog 50 #[.agg #[.int .i64 (l : Nat), .int .i64 (k.length : Nat), .slice A k.length c, .int .i64 (rest : Nat)], .string (strW (Tt.codes l rest k)[j])] w' (Gives w' (.bool true)) by
          have h3 := rIsWord_any l rest A k c (strW (Tt.codes l rest k)[j]) w' hd h (by rw [strW_size, y1]; omega)
          rwa [isW_strW y1 y2 hl6] at h3))
        have HDO := hide (fun w' => rDiffers_any (wordL l k.length bs) (Tt.codes l rest k)[j] w' (by omega) h6 h6j (by omega))
        have hge := hle _ (List.getElem_mem hj)
        have hls : Tt.diffN (wordL l k.length bs) (Tt.codes l rest k)[j] = Tt.diffN (wordL l k.length bs) (Tt.codes l rest k)[i0] → Op.bytesLess (strW (Tt.codes l rest k)[j]).toList (strW (Tt.codes l rest k)[i0]).toList = false := fun e => by
          rw [less_strW _ _ (fun x hx => by have := h6j x hx; omega) (fun x hx => by have := h60 x hx; omega)]
          exact htie _ (List.getElem_mem hj) e
        have hcnt : (Tt.codes l rest k).length ≤ 1679616 := by
          have h3 := Tt.cnt_small (L := l) (rest := rest) (ps := k.zip (Tt.fulls l k.length)) (la := -1) (s := 0) hl6 (by rw [List.length_zip]; omega)
          rwa [cnt_codes] at h3
        have hp := Nat.mod_lt pl (show k.length > 0 by omega)
        have hremp := rem_nat pl k.length
        have hy := Nat.mod_lt lt (show l > 0 by omega)
        have hremy := rem_nat lt l
        obtain ⟨p, hpe⟩ : ∃ p, pl % k.length = p := ⟨_, rfl⟩
        obtain ⟨y, hye⟩ : ∃ y, lt % l = y := ⟨_, rfl⟩
        rw [hpe] at hp hremp
        rw [hye] at hy hremy
        clear hpe hye
        obtain ⟨cx, hcx, hxv, hxl, hxle, _, _⟩ := near_at (rest := rest) (w := (wordL l k.length bs).set p y) hl6 hk8 (by simpa using hwl) (fun x hx => by rcases List.mem_or_eq_of_mem_set hx with h | rfl; exact hwx x h; exact hy) hN0
        have HNX := hide (fun w' (h : I64 w' A (zs k)) => Near_ok l rest A k c (strW ((wordL l k.length bs).set p y)) w' hd h)
        rw [hxv] at HNX
        have hd1 : Tt.diffN ((wordL l k.length bs).set p y) cx ≤ Tt.diffN (wordL l k.length bs) (Tt.codes l rest k)[i0] + 1 := Nat.le_trans (hxle _ (List.getElem_mem hi0)) (diff_set _ _ p y).1
        have hd2 : Tt.diffN (wordL l k.length bs) (Tt.codes l rest k)[i0] ≤ Tt.diffN ((wordL l k.length bs).set p y) cx + 1 := Nat.le_trans (hle _ hcx) (diff_set _ _ p y).2
        have hnum2 : ∃ v e : Int, numV l rest k (strW (wordL l k.length bs)) = .tuple #[.int .i64 v, .int .i64 e] ∧ (decide (((Tt.diffN (wordL l k.length bs) (Tt.codes l rest k)[i0] : Nat) : Int) = 0) = decide (e = 0)) := by
          rcases hnum with ⟨i, hi, e, hv⟩ | ⟨hn, e, he, hv⟩
          · have : Tt.diffN (wordL l k.length bs) (Tt.codes l rest k)[i0] = 0 := hz0.2 (e ▸ List.getElem_mem hi)
            exact ⟨_, _, hv, by simp [this]⟩
          · have : Tt.diffN (wordL l k.length bs) (Tt.codes l rest k)[i0] ≠ 0 := fun h => hn (hz0.1 h)
            refine ⟨_, _, hv, ?_⟩
            rw [decide_eq_false (by omega), decide_eq_false (by omega)]
        obtain ⟨v, e, hv, hve⟩ := hnum2
        have hq : (e == 0) = (((Tt.diffN (wordL l k.length bs) (Tt.codes l rest k)[i0] : Nat) : Int) == 0) := by
          have h1 : (e == 0) = decide (e = 0) := rfl
          have h2 : (((Tt.diffN (wordL l k.length bs) (Tt.codes l rest k)[i0] : Nat) : Int) == 0) = decide (((Tt.diffN (wordL l k.length bs) (Tt.codes l rest k)[i0] : Nat) : Int) = 0) := rfl
          rw [h1, h2, hve]
        clear hve
        have hdl1 : ¬ ((k.length : Int) < ((Tt.diffN (wordL l k.length bs) (Tt.codes l rest k)[i0] : Nat) : Int)) := by omega
        have hdl2 : ¬ (((Tt.diffN (wordL l k.length bs) (Tt.codes l rest k)[i0] : Nat) : Int) < 0) := by omega
        rw [hv] at HNU
        have hset : strW ((wordL l k.length bs).set p y) = strW ((wordL l k.length bs).take p) ++ strW [y] ++ strW ((wordL l k.length bs).drop (p + 1)) := by
          rw [strW_app, strW_app, List.append_assoc, List.singleton_append, List.set_eq_take_append_cons_drop, if_pos (by omega)]
        have HWL := hide hwl
        have HLS := hide hls
        clear hwl hwx hls hnum hnv hle htie hz0 hc0 x1 x2 h6 h60 y1 y2 h6j hcx hxv hxl hxle hv hN0 hd
        generalize Tt.diffN (wordL l k.length bs) (Tt.codes l rest k)[i0] = dv at *
        generalize Tt.diffN (wordL l k.length bs) (Tt.codes l rest k)[j] = dj at *
        generalize Tt.diffN ((wordL l k.length bs).set p y) cx = dx at *
        generalize wordL l k.length bs = W at *
        generalize (Tt.codes l rest k)[i0] = c0 at *
        generalize (Tt.codes l rest k)[j] = cj at *
        obtain ⟨N, hN⟩ : ∃ v, (Tt.codes l rest k).length = v := ⟨_, rfl⟩
        rw [hN] at HN hj hrem hi0 hcnt
        clear hN
        have hN0 : ¬ (N = 0) := by omega
        have hN0i : ¬ ((N : Int) = 0) := by omega
        go_enter Try.func13, Try.ntmps13
        go_upto_region 1 with fail
        have hW : Below w.heap.size w (w.alloc (.cells #[.int .i64 (l : Nat), .int .i64 (k.length : Nat), .slice A k.length c, .int .i64 (rest : Nat)] 24)) := below_alloc (Below.refl _ _) (Nat.le_refl _) _
        have hX : BlkAt (w.alloc (.cells #[.int .i64 (l : Nat), .int .i64 (k.length : Nat), .slice A k.length c, .int .i64 (rest : Nat)] 24)) w.heap.size #[.int .i64 (l : Nat), .int .i64 (k.length : Nat), .slice A k.length c, .int .i64 (rest : Nat)] 24 := heap_alloc_new _ _
        obtain ⟨wa, hwa⟩ : ∃ wa, (w.alloc (.cells #[.int .i64 (l : Nat), .int .i64 (k.length : Nat), .slice A k.length c, .int .i64 (rest : Nat)] 24)) = wa := ⟨_, rfl⟩
        rw [hwa] at hW hX ⊢
        clear hwa
        replace hA := hA.ext hW
        have q0 := obj_at hX 0 _ rfl
        have q1 := obj_at hX 1 _ rfl
        have q2 := obj_at hX 2 _ rfl
        have q3 := obj_at hX 3 _ rfl
        have ql := obj_lt hX
        have hWs := hW.size
        have hU := hBy.ext hW
        have tok0 : True := trivial
        go_upto_region 12 with (first
            | (clear tok0; go_at_call 45; refine (HF.out A c _ hA).mono ?_; rintro e u1 ⟨rfl, hb1⟩; replace hb1 := ex_below hb1; have hB1 := below_step hW hb1 hW.size; have hA_1 := hA.ext hb1; have hU_1 := hU.ext hb1; have hX_1 := hX.ext hb1; clear q0 q1 q2 q3 ql; obtain ⟨q0, q1, q2, q3, ql⟩ := box4 hX_1; have tok1 : True := trivial)
            | (clear tok1; go_at_call 49; refine (HWD.out _ hA_1 hU_1).mono ?_; rintro e u2 ⟨rfl, hb2⟩; replace hb2 := ex_below hb2; have hB2 := below_step hB1 hb2 hB1.size; have hA_2 := hA_1.ext hb2; have hU_2 := hU_1.ext hb2; have hX_2 := hX_1.ext hb2; clear q0 q1 q2 q3 ql; obtain ⟨q0, q1, q2, q3, ql⟩ := box4 hX_2; have tok2 : True := trivial)
            | (clear tok2; go_at_call 35; refine (HNE.out _ hA_2).mono ?_; rintro e u3 ⟨rfl, hb3⟩; replace hb3 := ex_below hb3; have hB3 := below_step hB2 hb3 hB2.size; have hA_3 := hA_2.ext hb3; have hU_3 := hU_2.ext hb3; have hX_3 := hX_2.ext hb3; clear q0 q1 q2 q3 ql; obtain ⟨q0, q1, q2, q3, ql⟩ := box4 hX_3; have tok3 : True := trivial)
            | (clear tok3; go_at_call 22; refine (HNU.out _ hA_3).mono ?_; rintro e u4 ⟨rfl, hb4⟩; replace hb4 := ex_below hb4; have hB4 := below_step hB3 hb4 hB3.size; have hA_4 := hA_3.ext hb4; have hU_4 := hU_3.ext hb4; have hX_4 := hX_3.ext hb4; clear q0 q1 q2 q3 ql; obtain ⟨q0, q1, q2, q3, ql⟩ := box4 hX_4; have tok4 : True := trivial)
            | (clear tok4; go_at_call 47; refine (HN.out _ hA_4).mono ?_; rintro e u5 ⟨rfl, hb5⟩; replace hb5 := ex_below hb5; have hB5 := below_step hB4 hb5 hB4.size; have hA_5 := hA_4.ext hb5; have hU_5 := hU_4.ext hb5; have hX_5 := hX_4.ext hb5; clear q0 q1 q2 q3 ql; obtain ⟨q0, q1, q2, q3, ql⟩ := box4 hX_5; have tok5 : True := trivial)
            | (clear tok5; go_at_call 50; refine (HIW.out _ hA_5).mono ?_; rintro e u6 ⟨rfl, hb6⟩; replace hb6 := ex_below hb6; have hB6 := below_step hB5 hb6 hB5.size; have hA_6 := hA_5.ext hb6; have hU_6 := hU_5.ext hb6; have hX_6 := hX_5.ext hb6; clear q0 q1 q2 q3 ql; obtain ⟨q0, q1, q2, q3, ql⟩ := box4 hX_6; have tok6 : True := trivial)
            | (clear tok6; go_at_call 53; refine (HDF.out _).mono ?_; rintro e u7 ⟨rfl, hb7⟩; replace hb7 := ex_below hb7; have hB7 := below_step hB6 hb7 hB6.size; have hA_7 := hA_6.ext hb7; have hU_7 := hU_6.ext hb7; have hX_7 := hX_6.ext hb7; clear q0 q1 q2 q3 ql; obtain ⟨q0, q1, q2, q3, ql⟩ := box4 hX_7; have tok7 : True := trivial)
            | (clear tok7; go_at_call 22; refine (HNC.out _ hA_7).mono ?_; rintro e u8 ⟨rfl, hb8⟩; replace hb8 := ex_below hb8; have hB8 := below_step hB7 hb8 hB7.size; have hA_8 := hA_7.ext hb8; have hU_8 := hU_7.ext hb8; have hX_8 := hX_7.ext hb8; clear q0 q1 q2 q3 ql; obtain ⟨q0, q1, q2, q3, ql⟩ := box4 hX_8; have tok8 : True := trivial))
        refine wp_region_grow (by kernel_rfl) (by kernel_rfl) ?_
        repeat (go_big_quiet_step ((first | (go_at_call 20; exact Gives.quiet (HCJ.out _ (hA_8.ext (by (repeat (first | exact Below.refl _ _ | assumption | (refine below_gr ?_ (by (first | omega | (simp only [size_grow, World.size_alloc, size_drewN, size_drew, size_setCell] at *; omega))) _) | (refine below_alloc ?_ (by (first | omega | (simp only [size_grow, World.size_alloc, size_drewN, size_drew, size_setCell] at *; omega))) _) | (refine Below.setCell ?_ (by (first | omega | (simp only [size_grow, World.size_alloc, size_drewN, size_drew, size_setCell] at *; omega))) _) | refine below_drewN ?_ _ | refine below_drew ?_ | (refine below_step ?_ (by assumption) (by (first | omega | (simp only [size_grow, World.size_alloc, size_drewN, size_drew, size_setCell] at *; omega)))))))))))))
        refine wpQuiet_nil ?_
        intro w9 hb9
        replace hb9 := ex_below hb9
        have hB9 := below_step hB8 hb9 hB8.size
        have hA9 := hA_8.ext hb9
        have hX9 := hX_8.ext hb9
        clear q0 q1 q2 q3 ql
        obtain ⟨q0, q1, q2, q3, ql⟩ := box4 hX9
        clear tok8
        have hge1 : ¬ ((dj : Int) < (dv : Int)) := by omega
        have hge2 : dv ≤ dj := hge
        rcases Nat.lt_or_eq_of_le hge with hdd | hdd
        · have hdd1 : ¬ (dj = dv) := by omega
          have hdd2 : ((dj : Int) == (dv : Int)) = false := by simp; omega
          have tok0 : True := trivial
          go_upto_region 16 with (first
              | (clear tok0; go_at_call 50; refine (HIO.out _ hA9).mono ?_; rintro e u1 ⟨rfl, hb1⟩; replace hb1 := ex_below hb1; have hB1 := below_step hB9 hb1 hB9.size; have hA9_1 := hA9.ext hb1; have hX_1 := hX9.ext hb1; clear q0 q1 q2 q3 ql; obtain ⟨q0, q1, q2, q3, ql⟩ := box4 hX_1; have tok1 : True := trivial)
              | (clear tok1; go_at_call 53; refine (HDO.out _).mono ?_; rintro e u2 ⟨rfl, hb2⟩; replace hb2 := ex_below hb2; have hB2 := below_step hB1 hb2 hB1.size; have hA9_2 := hA9_1.ext hb2; have hX_2 := hX_1.ext hb2; clear q0 q1 q2 q3 ql; obtain ⟨q0, q1, q2, q3, ql⟩ := box4 hX_2; have tok2 : True := trivial)
              | (clear tok2; go_at_call 53; refine (HDO.out _).mono ?_; rintro e u3 ⟨rfl, hb3⟩; replace hb3 := ex_below hb3; have hB3 := below_step hB2 hb3 hB2.size; have hA9_3 := hA9_2.ext hb3; have hX_3 := hX_2.ext hb3; clear q0 q1 q2 q3 ql; obtain ⟨q0, q1, q2, q3, ql⟩ := box4 hX_3; have tok3 : True := trivial))
          have hwl := HWL.out
          have hss : (strW W).size = k.length := by rw [strW_size, hwl]
          have hex1 := strW_take W p
          have hex2 : (strW W).extract (p + 1) k.length = strW (W.drop (p + 1)) := by rw [← hss]; exact strW_drop W (p + 1)
          have hy6 : y < 6 := by omega
          have hlet := u8_letter y hy6
          have hcv := letter_conv y hy6
          have hs1 : (strW (W.take p)).size = p := by rw [strW_size, List.length_take]; omega
          have hs2 : (strW (W.drop (p + 1))).size = k.length - (p + 1) := by rw [strW_size, List.length_drop]; omega
          have hs3 : (strW [y]).size = 1 := strW_size _
          have hs4 : (strW (W.take p) ++ strW [y]).size = p + 1 := by rw [ByteArray.size_append, hs1, hs3]
          have hpi : (p : Int) ≤ (k.length : Int) := by omega
          have hpj : (p : Int) + 1 ≤ (k.length : Int) := by omega
          have hpn : (0 : Int) ≤ (p : Int) + 1 := by omega
          have hcat1 : ¬ (9223372036854775807 < p + 1) := by omega
          have hcat2 : ¬ (9223372036854775807 < p + 1 + (k.length - (p + 1))) := by omega
          have hle1 : (dx : Int) - (dv : Int) ≤ 1 := by omega
          have hle2 : (dv : Int) - (dx : Int) ≤ 1 := by omega
          have hpw : wrap64 ((p : Int) + 1) = (p : Int) + 1 := w64 (by omega)
          have hl0 : ¬ (l = 0) := by omega
          have hl0i : ¬ ((l : Int) = 0) := by omega
          have hcv1 : (convert 62 9 (.slice (some ⟨u3.heap.size, 0, none⟩) 1 1)).run Try.prog (u3.drew.alloc (.cells #[.int .u8 ((y : Int) + 97)] 5)) = .ok (.string (strW [y])) (u3.drew.alloc (.cells #[.int .u8 ((y : Int) + 97)] 5)) := letter_conv y hy6 u3.drew
          obtain ⟨hwy, hwl1, hwp⟩ := near_w hlt hy6 (Nat.lt_of_lt_of_le hp hk8)
          have hcv0 : (convert 62 9 (.slice (some ⟨u3.heap.size, 0, none⟩) 1 1)).run Try.prog (u3.alloc (.cells #[.int .u8 ((y : Int) + 97)] 5)).drew = .ok (.string (strW [y])) (u3.alloc (.cells #[.int .u8 ((y : Int) + 97)] 5)).drew := letter_conv y hy6 u3.drew
          clear hpw
          have HSET := hide hset
          clear hset
          have hbd := below_drew (Below.refl u3.heap.size u3)
          refine wp_region_noPanic ?_
          refine wp_region_held_drew (S := fun w' => w'.cell? ⟨w.heap.size, 0, none⟩ = some (.int .i64 (l : Nat))) (by kernel_rfl) ?_ (fun hHeld => ?_)
          · (try dsimp only)
            (exact obj_at (hX_3.ext hbd) 0 _ rfl)
          refine wpAnyH_take (i := 0) (v := ?_) rfl (by kernel_rfl) (by kernel_rfl) (by kernel_rfl) (fun _ _ _ h => h) (Or.inl ⟨by rfl, ?_⟩) hHeld ?_
          rotate_left
          · (intro ww hSw; (try dsimp only at hSw); go_simp; try with_reducible rfl)
          (try simp only [Act.put, List.getElem_toArray, List.getElem_cons_zero, List.getElem_cons_succ, List.setIfInBounds_toArray, List.set_cons_zero, List.set_cons_succ])
          refine wpAnyH_take (i := 1) (v := ?_) rfl (by kernel_rfl) (by kernel_rfl) (by kernel_rfl) (fun _ _ _ h => h) (Or.inl ⟨by rfl, ?_⟩) hHeld ?_
          rotate_left
          · (intro ww hSw; (try dsimp only at hSw); go_simp; try with_reducible rfl)
          (try simp only [Act.put, List.getElem_toArray, List.getElem_cons_zero, List.getElem_cons_succ, List.setIfInBounds_toArray, List.set_cons_zero, List.set_cons_succ])
          refine wpAnyH_take (i := 2) (v := ?_) rfl (by kernel_rfl) (by kernel_rfl) (by kernel_rfl) (fun _ _ _ h => h) (Or.inl ⟨by rfl, ?_⟩) hHeld ?_
          rotate_left
          · (intro ww hSw; (try dsimp only at hSw); go_simp; try with_reducible rfl)
          (try simp only [Act.put, List.getElem_toArray, List.getElem_cons_zero, List.getElem_cons_succ, List.setIfInBounds_toArray, List.set_cons_zero, List.set_cons_succ])
          refine wpAnyH_take (i := 3) (v := ?_) rfl (by kernel_rfl) (by kernel_rfl) (by kernel_rfl) (fun _ _ _ h => h) (Or.inl ⟨by rfl, ?_⟩) hHeld ?_
          rotate_left
          · (intro ww hSw; (try dsimp only at hSw); go_simp; try with_reducible rfl)
          (try simp only [Act.put, List.getElem_toArray, List.getElem_cons_zero, List.getElem_cons_succ, List.setIfInBounds_toArray, List.set_cons_zero, List.set_cons_succ])
          refine wpAnyH_take (i := 4) (v := ?_) rfl (by kernel_rfl) (by kernel_rfl) (by kernel_rfl) (fun _ _ _ h => h) (Or.inl ⟨by rfl, ?_⟩) hHeld ?_
          rotate_left
          · (intro ww hSw; (try dsimp only at hSw); go_simp; try with_reducible rfl)
          (try simp only [Act.put, List.getElem_toArray, List.getElem_cons_zero, List.getElem_cons_succ, List.setIfInBounds_toArray, List.set_cons_zero, List.set_cons_succ])
          refine wpAnyH_take (i := 5) (v := ?_) rfl (by kernel_rfl) (by kernel_rfl) (by kernel_rfl) (fun _ _ _ h => h) (Or.inl ⟨by rfl, ?_⟩) hHeld ?_
          rotate_left
          · (intro ww hSw; (try dsimp only at hSw); go_simp; try with_reducible rfl)
          (try simp only [Act.put, List.getElem_toArray, List.getElem_cons_zero, List.getElem_cons_succ, List.setIfInBounds_toArray, List.set_cons_zero, List.set_cons_succ])
          refine wpAnyH_take (i := 6) (v := ?_) rfl (by kernel_rfl) (by kernel_rfl) (by kernel_rfl) (fun _ _ _ h => h) (Or.inl ⟨by rfl, ?_⟩) hHeld ?_
          rotate_left
          · (intro ww hSw; (try dsimp only at hSw); go_simp; try with_reducible rfl)
          (try simp only [Act.put, List.getElem_toArray, List.getElem_cons_zero, List.getElem_cons_succ, List.setIfInBounds_toArray, List.set_cons_zero, List.set_cons_succ])
          refine wpAnyH_take (i := 7) (v := ?_) rfl (by kernel_rfl) (by kernel_rfl) (by kernel_rfl) (fun _ _ _ h => h) (Or.inl ⟨by rfl, ?_⟩) hHeld ?_
          rotate_left
          · (intro ww hSw; (try dsimp only at hSw); go_simp; try with_reducible rfl)
          (try simp only [Act.put, List.getElem_toArray, List.getElem_cons_zero, List.getElem_cons_succ, List.setIfInBounds_toArray, List.set_cons_zero, List.set_cons_succ])
          refine wpAnyH_take (i := 8) (v := ?_) rfl (by kernel_rfl) (by kernel_rfl) (by kernel_rfl) (fun _ _ _ h => h) (Or.inl ⟨by rfl, ?_⟩) hHeld ?_
          rotate_left
          · (intro ww hSw; (try dsimp only at hSw); go_simp; try with_reducible rfl)
          (try simp only [Act.put, List.getElem_toArray, List.getElem_cons_zero, List.getElem_cons_succ, List.setIfInBounds_toArray, List.set_cons_zero, List.set_cons_succ])
          refine wpAnyH_take (i := 9) (v := ?_) rfl (by kernel_rfl) (by kernel_rfl) (by kernel_rfl) (fun _ _ _ h => h) (Or.inl ⟨by rfl, ?_⟩) hHeld ?_
          rotate_left
          · (intro ww hSw; (try dsimp only at hSw); go_simp; try with_reducible rfl)
          (try simp only [Act.put, List.getElem_toArray, List.getElem_cons_zero, List.getElem_cons_succ, List.setIfInBounds_toArray, List.set_cons_zero, List.set_cons_succ])
          refine wpAnyH_take (i := 13) (v := ?_) rfl (by kernel_rfl) (by kernel_rfl) (by kernel_rfl) (fun _ _ _ h => h) (Or.inl ⟨by rfl, ?_⟩) hHeld ?_
          rotate_left
          · (intro ww hSw; (try dsimp only at hSw); go_simp; try with_reducible rfl)
          (try simp only [Act.put, List.getElem_toArray, List.getElem_cons_zero, List.getElem_cons_succ, List.setIfInBounds_toArray, List.set_cons_zero, List.set_cons_succ])
          refine wpAnyH_take (i := 14) (v := ?_) rfl (by kernel_rfl) (by kernel_rfl) (by kernel_rfl) (fun _ _ _ h => h) (Or.inl ⟨by rfl, ?_⟩) hHeld ?_
          rotate_left
          · (intro ww hSw; (try dsimp only at hSw); go_simp; try with_reducible rfl)
          (try simp only [Act.put, List.getElem_toArray, List.getElem_cons_zero, List.getElem_cons_succ, List.setIfInBounds_toArray, List.set_cons_zero, List.set_cons_succ])
          refine wpAnyH_take (i := 15) (v := ?_) rfl (by kernel_rfl) (by kernel_rfl) (by kernel_rfl) (fun _ _ _ h => h) (Or.inl ⟨by rfl, ?_⟩) hHeld ?_
          rotate_left
          · (intro ww hSw; (try dsimp only at hSw); go_simp; try with_reducible rfl)
          (try simp only [Act.put, List.getElem_toArray, List.getElem_cons_zero, List.getElem_cons_succ, List.setIfInBounds_toArray, List.set_cons_zero, List.set_cons_succ])
          refine wpAnyH_take (i := 16) (v := ?_) rfl (by kernel_rfl) (by kernel_rfl) (by kernel_rfl) (fun _ _ _ h => h) (Or.inl ⟨by rfl, ?_⟩) hHeld ?_
          rotate_left
          · (intro ww hSw; (try dsimp only at hSw); go_simp; try with_reducible rfl)
          (try simp only [Act.put, List.getElem_toArray, List.getElem_cons_zero, List.getElem_cons_succ, List.setIfInBounds_toArray, List.set_cons_zero, List.set_cons_succ])
          refine wpAnyH_ready (rs := [10]) (by kernel_rfl) (by simp) ?_
          refine AllReadyH.cons rfl ?_ ?_
          · intro K' hK
            rw [if_pos (by rfl)]
            go_simp
            have hbe := below_alloc hbd (by simp) (.cells #[.int .u8 ((y : Int) + 97)] 5)
            refine hK.out _ _ ?_ (fun hHeld2 => ?_)
            · exact obj_at (hX_3.ext hbe) 0 _ rfl
            clear hK K' hHeld
            have hHeld := hHeld2
            clear hHeld2
            (try simp only [Act.put, List.getElem_toArray, List.getElem_cons_zero, List.getElem_cons_succ, List.setIfInBounds_toArray, List.set_cons_zero, List.set_cons_succ])
            refine wpAnyH_ready (rs := [11]) (by kernel_rfl) (by simp) ?_
            refine AllReadyH.cons rfl ?_ ?_
            · intro K' hK
              rw [if_pos (by rfl)]
              go_simp
              refine hK.out _ _ ?_ (fun hHeld2 => ?_)
              · exact obj_at (hX_3.ext hbe) 0 _ rfl
              clear hK K' hHeld
              have hHeld := hHeld2
              clear hHeld2
              (try simp only [Act.put, List.getElem_toArray, List.getElem_cons_zero, List.getElem_cons_succ, List.setIfInBounds_toArray, List.set_cons_zero, List.set_cons_succ])
              refine wpAnyH_take (i := 12) (v := ?_) rfl (by kernel_rfl) (by kernel_rfl) (by kernel_rfl) (fun _ _ _ h => h) (Or.inl ⟨by rfl, ?_⟩) hHeld ?_
              rotate_left
              · (intro ww hSw; (try dsimp only at hSw); go_simp; try with_reducible rfl)
              (try simp only [Act.put, List.getElem_toArray, List.getElem_cons_zero, List.getElem_cons_succ, List.setIfInBounds_toArray, List.set_cons_zero, List.set_cons_succ])
              refine wpAnyH_take (i := 17) (v := ?_) rfl (by kernel_rfl) (by kernel_rfl) (by kernel_rfl) (fun _ _ _ h => h) (Or.inl ⟨by rfl, ?_⟩) hHeld ?_
              rotate_left
              · (intro ww hSw; (try dsimp only at hSw); go_simp; try with_reducible rfl)
              (try simp only [Act.put, List.getElem_toArray, List.getElem_cons_zero, List.getElem_cons_succ, List.setIfInBounds_toArray, List.set_cons_zero, List.set_cons_succ])
              refine wpAnyH_take (i := 18) (v := ?_) rfl (by kernel_rfl) (by kernel_rfl) (by kernel_rfl) (fun _ _ _ h => h) (Or.inl ⟨by rfl, ?_⟩) hHeld ?_
              rotate_left
              · (intro ww hSw; (try dsimp only at hSw); go_simp; try with_reducible rfl)
              (try simp only [Act.put, List.getElem_toArray, List.getElem_cons_zero, List.getElem_cons_succ, List.setIfInBounds_toArray, List.set_cons_zero, List.set_cons_succ])
              refine wpAnyH_done (by kernel_rfl) ?_ _
              refine NoPanic.normal ?_
              go_upto_region 17 with fail
              rw [← HSET.out]
              obtain ⟨u9, hu9⟩ : ∃ v, (u3.alloc (.cells #[.int .u8 ((y : Int) + 97)] 5)).drew = v := ⟨_, rfl⟩
              rw [hu9]
              replace hbe : Below u3.heap.size u3 u9 := hu9 ▸ hbe
              clear hu9 hcv hcv0 hcv1 hHeld hbd hcat1 hcat2
              have hB9b := below_step hB3 hbe hB3.size
              have hA9b := hA9_3.ext hbe
              have hX9b := hX_3.ext hbe
              clear q0 q1 q2 q3 ql
              obtain ⟨q0, q1, q2, q3, ql⟩ := box4 hX9b
              have tok0 : True := trivial
              go_wp2_with 
                (first
                  | (clear tok0; go_at_call 35; refine (HNX.out _ hA9b).mono ?_; rintro e u1 ⟨rfl, hb1⟩; replace hb1 := ex_below hb1; have hB1 := below_step hB9b hb1 hB9b.size; have hA9b_1 := hA9b.ext hb1; have hX_1 := hX9b.ext hb1; clear q0 q1 q2 q3 ql; obtain ⟨q0, q1, q2, q3, ql⟩ := box4 hX_1; have tok1 : True := trivial)
                  | (clear tok1; go_at_call 17; refine (works_any _).mono ?_; rintro e u2 ⟨rfl, hb2⟩; replace hb2 := ex_below hb2; have hB2 := below_step hB1 hb2 hB1.size; have hA9b_2 := hA9b_1.ext hb2; have hX_2 := hX_1.ext hb2; clear q0 q1 q2 q3 ql; obtain ⟨q0, q1, q2, q3, ql⟩ := box4 hX_2; have tok2 : True := trivial))
              go_ret
              exact gives_of rfl hB2
            exact AllReadyH.nil
          exact AllReadyH.nil
        · subst hdd
          have hls := HLS.out rfl
          have tok0 : True := trivial
          go_upto_region 16 with (first
              | (clear tok0; go_at_call 50; refine (HIO.out _ hA9).mono ?_; rintro e u1 ⟨rfl, hb1⟩; replace hb1 := ex_below hb1; have hB1 := below_step hB9 hb1 hB9.size; have hA9_1 := hA9.ext hb1; have hX_1 := hX9.ext hb1; clear q0 q1 q2 q3 ql; obtain ⟨q0, q1, q2, q3, ql⟩ := box4 hX_1; have tok1 : True := trivial)
              | (clear tok1; go_at_call 53; refine (HDO.out _).mono ?_; rintro e u2 ⟨rfl, hb2⟩; replace hb2 := ex_below hb2; have hB2 := below_step hB1 hb2 hB1.size; have hA9_2 := hA9_1.ext hb2; have hX_2 := hX_1.ext hb2; clear q0 q1 q2 q3 ql; obtain ⟨q0, q1, q2, q3, ql⟩ := box4 hX_2; have tok2 : True := trivial)
              | (clear tok2; go_at_call 53; refine (HDO.out _).mono ?_; rintro e u3 ⟨rfl, hb3⟩; replace hb3 := ex_below hb3; have hB3 := below_step hB2 hb3 hB2.size; have hA9_3 := hA9_2.ext hb3; have hX_3 := hX_2.ext hb3; clear q0 q1 q2 q3 ql; obtain ⟨q0, q1, q2, q3, ql⟩ := box4 hX_3; have tok3 : True := trivial))
          have hwl := HWL.out
          have hss : (strW W).size = k.length := by rw [strW_size, hwl]
          have hex1 := strW_take W p
          have hex2 : (strW W).extract (p + 1) k.length = strW (W.drop (p + 1)) := by rw [← hss]; exact strW_drop W (p + 1)
          have hy6 : y < 6 := by omega
          have hlet := u8_letter y hy6
          have hcv := letter_conv y hy6
          have hs1 : (strW (W.take p)).size = p := by rw [strW_size, List.length_take]; omega
          have hs2 : (strW (W.drop (p + 1))).size = k.length - (p + 1) := by rw [strW_size, List.length_drop]; omega
          have hs3 : (strW [y]).size = 1 := strW_size _
          have hs4 : (strW (W.take p) ++ strW [y]).size = p + 1 := by rw [ByteArray.size_append, hs1, hs3]
          have hpi : (p : Int) ≤ (k.length : Int) := by omega
          have hpj : (p : Int) + 1 ≤ (k.length : Int) := by omega
          have hpn : (0 : Int) ≤ (p : Int) + 1 := by omega
          have hcat1 : ¬ (9223372036854775807 < p + 1) := by omega
          have hcat2 : ¬ (9223372036854775807 < p + 1 + (k.length - (p + 1))) := by omega
          have hle1 : (dx : Int) - (dv : Int) ≤ 1 := by omega
          have hle2 : (dv : Int) - (dx : Int) ≤ 1 := by omega
          have hpw : wrap64 ((p : Int) + 1) = (p : Int) + 1 := w64 (by omega)
          have hl0 : ¬ (l = 0) := by omega
          have hl0i : ¬ ((l : Int) = 0) := by omega
          have hcv1 : (convert 62 9 (.slice (some ⟨u3.heap.size, 0, none⟩) 1 1)).run Try.prog (u3.drew.alloc (.cells #[.int .u8 ((y : Int) + 97)] 5)) = .ok (.string (strW [y])) (u3.drew.alloc (.cells #[.int .u8 ((y : Int) + 97)] 5)) := letter_conv y hy6 u3.drew
          obtain ⟨hwy, hwl1, hwp⟩ := near_w hlt hy6 (Nat.lt_of_lt_of_le hp hk8)
          have hcv0 : (convert 62 9 (.slice (some ⟨u3.heap.size, 0, none⟩) 1 1)).run Try.prog (u3.alloc (.cells #[.int .u8 ((y : Int) + 97)] 5)).drew = .ok (.string (strW [y])) (u3.alloc (.cells #[.int .u8 ((y : Int) + 97)] 5)).drew := letter_conv y hy6 u3.drew
          clear hpw
          have HSET := hide hset
          clear hset
          have hbd := below_drew (Below.refl u3.heap.size u3)
          refine wp_region_noPanic ?_
          refine wp_region_held_drew (S := fun w' => w'.cell? ⟨w.heap.size, 0, none⟩ = some (.int .i64 (l : Nat))) (by kernel_rfl) ?_ (fun hHeld => ?_)
          · (try dsimp only)
            (exact obj_at (hX_3.ext hbd) 0 _ rfl)
          refine wpAnyH_take (i := 0) (v := ?_) rfl (by kernel_rfl) (by kernel_rfl) (by kernel_rfl) (fun _ _ _ h => h) (Or.inl ⟨by rfl, ?_⟩) hHeld ?_
          rotate_left
          · (intro ww hSw; (try dsimp only at hSw); go_simp; try with_reducible rfl)
          (try simp only [Act.put, List.getElem_toArray, List.getElem_cons_zero, List.getElem_cons_succ, List.setIfInBounds_toArray, List.set_cons_zero, List.set_cons_succ])
          refine wpAnyH_take (i := 1) (v := ?_) rfl (by kernel_rfl) (by kernel_rfl) (by kernel_rfl) (fun _ _ _ h => h) (Or.inl ⟨by rfl, ?_⟩) hHeld ?_
          rotate_left
          · (intro ww hSw; (try dsimp only at hSw); go_simp; try with_reducible rfl)
          (try simp only [Act.put, List.getElem_toArray, List.getElem_cons_zero, List.getElem_cons_succ, List.setIfInBounds_toArray, List.set_cons_zero, List.set_cons_succ])
          refine wpAnyH_take (i := 2) (v := ?_) rfl (by kernel_rfl) (by kernel_rfl) (by kernel_rfl) (fun _ _ _ h => h) (Or.inl ⟨by rfl, ?_⟩) hHeld ?_
          rotate_left
          · (intro ww hSw; (try dsimp only at hSw); go_simp; try with_reducible rfl)
          (try simp only [Act.put, List.getElem_toArray, List.getElem_cons_zero, List.getElem_cons_succ, List.setIfInBounds_toArray, List.set_cons_zero, List.set_cons_succ])
          refine wpAnyH_take (i := 3) (v := ?_) rfl (by kernel_rfl) (by kernel_rfl) (by kernel_rfl) (fun _ _ _ h => h) (Or.inl ⟨by rfl, ?_⟩) hHeld ?_
          rotate_left
          · (intro ww hSw; (try dsimp only at hSw); go_simp; try with_reducible rfl)
          (try simp only [Act.put, List.getElem_toArray, List.getElem_cons_zero, List.getElem_cons_succ, List.setIfInBounds_toArray, List.set_cons_zero, List.set_cons_succ])
          refine wpAnyH_take (i := 4) (v := ?_) rfl (by kernel_rfl) (by kernel_rfl) (by kernel_rfl) (fun _ _ _ h => h) (Or.inl ⟨by rfl, ?_⟩) hHeld ?_
          rotate_left
          · (intro ww hSw; (try dsimp only at hSw); go_simp; try with_reducible rfl)
          (try simp only [Act.put, List.getElem_toArray, List.getElem_cons_zero, List.getElem_cons_succ, List.setIfInBounds_toArray, List.set_cons_zero, List.set_cons_succ])
          refine wpAnyH_take (i := 5) (v := ?_) rfl (by kernel_rfl) (by kernel_rfl) (by kernel_rfl) (fun _ _ _ h => h) (Or.inl ⟨by rfl, ?_⟩) hHeld ?_
          rotate_left
          · (intro ww hSw; (try dsimp only at hSw); go_simp; try with_reducible rfl)
          (try simp only [Act.put, List.getElem_toArray, List.getElem_cons_zero, List.getElem_cons_succ, List.setIfInBounds_toArray, List.set_cons_zero, List.set_cons_succ])
          refine wpAnyH_take (i := 6) (v := ?_) rfl (by kernel_rfl) (by kernel_rfl) (by kernel_rfl) (fun _ _ _ h => h) (Or.inl ⟨by rfl, ?_⟩) hHeld ?_
          rotate_left
          · (intro ww hSw; (try dsimp only at hSw); go_simp; try with_reducible rfl)
          (try simp only [Act.put, List.getElem_toArray, List.getElem_cons_zero, List.getElem_cons_succ, List.setIfInBounds_toArray, List.set_cons_zero, List.set_cons_succ])
          refine wpAnyH_take (i := 7) (v := ?_) rfl (by kernel_rfl) (by kernel_rfl) (by kernel_rfl) (fun _ _ _ h => h) (Or.inl ⟨by rfl, ?_⟩) hHeld ?_
          rotate_left
          · (intro ww hSw; (try dsimp only at hSw); go_simp; try with_reducible rfl)
          (try simp only [Act.put, List.getElem_toArray, List.getElem_cons_zero, List.getElem_cons_succ, List.setIfInBounds_toArray, List.set_cons_zero, List.set_cons_succ])
          refine wpAnyH_take (i := 8) (v := ?_) rfl (by kernel_rfl) (by kernel_rfl) (by kernel_rfl) (fun _ _ _ h => h) (Or.inl ⟨by rfl, ?_⟩) hHeld ?_
          rotate_left
          · (intro ww hSw; (try dsimp only at hSw); go_simp; try with_reducible rfl)
          (try simp only [Act.put, List.getElem_toArray, List.getElem_cons_zero, List.getElem_cons_succ, List.setIfInBounds_toArray, List.set_cons_zero, List.set_cons_succ])
          refine wpAnyH_take (i := 9) (v := ?_) rfl (by kernel_rfl) (by kernel_rfl) (by kernel_rfl) (fun _ _ _ h => h) (Or.inl ⟨by rfl, ?_⟩) hHeld ?_
          rotate_left
          · (intro ww hSw; (try dsimp only at hSw); go_simp; try with_reducible rfl)
          (try simp only [Act.put, List.getElem_toArray, List.getElem_cons_zero, List.getElem_cons_succ, List.setIfInBounds_toArray, List.set_cons_zero, List.set_cons_succ])
          refine wpAnyH_take (i := 13) (v := ?_) rfl (by kernel_rfl) (by kernel_rfl) (by kernel_rfl) (fun _ _ _ h => h) (Or.inl ⟨by rfl, ?_⟩) hHeld ?_
          rotate_left
          · (intro ww hSw; (try dsimp only at hSw); go_simp; try with_reducible rfl)
          (try simp only [Act.put, List.getElem_toArray, List.getElem_cons_zero, List.getElem_cons_succ, List.setIfInBounds_toArray, List.set_cons_zero, List.set_cons_succ])
          refine wpAnyH_take (i := 14) (v := ?_) rfl (by kernel_rfl) (by kernel_rfl) (by kernel_rfl) (fun _ _ _ h => h) (Or.inl ⟨by rfl, ?_⟩) hHeld ?_
          rotate_left
          · (intro ww hSw; (try dsimp only at hSw); go_simp; try with_reducible rfl)
          (try simp only [Act.put, List.getElem_toArray, List.getElem_cons_zero, List.getElem_cons_succ, List.setIfInBounds_toArray, List.set_cons_zero, List.set_cons_succ])
          refine wpAnyH_take (i := 15) (v := ?_) rfl (by kernel_rfl) (by kernel_rfl) (by kernel_rfl) (fun _ _ _ h => h) (Or.inl ⟨by rfl, ?_⟩) hHeld ?_
          rotate_left
          · (intro ww hSw; (try dsimp only at hSw); go_simp; try with_reducible rfl)
          (try simp only [Act.put, List.getElem_toArray, List.getElem_cons_zero, List.getElem_cons_succ, List.setIfInBounds_toArray, List.set_cons_zero, List.set_cons_succ])
          refine wpAnyH_take (i := 16) (v := ?_) rfl (by kernel_rfl) (by kernel_rfl) (by kernel_rfl) (fun _ _ _ h => h) (Or.inl ⟨by rfl, ?_⟩) hHeld ?_
          rotate_left
          · (intro ww hSw; (try dsimp only at hSw); go_simp; try with_reducible rfl)
          (try simp only [Act.put, List.getElem_toArray, List.getElem_cons_zero, List.getElem_cons_succ, List.setIfInBounds_toArray, List.set_cons_zero, List.set_cons_succ])
          refine wpAnyH_ready (rs := [10]) (by kernel_rfl) (by simp) ?_
          refine AllReadyH.cons rfl ?_ ?_
          · intro K' hK
            rw [if_pos (by rfl)]
            go_simp
            have hbe := below_alloc hbd (by simp) (.cells #[.int .u8 ((y : Int) + 97)] 5)
            refine hK.out _ _ ?_ (fun hHeld2 => ?_)
            · exact obj_at (hX_3.ext hbe) 0 _ rfl
            clear hK K' hHeld
            have hHeld := hHeld2
            clear hHeld2
            (try simp only [Act.put, List.getElem_toArray, List.getElem_cons_zero, List.getElem_cons_succ, List.setIfInBounds_toArray, List.set_cons_zero, List.set_cons_succ])
            refine wpAnyH_ready (rs := [11]) (by kernel_rfl) (by simp) ?_
            refine AllReadyH.cons rfl ?_ ?_
            · intro K' hK
              rw [if_pos (by rfl)]
              go_simp
              refine hK.out _ _ ?_ (fun hHeld2 => ?_)
              · exact obj_at (hX_3.ext hbe) 0 _ rfl
              clear hK K' hHeld
              have hHeld := hHeld2
              clear hHeld2
              (try simp only [Act.put, List.getElem_toArray, List.getElem_cons_zero, List.getElem_cons_succ, List.setIfInBounds_toArray, List.set_cons_zero, List.set_cons_succ])
              refine wpAnyH_take (i := 12) (v := ?_) rfl (by kernel_rfl) (by kernel_rfl) (by kernel_rfl) (fun _ _ _ h => h) (Or.inl ⟨by rfl, ?_⟩) hHeld ?_
              rotate_left
              · (intro ww hSw; (try dsimp only at hSw); go_simp; try with_reducible rfl)
              (try simp only [Act.put, List.getElem_toArray, List.getElem_cons_zero, List.getElem_cons_succ, List.setIfInBounds_toArray, List.set_cons_zero, List.set_cons_succ])
              refine wpAnyH_take (i := 17) (v := ?_) rfl (by kernel_rfl) (by kernel_rfl) (by kernel_rfl) (fun _ _ _ h => h) (Or.inl ⟨by rfl, ?_⟩) hHeld ?_
              rotate_left
              · (intro ww hSw; (try dsimp only at hSw); go_simp; try with_reducible rfl)
              (try simp only [Act.put, List.getElem_toArray, List.getElem_cons_zero, List.getElem_cons_succ, List.setIfInBounds_toArray, List.set_cons_zero, List.set_cons_succ])
              refine wpAnyH_take (i := 18) (v := ?_) rfl (by kernel_rfl) (by kernel_rfl) (by kernel_rfl) (fun _ _ _ h => h) (Or.inl ⟨by rfl, ?_⟩) hHeld ?_
              rotate_left
              · (intro ww hSw; (try dsimp only at hSw); go_simp; try with_reducible rfl)
              (try simp only [Act.put, List.getElem_toArray, List.getElem_cons_zero, List.getElem_cons_succ, List.setIfInBounds_toArray, List.set_cons_zero, List.set_cons_succ])
              refine wpAnyH_done (by kernel_rfl) ?_ _
              refine NoPanic.normal ?_
              go_upto_region 17 with fail
              rw [← HSET.out]
              obtain ⟨u9, hu9⟩ : ∃ v, (u3.alloc (.cells #[.int .u8 ((y : Int) + 97)] 5)).drew = v := ⟨_, rfl⟩
              rw [hu9]
              replace hbe : Below u3.heap.size u3 u9 := hu9 ▸ hbe
              clear hu9 hcv hcv0 hcv1 hHeld hbd hcat1 hcat2
              have hB9b := below_step hB3 hbe hB3.size
              have hA9b := hA9_3.ext hbe
              have hX9b := hX_3.ext hbe
              clear q0 q1 q2 q3 ql
              obtain ⟨q0, q1, q2, q3, ql⟩ := box4 hX9b
              have tok0 : True := trivial
              go_wp2_with 
                (first
                  | (clear tok0; go_at_call 35; refine (HNX.out _ hA9b).mono ?_; rintro e u1 ⟨rfl, hb1⟩; replace hb1 := ex_below hb1; have hB1 := below_step hB9b hb1 hB9b.size; have hA9b_1 := hA9b.ext hb1; have hX_1 := hX9b.ext hb1; clear q0 q1 q2 q3 ql; obtain ⟨q0, q1, q2, q3, ql⟩ := box4 hX_1; have tok1 : True := trivial)
                  | (clear tok1; go_at_call 17; refine (works_any _).mono ?_; rintro e u2 ⟨rfl, hb2⟩; replace hb2 := ex_below hb2; have hB2 := below_step hB1 hb2 hB1.size; have hA9b_2 := hA9b_1.ext hb2; have hX_2 := hX_1.ext hb2; clear q0 q1 q2 q3 ql; obtain ⟨q0, q1, q2, q3, ql⟩ := box4 hX_2; have tok2 : True := trivial))
              go_ret
              exact gives_of rfl hB2
            exact AllReadyH.nil
          exact AllReadyH.nil

end Go.Proofs.Ytgjfejpibielaaa
