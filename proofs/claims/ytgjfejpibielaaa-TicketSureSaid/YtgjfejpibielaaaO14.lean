/- Proved here: the law TicketSure, a part of the proofs about the ticket laws. Conditions: those that each theorem names, no others. -/
import Derived.Test.YtgjfejpibielaaaO9
import Derived.WalkKit
import Derived.WalkSpells
import Derived.WalkLawsBesides
import Derived.Below
import Derived.Deep.QuietTactic
import Derived.BigQuiet
import Derived.Deep.Light
import Derived.Test.YtgjfejpibielaaaO6
import Derived.Deep.RegionHeld3
set_option linter.unusedSimpArgs false
set_option linter.unusedVariables false
namespace Go.Proofs.Ytgjfejpibielaaa
open Go.RowKit Go.Maps Go.Shelf
attribute [local go_sem] Oper.semAt_some World.cell?_setCell_far
theorem box4 {W : World} {B : Nat} {t : TypeId} {x0 x1 x2 x3 : Value} (h : BlkAt W B #[x0, x1, x2, x3] t) : W.cell? ⟨B, 0, none⟩ = some x0 ∧ W.cell? ⟨B, 1, none⟩ = some x1 ∧ W.cell? ⟨B, 2, none⟩ = some x2 ∧ W.cell? ⟨B, 3, none⟩ = some x3 ∧ B < W.heap.size :=
  ⟨obj_at h 0 _ rfl, obj_at h 1 _ rfl, obj_at h 2 _ rfl, obj_at h 3 _ rfl, obj_lt h⟩
theorem orK_lt {l : List (List Nat)} (h : ∀ w, w ∈ l → ∀ c, c ∈ w → c < 6) (p : Nat) : orK l p < 64 := by
  refine Tt.snoc_ind (P := fun l => (∀ w, w ∈ l → ∀ c, c ∈ w → c < 6) → orK l p < 64) ?_ ?_ l h
  · intro _; exact Nat.zero_lt_succ _
  · intro l w ih h
    rw [orK_snoc]
    have h1 := ih (fun v hv => h v (by simp [hv]))
    have h2 : w.getD p 0 < 6 := by
      rw [List.getD_eq_getElem?_getD]
      cases hp : w[p]? with
      | none => exact Nat.zero_lt_succ _
      | some c => exact h w (by simp) c (List.mem_of_getElem? hp)
    exact Nat.or_lt_two_pow (n := 6) h1 (Nat.lt_of_lt_of_le (Nat.pow_lt_pow_right (by omega) h2) (Nat.le_refl _))
theorem orL_nil (n : Nat) : orL n [] = List.replicate n 0 := by
  unfold orL
  apply List.ext_getElem
  · simp
  · intro i h1 h2
    simp [orK]
theorem fit_few (L rest : Nat) (K T : List Nat) : (fitL L rest K T).length ≤ (Tt.codes L rest K).length := by
  unfold fitL
  have h := List.length_filter_le (fitN L rest K T) (List.range (Tt.codes L rest K).length)
  rwa [List.length_range] at h
theorem can_none (L rest : Nat) (K T : List Nat) : (canN L rest K T []).length = 0 := by
  unfold canN
  rw [List.length_eq_zero_iff, List.filter_eq_nil_iff]
  intro i _
  simp [Tt.soldB]
theorem rng_none (w : World) : Rng w none (zr []) := ⟨rfl, fun h => by simp [zr] at h⟩
set_option maxRecDepth 100000 in
set_option maxHeartbeats 8000000 in
theorem sure_law (L n r : Int) (A : Option Addr) (K : List Int) (c : Nat) (B : Option Addr) (bs : List Nat) (bc : Nat) (w : World) (hA : I64 w A K) (hBy : U8 w B bs) (hl9 : K.length ≤ 9223372036854775807) (hb9 : bs.length ≤ 9223372036854775807) : Calls Try.prog 10 #[.agg #[.int .i64 L, .int .i64 n, .slice A K.length c, .int .i64 r], .slice B bs.length bc] w (Gives w (.bool true)) := by
  obtain ⟨b, hb, hF⟩ := fine_any L n r K hl9
  have HF := hide hF
  clear hF
  cases b with
  | false =>
    clear hb
    go_enter Try.func10, Try.ntmps10
    go_upto_region 1 with fail
    have hW : Below w.heap.size w (w.alloc (.cells #[.int .i64 L, .int .i64 n, .slice A K.length c, .int .i64 r] 24)) := below_alloc (Below.refl _ _) (Nat.le_refl _) _
    have hX : BlkAt (w.alloc (.cells #[.int .i64 L, .int .i64 n, .slice A K.length c, .int .i64 r] 24)) w.heap.size #[.int .i64 L, .int .i64 n, .slice A K.length c, .int .i64 r] 24 := heap_alloc_new _ _
    obtain ⟨wa, hwa⟩ : ∃ wa, (w.alloc (.cells #[.int .i64 L, .int .i64 n, .slice A K.length c, .int .i64 r] 24)) = wa := ⟨_, rfl⟩
    rw [hwa] at hW hX ⊢
    clear hwa
    replace hA := hA.ext hW
    have q0 := obj_at hX 0 _ rfl
    have q1 := obj_at hX 1 _ rfl
    have q2 := obj_at hX 2 _ rfl
    have q3 := obj_at hX 3 _ rfl
    have ql := obj_lt hX
    have hWs := hW.size
    have tok0 : True := trivial
    go_wp2_with (first
        | (clear tok0; go_at_call 45; refine (HF.out A c _ hA).mono ?_; rintro e u1 ⟨rfl, hb1⟩; replace hb1 := ex_below hb1; have hB1 := below_step hW hb1 hW.size; have hA_1 := hA.ext hb1; have hX_1 := hX.ext hb1; clear q0 q1 q2 q3 ql; obtain ⟨q0, q1, q2, q3, ql⟩ := box4 hX_1; have tok1 : True := trivial)
        | (clear tok1; go_at_call 17; refine (works_any _).mono ?_; rintro e u2 ⟨rfl, hb2⟩; replace hb2 := ex_below hb2; have hB2 := below_step hB1 hb2 hB1.size; have hA_2 := hA_1.ext hb2; have hX_2 := hX_1.ext hb2; clear q0 q1 q2 q3 ql; obtain ⟨q0, q1, q2, q3, ql⟩ := box4 hX_2; have tok2 : True := trivial))
    go_ret
    exact gives_of rfl hB2
  | true =>
    obtain ⟨l, rest, k, rfl, rfl, rfl, rfl, hd, hgr⟩ := hb rfl
    clear hb
    rw [zs_len] at HF hl9 ⊢
    by_cases h20 : 20 < bs.length
    · have h20i : (20 : Int) < (bs.length : Int) := by omega
      clear hd
      go_enter Try.func10, Try.ntmps10
      go_upto_region 1 with fail
      have hW : Below w.heap.size w (w.alloc (.cells #[.int .i64 (l : Nat), .int .i64 (k.length : Nat), .slice A k.length c, .int .i64 (rest : Nat)] 24)) := below_alloc (Below.refl _ _) (Nat.le_refl _) _
      have hX : BlkAt (w.alloc (.cells #[.int .i64 (l : Nat), .int .i64 (k.length : Nat), .slice A k.length c, .int .i64 (rest : Nat)] 24)) w.heap.size #[.int .i64 (l : Nat), .int .i64 (k.length : Nat), .slice A k.length c, .int .i64 (rest : Nat)] 24 := heap_alloc_new _ _
      obtain ⟨wa, hwa⟩ : ∃ wa, (w.alloc (.cells #[.int .i64 (l : Nat), .int .i64 (k.length : Nat), .slice A k.length c, .int .i64 (rest : Nat)] 24)) = wa := ⟨_, rfl⟩
      rw [hwa] at hW hX ⊢
      clear hwa
      replace hA := hA.ext hW
      have q0 := obj_at hX 0 _ rfl
      have q1 := obj_at hX 1 _ rfl
      have q2 := obj_at hX 2 _ rfl
      have q3 := obj_at hX 3 _ rfl
      have ql := obj_lt hX
      have hWs := hW.size
      have tok0 : True := trivial
      go_wp2_with (first
          | (clear tok0; go_at_call 45; refine (HF.out A c _ hA).mono ?_; rintro e u1 ⟨rfl, hb1⟩; replace hb1 := ex_below hb1; have hB1 := below_step hW hb1 hW.size; have hA_1 := hA.ext hb1; have hX_1 := hX.ext hb1; clear q0 q1 q2 q3 ql; obtain ⟨q0, q1, q2, q3, ql⟩ := box4 hX_1; have tok1 : True := trivial)
          | (clear tok1; go_at_call 17; refine (works_any _).mono ?_; rintro e u2 ⟨rfl, hb2⟩; replace hb2 := ex_below hb2; have hB2 := below_step hB1 hb2 hB1.size; have hA_2 := hA_1.ext hb2; have hX_2 := hX_1.ext hb2; clear q0 q1 q2 q3 ql; obtain ⟨q0, q1, q2, q3, ql⟩ := box4 hX_2; have tok2 : True := trivial))
      go_ret
      exact gives_of rfl hB2
    · have h20i : ¬ ((20 : Int) < (bs.length : Int)) := by omega
      have hl2 := hd.1
      have hl6 := hd.2.1
      have hk2 := hd.2.2.1
      have hk8 := hd.2.2.2.1
      have HT := hide (fun w' (h : I64 w' A (zs k)) (hU : U8 w' B bs) => torn_any l rest A k c B bs bc w' hd h hU)
      have hTl := tornL_len l k.length bs
      have hTi := tornL_in hl2 k.length bs
      have hcnt : (Tt.codes l rest k).length ≤ 1679616 := by
        have h3 := Tt.cnt_small (L := l) (rest := rest) (ps := k.zip (Tt.fulls l k.length)) (la := -1) (s := 0) hl6 (by rw [List.length_zip]; omega)
        rwa [cnt_codes] at h3
      have hn8 : (fitL l rest k (tornL l k.length bs)).length ≤ 800 := Nat.le_trans (fit_few _ _ _ _) (Nat.le_trans (codes_gN (by omega)) hgr)
      have HFT := hide (fun Y yc w' (h : I64 w' A (zs k)) (hY : I64 w' Y (zs (tornL l k.length bs))) => c_fits (qs := []) hd hTl hTi (by rfl) (by simp) A c Y yc none 0 w' h hY (rng_none w'))
      rw [can_none] at HFT
      have HSR := hide (fun Y yc w' (h : I64 w' A (zs k)) (hY : I64 w' Y (zs (tornL l k.length bs))) => c_sure hd hTl hTi A c Y yc w' h hY)
      have HFN := hide (fun Y yc w' (h : I64 w' A (zs k)) (hY : I64 w' Y (zs (tornL l k.length bs))) => Find_ok l rest A k c Y (tornL l k.length bs) yc ((fitL l rest k (tornL l k.length bs)).length : Nat) w' hd h hTl hTi hY)
      rw [find_over hTl] at HFN
      have hT8 : (tornL l k.length bs).length ≤ 8 := by omega
      have hmk := make_zeros k.length (by omega)
      rw [mcs_zero] at hmk
      by_cases hz : (fitL l rest k (tornL l k.length bs)).length = 0
      · rw [hz] at HFT HFN
        rw [if_pos hz, if_pos hz] at HSR
        clear hd hTl hTi hz hn8 hgr hcnt
        generalize tornL l k.length bs = T at *
        go_enter Try.func10, Try.ntmps10
        go_upto_region 1 with fail
        have hW : Below w.heap.size w (w.alloc (.cells #[.int .i64 (l : Nat), .int .i64 (k.length : Nat), .slice A k.length c, .int .i64 (rest : Nat)] 24)) := below_alloc (Below.refl _ _) (Nat.le_refl _) _
        have hX : BlkAt (w.alloc (.cells #[.int .i64 (l : Nat), .int .i64 (k.length : Nat), .slice A k.length c, .int .i64 (rest : Nat)] 24)) w.heap.size #[.int .i64 (l : Nat), .int .i64 (k.length : Nat), .slice A k.length c, .int .i64 (rest : Nat)] 24 := heap_alloc_new _ _
        obtain ⟨wa, hwa⟩ : ∃ wa, (w.alloc (.cells #[.int .i64 (l : Nat), .int .i64 (k.length : Nat), .slice A k.length c, .int .i64 (rest : Nat)] 24)) = wa := ⟨_, rfl⟩
        rw [hwa] at hW hX ⊢
        clear hwa
        replace hA := hA.ext hW
        have q0 := obj_at hX 0 _ rfl
        have q1 := obj_at hX 1 _ rfl
        have q2 := obj_at hX 2 _ rfl
        have q3 := obj_at hX 3 _ rfl
        have ql := obj_lt hX
        have hWs := hW.size
        have hU := hBy.ext hW
        have tok0 : True := trivial
        go_upto_region 8 with (first
            | (clear tok0; go_at_call 45; refine (HF.out A c _ hA).mono ?_; rintro e u1 ⟨rfl, hb1⟩; replace hb1 := ex_below hb1; have hB1 := below_step hW hb1 hW.size; have hA_1 := hA.ext hb1; have hU_1 := hU.ext hb1; have hX_1 := hX.ext hb1; clear q0 q1 q2 q3 ql; obtain ⟨q0, q1, q2, q3, ql⟩ := box4 hX_1; have tok1 : True := trivial)
            | (clear tok1; go_at_call 46; refine (HT.out _ hA_1 hU_1).mono ?_; rintro e u2 ⟨Y, yc, rfl, hb2, hY⟩; have hB2 := below_step hB1 hb2 hB1.size; have hA_2 := hA_1.ext hb2; have hU_2 := hU_1.ext hb2; have hX_2 := hX_1.ext hb2; clear q0 q1 q2 q3 ql; obtain ⟨q0, q1, q2, q3, ql⟩ := box4 hX_2; have tok2 : True := trivial)
            | (clear tok2; go_at_call 26; refine (HFT.out _ _ _ hA_2 hY).mono ?_; rintro e u3 ⟨rfl, hb3⟩; replace hb3 := ex_below hb3; have hB3 := below_step hB2 hb3 hB2.size; have hA_3 := hA_2.ext hb3; have hU_3 := hU_2.ext hb3; have hY_3 := hY.ext hb3; have hX_3 := hX_2.ext hb3; clear q0 q1 q2 q3 ql; obtain ⟨q0, q1, q2, q3, ql⟩ := box4 hX_3; have tok3 : True := trivial)
            | (clear tok3; go_at_call 32; refine (HSR.out _ _ _ hA_3 hY_3).mono ?_; rintro e u4 ⟨V, vc, rfl, hb4, hV⟩; have hB4 := below_step hB3 hb4 hB3.size; have hA_4 := hA_3.ext hb4; have hU_4 := hU_3.ext hb4; have hY_4 := hY_3.ext hb4; have hX_4 := hX_3.ext hb4; clear q0 q1 q2 q3 ql; obtain ⟨q0, q1, q2, q3, ql⟩ := box4 hX_4; have tok4 : True := trivial))
        clear tok4
        go_wp2
        go_loopw [12, 13] (fun lv iv wr => lv = .int .i64 (-1) ∧ iv = .int .i64 0 ∧ Below u4.heap.size u4 wr) (fun _ _ _ => 0)
        case atStart => exact ⟨rfl, rfl, below_alloc (Below.refl _ _) (Nat.le_refl _) _⟩
        case round =>
          obtain ⟨rfl, rfl, hb⟩ := hrel
          have hAr := hA_4.ext hb
          have hYr := hY_4.ext hb
          have hXr := hX_4.ext hb
          have hBr := below_step hB4 hb hB4.size
          clear q0 q1 q2 q3 ql
          obtain ⟨q0, q1, q2, q3, ql⟩ := box4 hXr
          have tok20 : True := trivial
          go_wp2_with (first
              | (clear tok20; go_at_call 30; refine (HFN.out _ _ _ hAr hYr).mono ?_; rintro e u21 ⟨rfl, hb21⟩; replace hb21 := ex_below hb21; have hB21 := below_step hBr hb21 hBr.size; have hAr_21 := hAr.ext hb21; have hYr_21 := hYr.ext hb21; have hX_21 := hXr.ext hb21; clear q0 q1 q2 q3 ql; obtain ⟨q0, q1, q2, q3, ql⟩ := box4 hX_21; have tok21 : True := trivial)
              | (clear tok21; go_at_call 17; refine (works_any _).mono ?_; rintro e u22 ⟨rfl, hb22⟩; replace hb22 := ex_below hb22; have hB22 := below_step hB21 hb22 hB21.size; have hAr_22 := hAr_21.ext hb22; have hYr_22 := hYr_21.ext hb22; have hX_22 := hX_21.ext hb22; clear q0 q1 q2 q3 ql; obtain ⟨q0, q1, q2, q3, ql⟩ := box4 hX_22; have tok22 : True := trivial))
          go_ret
          exact gives_of rfl hB22
      · rw [if_neg hz, if_neg hz] at HSR
        have hpos : (0 : Int) < ((fitL l rest k (tornL l k.length bs)).length : Int) := by omega
        have hne : (Tt.codes l rest k).filter (Tt.fitsW (tornL l k.length bs)) ≠ [] := fun h => hz (by rw [fitL_map, h]; rfl)
        have hSl := orL_len k.length ((Tt.codes l rest k).filter (Tt.fitsW (tornL l k.length bs)))
        have hSi := sure_in hne
        have hSf := sure_fit (L := l) (rest := rest) hTl
        have hSg := sure_again (L := l) (rest := rest) hTl
        have HF2 := hide (fun Y yc w' (h : I64 w' A (zs k)) (hY : I64 w' Y (zs (orL k.length ((Tt.codes l rest k).filter (Tt.fitsW (tornL l k.length bs)))))) => c_fits (qs := []) hd hSl hSi (by rfl) (by simp) A c Y yc none 0 w' h hY (rng_none w'))
        have HS2 := hide (fun Y yc w' (h : I64 w' A (zs k)) (hY : I64 w' Y (zs (orL k.length ((Tt.codes l rest k).filter (Tt.fitsW (tornL l k.length bs)))))) => c_sure hd hSl hSi A c Y yc w' h hY)
        rw [can_none, hSf] at HF2
        rw [hSf, if_neg hz, if_neg hz, hSg] at HS2
        have HIS := hide (fun P pc Q qc w' (hP : I64 w' P (zs (orL k.length ((Tt.codes l rest k).filter (Tt.fitsW (tornL l k.length bs)))))) (hQ : I64 w' Q (zs (orL k.length ((Tt.codes l rest k).filter (Tt.fitsW (tornL l k.length bs)))))) => ints_any P _ pc Q _ qc w' hP hQ (by rw [zs_len, hSl]; omega) (by rw [zs_len, hSl]; omega))
        rw [decide_eq_true rfl, zs_len, hSl] at HIS
        rw [hSl] at HF2 HS2
        unfold GivesE at HSR HS2
        rw [zs_len, hSl] at HSR HS2
        have HFI0 := hide (fun i (hi : i < (fitL l rest k (tornL l k.length bs)).length) Y yc w' (h : I64 w' A (zs k)) (hY : I64 w' Y (zs (tornL l k.length bs))) => (show Calls Try.prog 30 #[.agg #[.int .i64 (l : Nat), .int .i64 (k.length : Nat), .slice A k.length c, .int .i64 (rest : Nat)], .slice Y (tornL l k.length bs).length yc, .int .i64 (i : Nat)] w' (Gives w' (.tuple #[.int .i64 ((fitL l rest k (tornL l k.length bs))[i] : Nat), .int .i64 0])) by
          have h3 := Find_ok l rest A k c Y (tornL l k.length bs) yc (i : Nat) w' hd h hTl hTi hY
          rwa [find_at2 hTl hi] at h3))
        have HXI := hide (fun i (hi : i < (fitL l rest k (tornL l k.length bs)).length) => (show ∃ h2 : i < ((Tt.codes l rest k).filter (Tt.fitsW (tornL l k.length bs))).length, ((Tt.codes l rest k).filter (Tt.fitsW (tornL l k.length bs)))[i].length = k.length ∧ (∀ x, x ∈ ((Tt.codes l rest k).filter (Tt.fitsW (tornL l k.length bs)))[i] → x < l) ∧ Tt.fitsW (tornL l k.length bs) ((Tt.codes l rest k).filter (Tt.fitsW (tornL l k.length bs)))[i] = true by
          have h2 : i < ((Tt.codes l rest k).filter (Tt.fitsW (tornL l k.length bs))).length := by rw [← fitL_map]; exact hi
          obtain ⟨m1, m2⟩ := List.mem_filter.1 (List.getElem_mem h2)
          obtain ⟨x1, x2, _⟩ := codes_sum m1
          exact ⟨h2, x1, x2, m2⟩))
        have HCI0 := hide (fun i (hi : i < (fitL l rest k (tornL l k.length bs)).length) (hw : i < ((Tt.codes l rest k).filter (Tt.fitsW (tornL l k.length bs))).length) w' (h : I64 w' A (zs k)) => (show Calls Try.prog 20 #[.agg #[.int .i64 (l : Nat), .int .i64 (k.length : Nat), .slice A k.length c, .int .i64 (rest : Nat)], .int .i64 ((fitL l rest k (tornL l k.length bs))[i] : Nat)] w' (Gives w' (.tuple #[.string (strW (((Tt.codes l rest k).filter (Tt.fitsW (tornL l k.length bs)))[i]'hw)), .int .i64 0])) by
          obtain ⟨h1, h2, h3⟩ := code_fit_at hi
          have h4 := Code_ok l rest A k c ((fitL l rest k (tornL l k.length bs))[i] : Nat) w' hd h
          rw [code_at l rest k h1, h3] at h4
          exact h4))
        have HWI0 := hide (fun x (x1 : x.length = k.length) (x2 : ∀ y, y ∈ x → y < l) w' (h : I64 w' A (zs k)) => (show Calls Try.prog 50 #[.agg #[.int .i64 (l : Nat), .int .i64 (k.length : Nat), .slice A k.length c, .int .i64 (rest : Nat)], .string (strW x)] w' (Gives w' (.bool true)) by
          have h3 := rIsWord_any l rest A k c (strW x) w' hd h (by rw [strW_size, x1]; omega)
          rwa [isW_strW x1 x2 hl6] at h3))
        have HRI0 := hide (fun x (x1 : x.length = k.length) (x2 : ∀ y, y ∈ x → y < l) (x3 : Tt.fitsW (tornL l k.length bs) x = true) Y yc w' (h : I64 w' Y (zs (tornL l k.length bs))) => (show Calls Try.prog 52 #[.slice Y (tornL l k.length bs).length yc, .string (strW x)] w' (Gives w' (.bool true)) by
          have h3 := rFit_any Y (tornL l k.length bs) yc x w' h (by omega) (fun t ht => by have := (hTi t ht).2; have := Nat.pow_le_pow_right (n := 2) (by decide) hl6; omega) (fun y hy => by have := x2 y hy; omega) (by omega)
          rwa [x3] at h3))
        have HSO := hide (fun i (hi : i + 1 < (fitL l rest k (tornL l k.length bs)).length) => (show (fitL l rest k (tornL l k.length bs))[i]'(Nat.lt_of_succ_lt hi) < (fitL l rest k (tornL l k.length bs))[i + 1] from List.pairwise_iff_getElem.1 (fit_sorted l rest k (tornL l k.length bs)) i (i + 1) (by omega) hi (by omega)))
        have HFM := hide (fun i (hi : i ∈ fitL l rest k (tornL l k.length bs)) => (show i ≤ 1679616 by obtain ⟨h, _⟩ := fit_in hi; omega))
        have HFW6 := hide (fun x (hx : x ∈ (Tt.codes l rest k).filter (Tt.fitsW (tornL l k.length bs))) cc (hc : cc ∈ x) => (show cc < 6 by
          obtain ⟨_, h, _⟩ := codes_sum (List.mem_filter.1 hx).1
          have := h cc hc
          omega))
        have HFWL := hide (fitL_map l rest k (tornL l k.length bs)).symm
        clear hne hSi hSf hSg hSl hd hTl hTi hgr hcnt
        generalize (Tt.codes l rest k).filter (Tt.fitsW (tornL l k.length bs)) = fw at *
        generalize fitL l rest k (tornL l k.length bs) = fl at *
        generalize tornL l k.length bs = T at *
        go_enter Try.func10, Try.ntmps10
        go_upto_region 1 with fail
        have hW : Below w.heap.size w (w.alloc (.cells #[.int .i64 (l : Nat), .int .i64 (k.length : Nat), .slice A k.length c, .int .i64 (rest : Nat)] 24)) := below_alloc (Below.refl _ _) (Nat.le_refl _) _
        have hX : BlkAt (w.alloc (.cells #[.int .i64 (l : Nat), .int .i64 (k.length : Nat), .slice A k.length c, .int .i64 (rest : Nat)] 24)) w.heap.size #[.int .i64 (l : Nat), .int .i64 (k.length : Nat), .slice A k.length c, .int .i64 (rest : Nat)] 24 := heap_alloc_new _ _
        obtain ⟨wa, hwa⟩ : ∃ wa, (w.alloc (.cells #[.int .i64 (l : Nat), .int .i64 (k.length : Nat), .slice A k.length c, .int .i64 (rest : Nat)] 24)) = wa := ⟨_, rfl⟩
        rw [hwa] at hW hX ⊢
        clear hwa
        replace hA := hA.ext hW
        have q0 := obj_at hX 0 _ rfl
        have q1 := obj_at hX 1 _ rfl
        have q2 := obj_at hX 2 _ rfl
        have q3 := obj_at hX 3 _ rfl
        have ql := obj_lt hX
        have hWs := hW.size
        have hU := hBy.ext hW
        have tok0 : True := trivial
        go_upto_region 8 with (first
            | (clear tok0; go_at_call 45; refine (HF.out A c _ hA).mono ?_; rintro e u1 ⟨rfl, hb1⟩; replace hb1 := ex_below hb1; have hB1 := below_step hW hb1 hW.size; have hA_1 := hA.ext hb1; have hU_1 := hU.ext hb1; have hX_1 := hX.ext hb1; clear q0 q1 q2 q3 ql; obtain ⟨q0, q1, q2, q3, ql⟩ := box4 hX_1; have tok1 : True := trivial)
            | (clear tok1; go_at_call 46; refine (HT.out _ hA_1 hU_1).mono ?_; rintro e u2 ⟨Y, yc, rfl, hb2, hY⟩; have hB2 := below_step hB1 hb2 hB1.size; have hA_2 := hA_1.ext hb2; have hU_2 := hU_1.ext hb2; have hX_2 := hX_1.ext hb2; clear q0 q1 q2 q3 ql; obtain ⟨q0, q1, q2, q3, ql⟩ := box4 hX_2; have tok2 : True := trivial)
            | (clear tok2; go_at_call 26; refine (HFT.out _ _ _ hA_2 hY).mono ?_; rintro e u3 ⟨rfl, hb3⟩; replace hb3 := ex_below hb3; have hB3 := below_step hB2 hb3 hB2.size; have hA_3 := hA_2.ext hb3; have hU_3 := hU_2.ext hb3; have hY_3 := hY.ext hb3; have hX_3 := hX_2.ext hb3; clear q0 q1 q2 q3 ql; obtain ⟨q0, q1, q2, q3, ql⟩ := box4 hX_3; have tok3 : True := trivial)
            | (clear tok3; go_at_call 32; refine (HSR.out _ _ _ hA_3 hY_3).mono ?_; rintro e u4 ⟨V, vc, rfl, hb4, hV⟩; have hB4 := below_step hB3 hb4 hB3.size; have hA_4 := hA_3.ext hb4; have hU_4 := hU_3.ext hb4; have hY_4 := hY_3.ext hb4; have hX_4 := hX_3.ext hb4; clear q0 q1 q2 q3 ql; obtain ⟨q0, q1, q2, q3, ql⟩ := box4 hX_4; have tok4 : True := trivial))
        clear tok4
        obtain ⟨wz, rfl⟩ : ∃ wz : World, wz = u4 := ⟨_, rfl⟩
        go_wp2
        have HXU := hide hX_4
        obtain ⟨bb, hbb⟩ : ∃ v, wz.heap.size = v := ⟨_, rfl⟩
        have hba : Below wz.heap.size wz (wz.alloc (.cells (mcs (List.replicate k.length 0)) 3)) := below_alloc (Below.refl _ _) (Nat.le_refl _) _
        have hB0 : BlkAt (wz.alloc (.cells (mcs (List.replicate k.length 0)) 3)) wz.heap.size (mcs (orL k.length (fw.take 0))) 3 := by rw [List.take_zero, orL_nil]; exact heap_alloc_new _ _
        rw [hbb] at hB0 ⊢
        go_loopw [12, 13] (fun lv iv wr => ∃ (i : Nat) (la : Int), i ≤ fl.length ∧ iv = .int .i64 (i : Nat) ∧ lv = .int .i64 la ∧ Hid (∀ h : i < fl.length, la < (fl[i] : Int)) ∧ BlkAt wr bb (mcs (orL k.length (fw.take i))) 3 ∧ Below wz.heap.size wz wr) (fun _ iv _ => fl.length - (intOf iv).toNat)
        case atStart => exact ⟨0, -1, Nat.zero_le _, rfl, rfl, hide (fun h => by omega), hB0, hba⟩
        case round =>
          clear hB0 hba
          obtain ⟨i, la, hi, rfl, rfl, HLA, hBB, hb⟩ := hrel
          have hzr := hb.size
          have hAr := hA_4.ext hb
          have hYr := hY_4.ext hb
          have hXr := hX_4.ext hb
          clear q0 q1 q2 q3 ql
          obtain ⟨q0, q1, q2, q3, ql⟩ := box4 hXr
          by_cases hil : i < fl.length
          · have hii : (i : Int) < (fl.length : Int) := by omega
            have hlj := HLA.out hil
            have HFI := hide (fun Y yc w' hA hY => HFI0.out i hil Y yc w' hA hY)
            obtain ⟨hiw, hx1, hx2, hx3⟩ := HXI.out i hil
            have HCI := hide (fun w' hA => HCI0.out i hil hiw w' hA)
            have HWI := hide (fun w' hA => HWI0.out (fw[i]'hiw) hx1 hx2 w' hA)
            have HRI := hide (fun Y yc w' hY => HRI0.out (fw[i]'hiw) hx1 hx2 hx3 Y yc w' hY)
            have HTK : Hid (fw.take (i + 1) = fw.take i ++ [fw[i]'hiw]) := hide (take_snoc _ _ hiw)
            have HLA2 : Hid (∀ h : i + 1 < fl.length, (fl[i] : Int) < (fl[i + 1] : Int)) := hide (fun h => by have := HSO.out i h; omega)
            have hfj : fl[i] ≤ 1679616 := HFM.out _ (List.getElem_mem hil)
            obtain ⟨j, hj⟩ : ∃ v, fl[i] = v := ⟨_, rfl⟩
            obtain ⟨x, hx⟩ : ∃ v, fw[i]'hiw = v := ⟨_, rfl⟩
            rw [hj] at hlj HFI HCI HLA2 hfj
            rw [hx] at HCI HWI HRI HTK hx1 hx2
            have HX1 := hide hx1
            have HX2 := hide hx2
            have hlj2 : ¬ ((j : Int) ≤ la) := by omega
            clear hx hj hx1 hx2 hx3 hiw HLA HFI0 HCI0 HWI0 HRI0 HXI HSO HFM HFN HF2 HS2 HIS HSR HFT
            have tok10 : True := trivial
            go_upto_region 17 with (first
                | (clear tok10; go_at_call 30; refine (HFI.out _ _ _ hAr hYr).mono ?_; rintro e u11 ⟨rfl, hb11⟩; replace hb11 := ex_below hb11; have hB11 := below_step hb hb11 hb.size; have hAr_11 := hAr.ext hb11; have hYr_11 := hYr.ext hb11; have hBB_11 := hBB.ext hb11; have hX_11 := hXr.ext hb11; clear q0 q1 q2 q3 ql; obtain ⟨q0, q1, q2, q3, ql⟩ := box4 hX_11; have tok11 : True := trivial)
                | (clear tok11; go_at_call 20; refine (HCI.out _ hAr_11).mono ?_; rintro e u12 ⟨rfl, hb12⟩; replace hb12 := ex_below hb12; have hB12 := below_step hB11 hb12 hB11.size; have hAr_12 := hAr_11.ext hb12; have hYr_12 := hYr_11.ext hb12; have hBB_12 := hBB_11.ext hb12; have hX_12 := hX_11.ext hb12; clear q0 q1 q2 q3 ql; obtain ⟨q0, q1, q2, q3, ql⟩ := box4 hX_12; have tok12 : True := trivial)
                | (clear tok12; go_at_call 50; refine (HWI.out _ hAr_12).mono ?_; rintro e u13 ⟨rfl, hb13⟩; replace hb13 := ex_below hb13; have hB13 := below_step hB12 hb13 hB12.size; have hAr_13 := hAr_12.ext hb13; have hYr_13 := hYr_12.ext hb13; have hBB_13 := hBB_12.ext hb13; have hX_13 := hX_12.ext hb13; clear q0 q1 q2 q3 ql; obtain ⟨q0, q1, q2, q3, ql⟩ := box4 hX_13; have tok13 : True := trivial)
                | (clear tok13; go_at_call 52; refine (HRI.out _ _ _ hYr_13).mono ?_; rintro e u14 ⟨rfl, hb14⟩; replace hb14 := ex_below hb14; have hB14 := below_step hB13 hb14 hB13.size; have hAr_14 := hAr_13.ext hb14; have hYr_14 := hYr_13.ext hb14; have hBB_14 := hBB_13.ext hb14; have hX_14 := hX_13.ext hb14; clear q0 q1 q2 q3 ql; obtain ⟨q0, q1, q2, q3, ql⟩ := box4 hX_14; have tok14 : True := trivial))
            clear tok14
            go_upto_region 18 with fail
            go_wp2
            go_loopw [18] (fun kv wr => ∃ p : Nat, p ≤ k.length ∧ kv = .int .i64 (p : Nat) ∧ BlkAt wr bb (mcs (mixL (orL k.length (fw.take (i + 1))) (orL k.length (fw.take i)) p)) 3 ∧ Below wz.heap.size wz wr) (fun kv _ => k.length - (intOf kv).toNat)
            case atStart => exact ⟨0, Nat.zero_le _, rfl, by rw [mixL_zero]; exact hBB_14, hB14⟩
            case round =>
              clear hBB_14 hB14 hB13 hB12 hB11 q0 q1 q2 q3 ql
              obtain ⟨p, hp, rfl, hBp, hbp⟩ := hrel
              have hzp := hbp.size
              have hXp := HXU.out.ext hbp
              obtain ⟨q0, q1, q2, q3, ql⟩ := box4 hXp
              have hol : (orL k.length (fw.take (i + 1))).length = (orL k.length (fw.take i)).length := by rw [orL_len, orL_len]
              by_cases hpl : p < k.length
              · have hpi : (p : Int) < (k.length : Int) := by omega
                have hko : p < (orL k.length (fw.take i)).length := by rw [orL_len]; exact hpl
                have hkx : p < x.length := by rw [HX1.out]; exact hpl
                have i0 := obj_at hBp p _ (mcs_get _ p _ (mixL_at _ _ p hol hko))
                have if0 := obj_fz hBp p
                have il := obj_lt hBp
                have HST := hide (mixL_step (orL k.length (fw.take (i + 1))) (orL k.length (fw.take i)) p hol hko)
                have e1 := orL_at k.length (fw.take (i + 1)) p hpl
                have e2 := orL_at k.length (fw.take i) p hpl
                have hs64 := orK_lt (l := fw.take i) (fun w hw => HFW6.out w (List.mem_of_mem_take hw)) p
                have hc6 : x[p] < 6 := by have := HX2.out _ (List.getElem_mem hkx); omega
                have hgd : x.getD p 0 = x[p] := by rw [List.getD_eq_getElem?_getD, List.getElem?_eq_getElem hkx]; rfl
                rw [HTK.out, orK_snoc, hgd] at e1
                rw [e2] at i0
                have HST2 : Hid ((mixL (orL k.length (fw.take (i + 1))) (orL k.length (fw.take i)) p).set p (orK (fw.take i) p ||| 2 ^ x[p]) = mixL (orL k.length (fw.take (i + 1))) (orL k.length (fw.take i)) (p + 1)) := hide (by
                  rw [← HST.out]
                  congr 1
                  exact (show (orL k.length (fw.take (i + 1)))[p] = _ by simp only [HTK.out]; exact e1).symm)
                have hbS : p < (strW x).size := by rw [strW_size]; exact hkx
                have hbSI : (p : Int) < ((strW x).size : Int) := by omega
                have hby := strW_at (ws := x) (fun y hy => by have := HX2.out y hy; omega) p hkx
                obtain ⟨cx, hcxe⟩ : ∃ v, x[p] = v := ⟨_, rfl⟩
                obtain ⟨sn, hsn⟩ : ∃ v, orK (fw.take i) p = v := ⟨_, rfl⟩
                rw [hcxe] at hc6 hby HST2
                rw [hsn] at i0 hs64 HST2
                have hbw : IntKind.u8.wrap ((cx : Int) + 97 - 97) = (cx : Int) := u8_letter2 cx hc6
                have hor := bOr sn hs64 cx hc6
                have hs2 := (pow_wraps cx hc6).2
                have h2c : 2 ^ cx < 64 := Nat.lt_of_lt_of_le (Nat.pow_lt_pow_right (by omega) hc6) (Nat.le_refl _)
                obtain ⟨g, hg⟩ : ∃ v, 2 ^ cx = v := ⟨_, rfl⟩
                rw [hg] at hor hs2 HST2 h2c
                clear hol hko HST e1 e2 hgd hcxe hsn hg
                go_upto_region 21 with fail
                refine wp_region_grow_tail 13 (by kernel_rfl) (by kernel_rfl) ?_
                simp only [List.take_succ_cons, List.take_zero, List.drop_succ_cons, List.drop_zero]
                repeat (go_big_quiet_step (fail))
                refine wpQuiet_nil ?_
                clear hs2
                intro w7 hb7
                replace hb7 := ex_below hb7
                have hB7 := hBp.ext hb7
                have hz7 := hb7.size
                have i7 := (hb7.cell (p := ⟨bb, p, none⟩) il).trans i0
                have if7 := obj_fz hB7 p
                have il7 := obj_lt hB7
                go_wp2
                have hB8 : BlkAt (w7.setCell ⟨bb, p, none⟩ (.int .i64 ((sn ||| g : Nat) : Int))) bb (mcs (mixL (orL k.length (fw.take (i + 1))) (orL k.length (fw.take i)) (p + 1))) 3 := by
                  rw [← HST2.out, ← mcs_set]
                  exact set_obj hB7 p _
                exact ⟨⟨p + 1, by omega, by go_num, hB8, Below.setCell (below_step hbp hb7 hzp) (by simp; omega) _⟩, by simp [intOf]; omega⟩
              · have hpi : ¬ ((p : Int) < (k.length : Int)) := by omega
                obtain rfl : p = k.length := by omega
                have hBn : BlkAt wr bb (mcs (orL k.length (fw.take (i + 1)))) 3 := by
                  have h := mixL_all _ _ hol
                  rw [orL_len] at h
                  rw [h] at hBp
                  exact hBp
                clear hBp
                go_wp2
                exact ⟨⟨i + 1, j, by omega, by go_num, rfl, HLA2, hBn, hbp⟩, by simp [intOf]; omega⟩
          · have hii : ¬ ((i : Int) < (fl.length : Int)) := by omega
            obtain rfl : i = fl.length := by omega
            have hall : fw.take fl.length = fw := List.take_of_length_le (by rw [HFWL.out]; exact Nat.le_refl _)
            rw [hall] at hBB
            have hIo : I64 wr (some ⟨bb, 0, none⟩) (zs (orL k.length fw)) := by
              intro j x hj
              unfold zs at hj
              rw [List.getElem?_map] at hj
              cases hx : (orL k.length fw)[j]? with
              | none => rw [hx] at hj; cases hj
              | some y =>
                rw [hx] at hj; cases hj
                exact ⟨bb, 0, rfl, obj_lt hBB, Nat.le_of_lt (obj_lt hBB), by rw [Nat.zero_add]; exact obj_at hBB j _ (mcs_get _ j y hx)⟩
            have hVr := hV.ext hb
            have hBr := below_step hB4 hb hB4.size
            clear hall hBB hii HLA HFI0 HCI0 HWI0 HRI0 HXI HSO HFM HSR HFT HFW6
            generalize orL k.length fw = sv at *
            have tok0 : True := trivial
            go_wp2_with (first
                | (clear tok0; go_at_call 30; refine (HFN.out _ _ _ hAr hYr).mono ?_; rintro e u1 ⟨rfl, hb1⟩; replace hb1 := ex_below hb1; have hB1 := below_step hBr hb1 hBr.size; have hAr_1 := hAr.ext hb1; have hYr_1 := hYr.ext hb1; have hVr_1 := hVr.ext hb1; have hIo_1 := hIo.ext hb1; have hX_1 := hXr.ext hb1; clear q0 q1 q2 q3 ql; obtain ⟨q0, q1, q2, q3, ql⟩ := box4 hX_1; have tok1 : True := trivial)
                | (clear tok1; go_at_call 34; refine (HIS.out _ _ _ _ _ hVr_1 hIo_1).mono ?_; rintro e u2 ⟨rfl, hb2⟩; replace hb2 := ex_below hb2; have hB2 := below_step hB1 hb2 hB1.size; have hAr_2 := hAr_1.ext hb2; have hYr_2 := hYr_1.ext hb2; have hVr_2 := hVr_1.ext hb2; have hIo_2 := hIo_1.ext hb2; have hX_2 := hX_1.ext hb2; clear q0 q1 q2 q3 ql; obtain ⟨q0, q1, q2, q3, ql⟩ := box4 hX_2; have tok2 : True := trivial)
                | (clear tok2; go_at_call 26; refine (HF2.out _ _ _ hAr_2 hVr_2).mono ?_; rintro e u3 ⟨rfl, hb3⟩; replace hb3 := ex_below hb3; have hB3 := below_step hB2 hb3 hB2.size; have hAr_3 := hAr_2.ext hb3; have hYr_3 := hYr_2.ext hb3; have hVr_3 := hVr_2.ext hb3; have hIo_3 := hIo_2.ext hb3; have hX_3 := hX_2.ext hb3; clear q0 q1 q2 q3 ql; obtain ⟨q0, q1, q2, q3, ql⟩ := box4 hX_3; have tok3 : True := trivial)
                | (clear tok3; go_at_call 32; refine (HS2.out _ _ _ hAr_3 hVr_3).mono ?_; rintro e u4 ⟨X2, xc, rfl, hb4, hX2⟩; have hB4 := below_step hB3 hb4 hB3.size; have hAr_4 := hAr_3.ext hb4; have hYr_4 := hYr_3.ext hb4; have hVr_4 := hVr_3.ext hb4; have hIo_4 := hIo_3.ext hb4; have hX_4 := hX_3.ext hb4; clear q0 q1 q2 q3 ql; obtain ⟨q0, q1, q2, q3, ql⟩ := box4 hX_4; have tok4 : True := trivial)
                | (clear tok4; go_at_call 34; refine (HIS.out _ _ _ _ _ hX2 hVr_4).mono ?_; rintro e u5 ⟨rfl, hb5⟩; replace hb5 := ex_below hb5; have hB5 := below_step hB4 hb5 hB4.size; have hAr_5 := hAr_4.ext hb5; have hYr_5 := hYr_4.ext hb5; have hVr_5 := hVr_4.ext hb5; have hIo_5 := hIo_4.ext hb5; have hX2_5 := hX2.ext hb5; have hX_5 := hX_4.ext hb5; clear q0 q1 q2 q3 ql; obtain ⟨q0, q1, q2, q3, ql⟩ := box4 hX_5; have tok5 : True := trivial)
                | (clear tok5; go_at_call 17; refine (works_any _).mono ?_; rintro e u6 ⟨rfl, hb6⟩; replace hb6 := ex_below hb6; have hB6 := below_step hB5 hb6 hB5.size; have hAr_6 := hAr_5.ext hb6; have hYr_6 := hYr_5.ext hb6; have hVr_6 := hVr_5.ext hb6; have hIo_6 := hIo_5.ext hb6; have hX2_6 := hX2_5.ext hb6; have hX_6 := hX_5.ext hb6; clear q0 q1 q2 q3 ql; obtain ⟨q0, q1, q2, q3, ql⟩ := box4 hX_6; have tok6 : True := trivial))
            go_ret
            exact gives_of rfl hB6

end Go.Proofs.Ytgjfejpibielaaa
