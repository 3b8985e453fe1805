/- Proved here: a new machine with all letters open; bytes, what has turned, and the marks of loops over functions, a part of the proofs about the ticket laws. Conditions: those that each theorem names, no others. -/
import Derived.Test.YtgjfejpibielaaaQ11
import Derived.WalkKit
import Derived.WalkSpells
import Derived.WalkLawsBesides
import Derived.Below
import Derived.Deep.QuietTactic
import Derived.BigQuiet
import Derived.Deep.Light
import Derived.Test.YtgjfejpibielaaaQ05
import Derived.Deep.DeepCutAuto
import Derived.Deep.CutBlock
set_option linter.unusedSimpArgs false
set_option linter.unusedVariables false
namespace Go.Proofs.Ytgjfejpibielaaa
open Go.RowKit Go.Maps Go.Shelf
attribute [local go_sem] Oper.semAt_some
theorem two_pow (L : Nat) (h : L ≤ 6) : 1 ≤ 2 ^ L ∧ 2 ^ L ≤ 64 := by
 have : L = 0 ∨ L = 1 ∨ L = 2 ∨ L = 3 ∨ L = 4 ∨ L = 5 ∨ L = 6 := by omega
 rcases this with rfl | rfl | rfl | rfl | rfl | rfl | rfl <;> decide
set_option maxRecDepth 100000 in
set_option maxHeartbeats 1000000 in
theorem new_nil (L rest : Nat) (A : Option Addr) (K : List Nat) (c : Nat) (w : World) (hok : OkM L rest K (Tt.fulls L K.length)) (hA : I64 w A (zs K)) :
 Calls Try.prog 73 #[.agg #[.int .i64 (L : Nat), .int .i64 (K.length : Nat), .slice A K.length c, .int .i64 (rest : Nat)], .slice none 0 0] w (NewAt w L rest A K c (Tt.fulls L K.length)) := by
 obtain ⟨T, hTT⟩ : ∃ T, Tt.fulls L K.length = T := ⟨_, rfl⟩
 have HFU0 : Hid (List.replicate K.length (((2 ^ L - 1 : Nat)) : Int) = zs T) := hide (by rw [← hTT]; simp [zs, Tt.fulls])
 rw [hTT] at hok ⊢
 clear hTT
 obtain ⟨hL2, hL6, hn2, hn8, htl, hkL, htL, hrL⟩ := id hok
 obtain ⟨Ab, Ao, hAe, hAl⟩ := hA.form (by simp [zs]; omega)
 have hmm := @run_makeMap Try.prog
 have hnil : ∀ W, (binOp .eql 22 (.slice none 0 0) (.slice none 0 0)).run Try.prog W = .ok (.bool true) W := fun W => Lib.run_eql_slice_nil_nil W _ _ und22'
 have hHA := hide hAe
 clear hAe
 have HTL := hide htl
 clear htl
 go_enter Try.func73, Try.ntmps73
 go_upto_region 3 with fail
 have hW : Below w.heap.size w (((w.alloc (.cells #[.int .i64 (L : Nat), .int .i64 (K.length : Nat), .slice A K.length c, .int .i64 (rest : Nat)] 24)).alloc (.map #[] 0)).alloc (.cells #[.int .i64 (L : Nat), .int .i64 (K.length : Nat), .slice A K.length c, .int .i64 (rest : Nat), .slice none 0 0, .map (some (w.heap.size + 1))] 120)) := by (repeat (first | exact Below.refl _ _ | assumption | (refine below_gr ?_ (by (first | omega | (simp only [zz] at *; omega))) _) | (refine below_alloc ?_ (by (first | omega | (simp only [zz] at *; omega))) _) | (refine Below.setCell ?_ (by (first | omega | (simp only [zz] at *; omega))) _) | refine below_drewN ?_ _ | refine below_drew ?_ | (refine below_step ?_ (by assumption) (by (first | omega | (simp only [zz] at *; omega))))))
 have hB : BlkAt (((w.alloc (.cells #[.int .i64 (L : Nat), .int .i64 (K.length : Nat), .slice A K.length c, .int .i64 (rest : Nat)] 24)).alloc (.map #[] 0)).alloc (.cells #[.int .i64 (L : Nat), .int .i64 (K.length : Nat), .slice A K.length c, .int .i64 (rest : Nat), .slice none 0 0, .map (some (w.heap.size + 1))] 120)) (w.heap.size + 1 + 1) #[.int .i64 (L : Nat), .int .i64 (K.length : Nat), .slice A K.length c, .int .i64 (rest : Nat), .slice none 0 0, .map (some (w.heap.size + 1))] 120 := by
  have h := heap_alloc_new ((w.alloc (.cells #[.int .i64 (L : Nat), .int .i64 (K.length : Nat), .slice A K.length c, .int .i64 (rest : Nat)] 24)).alloc (.map #[] 0)) (.cells #[.int .i64 (L : Nat), .int .i64 (K.length : Nat), .slice A K.length c, .int .i64 (rest : Nat), .slice none 0 0, .map (some (w.heap.size + 1))] 120)
  rwa [World.size_alloc, World.size_alloc] at h
 have hKM : KMap 91 (w.heap.size + 1) (goodF L rest K T) (fun _ => False) (((w.alloc (.cells #[.int .i64 (L : Nat), .int .i64 (K.length : Nat), .slice A K.length c, .int .i64 (rest : Nat)] 24)).alloc (.map #[] 0)).alloc (.cells #[.int .i64 (L : Nat), .int .i64 (K.length : Nat), .slice A K.length c, .int .i64 (rest : Nat), .slice none 0 0, .map (some (w.heap.size + 1))] 120)) := by
  have h := KMap.made (w.alloc (.cells #[.int .i64 (L : Nat), .int .i64 (K.length : Nat), .slice A K.length c, .int .i64 (rest : Nat)] 24)) 91 (goodF L rest K T)
  rw [World.size_alloc] at h
  exact h.below (by (repeat (first | exact Below.refl _ _ | assumption | refine below_drewN ?_ _ | refine below_drew ?_ | refine below_gr ?_ ?_ _ | refine below_alloc ?_ ?_ _ | refine Below.setCell ?_ ?_ _ | refine below_step ?_ (by assumption) ?_ | omega | (simp only [zz] at *; omega))))
 have hD : BlkAt (((w.alloc (.cells #[.int .i64 (L : Nat), .int .i64 (K.length : Nat), .slice A K.length c, .int .i64 (rest : Nat)] 24)).alloc (.map #[] 0)).alloc (.cells #[.int .i64 (L : Nat), .int .i64 (K.length : Nat), .slice A K.length c, .int .i64 (rest : Nat), .slice none 0 0, .map (some (w.heap.size + 1))] 120)) w.heap.size #[.int .i64 (L : Nat), .int .i64 (K.length : Nat), .slice A K.length c, .int .i64 (rest : Nat)] 24 := (Below.heap_alloc _ _ _ (by simp; omega)).trans ((Below.heap_alloc _ _ _ (by simp)).trans (heap_alloc_new w _))
 replace hA := hA.ext hW
 obtain ⟨M, hM⟩ : ∃ M, w.heap.size + 1 = M := ⟨_, rfl⟩
 rw [hM] at hW hB hKM hA hD ⊢
 obtain ⟨B, hBB⟩ : ∃ B, M + 1 = B := ⟨_, rfl⟩
 rw [hBB] at hB ⊢
 have hM0 : w.heap.size < M := by omega
 have hMB : M < B := by omega
 have hB0 : w.heap.size < B := by omega
 obtain ⟨wq, hwq⟩ : ∃ wq, (((w.alloc (.cells #[.int .i64 (L : Nat), .int .i64 (K.length : Nat), .slice A K.length c, .int .i64 (rest : Nat)] 24)).alloc (.map #[] 0)).alloc (.cells #[.int .i64 (L : Nat), .int .i64 (K.length : Nat), .slice A K.length c, .int .i64 (rest : Nat), .slice none 0 0, .map (some M)] 120)) = wq := ⟨_, rfl⟩
 rw [hwq] at hW hB hKM hA hD ⊢
 clear hwq
 clear hM hBB
 have hDw : w.heap.size < wq.heap.size := obj_lt hD
 have hBw := obj_lt hB
 have hMw := hKM.lt
 have d0 := obj_at hD 0 _ rfl
 have d1 := obj_at hD 1 _ rfl
 have df := obj_fz hD 0
 have e0 := obj_at hB 0 _ rfl
 have hBD : B ≠ w.heap.size := by omega
 have hBM : B ≠ M := by omega
 have hMD : M ≠ w.heap.size := by omega
 have hBD' := hBD.symm
 have hp0 := two_pow L hL6
 have hs1 : IntKind.i64.wrap ((2 : Int) ^ L) = ((2 ^ L : Nat) : Int) := by have e : ((2 : Int) ^ L) = ((2 ^ L : Nat) : Int) := (by push_cast; rfl); rw [IntKind.wrap_i64, e]; omega
 have hs2 : IntKind.i64.wrap (((2 ^ L : Nat) : Int) - 1) = ((2 ^ L - 1 : Nat) : Int) := by rw [IntKind.wrap_i64]; omega
 have HFU := hide HFU0.out
 clear HFU0
 generalize ((2 ^ L - 1 : Nat)) = f at *
 generalize ((2 ^ L : Nat)) = g at *
 go_region_held3 (fun w' => w'.cell? ⟨w.heap.size, 0, none⟩ = some (.int .i64 (L : Nat)) ∧ w'.cell? ⟨w.heap.size, 1, none⟩ = some (.int .i64 (K.length : Nat))) (simp (maxDischargeDepth := 9) [*, World.cell?_alloc_some, World.cell?_setCell_far]) ((go_at_call 88; refine (repeat_one _ _ (f : Nat) K.length (by omega) (by omega) _ ((i64_new wq [(f : Nat)] 3 _ rfl).ext (below_drew (Below.refl _ _)))).mono ?_; rintro e w1 ⟨R, rfl, hR, hb, hI⟩; (simp only [size_drew, World.size_alloc] at hR); have hb1 : Below wq.heap.size wq w1 := (below_drew (below_alloc (Below.refl _ _) (Nat.le_refl _) _)).trans (hb.mono (by rw [size_drew, World.size_alloc]; omega)); have hz1 := hb1.size; have k0 := (hb1.cell (p := ⟨w.heap.size, 0, none⟩) hDw).trans d0; have k1 := (hb1.cell (p := ⟨w.heap.size, 1, none⟩) hDw).trans d1; have hB1 := hB.ext hb1; have k4 := obj_at hB1 4 _ rfl; have kf := obj_fz hB1 4; have kl := obj_lt hB1))
 have hset : w1.grownBy (w1.setCell ⟨B, 4, none⟩ (.slice (some ⟨R, 0, none⟩) K.length K.length)) (some B) := ⟨rfl, rfl, rfl, by simp, fun k hk hne => Below.heap_setCell _ _ _ _ (fun e => hne (by rw [e]))⟩
 have hBt : BlkAt (w1.setCell ⟨B, 4, none⟩ (.slice (some ⟨R, 0, none⟩) K.length K.length)) B #[.int .i64 (L : Nat), .int .i64 (K.length : Nat), .slice A K.length c, .int .i64 (rest : Nat), .slice (some ⟨R, 0, none⟩) T.length K.length, .map (some M)] 120 := by
  have h := set_obj hB1 4 (.slice (some ⟨R, 0, none⟩) K.length K.length)
  rw [HTL.out]
  exact h
 have hAt := (hA.ext hb1).far hset (fun b o e _ => by rw [hHA.out] at e; cases e; omega)
 rw [HFU.out] at hI
 have hSt := hI.far hset (fun b o e _ => by cases e; omega)
 have hKt := (hKM.below hb1).setCell ⟨B, 4, none⟩ (Ne.symm hBM) (.slice (some ⟨R, 0, none⟩) K.length K.length)
 have hWq := hW.size
 have hWt := below_far (below_step hW hb1 hWq) hset (Nat.le_of_lt hB0) (by omega)
 have hne : NeM B M A (some ⟨R, 0, none⟩) := ⟨hBM, fun b o e => by rw [hHA.out] at e; cases e; omega, fun b o e => by cases e; omega⟩
 rename_i hHeld
 obtain ⟨wt, hwt⟩ : ∃ wt, (w1.setCell ⟨B, 4, none⟩ (.slice (some ⟨R, 0, none⟩) K.length K.length)) = wt := ⟨_, rfl⟩
 clear hHeld
 rw [hwt] at hBt hAt hSt hKt hWt ⊢
 clear hwt hset hB hA hKM hW k0 k1 k4 kf hB1 hI hb hb1 d0 d1 df e0 hs1 hs2 hmm hnil hD
 obtain ⟨hB, hA, hS, hKM, hW⟩ : _ ∧ _ ∧ _ ∧ _ ∧ _ := ⟨hBt, hAt, hSt, hKt, hWt⟩
 clear hBt hAt hSt hKt hWt
 replace hM0 : w.heap.size ≤ M := by omega
 replace hB0 : w.heap.size ≤ B := by omega
 clear hBw hMw
 have hBw := obj_lt hB
 have hMw := hKM.lt
 have hszw := hW.size
 have hm : MachAt wt B M L rest A K c (some ⟨R, 0, none⟩) T K.length := ⟨hB, hA, hS⟩
 go_wp2_with (first
 | (go_at_call 62; refine (start_any _).mono ?_; rintro e w1 ⟨rfl, hb1⟩; replace hb1 := ex_below hb1; have hz1 := hb1.size; unfold stV stC)
 | (go_at_call 83; refine (from_known B M L rest A K c (some ⟨R, 0, none⟩) T K.length (fun _ => False) 0 (-1) 0 _ (hm.ext hb1) hok hne (hKM.below hb1) (by omega) ⟨by omega, by omega⟩ (by omega)).mono ?_; rintro e w2 ⟨rfl, hg2, hk2⟩; have hm2 := (hm.ext hb1).grown hne hg2; have hb2 := below_far (below_step hW hb1 hszw) hg2 hM0 (by omega); have hz2 := hg2.size; have hB2 := hm2.1; have c5 := obj_at hB2 5 _ rfl; have hB2l := obj_lt hB2)
 | (at_range; refine wpList_rangeK _ rfl _ 118 rfl 91 2 lawS und118 M rfl hk2 ?_; intro w3 hr3 hg3 hs3))
 go_frame
 have hm3 := hm2.grown hne (grown_none hg3)
 have hb3 := below_far2 hb2 hg3 (by omega)
 have hM2 := hk2.lt
 have hAr := hm2.2.1.blk (by rw [zs_len]; omega)
 have hSr := hm2.2.2.blk (by rw [zs_len, HTL.out]; omega)
 clear hm hB hA hS hKM hW c5 hB2 hk2 hm2 hb2 hb1
 obtain ⟨r, hr⟩ : ∃ r, w2.heap.size = r := ⟨_, rfl⟩
 rw [hr] at hr3 hs3 hB2l hM2 hAr hSr ⊢
 have HAR := hide hAr
 have HSR := hide hSr
 clear hAr hSr
 have hrM : r ≠ M := by omega
 have hrw : w.heap.size ≤ r := by omega
 replace hr3 : KRange 91 M r (goodF L rest K T) (fun x => x = stV 0 (-1) 0) w3 := hr3.weaken (fun x h => .inr h)
 clear hr hg3 hg2
 go_loopw [7] (fun _ wr => KRange 91 M r (goodF L rest K T) (fun x => x = stV 0 (-1) 0) wr ∧ MachAt wr B M L rest A K c (some ⟨R, 0, none⟩) T K.length ∧ Below w.heap.size w wr ∧ r < wr.heap.size) (fun _ wr => wr.rangeLeft M r)
 case atStart => exact ⟨hr3, hm3, hb3, by omega⟩
 case round =>
  obtain ⟨hkr, hmr, hbr, hrl⟩ := hrel
  have hmb := hmr.1
  have hmbl := obj_lt hmb
  have hrml := hkr.map.lt
  go_wp2_with (at_next; refine wpList_nextK _ rfl _ rfl 91 lawS M r rfl hkr ?_ ?_)
  · go_wp2
    go_ret
    exact ⟨B, M, _, _, rfl, hB0, hM0, hbr, hmr, hne, hkr.map⟩
  · intro key v w4 hgood hk4 hlt4 hg4 hs4 hen
    obtain ⟨p, la, s, hp, hla, hs, rfl, rfl⟩ := hgood
    have hm4 : MachAt w4 B M L rest A K c (some ⟨R, 0, none⟩) T K.length := MachAt.far hmr hg4 (by omega) (fun b o e => Nat.ne_of_lt (HAR.out b o e)) (fun b o e => Nat.ne_of_lt (HSR.out b o e))
    have hb4 := below_far hbr hg4 hrw (by omega)
    generalize Tt.cnt L rest ((K.zip T).drop p) la s = C at *
    unfold stV stC at hen
    have hr4l := hk4.map.lt
    have hba : Below w4.heap.size w4 (w4.alloc (.cells #[.int .i64 (p : Nat), .int .i64 la, .int .i64 (s : Nat)] 91)) := below_alloc (Below.refl _ _) (Nat.le_refl _) _
    have hX0 : BlkAt (w4.alloc (.cells #[.int .i64 (p : Nat), .int .i64 la, .int .i64 (s : Nat)] 91)) w4.heap.size #[.int .i64 (p : Nat), .int .i64 la, .int .i64 (s : Nat)] 91 := heap_alloc_new _ _
    have hs5 : (w4.alloc (.cells #[.int .i64 (p : Nat), .int .i64 la, .int .i64 (s : Nat)] 91)).heap.size = w4.heap.size + 1 := by simp
    have hb4w := hb4.size
    have HEQ := eqState (p : Nat) la (s : Nat) 0 (-1) 0
    go_upto_region 8 with fail
    rw [← hs4]
    obtain ⟨w5, hw5⟩ : ∃ v, (w4.alloc (.cells #[.int .i64 (p : Nat), .int .i64 la, .int .i64 (s : Nat)] 91)) = v := ⟨_, rfl⟩
    rw [hw5] at hba hX0 hs5 ⊢
    clear hw5 hen hmb hmbl
    have hk5 := hk4.below hba
    have hm5 := hm4.ext hba
    have hb5 := below_step hb4 hba hb4w
    have lr := obj_lt hX0
    obtain ⟨xr, hxr⟩ : ∃ v, w4.heap.size = v := ⟨_, rfl⟩
    rw [hxr] at hX0 hs5 lr ⊢
    have hrx : r < xr := by omega
    have hMx : M < xr := by omega
    have hwx : w.heap.size ≤ xr := by omega
    have hBx : B < xr := by omega
    replace hlt4 : w5.rangeLeft M r < wr.rangeLeft M r := by rw [hk5.2]; exact hlt4
    replace hk5 := hk5.1
    clear hm4 hb4 hk4 hba hg4 hxr hs4 hkr hmr hbr
    have x0 := obj_at hX0 0 _ rfl
    have x1 := obj_at hX0 1 _ rfl
    have x2 := obj_at hX0 2 _ rfl
    have xf := obj_fz hX0 0
    have b0 := obj_at hm5.1 5 _ rfl
    have bl := obj_lt hm5.1
    by_cases hC : C = 0
    · subst hC
      by_cases hst : (((p : Nat) : Int) == 0 && (la == -1 && ((s : Nat) : Int) == 0)) = true
      · rw [hst] at HEQ
        refine wp_region_grow (by kernel_rfl) (by kernel_rfl) ?_
        repeat (go_big_quiet_step ((go_at_call 62; exact Gives.quiet (start_raw _))))
        refine wpQuiet_nil ?_
        intro w6 hb6
        replace hb6 := ex_below hb6
        have hz6 := hb6.size
        go_wp2
        go_roundw
        case rel => exact ⟨(hk5.below hb6).1, hm5.ext hb6, below_step hb5 hb6 (by omega), by omega⟩
        case measure => rw [(hk5.below hb6).2]; exact hlt4
      · have hst' : (((p : Nat) : Int) == 0 && (la == -1 && ((s : Nat) : Int) == 0)) = false := by cases h : (((p : Nat) : Int) == 0 && (la == -1 && ((s : Nat) : Int) == 0)) with | true => exact absurd h hst | false => rfl
        rw [hst'] at HEQ
        have hst := hide hst
        clear hst'
        refine wp_region_grow (by kernel_rfl) (by kernel_rfl) ?_
        repeat (go_big_quiet_step ((go_at_call 62; exact Gives.quiet (start_raw _))))
        refine wpQuiet_nil ?_
        intro w6 hb6
        replace hb6 := ex_below hb6
        have hz6 := hb6.size
        have hk6 := hk5.below hb6
        have hm6 := hm5.ext hb6
        have hb6' := below_step hb5 hb6 (by omega)
        have hX6 := hX0.ext hb6
        clear hX0 hm5 x0 x1 x2 xf b0 bl
        have x0 := obj_at hX6 0 _ rfl
        have x1 := obj_at hX6 1 _ rfl
        have x2 := obj_at hX6 2 _ rfl
        have xf := obj_fz hX6 0
        have b0 := obj_at hm6.1 5 _ rfl
        have bl := obj_lt hm6.1
        have xl := obj_lt hX6
        obtain ⟨kl, hkl⟩ := keyS_of (p := p) (la := la) (s := s) hp hla hs
        have hno : ∀ key2, key2 = stV 0 (-1) 0 → keyOf Try.prog 91 key2 ≠ some kl := by
         rintro key2 rfl he
         have h1 := lawS.inj hkl he
         obtain ⟨rfl, rfl, rfl⟩ := stV_inj h1
         exact hst.out (by decide)
        replace hlt4 : w6.rangeLeft M r < wr.rangeLeft M r := by rw [hk6.2]; exact hlt4
        replace hk6 := hk6.1
        go_upto_region 9 with fail
        have hbd : Below w6.heap.size w6 w6.drew := below_drew (Below.refl _ _)
        obtain ⟨w7, hr7, hk7, hl7, hg7⟩ := (hk6.below hbd).1.del lawS und118 0 hkl hno
        rw [(hk6.below hbd).2] at hl7
        have hm7 := (hm6.ext hbd).grown hne hg7
        have hb7 := below_far (below_step hb6' hbd (by omega)) hg7 hM0 (by rw [size_drew]; omega)
        have hz7 := hg7.size
        rw [size_drew] at hz7
        clear hno hkl hst
        unfold stV stC at hr7
        go_region
        go_wp2
        go_roundw
        case rel => exact ⟨hk7, hm7, hb7, by omega⟩
        case measure => exact Nat.lt_of_le_of_lt hl7 hlt4
    · have hC0 : ((C : Int) == 0) = false := by simp; omega
      clear HEQ
      refine wp_region_grow (by kernel_rfl) (by kernel_rfl) ?_
      repeat (go_big_quiet_step ((go_at_call 62; exact Gives.quiet (start_raw _))))
      refine wpQuiet_nil ?_
      intro w6 hb6
      replace hb6 := ex_below hb6
      have hz6 := hb6.size
      go_wp2
      go_roundw
      case rel => exact ⟨(hk5.below hb6).1, hm5.ext hb6, below_step hb5 hb6 (by omega), by omega⟩
      case measure => rw [(hk5.below hb6).2]; exact hlt4
end Go.Proofs.Ytgjfejpibielaaa
namespace Go.Proofs.Ytgjfejpibielaaa
open Go.RowKit Go.Maps Go.Shelf
/-! bytes and strings -/
theorem und62 : Try.prog.underlying 62 = some (.slice 5) := by kernel_rfl
theorem und5 : Try.prog.underlying 5 = some (.int .u8) := by kernel_rfl
theorem und9 : Try.prog.underlying 9 = some .string := by kernel_rfl
theorem infoB : (Try.prog.info? 5).map (fun i => (i.zero, i.size, i.bytes)) = some (some (.int .u8 0), 1, 1) := by kernel_rfl
theorem rd_new1 (w : World) (v : Value) (t : TypeId) : Rd (w.alloc (.cells #[v] t)) 1 (some ⟨w.heap.size, 0, none⟩) 1 [v] := by
 refine ⟨rfl, fun _ => ⟨_, 0, rfl, by simp, fun j u hu => ?_⟩⟩
 rw [World.cell?_alloc_at _ _ _ _ rfl, Nat.zero_add]
 simpa using hu
theorem slice_full {P : Program} (t e : TypeId) (i : TypeInfo) (ht : P.underlying t = some (.slice e)) (hi : P.info? e = some i) (A : Option Addr) (k c : Nat) (hk : k ≤ c) (w : World) :
 (Instr.sliceAt t (.slice A k c) none (some (.int .i64 (k : Int))) (some (.int .i64 (k : Int)))).run P w = .ok (.slice A k k) w := by
 have h2 : (fun a : Addr => a.add 0) = id := by funext a; simp [Addr.add]
 have h3 : A.map (fun a => a.add 0) = A := by rw [h2]; simp
 simp [Instr.sliceAt, run_underlying ht, Instr.slice, Instr.sliceBounds, Instr.sliceBound, asIntOf, sizeOf, typeInfo, hi, hk, h3]
/-- a letter, as a byte; a word, as a string -/
def unb (x : Nat) : UInt8 := UInt8.ofNat (x + 97)
def strW (l : List Nat) : ByteArray := ⟨(l.map unb).toArray⟩
def byteC (x : Nat) : Value := .int .u8 ((x : Int) + 97)
theorem unb_val {x : Nat} (h : x < 100) : (unb x).toNat = x + 97 := by
 unfold unb
 rw [UInt8.toNat_ofNat_of_lt' (by simp [UInt8.size]; omega)]
theorem strW_size (l : List Nat) : (strW l).size = l.length := by unfold strW; simp [ByteArray.size]
theorem one_bytes (xs : List Nat) : ∀ u ∈ xs.map byteC, u.oneCell' = true := by
 intro u hu
 obtain ⟨x, _, rfl⟩ := List.mem_map.1 hu
 rfl
theorem back_bytes {W : World} {A : Option Addr} {c : Nat} {l : List Nat} (hr : Rd W 1 A l.length (l.map byteC)) (hl : ∀ x, x ∈ l → x < 100) (hz : l = [] → A = none ∧ c = 0) : (convert 62 9 (.slice A l.length c)).run Try.prog W = .ok (.string (strW l)) W := by
 cases l with
 | nil =>
   obtain ⟨rfl, rfl⟩ := hz rfl
   exact run_convert_bytes_string W 62 9 5 none 0 0 und62 und5 und9
 | cons x l =>
   obtain ⟨b, off, rfl, hb, hc⟩ := hr.2 (by simp)
   have := run_convert_bytes_back (P := Try.prog) W 62 9 5 ⟨b, off, none⟩ c ((x :: l).map unb) und62 und5 und9 (fun j hj => by
    have hj' : j < (x :: l).length := by simpa using hj
    have h1 := hc j _ (by rw [List.getElem?_map, List.getElem?_eq_getElem hj']; rfl)
    rw [add_none, h1, List.getElem_map]
    unfold byteC
    rw [unb_val (hl _ (List.getElem_mem hj'))]
    congr 2)
   simpa [strW] using this
theorem rd_grown {w w' : World} {size m : Nat} {A : Option Addr} {news : List Value} {row : Option Nat} (h : Rd w size A m news) (hg : w.grownBy w' row) (hne : ∀ b o, A = some ⟨b, o, none⟩ → row ≠ some b) : Rd w' size A m news := by
 refine ⟨h.1, fun h0 => ?_⟩
 obtain ⟨b, off, hA, hb, hc⟩ := h.2 h0
 refine ⟨b, off, hA, Nat.lt_of_lt_of_le hb hg.size, fun j u hu => ?_⟩
 exact (gb_cell hg b hb (fun k hk e => hne b off hA (by rw [hk, e])) _).trans (hc j u hu)
/-! what has turned: some blocks, and what is new -/
structure GX (S : List Nat) (w w' : World) : Prop where
 os : w'.os = w.os
 tape : w'.tape = w.tape
 output : w'.output = w.output
 size : w.heap.size ≤ w'.heap.size
 block : ∀ k, k < w.heap.size → k ∉ S → w'.heap[k]? = w.heap[k]?
theorem GX.refl (S : List Nat) (w : World) : GX S w w := ⟨rfl, rfl, rfl, Nat.le_refl _, fun _ _ _ => rfl⟩
theorem GX.trans {S : List Nat} {a b c : World} (h : GX S a b) (k : GX S b c) : GX S a c :=
 ⟨k.1.trans h.1, k.2.trans h.2, k.3.trans h.3, Nat.le_trans h.size k.size, fun i hi hne => (k.block i (Nat.lt_of_lt_of_le hi h.size) hne).trans (h.block i hi hne)⟩
theorem GX.mono {S S' : List Nat} {a b : World} (h : GX S a b) (hs : ∀ x, x ∈ S → x < a.heap.size → x ∈ S') : GX S' a b := ⟨h.1, h.2, h.3, h.size, fun i hi hne => h.block i hi (fun e => hne (hs i e hi))⟩
theorem GX.grown {S : List Nat} {w X Y : World} {row : Option Nat} (h : GX S w X) (hg : X.grownBy Y row) (hr : ∀ r, row = some r → r < w.heap.size → r ∈ S) : GX S w Y :=
 ⟨hg.1.trans h.1, hg.2.trans h.2, hg.3.trans h.3, Nat.le_trans h.size hg.size, fun i hi hne => (hg.block i (Nat.lt_of_lt_of_le hi h.size) (fun e => hne (hr i e.symm hi))).trans (h.block i hi hne)⟩
theorem GX.below {S : List Nat} {m : Nat} {w X Y : World} (h : GX S w X) (hb : Below m X Y) (hm : w.heap.size ≤ m) : GX S w Y :=
 ⟨hb.1.trans h.1, hb.2.trans h.2, hb.3.trans h.3, Nat.le_trans h.size hb.size, fun i hi hne => (hb.block i (by omega)).trans (h.block i hi hne)⟩
theorem GX.setCell {S : List Nat} {w X : World} (h : GX S w X) (a : Addr) (v : Value) (ha : a.block < w.heap.size → a.block ∈ S) : GX S w (X.setCell a v) :=
 ⟨h.1, h.2, h.3, by rw [size_setCell]; exact h.size, fun i hi hne => (Below.heap_setCell _ _ _ _ (fun e => hne (by rw [e] at hi ⊢; exact ha hi))).trans (h.block i hi hne)⟩
theorem GX.alloc {S : List Nat} {w X : World} (h : GX S w X) (o : Obj) : GX S w (X.alloc o) := h.below (below_alloc (Below.refl _ _) (Nat.le_refl _) o) h.size
theorem GX.own {β : Type} {S : List Nat} {w : World} {n : Nat} (hn : w.heap.size ≤ n) : OwnFrom n (fun (_ : β) W => GX S w W) := fun _ X Y row h hg hr => h.grown hg (fun r e hlt => by have := (hr r e).1; omega)
theorem GX.one {w X : World} {M : Nat} (h : GX [M] w X) : w.grownBy X (some M) := ⟨h.1, h.2, h.3, h.size, fun i hi hne => h.block i hi (fun e => hne (by rw [List.mem_singleton.1 e]))⟩
theorem GX.drew {S : List Nat} {w X : World} (h : GX S w X) : GX S w X.drew := ⟨h.1, h.2, h.3, h.size, h.block⟩
theorem BlkAt.gx {S : List Nat} {w X : World} {b : Nat} {cs : Array Value} {t : TypeId} (h : BlkAt w b cs t) (g : GX S w X) (hb : b ∉ S) : BlkAt X b cs t := (g.block b (obj_lt h) hb).trans h
theorem I64.gx {S : List Nat} {X Y : World} {A : Option Addr} {xs : List Int} (h : I64 X A xs) (hg : GX S X Y) (hA : ∀ b o, A = some ⟨b, o, none⟩ → b ∉ S) : I64 Y A xs := fun i p hk => by
 obtain ⟨b, off, h0, h1, h2, h3⟩ := h i p hk
 have hb := hg.block b h1 (hA b off h0)
 have := old_lt h1 hb
 exact ⟨b, off, h0, this, by omega, (World.cell?_of_block (a := ⟨b, off + i, none⟩) hb).trans h3⟩
theorem Rd.gx {S : List Nat} {w w' : World} {size m : Nat} {A : Option Addr} {news : List Value} (h : Rd w size A m news) (hg : GX S w w') (hne : ∀ b o, A = some ⟨b, o, none⟩ → b ∉ S) : Rd w' size A m news := by
 refine ⟨h.1, fun h0 => ?_⟩
 obtain ⟨b, off, hA, hb, hc⟩ := h.2 h0
 refine ⟨b, off, hA, Nat.lt_of_lt_of_le hb hg.size, fun j u hu => ?_⟩
 exact (World.cell?_of_block (a := ⟨b, off + j, none⟩) (hg.block b hb (hne b off hA))).trans (hc j u hu)
theorem MachAt.gx {S0 : List Nat} {X Y : World} {B M : Nat} {L rest : Nat} {A : Option Addr} {K : List Nat} {c : Nat} {S : Option Addr} {T : List Nat} {d : Nat} (h : MachAt X B M L rest A K c S T d) (hg : GX S0 X Y) (hB : B ∉ S0) (hA : ∀ b o, A = some ⟨b, o, none⟩ → b ∉ S0) (hS : ∀ b o, S = some ⟨b, o, none⟩ → b ∉ S0) : MachAt Y B M L rest A K c S T d :=
 ⟨h.1.gx hg hB, h.2.1.gx hg hA, h.2.2.gx hg hS⟩
theorem KMap.blk {k : TypeId} {b : Nat} {good : Value → Value → Prop} {must : Value → Prop} {w w' : World} (h : KMap k b good must w) (e : w'.heap[b]? = w.heap[b]?) : KMap k b good must w' := by
 obtain ⟨l, ⟨es, clock, hb, F, hn, hD⟩, hl⟩ := h
 exact ⟨l, ⟨es, clock, e.trans hb, F, hn, hD⟩, hl⟩
theorem KMap.gx {S : List Nat} {k : TypeId} {b : Nat} {good : Value → Value → Prop} {must : Value → Prop} {w w' : World} (h : KMap k b good must w) (g : GX S w w') (hb : b ∉ S) : KMap k b good must w' := h.blk (g.block b h.lt hb)
theorem KMap.notBlk {k : TypeId} {b : Nat} {good : Value → Value → Prop} {must : Value → Prop} {w : World} (h : KMap k b good must w) {b' : Nat} {cs : Array Value} {t : TypeId} (hb : BlkAt w b' cs t) : b ≠ b' := fun e => by
 obtain ⟨l, ⟨es, clock, hm, _⟩, _⟩ := h
 rw [e] at hm
 rw [show w.heap[b']? = _ from hb] at hm
 cases hm
/-! the marks of loops over functions, at a function's end -/
def mkD (D : Nat) : Deferred := { target := .collected D, args := #[] }
def Marks (N : Nat) (Ds : List Nat) (w : World) : Prop := Ds.Nodup ∧ ∀ D, D ∈ Ds → N ≤ D ∧ w.heap[D]? = some (.deferred (some []))
theorem Marks.nil (N : Nat) (w : World) : Marks N [] w := ⟨List.nodup_nil, fun _ h => by cases h⟩
theorem Marks.cons {N D : Nat} {Ds : List Nat} {w : World} (h : Marks N Ds w) (hN : N ≤ D) (hD : w.heap[D]? = some (.deferred (some []))) (hne : D ∉ Ds) : Marks N (D :: Ds) w :=
 ⟨List.nodup_cons.2 ⟨hne, h.1⟩, fun E hE => (List.mem_cons.1 hE).elim (fun e => by rw [e]; exact ⟨hN, hD⟩) (h.2 E)⟩
theorem Marks.lt {N D : Nat} {Ds : List Nat} {w : World} (h : Marks N Ds w) (hD : D ∈ Ds) : D < w.heap.size := (Array.getElem?_eq_some_iff.1 (h.2 D hD).2).1
theorem Marks.notBlk {N D : Nat} {Ds : List Nat} {w : World} (h : Marks N Ds w) (hD : D ∈ Ds) {b : Nat} {cs : Array Value} {t : TypeId} (hb : BlkAt w b cs t) : D ≠ b := fun e => by
 have := (h.2 D hD).2
 rw [e] at this
 rw [show w.heap[b]? = _ from hb] at this
 cases this
theorem Marks.gx {S : List Nat} {N : Nat} {Ds : List Nat} {w w' : World} (h : Marks N Ds w) (g : GX S w w') (hS : ∀ s, s ∈ S → s < N ∨ ∃ cs t, BlkAt w s cs t) : Marks N Ds w' :=
 ⟨h.1, fun D hD => ⟨(h.2 D hD).1, (g.block D (h.lt hD) (fun e => by
  rcases hS D e with h1 | ⟨cs, t, h1⟩
  · have := (h.2 D hD).1; omega
  · exact h.notBlk hD h1 rfl)).trans (h.2 D hD).2⟩⟩
theorem Marks.mono {N N' : Nat} {Ds : List Nat} {w : World} (h : Marks N Ds w) (hn : N' ≤ N) : Marks N' Ds w := ⟨h.1, fun D hD => ⟨by have := (h.2 D hD).1; omega, (h.2 D hD).2⟩⟩
theorem below_put {N D : Nat} {W : World} (o : Obj) (h : N ≤ D) : Below N W (W.putObj D o) := ⟨rfl, rfl, rfl, by simp, fun k hk => World.putObj_heap_other (by omega)⟩
theorem leaves_marks {F : Fence} {n : Nat} {P : Program} {fn : Func} {tmps : Array Value} {R : Ending → World → Prop} {N : Nat} (Ds : List Nat) (w : World) (h : Marks N Ds w)
 (hR : ∀ w', Below N w w' → LeavesIn F n P fn tmps R [] .returning w') : LeavesInM F n P fn tmps R (Ds.map mkD) .returning w := by
 induction Ds generalizing w with
 | nil => exact hR w (Below.refl _ _)
 | cons D Ds ih =>
   have hD := h.2 D (by simp)
   refine ⟨by simp, .inl ⟨D, _, rfl, run_takeDeferred hD.2, ?_⟩⟩
   refine ih _ ⟨(List.nodup_cons.1 h.1).2, fun E hE => ?_⟩ (fun w' hb => hR w' ((below_put _ hD.1).trans hb))
   have hE2 := h.2 E (by simp [hE])
   exact ⟨hE2.1, (World.putObj_heap_other (fun e => (List.nodup_cons.1 h.1).1 (by rw [← e]; exact hE))).trans hE2.2⟩
theorem wpListIn_full {F : Fence} {nF : Nat} {P : Program} (w : World) {ops : Array Oper} {rest : List Oper} {o : Oper} {a : Act} {Q : Exit → Act → World → Prop} (hgd : o.guard = none) (s x : Operand) (t : TypeId)
 (hop : o.op = .call { callee := .builtin .append, args := #[s, x], argTypes := #[t, t] })
 (e : TypeId) (i : TypeInfo) (z : Value) (size bytes : Nat) (ht : P.underlying t = some (.slice e)) (hi : P.info? e = some i) (hz : i.zero = some z)
 (hsize : i.size = size) (hby : i.bytes = bytes) (A : Option Addr) (n : Nat) (olds : List Value) (hs : a.eval s = .slice A n n) (ho : Rd w size A n olds) (ho1 : ∀ u ∈ olds, u.oneCell' = true)
 (A2 : Option Addr) (m c : Nat) (news : List Value) (hx : a.eval x = .slice A2 m c) (hr : Rd w size A2 m news) (h1 : ∀ u ∈ news, u.oneCell' = true) (hm : 0 < m) (hbytes : (n + m) * bytes ≤ 140737488355328) (h63 : n + m ≤ maxLen)
 (h : ∀ A' c' w', Grew w w' → A' = some ⟨w.heap.size, 0, none⟩ → n + m ≤ c' → Rd w' size A' (n + m) (olds ++ news) → wpListIn F nF P ops Q rest (a.put o.dst (.slice A' (n + m) c')) w') : wpListIn F nF P ops Q (o :: rest) a w := by
 refine wpListIn_plain hgd fun K hK => ?_
 obtain ⟨c', g, hrun, hcc, hrd⟩ := full_run (P := P) w t o.type e i z size bytes ht hi hz hsize hby A n olds ho ho1 A2 m c news hr h1 hm hbytes h63
 unfold Oper.wpIn
 refine ⟨?_, ?_⟩
 · simp [Oper.about, hop, resolve, Target.leads, Sem.run_pure]
 · rw [Oper.semAt_plain F _ _ (by rw [hop]; intro c hc'; cases hc')]
   simp only [execOp, hop, resolve, invoke, builtin, Sem.run_bind, Sem.run_pure, Result.andThen_ok, List.map_toArray, List.map_cons, List.map_nil, hs, hx, hrun]
   exact hK _ _ (h _ c' _ ⟨g, rfl⟩ rfl hcc hrd)
/-- what reads as a slice is kept where no block of cells turns -/
theorem rd_cells {N : Nat} {X Y : World} {row : Option Nat} {A : Option Addr} {m : Nat} {news : List Value} (h : Rd X 1 A m news) (hg : X.grownBy Y row) (hr : ∀ r, row = some r → N ≤ r ∧ ∃ o : Obj, X.heap[r]? = some o ∧ o.isCells = false) : Rd Y 1 A m news := by
 refine ⟨h.1, fun h0 => ?_⟩
 obtain ⟨b, off, hA, hb, hc⟩ := h.2 h0
 have hlen := h.1
 have hb2 : Y.heap[b]? = X.heap[b]? := hg.block b hb (fun e => by
  obtain ⟨_, o, ho, hco⟩ := hr b e.symm
  have h1 := hc 0 (news[0]'(by omega)) (List.getElem?_eq_getElem (by omega))
  unfold World.cell? at h1
  simp only [ho] at h1
  cases o <;> simp_all [Obj.isCells])
 exact ⟨b, off, hA, Nat.lt_of_lt_of_le hb hg.size, fun j u hu => (World.cell?_of_block (a := ⟨b, off + j, none⟩) hb2).trans (hc j u hu)⟩
end Go.Proofs.Ytgjfejpibielaaa
