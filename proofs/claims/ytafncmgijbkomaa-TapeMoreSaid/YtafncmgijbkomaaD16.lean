/- Proved here: the law TapeMore, a part of the proofs about the tape laws. Conditions: those that each theorem names, no others. -/
import Derived.Test.YtafncmgijbkomaaP30
import Derived.WalkKit
import Derived.WalkSpells
import Derived.WalkLawsBesides
import Derived.Below
import Derived.Deep.QuietTactic
import Derived.BigQuiet
import Derived.Deep.Light
import Derived.Test.YtafncmgijbkomaaE8
import Derived.Test.YtafncmgijbkomaaE9
import Derived.Deep.RegionHeld3
import Derived.Deep.RegionLaw
import Derived.Deep.DeepCutAuto
import Derived.Deep.CutBlock

set_option linter.unusedSimpArgs false
set_option linter.unusedVariables false
namespace Go.Proofs.Ytafncmgijbkomaa
open Go.RowKit Go.Maps Go.Lib
set_option maxRecDepth 100000 in
set_option maxHeartbeats 16000000 in
theorem more_law (W : Int) (A : Option Addr) (ts : List ByteArray) (c : Nat) (w : World) (hA : Strs w A ts) (hl9 : ts.length ≤ 9223372036854775807) (hs9 : ∀ s, s ∈ ts → s.size ≤ 9223372036854775807) (hlz : (ts.length + 1) * 16 ≤ 140737488355328) (more : ByteArray) (hm9 : more.size ≤ 9223372036854775807) (l w0 w1 w2 d0 d1 : Nat) (hl8 : l < 256) (h08 : w0 < 256) (h18 : w1 < 256) (h28 : w2 < 256) (hd08 : d0 < 256) (hd18 : d1 < 256) : Calls Try.prog 11 #[.agg #[.int .i64 W, .slice A ts.length c], .string more, .int .u8 (l : Nat), .agg #[.int .u8 (w0 : Nat), .int .u8 (w1 : Nat), .int .u8 (w2 : Nat)], .agg #[.int .u8 (d0 : Nat), .int .u8 (d1 : Nat)]] w (Gives w (.bool true)) := by
  have tok0 : True := trivial
  obtain ⟨i0, ih, iz, is, ib⟩ := info_parts infoS
  go_enter Try.func11, Try.ntmps11
  go_upto_region 1 with fail
  have hbw : Below w.heap.size w (((w.alloc (.cells #[.int .i64 W, .slice A ts.length c] 24)).alloc (.cells #[.int .u8 (w0 : Nat), .int .u8 (w1 : Nat), .int .u8 (w2 : Nat)] 65)).alloc (.cells #[.int .u8 (d0 : Nat), .int .u8 (d1 : Nat)] 66)) := by (repeat (first | exact Below.refl _ _ | assumption | (refine below_gr ?_ (by (first | omega | (simp only [zz] at *; omega))) _) | (refine below_alloc ?_ (by (first | omega | (simp only [zz] at *; omega))) _) | (refine Below.setCell ?_ (by (first | omega | (simp only [zz] at *; omega))) _) | refine below_drewN ?_ _ | refine below_drew ?_ | (refine below_step ?_ (by assumption) (by (first | omega | (simp only [zz] at *; omega))))))
  have hX : ObjV (((w.alloc (.cells #[.int .i64 W, .slice A ts.length c] 24)).alloc (.cells #[.int .u8 (w0 : Nat), .int .u8 (w1 : Nat), .int .u8 (w2 : Nat)] 65)).alloc (.cells #[.int .u8 (d0 : Nat), .int .u8 (d1 : Nat)] 66)) w.heap.size 24 (.int .i64 W) (.slice A ts.length c) := ((ObjV.new w _ _ _).below (below_alloc (Below.refl _ _) (Nat.le_refl _) _)).below (below_alloc (Below.refl _ _) (Nat.le_refl _) _)
  have hG : Obj3 (((w.alloc (.cells #[.int .i64 W, .slice A ts.length c] 24)).alloc (.cells #[.int .u8 (w0 : Nat), .int .u8 (w1 : Nat), .int .u8 (w2 : Nat)] 65)).alloc (.cells #[.int .u8 (d0 : Nat), .int .u8 (d1 : Nat)] 66)) (w.heap.size + 1) 65 (.int .u8 (w0 : Nat)) (.int .u8 (w1 : Nat)) (.int .u8 (w2 : Nat)) := by
    have h := (Obj3.new (w.alloc (.cells #[.int .i64 W, .slice A ts.length c] 24)) 65 (.int .u8 (w0 : Nat)) (.int .u8 (w1 : Nat)) (.int .u8 (w2 : Nat))).below (below_alloc (Below.refl _ _) (Nat.le_refl _) (.cells #[.int .u8 (d0 : Nat), .int .u8 (d1 : Nat)] 66))
    rwa [World.size_alloc] at h
  have hN : ObjV (((w.alloc (.cells #[.int .i64 W, .slice A ts.length c] 24)).alloc (.cells #[.int .u8 (w0 : Nat), .int .u8 (w1 : Nat), .int .u8 (w2 : Nat)] 65)).alloc (.cells #[.int .u8 (d0 : Nat), .int .u8 (d1 : Nat)] 66)) (w.heap.size + 1 + 1) 66 (.int .u8 (d0 : Nat)) (.int .u8 (d1 : Nat)) := by
    have h := ObjV.new ((w.alloc (.cells #[.int .i64 W, .slice A ts.length c] 24)).alloc (.cells #[.int .u8 (w0 : Nat), .int .u8 (w1 : Nat), .int .u8 (w2 : Nat)] 65)) 66 (.int .u8 (d0 : Nat)) (.int .u8 (d1 : Nat))
    rwa [World.size_alloc, World.size_alloc] at h
  obtain ⟨wa, hwa⟩ : ∃ wa, (((w.alloc (.cells #[.int .i64 W, .slice A ts.length c] 24)).alloc (.cells #[.int .u8 (w0 : Nat), .int .u8 (w1 : Nat), .int .u8 (w2 : Nat)] 65)).alloc (.cells #[.int .u8 (d0 : Nat), .int .u8 (d1 : Nat)] 66)) = wa := ⟨_, rfl⟩
  rw [hwa] at hbw hX hG hN ⊢
  clear hwa
  replace hA := hA.ext hbw
  have hXc0 := hX.c0
  have hXc1 := hX.c1
  have hXlt := hX.lt
  go_cut [11] from 32 to 41 (fun sx wx => ∃ (blk : Nat) (A2 : Option Addr) (c2 : Nat), sx = .pointer (some ⟨blk, 0, none⟩) ∧ ObjV wx blk 24 (.int .i64 W) (.slice A2 (ts.length + 1) c2) ∧ Strs wx A2 (ts ++ [more]) ∧ wa.heap.size ≤ blk ∧ Below wa.heap.size wa wx)
  case first =>
    as_aux_lemma =>
    refine wp_region_noPanic ?_
    refine wp_region_held_drew (S := fun w' => Below wa.heap.size wa w') (by kernel_rfl) ?_ (fun _ => ?_)
    · exact below_drew (Below.refl _ _)
    have hP : Below wa.heap.size wa wa.drew := below_drew (Below.refl _ _)
    have hZ : wa.heap.size ≤ wa.drew.heap.size := Nat.le_refl _
    obtain ⟨W0, hW0⟩ : ∃ W0, wa.drew = W0 := ⟨_, rfl⟩
    rw [hW0] at hP hZ ⊢
    clear hW0
    refine wpAnyH_take (i := 0) (v := ?_) rfl (by kernel_rfl) (by kernel_rfl) (by kernel_rfl) (fun _ _ _ h => h) (Or.inl ⟨by rfl, ?_⟩) hP ?_
    rotate_left
    · (intro ww hSw; go_simp; try with_reducible rfl)
    (try simp only [Act.put, List.getElem_toArray, List.getElem_cons_zero, List.getElem_cons_succ, List.setIfInBounds_toArray, List.set_cons_zero, List.set_cons_succ])
    refine wpAnyH_take (i := 1) (v := ?_) rfl (by kernel_rfl) (by kernel_rfl) (by kernel_rfl) (fun _ _ _ h => h) (Or.inl ⟨by rfl, ?_⟩) hP ?_
    rotate_left
    · (intro ww hSw; have g0 := (hSw.cell (p := ⟨w.heap.size, 0, none⟩) hXlt).trans hXc0; go_simp; try with_reducible rfl)
    (try simp only [Act.put, List.getElem_toArray, List.getElem_cons_zero, List.getElem_cons_succ, List.setIfInBounds_toArray, List.set_cons_zero, List.set_cons_succ])
    refine wpAnyH_take (i := 3) (v := ?_) rfl (by kernel_rfl) (by kernel_rfl) (by kernel_rfl) (fun _ _ _ h => h) (Or.inl ⟨by rfl, ?_⟩) hP ?_
    rotate_left
    · (intro ww hSw; go_simp; try with_reducible rfl)
    (try simp only [Act.put, List.getElem_toArray, List.getElem_cons_zero, List.getElem_cons_succ, List.setIfInBounds_toArray, List.set_cons_zero, List.set_cons_succ])
    refine wpAnyH_take (i := 4) (v := ?_) rfl (by kernel_rfl) (by kernel_rfl) (by kernel_rfl) (fun _ _ _ h => h) (Or.inl ⟨by rfl, ?_⟩) hP ?_
    rotate_left
    · (intro ww hSw; have g1 := (hSw.cell (p := ⟨w.heap.size, 1, none⟩) hXlt).trans hXc1; go_simp; try with_reducible rfl)
    (try simp only [Act.put, List.getElem_toArray, List.getElem_cons_zero, List.getElem_cons_succ, List.setIfInBounds_toArray, List.set_cons_zero, List.set_cons_succ])
    refine wpAnyH_take (i := 6) (v := ?_) rfl (by kernel_rfl) (by kernel_rfl) (by kernel_rfl) (fun _ _ _ h => h) (Or.inl ⟨by rfl, ?_⟩) hP ?_
    rotate_left
    · (intro ww hSw; go_simp; try with_reducible rfl)
    (try simp only [Act.put, List.getElem_toArray, List.getElem_cons_zero, List.getElem_cons_succ, List.setIfInBounds_toArray, List.set_cons_zero, List.set_cons_succ])
    refine wpAnyH_ready (rs := [2, 7, 10]) (by kernel_rfl) (by simp) ?_
    refine AllReadyH.cons rfl ?_ ?_
    · intro K' hK
      rw [if_pos (by rfl)]
      go_simp
      have hP2 := below_alloc hP hZ (.cells #[] 9)
      refine hK.out _ _ hP2 (fun _ => ?_)
      clear hK K'
      (try simp only [Act.put, List.getElem_toArray, List.getElem_cons_zero, List.getElem_cons_succ, List.setIfInBounds_toArray, List.set_cons_zero, List.set_cons_succ])
      have hO : (W0.alloc (.cells #[] 9)).ownsRow wa.heap.size 9 1 (.slice (some ⟨W0.heap.size, 0, none⟩) 0 0) 0 [] := own_lit0 (heap_alloc_new W0 _) hZ
      replace hZ : wa.heap.size ≤ (W0.alloc (.cells #[] 9)).heap.size := by rw [World.size_alloc]; omega
      clear hP
      have hP := hP2
      clear hP2
      obtain ⟨W1, hWe⟩ : ∃ W1, (W0.alloc (.cells #[] 9)) = W1 := ⟨_, rfl⟩
      rw [hWe] at hP hZ hO ⊢
      clear hWe
      refine wpAnyH_ready (rs := [5, 7, 10]) (by kernel_rfl) (by simp) ?_
      refine AllReadyH.cons rfl ?_ ?_
      · intro K' hK
        refine step_appN W1 rfl (.tmp 34) (.tmp 36) 22 rfl wa.heap.size 9 i0 _ 1 16 und22 ih iz is ib rfl (by decide) _ (0) ([]) rfl hO A (ts.length) c (ts.map Value.string) rfl (strs_rd (hA.ext hP)) (one_strs _) (by unfold maxLen; omega) (by omega) hZ ?_
        intro A2 c2 W2 hO2 hg2 hf2
        rw [Nat.zero_add ts.length, List.nil_append] at hO2
        rw [Nat.zero_add ts.length] at hf2 ⊢
        have hP2 := gb_below hP hg2 hZ (fun g hg => (hO.lt g hg).1)
        have hZ2 := Nat.le_trans hZ hg2.size
        refine hK.out _ _ hP2 (fun _ => ?_)
        clear hK K'
        (try simp only [Act.put, List.getElem_toArray, List.getElem_cons_zero, List.getElem_cons_succ, List.setIfInBounds_toArray, List.set_cons_zero, List.set_cons_succ])
        clear hO hP hZ hg2 hf2
        have hO := hO2
        have hP := hP2
        have hZ := hZ2
        clear hO2 hP2 hZ2
        refine wpAnyH_ready (rs := [7, 10]) (by kernel_rfl) (by simp) ?_
        refine AllReadyH.cons rfl ?_ ?_
        · intro K' hK
          rw [if_pos (by rfl)]
          go_simp
          have hP2 := below_alloc hP hZ (.cells #[.string more] 9)
          refine hK.out _ _ hP2 (fun _ => ?_)
          clear hK K'
          (try simp only [Act.put, List.getElem_toArray, List.getElem_cons_zero, List.getElem_cons_succ, List.setIfInBounds_toArray, List.set_cons_zero, List.set_cons_succ])
          have hs_L := Side.fresh hZ hO #[.string more] 9
          replace hO := hO.alloc (.cells #[.string more] 9)
          replace hZ : wa.heap.size ≤ (W2.alloc (.cells #[.string more] 9)).heap.size := by rw [World.size_alloc]; omega
          clear hP
          have hP := hP2
          clear hP2
          obtain ⟨W3, hWe⟩ : ∃ W3, (W2.alloc (.cells #[.string more] 9)) = W3 := ⟨_, rfl⟩
          rw [hWe] at hP hZ hO hs_L ⊢
          clear hWe
          refine wpAnyH_ready (rs := [8, 10]) (by kernel_rfl) (by simp) ?_
          refine AllReadyH.cons rfl ?_ ?_
          · intro K' hK
            refine step_appN W3 rfl (.tmp 37) (.tmp 39) 22 rfl wa.heap.size 9 i0 _ 1 16 und22 ih iz is ib rfl (by decide) _ (ts.length) (ts.map Value.string) rfl hO (some ⟨W2.heap.size, 0, none⟩) (1) 1 ([.string more]) rfl (hs_L.rd) (by simp [Value.oneCell']) (by unfold maxLen; omega) (by omega) hZ ?_
            intro A3 c3 W4 hO2 hg2 hf2
            have hP2 := gb_below hP hg2 hZ (fun g hg => (hO.lt g hg).1)
            have hZ2 := Nat.le_trans hZ hg2.size
            refine hK.out _ _ hP2 (fun _ => ?_)
            clear hK K'
            (try simp only [Act.put, List.getElem_toArray, List.getElem_cons_zero, List.getElem_cons_succ, List.setIfInBounds_toArray, List.set_cons_zero, List.set_cons_succ])
            replace hs_L := hs_L.grown hg2 hf2
            clear hO hP hZ hg2 hf2
            have hO := hO2
            have hP := hP2
            have hZ := hZ2
            clear hO2 hP2 hZ2
            refine wpAnyH_take (i := 9) (v := ?_) rfl (by kernel_rfl) (by kernel_rfl) (by kernel_rfl) (fun _ _ _ h => h) (Or.inl ⟨by rfl, ?_⟩) hP ?_
            rotate_left
            · (intro ww hSw; go_simp; try with_reducible rfl)
            (try simp only [Act.put, List.getElem_toArray, List.getElem_cons_zero, List.getElem_cons_succ, List.setIfInBounds_toArray, List.set_cons_zero, List.set_cons_succ])
            refine wpAnyH_ready (rs := [10]) (by kernel_rfl) (by simp) ?_
            refine AllReadyH.cons rfl ?_ ?_
            · intro K' hK
              rw [if_pos (by rfl)]
              go_simp
              have hP2 := below_alloc hP hZ (.cells #[.int .i64 0, .slice none 0 0] 24)
              refine hK.out _ _ hP2 (fun _ => ?_)
              clear hK K'
              (try simp only [Act.put, List.getElem_toArray, List.getElem_cons_zero, List.getElem_cons_succ, List.setIfInBounds_toArray, List.set_cons_zero, List.set_cons_succ])
              replace hs_L := hs_L.alloc (.cells #[.int .i64 0, .slice none 0 0] 24)
              have hs_B := Side.fresh hZ hO #[.int .i64 0, .slice none 0 0] 24
              replace hO := hO.alloc (.cells #[.int .i64 0, .slice none 0 0] 24)
              replace hZ : wa.heap.size ≤ (W4.alloc (.cells #[.int .i64 0, .slice none 0 0] 24)).heap.size := by rw [World.size_alloc]; omega
              clear hP
              have hP := hP2
              clear hP2
              obtain ⟨W5, hWe⟩ : ∃ W5, (W4.alloc (.cells #[.int .i64 0, .slice none 0 0] 24)) = W5 := ⟨_, rfl⟩
              rw [hWe] at hP hZ hO hs_L hs_B ⊢
              clear hWe
              refine wpAnyH_ready (rs := [11]) (by kernel_rfl) (by simp) ?_
              refine AllReadyH.cons rfl ?_ ?_
              · intro K' hK
                rw [if_pos (by rfl)]
                have c0 := obj_at hs_B.2.2.1 0 _ rfl
                have c1 := obj_at hs_B.2.2.1 1 _ rfl
                have f0 := obj_fz hs_B.2.2.1 0
                have f1 := obj_fz hs_B.2.2.1 1
                go_simp
                refine hK.out _ _ (Below.setCell (p := ⟨W4.heap.size, 1, none⟩) (Below.setCell (p := ⟨W4.heap.size, 0, none⟩) hP hs_B.1 _) hs_B.1 _) (fun _ => ?_)
                clear hK K'
                (try simp only [Act.put, List.getElem_toArray, List.getElem_cons_zero, List.getElem_cons_succ, List.setIfInBounds_toArray, List.set_cons_zero, List.set_cons_succ])
                refine wpAnyH_done (by kernel_rfl) ?_ _
                refine NoPanic.normal ?_
                have hO4 := hO
                rw [show ts.map Value.string ++ [.string more] = (ts ++ [more]).map Value.string by simp] at hO4
                have hS4 : Strs _ A3 (ts ++ [more]) := strs_far hO4 hs_B.2.2.2 (.int .i64 W) (.slice A3 (ts.length + 1) c3)
                go_wp2_with fail
                go_meet
                exact ⟨_, A3, c3, rfl, set_two hs_B.2.2.1, hS4, hs_B.1, Below.setCell (Below.setCell hP hs_B.1 _) hs_B.1 _⟩
              exact AllReadyH.nil
            exact AllReadyH.nil
          refine AllReadyH.cons rfl ?_ ?_
          · intro K' hK
            rw [if_pos (by rfl)]
            go_simp
            have hP2 := below_alloc hP hZ (.cells #[.int .i64 0, .slice none 0 0] 24)
            refine hK.out _ _ hP2 (fun _ => ?_)
            clear hK K'
            (try simp only [Act.put, List.getElem_toArray, List.getElem_cons_zero, List.getElem_cons_succ, List.setIfInBounds_toArray, List.set_cons_zero, List.set_cons_succ])
            replace hs_L := hs_L.alloc (.cells #[.int .i64 0, .slice none 0 0] 24)
            have hs_B := Side.fresh hZ hO #[.int .i64 0, .slice none 0 0] 24
            replace hO := hO.alloc (.cells #[.int .i64 0, .slice none 0 0] 24)
            replace hZ : wa.heap.size ≤ (W3.alloc (.cells #[.int .i64 0, .slice none 0 0] 24)).heap.size := by rw [World.size_alloc]; omega
            clear hP
            have hP := hP2
            clear hP2
            obtain ⟨W7, hWe⟩ : ∃ W7, (W3.alloc (.cells #[.int .i64 0, .slice none 0 0] 24)) = W7 := ⟨_, rfl⟩
            rw [hWe] at hP hZ hO hs_L hs_B ⊢
            clear hWe
            refine wpAnyH_ready (rs := [8]) (by kernel_rfl) (by simp) ?_
            refine AllReadyH.cons rfl ?_ ?_
            · intro K' hK
              refine step_appN W7 rfl (.tmp 37) (.tmp 39) 22 rfl wa.heap.size 9 i0 _ 1 16 und22 ih iz is ib rfl (by decide) _ (ts.length) (ts.map Value.string) rfl hO (some ⟨W2.heap.size, 0, none⟩) (1) 1 ([.string more]) rfl (hs_L.rd) (by simp [Value.oneCell']) (by unfold maxLen; omega) (by omega) hZ ?_
              intro A3 c3 W8 hO2 hg2 hf2
              have hP2 := gb_below hP hg2 hZ (fun g hg => (hO.lt g hg).1)
              have hZ2 := Nat.le_trans hZ hg2.size
              refine hK.out _ _ hP2 (fun _ => ?_)
              clear hK K'
              (try simp only [Act.put, List.getElem_toArray, List.getElem_cons_zero, List.getElem_cons_succ, List.setIfInBounds_toArray, List.set_cons_zero, List.set_cons_succ])
              replace hs_L := hs_L.grown hg2 hf2
              replace hs_B := hs_B.grown hg2 hf2
              clear hO hP hZ hg2 hf2
              have hO := hO2
              have hP := hP2
              have hZ := hZ2
              clear hO2 hP2 hZ2
              refine wpAnyH_take (i := 9) (v := ?_) rfl (by kernel_rfl) (by kernel_rfl) (by kernel_rfl) (fun _ _ _ h => h) (Or.inl ⟨by rfl, ?_⟩) hP ?_
              rotate_left
              · (intro ww hSw; go_simp; try with_reducible rfl)
              (try simp only [Act.put, List.getElem_toArray, List.getElem_cons_zero, List.getElem_cons_succ, List.setIfInBounds_toArray, List.set_cons_zero, List.set_cons_succ])
              refine wpAnyH_ready (rs := [11]) (by kernel_rfl) (by simp) ?_
              refine AllReadyH.cons rfl ?_ ?_
              · intro K' hK
                rw [if_pos (by rfl)]
                have c0 := obj_at hs_B.2.2.1 0 _ rfl
                have c1 := obj_at hs_B.2.2.1 1 _ rfl
                have f0 := obj_fz hs_B.2.2.1 0
                have f1 := obj_fz hs_B.2.2.1 1
                go_simp
                refine hK.out _ _ (Below.setCell (p := ⟨W3.heap.size, 1, none⟩) (Below.setCell (p := ⟨W3.heap.size, 0, none⟩) hP hs_B.1 _) hs_B.1 _) (fun _ => ?_)
                clear hK K'
                (try simp only [Act.put, List.getElem_toArray, List.getElem_cons_zero, List.getElem_cons_succ, List.setIfInBounds_toArray, List.set_cons_zero, List.set_cons_succ])
                refine wpAnyH_done (by kernel_rfl) ?_ _
                refine NoPanic.normal ?_
                have hO4 := hO
                rw [show ts.map Value.string ++ [.string more] = (ts ++ [more]).map Value.string by simp] at hO4
                have hS4 : Strs _ A3 (ts ++ [more]) := strs_far hO4 hs_B.2.2.2 (.int .i64 W) (.slice A3 (ts.length + 1) c3)
                go_wp2_with fail
                go_meet
                exact ⟨_, A3, c3, rfl, set_two hs_B.2.2.1, hS4, hs_B.1, Below.setCell (Below.setCell hP hs_B.1 _) hs_B.1 _⟩
              exact AllReadyH.nil
            exact AllReadyH.nil
          exact AllReadyH.nil
        refine AllReadyH.cons rfl ?_ ?_
        · intro K' hK
          rw [if_pos (by rfl)]
          go_simp
          have hP2 := below_alloc hP hZ (.cells #[.int .i64 0, .slice none 0 0] 24)
          refine hK.out _ _ hP2 (fun _ => ?_)
          clear hK K'
          (try simp only [Act.put, List.getElem_toArray, List.getElem_cons_zero, List.getElem_cons_succ, List.setIfInBounds_toArray, List.set_cons_zero, List.set_cons_succ])
          have hs_B := Side.fresh hZ hO #[.int .i64 0, .slice none 0 0] 24
          replace hO := hO.alloc (.cells #[.int .i64 0, .slice none 0 0] 24)
          replace hZ : wa.heap.size ≤ (W2.alloc (.cells #[.int .i64 0, .slice none 0 0] 24)).heap.size := by rw [World.size_alloc]; omega
          clear hP
          have hP := hP2
          clear hP2
          obtain ⟨W10, hWe⟩ : ∃ W10, (W2.alloc (.cells #[.int .i64 0, .slice none 0 0] 24)) = W10 := ⟨_, rfl⟩
          rw [hWe] at hP hZ hO hs_B ⊢
          clear hWe
          refine wpAnyH_ready (rs := [7]) (by kernel_rfl) (by simp) ?_
          refine AllReadyH.cons rfl ?_ ?_
          · intro K' hK
            rw [if_pos (by rfl)]
            go_simp
            have hP2 := below_alloc hP hZ (.cells #[.string more] 9)
            refine hK.out _ _ hP2 (fun _ => ?_)
            clear hK K'
            (try simp only [Act.put, List.getElem_toArray, List.getElem_cons_zero, List.getElem_cons_succ, List.setIfInBounds_toArray, List.set_cons_zero, List.set_cons_succ])
            replace hs_B := hs_B.alloc (.cells #[.string more] 9)
            have hs_L := Side.fresh hZ hO #[.string more] 9
            replace hO := hO.alloc (.cells #[.string more] 9)
            replace hZ : wa.heap.size ≤ (W10.alloc (.cells #[.string more] 9)).heap.size := by rw [World.size_alloc]; omega
            clear hP
            have hP := hP2
            clear hP2
            obtain ⟨W11, hWe⟩ : ∃ W11, (W10.alloc (.cells #[.string more] 9)) = W11 := ⟨_, rfl⟩
            rw [hWe] at hP hZ hO hs_B hs_L ⊢
            clear hWe
            refine wpAnyH_ready (rs := [8]) (by kernel_rfl) (by simp) ?_
            refine AllReadyH.cons rfl ?_ ?_
            · intro K' hK
              refine step_appN W11 rfl (.tmp 37) (.tmp 39) 22 rfl wa.heap.size 9 i0 _ 1 16 und22 ih iz is ib rfl (by decide) _ (ts.length) (ts.map Value.string) rfl hO (some ⟨W10.heap.size, 0, none⟩) (1) 1 ([.string more]) rfl (hs_L.rd) (by simp [Value.oneCell']) (by unfold maxLen; omega) (by omega) hZ ?_
              intro A3 c3 W12 hO2 hg2 hf2
              have hP2 := gb_below hP hg2 hZ (fun g hg => (hO.lt g hg).1)
              have hZ2 := Nat.le_trans hZ hg2.size
              refine hK.out _ _ hP2 (fun _ => ?_)
              clear hK K'
              (try simp only [Act.put, List.getElem_toArray, List.getElem_cons_zero, List.getElem_cons_succ, List.setIfInBounds_toArray, List.set_cons_zero, List.set_cons_succ])
              replace hs_B := hs_B.grown hg2 hf2
              replace hs_L := hs_L.grown hg2 hf2
              clear hO hP hZ hg2 hf2
              have hO := hO2
              have hP := hP2
              have hZ := hZ2
              clear hO2 hP2 hZ2
              refine wpAnyH_take (i := 9) (v := ?_) rfl (by kernel_rfl) (by kernel_rfl) (by kernel_rfl) (fun _ _ _ h => h) (Or.inl ⟨by rfl, ?_⟩) hP ?_
              rotate_left
              · (intro ww hSw; go_simp; try with_reducible rfl)
              (try simp only [Act.put, List.getElem_toArray, List.getElem_cons_zero, List.getElem_cons_succ, List.setIfInBounds_toArray, List.set_cons_zero, List.set_cons_succ])
              refine wpAnyH_ready (rs := [11]) (by kernel_rfl) (by simp) ?_
              refine AllReadyH.cons rfl ?_ ?_
              · intro K' hK
                rw [if_pos (by rfl)]
                have c0 := obj_at hs_B.2.2.1 0 _ rfl
                have c1 := obj_at hs_B.2.2.1 1 _ rfl
                have f0 := obj_fz hs_B.2.2.1 0
                have f1 := obj_fz hs_B.2.2.1 1
                go_simp
                refine hK.out _ _ (Below.setCell (p := ⟨W2.heap.size, 1, none⟩) (Below.setCell (p := ⟨W2.heap.size, 0, none⟩) hP hs_B.1 _) hs_B.1 _) (fun _ => ?_)
                clear hK K'
                (try simp only [Act.put, List.getElem_toArray, List.getElem_cons_zero, List.getElem_cons_succ, List.setIfInBounds_toArray, List.set_cons_zero, List.set_cons_succ])
                refine wpAnyH_done (by kernel_rfl) ?_ _
                refine NoPanic.normal ?_
                have hO4 := hO
                rw [show ts.map Value.string ++ [.string more] = (ts ++ [more]).map Value.string by simp] at hO4
                have hS4 : Strs _ A3 (ts ++ [more]) := strs_far hO4 hs_B.2.2.2 (.int .i64 W) (.slice A3 (ts.length + 1) c3)
                go_wp2_with fail
                go_meet
                exact ⟨_, A3, c3, rfl, set_two hs_B.2.2.1, hS4, hs_B.1, Below.setCell (Below.setCell hP hs_B.1 _) hs_B.1 _⟩
              exact AllReadyH.nil
            exact AllReadyH.nil
          exact AllReadyH.nil
        exact AllReadyH.nil
      refine AllReadyH.cons rfl ?_ ?_
      · intro K' hK
        rw [if_pos (by rfl)]
        go_simp
        have hP2 := below_alloc hP hZ (.cells #[.string more] 9)
        refine hK.out _ _ hP2 (fun _ => ?_)
        clear hK K'
        (try simp only [Act.put, List.getElem_toArray, List.getElem_cons_zero, List.getElem_cons_succ, List.setIfInBounds_toArray, List.set_cons_zero, List.set_cons_succ])
        have hs_L := Side.fresh hZ hO #[.string more] 9
        replace hO := hO.alloc (.cells #[.string more] 9)
        replace hZ : wa.heap.size ≤ (W1.alloc (.cells #[.string more] 9)).heap.size := by rw [World.size_alloc]; omega
        clear hP
        have hP := hP2
        clear hP2
        obtain ⟨W14, hWe⟩ : ∃ W14, (W1.alloc (.cells #[.string more] 9)) = W14 := ⟨_, rfl⟩
        rw [hWe] at hP hZ hO hs_L ⊢
        clear hWe
        refine wpAnyH_ready (rs := [5, 10]) (by kernel_rfl) (by simp) ?_
        refine AllReadyH.cons rfl ?_ ?_
        · intro K' hK
          refine step_appN W14 rfl (.tmp 34) (.tmp 36) 22 rfl wa.heap.size 9 i0 _ 1 16 und22 ih iz is ib rfl (by decide) _ (0) ([]) rfl hO A (ts.length) c (ts.map Value.string) rfl (strs_rd (hA.ext hP)) (one_strs _) (by unfold maxLen; omega) (by omega) hZ ?_
          intro A2 c2 W15 hO2 hg2 hf2
          rw [Nat.zero_add ts.length, List.nil_append] at hO2
          rw [Nat.zero_add ts.length] at hf2 ⊢
          have hP2 := gb_below hP hg2 hZ (fun g hg => (hO.lt g hg).1)
          have hZ2 := Nat.le_trans hZ hg2.size
          refine hK.out _ _ hP2 (fun _ => ?_)
          clear hK K'
          (try simp only [Act.put, List.getElem_toArray, List.getElem_cons_zero, List.getElem_cons_succ, List.setIfInBounds_toArray, List.set_cons_zero, List.set_cons_succ])
          replace hs_L := hs_L.grown hg2 hf2
          clear hO hP hZ hg2 hf2
          have hO := hO2
          have hP := hP2
          have hZ := hZ2
          clear hO2 hP2 hZ2
          refine wpAnyH_ready (rs := [8, 10]) (by kernel_rfl) (by simp) ?_
          refine AllReadyH.cons rfl ?_ ?_
          · intro K' hK
            refine step_appN W15 rfl (.tmp 37) (.tmp 39) 22 rfl wa.heap.size 9 i0 _ 1 16 und22 ih iz is ib rfl (by decide) _ (ts.length) (ts.map Value.string) rfl hO (some ⟨W1.heap.size, 0, none⟩) (1) 1 ([.string more]) rfl (hs_L.rd) (by simp [Value.oneCell']) (by unfold maxLen; omega) (by omega) hZ ?_
            intro A3 c3 W16 hO2 hg2 hf2
            have hP2 := gb_below hP hg2 hZ (fun g hg => (hO.lt g hg).1)
            have hZ2 := Nat.le_trans hZ hg2.size
            refine hK.out _ _ hP2 (fun _ => ?_)
            clear hK K'
            (try simp only [Act.put, List.getElem_toArray, List.getElem_cons_zero, List.getElem_cons_succ, List.setIfInBounds_toArray, List.set_cons_zero, List.set_cons_succ])
            replace hs_L := hs_L.grown hg2 hf2
            clear hO hP hZ hg2 hf2
            have hO := hO2
            have hP := hP2
            have hZ := hZ2
            clear hO2 hP2 hZ2
            refine wpAnyH_take (i := 9) (v := ?_) rfl (by kernel_rfl) (by kernel_rfl) (by kernel_rfl) (fun _ _ _ h => h) (Or.inl ⟨by rfl, ?_⟩) hP ?_
            rotate_left
            · (intro ww hSw; go_simp; try with_reducible rfl)
            (try simp only [Act.put, List.getElem_toArray, List.getElem_cons_zero, List.getElem_cons_succ, List.setIfInBounds_toArray, List.set_cons_zero, List.set_cons_succ])
            refine wpAnyH_ready (rs := [10]) (by kernel_rfl) (by simp) ?_
            refine AllReadyH.cons rfl ?_ ?_
            · intro K' hK
              rw [if_pos (by rfl)]
              go_simp
              have hP2 := below_alloc hP hZ (.cells #[.int .i64 0, .slice none 0 0] 24)
              refine hK.out _ _ hP2 (fun _ => ?_)
              clear hK K'
              (try simp only [Act.put, List.getElem_toArray, List.getElem_cons_zero, List.getElem_cons_succ, List.setIfInBounds_toArray, List.set_cons_zero, List.set_cons_succ])
              replace hs_L := hs_L.alloc (.cells #[.int .i64 0, .slice none 0 0] 24)
              have hs_B := Side.fresh hZ hO #[.int .i64 0, .slice none 0 0] 24
              replace hO := hO.alloc (.cells #[.int .i64 0, .slice none 0 0] 24)
              replace hZ : wa.heap.size ≤ (W16.alloc (.cells #[.int .i64 0, .slice none 0 0] 24)).heap.size := by rw [World.size_alloc]; omega
              clear hP
              have hP := hP2
              clear hP2
              obtain ⟨W17, hWe⟩ : ∃ W17, (W16.alloc (.cells #[.int .i64 0, .slice none 0 0] 24)) = W17 := ⟨_, rfl⟩
              rw [hWe] at hP hZ hO hs_L hs_B ⊢
              clear hWe
              refine wpAnyH_ready (rs := [11]) (by kernel_rfl) (by simp) ?_
              refine AllReadyH.cons rfl ?_ ?_
              · intro K' hK
                rw [if_pos (by rfl)]
                have c0 := obj_at hs_B.2.2.1 0 _ rfl
                have c1 := obj_at hs_B.2.2.1 1 _ rfl
                have f0 := obj_fz hs_B.2.2.1 0
                have f1 := obj_fz hs_B.2.2.1 1
                go_simp
                refine hK.out _ _ (Below.setCell (p := ⟨W16.heap.size, 1, none⟩) (Below.setCell (p := ⟨W16.heap.size, 0, none⟩) hP hs_B.1 _) hs_B.1 _) (fun _ => ?_)
                clear hK K'
                (try simp only [Act.put, List.getElem_toArray, List.getElem_cons_zero, List.getElem_cons_succ, List.setIfInBounds_toArray, List.set_cons_zero, List.set_cons_succ])
                refine wpAnyH_done (by kernel_rfl) ?_ _
                refine NoPanic.normal ?_
                have hO4 := hO
                rw [show ts.map Value.string ++ [.string more] = (ts ++ [more]).map Value.string by simp] at hO4
                have hS4 : Strs _ A3 (ts ++ [more]) := strs_far hO4 hs_B.2.2.2 (.int .i64 W) (.slice A3 (ts.length + 1) c3)
                go_wp2_with fail
                go_meet
                exact ⟨_, A3, c3, rfl, set_two hs_B.2.2.1, hS4, hs_B.1, Below.setCell (Below.setCell hP hs_B.1 _) hs_B.1 _⟩
              exact AllReadyH.nil
            exact AllReadyH.nil
          refine AllReadyH.cons rfl ?_ ?_
          · intro K' hK
            rw [if_pos (by rfl)]
            go_simp
            have hP2 := below_alloc hP hZ (.cells #[.int .i64 0, .slice none 0 0] 24)
            refine hK.out _ _ hP2 (fun _ => ?_)
            clear hK K'
            (try simp only [Act.put, List.getElem_toArray, List.getElem_cons_zero, List.getElem_cons_succ, List.setIfInBounds_toArray, List.set_cons_zero, List.set_cons_succ])
            replace hs_L := hs_L.alloc (.cells #[.int .i64 0, .slice none 0 0] 24)
            have hs_B := Side.fresh hZ hO #[.int .i64 0, .slice none 0 0] 24
            replace hO := hO.alloc (.cells #[.int .i64 0, .slice none 0 0] 24)
            replace hZ : wa.heap.size ≤ (W15.alloc (.cells #[.int .i64 0, .slice none 0 0] 24)).heap.size := by rw [World.size_alloc]; omega
            clear hP
            have hP := hP2
            clear hP2
            obtain ⟨W19, hWe⟩ : ∃ W19, (W15.alloc (.cells #[.int .i64 0, .slice none 0 0] 24)) = W19 := ⟨_, rfl⟩
            rw [hWe] at hP hZ hO hs_L hs_B ⊢
            clear hWe
            refine wpAnyH_ready (rs := [8]) (by kernel_rfl) (by simp) ?_
            refine AllReadyH.cons rfl ?_ ?_
            · intro K' hK
              refine step_appN W19 rfl (.tmp 37) (.tmp 39) 22 rfl wa.heap.size 9 i0 _ 1 16 und22 ih iz is ib rfl (by decide) _ (ts.length) (ts.map Value.string) rfl hO (some ⟨W1.heap.size, 0, none⟩) (1) 1 ([.string more]) rfl (hs_L.rd) (by simp [Value.oneCell']) (by unfold maxLen; omega) (by omega) hZ ?_
              intro A3 c3 W20 hO2 hg2 hf2
              have hP2 := gb_below hP hg2 hZ (fun g hg => (hO.lt g hg).1)
              have hZ2 := Nat.le_trans hZ hg2.size
              refine hK.out _ _ hP2 (fun _ => ?_)
              clear hK K'
              (try simp only [Act.put, List.getElem_toArray, List.getElem_cons_zero, List.getElem_cons_succ, List.setIfInBounds_toArray, List.set_cons_zero, List.set_cons_succ])
              replace hs_L := hs_L.grown hg2 hf2
              replace hs_B := hs_B.grown hg2 hf2
              clear hO hP hZ hg2 hf2
              have hO := hO2
              have hP := hP2
              have hZ := hZ2
              clear hO2 hP2 hZ2
              refine wpAnyH_take (i := 9) (v := ?_) rfl (by kernel_rfl) (by kernel_rfl) (by kernel_rfl) (fun _ _ _ h => h) (Or.inl ⟨by rfl, ?_⟩) hP ?_
              rotate_left
              · (intro ww hSw; go_simp; try with_reducible rfl)
              (try simp only [Act.put, List.getElem_toArray, List.getElem_cons_zero, List.getElem_cons_succ, List.setIfInBounds_toArray, List.set_cons_zero, List.set_cons_succ])
              refine wpAnyH_ready (rs := [11]) (by kernel_rfl) (by simp) ?_
              refine AllReadyH.cons rfl ?_ ?_
              · intro K' hK
                rw [if_pos (by rfl)]
                have c0 := obj_at hs_B.2.2.1 0 _ rfl
                have c1 := obj_at hs_B.2.2.1 1 _ rfl
                have f0 := obj_fz hs_B.2.2.1 0
                have f1 := obj_fz hs_B.2.2.1 1
                go_simp
                refine hK.out _ _ (Below.setCell (p := ⟨W15.heap.size, 1, none⟩) (Below.setCell (p := ⟨W15.heap.size, 0, none⟩) hP hs_B.1 _) hs_B.1 _) (fun _ => ?_)
                clear hK K'
                (try simp only [Act.put, List.getElem_toArray, List.getElem_cons_zero, List.getElem_cons_succ, List.setIfInBounds_toArray, List.set_cons_zero, List.set_cons_succ])
                refine wpAnyH_done (by kernel_rfl) ?_ _
                refine NoPanic.normal ?_
                have hO4 := hO
                rw [show ts.map Value.string ++ [.string more] = (ts ++ [more]).map Value.string by simp] at hO4
                have hS4 : Strs _ A3 (ts ++ [more]) := strs_far hO4 hs_B.2.2.2 (.int .i64 W) (.slice A3 (ts.length + 1) c3)
                go_wp2_with fail
                go_meet
                exact ⟨_, A3, c3, rfl, set_two hs_B.2.2.1, hS4, hs_B.1, Below.setCell (Below.setCell hP hs_B.1 _) hs_B.1 _⟩
              exact AllReadyH.nil
            exact AllReadyH.nil
          exact AllReadyH.nil
        refine AllReadyH.cons rfl ?_ ?_
        · intro K' hK
          rw [if_pos (by rfl)]
          go_simp
          have hP2 := below_alloc hP hZ (.cells #[.int .i64 0, .slice none 0 0] 24)
          refine hK.out _ _ hP2 (fun _ => ?_)
          clear hK K'
          (try simp only [Act.put, List.getElem_toArray, List.getElem_cons_zero, List.getElem_cons_succ, List.setIfInBounds_toArray, List.set_cons_zero, List.set_cons_succ])
          replace hs_L := hs_L.alloc (.cells #[.int .i64 0, .slice none 0 0] 24)
          have hs_B := Side.fresh hZ hO #[.int .i64 0, .slice none 0 0] 24
          replace hO := hO.alloc (.cells #[.int .i64 0, .slice none 0 0] 24)
          replace hZ : wa.heap.size ≤ (W14.alloc (.cells #[.int .i64 0, .slice none 0 0] 24)).heap.size := by rw [World.size_alloc]; omega
          clear hP
          have hP := hP2
          clear hP2
          obtain ⟨W22, hWe⟩ : ∃ W22, (W14.alloc (.cells #[.int .i64 0, .slice none 0 0] 24)) = W22 := ⟨_, rfl⟩
          rw [hWe] at hP hZ hO hs_L hs_B ⊢
          clear hWe
          refine wpAnyH_ready (rs := [5]) (by kernel_rfl) (by simp) ?_
          refine AllReadyH.cons rfl ?_ ?_
          · intro K' hK
            refine step_appN W22 rfl (.tmp 34) (.tmp 36) 22 rfl wa.heap.size 9 i0 _ 1 16 und22 ih iz is ib rfl (by decide) _ (0) ([]) rfl hO A (ts.length) c (ts.map Value.string) rfl (strs_rd (hA.ext hP)) (one_strs _) (by unfold maxLen; omega) (by omega) hZ ?_
            intro A2 c2 W23 hO2 hg2 hf2
            rw [Nat.zero_add ts.length, List.nil_append] at hO2
            rw [Nat.zero_add ts.length] at hf2 ⊢
            have hP2 := gb_below hP hg2 hZ (fun g hg => (hO.lt g hg).1)
            have hZ2 := Nat.le_trans hZ hg2.size
            refine hK.out _ _ hP2 (fun _ => ?_)
            clear hK K'
            (try simp only [Act.put, List.getElem_toArray, List.getElem_cons_zero, List.getElem_cons_succ, List.setIfInBounds_toArray, List.set_cons_zero, List.set_cons_succ])
            replace hs_L := hs_L.grown hg2 hf2
            replace hs_B := hs_B.grown hg2 hf2
            clear hO hP hZ hg2 hf2
            have hO := hO2
            have hP := hP2
            have hZ := hZ2
            clear hO2 hP2 hZ2
            refine wpAnyH_ready (rs := [8]) (by kernel_rfl) (by simp) ?_
            refine AllReadyH.cons rfl ?_ ?_
            · intro K' hK
              refine step_appN W23 rfl (.tmp 37) (.tmp 39) 22 rfl wa.heap.size 9 i0 _ 1 16 und22 ih iz is ib rfl (by decide) _ (ts.length) (ts.map Value.string) rfl hO (some ⟨W1.heap.size, 0, none⟩) (1) 1 ([.string more]) rfl (hs_L.rd) (by simp [Value.oneCell']) (by unfold maxLen; omega) (by omega) hZ ?_
              intro A3 c3 W24 hO2 hg2 hf2
              have hP2 := gb_below hP hg2 hZ (fun g hg => (hO.lt g hg).1)
              have hZ2 := Nat.le_trans hZ hg2.size
              refine hK.out _ _ hP2 (fun _ => ?_)
              clear hK K'
              (try simp only [Act.put, List.getElem_toArray, List.getElem_cons_zero, List.getElem_cons_succ, List.setIfInBounds_toArray, List.set_cons_zero, List.set_cons_succ])
              replace hs_L := hs_L.grown hg2 hf2
              replace hs_B := hs_B.grown hg2 hf2
              clear hO hP hZ hg2 hf2
              have hO := hO2
              have hP := hP2
              have hZ := hZ2
              clear hO2 hP2 hZ2
              refine wpAnyH_take (i := 9) (v := ?_) rfl (by kernel_rfl) (by kernel_rfl) (by kernel_rfl) (fun _ _ _ h => h) (Or.inl ⟨by rfl, ?_⟩) hP ?_
              rotate_left
              · (intro ww hSw; go_simp; try with_reducible rfl)
              (try simp only [Act.put, List.getElem_toArray, List.getElem_cons_zero, List.getElem_cons_succ, List.setIfInBounds_toArray, List.set_cons_zero, List.set_cons_succ])
              refine wpAnyH_ready (rs := [11]) (by kernel_rfl) (by simp) ?_
              refine AllReadyH.cons rfl ?_ ?_
              · intro K' hK
                rw [if_pos (by rfl)]
                have c0 := obj_at hs_B.2.2.1 0 _ rfl
                have c1 := obj_at hs_B.2.2.1 1 _ rfl
                have f0 := obj_fz hs_B.2.2.1 0
                have f1 := obj_fz hs_B.2.2.1 1
                go_simp
                refine hK.out _ _ (Below.setCell (p := ⟨W14.heap.size, 1, none⟩) (Below.setCell (p := ⟨W14.heap.size, 0, none⟩) hP hs_B.1 _) hs_B.1 _) (fun _ => ?_)
                clear hK K'
                (try simp only [Act.put, List.getElem_toArray, List.getElem_cons_zero, List.getElem_cons_succ, List.setIfInBounds_toArray, List.set_cons_zero, List.set_cons_succ])
                refine wpAnyH_done (by kernel_rfl) ?_ _
                refine NoPanic.normal ?_
                have hO4 := hO
                rw [show ts.map Value.string ++ [.string more] = (ts ++ [more]).map Value.string by simp] at hO4
                have hS4 : Strs _ A3 (ts ++ [more]) := strs_far hO4 hs_B.2.2.2 (.int .i64 W) (.slice A3 (ts.length + 1) c3)
                go_wp2_with fail
                go_meet
                exact ⟨_, A3, c3, rfl, set_two hs_B.2.2.1, hS4, hs_B.1, Below.setCell (Below.setCell hP hs_B.1 _) hs_B.1 _⟩
              exact AllReadyH.nil
            exact AllReadyH.nil
          exact AllReadyH.nil
        exact AllReadyH.nil
      refine AllReadyH.cons rfl ?_ ?_
      · intro K' hK
        rw [if_pos (by rfl)]
        go_simp
        have hP2 := below_alloc hP hZ (.cells #[.int .i64 0, .slice none 0 0] 24)
        refine hK.out _ _ hP2 (fun _ => ?_)
        clear hK K'
        (try simp only [Act.put, List.getElem_toArray, List.getElem_cons_zero, List.getElem_cons_succ, List.setIfInBounds_toArray, List.set_cons_zero, List.set_cons_succ])
        have hs_B := Side.fresh hZ hO #[.int .i64 0, .slice none 0 0] 24
        replace hO := hO.alloc (.cells #[.int .i64 0, .slice none 0 0] 24)
        replace hZ : wa.heap.size ≤ (W1.alloc (.cells #[.int .i64 0, .slice none 0 0] 24)).heap.size := by rw [World.size_alloc]; omega
        clear hP
        have hP := hP2
        clear hP2
        obtain ⟨W26, hWe⟩ : ∃ W26, (W1.alloc (.cells #[.int .i64 0, .slice none 0 0] 24)) = W26 := ⟨_, rfl⟩
        rw [hWe] at hP hZ hO hs_B ⊢
        clear hWe
        refine wpAnyH_ready (rs := [5, 7]) (by kernel_rfl) (by simp) ?_
        refine AllReadyH.cons rfl ?_ ?_
        · intro K' hK
          refine step_appN W26 rfl (.tmp 34) (.tmp 36) 22 rfl wa.heap.size 9 i0 _ 1 16 und22 ih iz is ib rfl (by decide) _ (0) ([]) rfl hO A (ts.length) c (ts.map Value.string) rfl (strs_rd (hA.ext hP)) (one_strs _) (by unfold maxLen; omega) (by omega) hZ ?_
          intro A2 c2 W27 hO2 hg2 hf2
          rw [Nat.zero_add ts.length, List.nil_append] at hO2
          rw [Nat.zero_add ts.length] at hf2 ⊢
          have hP2 := gb_below hP hg2 hZ (fun g hg => (hO.lt g hg).1)
          have hZ2 := Nat.le_trans hZ hg2.size
          refine hK.out _ _ hP2 (fun _ => ?_)
          clear hK K'
          (try simp only [Act.put, List.getElem_toArray, List.getElem_cons_zero, List.getElem_cons_succ, List.setIfInBounds_toArray, List.set_cons_zero, List.set_cons_succ])
          replace hs_B := hs_B.grown hg2 hf2
          clear hO hP hZ hg2 hf2
          have hO := hO2
          have hP := hP2
          have hZ := hZ2
          clear hO2 hP2 hZ2
          refine wpAnyH_ready (rs := [7]) (by kernel_rfl) (by simp) ?_
          refine AllReadyH.cons rfl ?_ ?_
          · intro K' hK
            rw [if_pos (by rfl)]
            go_simp
            have hP2 := below_alloc hP hZ (.cells #[.string more] 9)
            refine hK.out _ _ hP2 (fun _ => ?_)
            clear hK K'
            (try simp only [Act.put, List.getElem_toArray, List.getElem_cons_zero, List.getElem_cons_succ, List.setIfInBounds_toArray, List.set_cons_zero, List.set_cons_succ])
            replace hs_B := hs_B.alloc (.cells #[.string more] 9)
            have hs_L := Side.fresh hZ hO #[.string more] 9
            replace hO := hO.alloc (.cells #[.string more] 9)
            replace hZ : wa.heap.size ≤ (W27.alloc (.cells #[.string more] 9)).heap.size := by rw [World.size_alloc]; omega
            clear hP
            have hP := hP2
            clear hP2
            obtain ⟨W28, hWe⟩ : ∃ W28, (W27.alloc (.cells #[.string more] 9)) = W28 := ⟨_, rfl⟩
            rw [hWe] at hP hZ hO hs_B hs_L ⊢
            clear hWe
            refine wpAnyH_ready (rs := [8]) (by kernel_rfl) (by simp) ?_
            refine AllReadyH.cons rfl ?_ ?_
            · intro K' hK
              refine step_appN W28 rfl (.tmp 37) (.tmp 39) 22 rfl wa.heap.size 9 i0 _ 1 16 und22 ih iz is ib rfl (by decide) _ (ts.length) (ts.map Value.string) rfl hO (some ⟨W27.heap.size, 0, none⟩) (1) 1 ([.string more]) rfl (hs_L.rd) (by simp [Value.oneCell']) (by unfold maxLen; omega) (by omega) hZ ?_
              intro A3 c3 W29 hO2 hg2 hf2
              have hP2 := gb_below hP hg2 hZ (fun g hg => (hO.lt g hg).1)
              have hZ2 := Nat.le_trans hZ hg2.size
              refine hK.out _ _ hP2 (fun _ => ?_)
              clear hK K'
              (try simp only [Act.put, List.getElem_toArray, List.getElem_cons_zero, List.getElem_cons_succ, List.setIfInBounds_toArray, List.set_cons_zero, List.set_cons_succ])
              replace hs_B := hs_B.grown hg2 hf2
              replace hs_L := hs_L.grown hg2 hf2
              clear hO hP hZ hg2 hf2
              have hO := hO2
              have hP := hP2
              have hZ := hZ2
              clear hO2 hP2 hZ2
              refine wpAnyH_take (i := 9) (v := ?_) rfl (by kernel_rfl) (by kernel_rfl) (by kernel_rfl) (fun _ _ _ h => h) (Or.inl ⟨by rfl, ?_⟩) hP ?_
              rotate_left
              · (intro ww hSw; go_simp; try with_reducible rfl)
              (try simp only [Act.put, List.getElem_toArray, List.getElem_cons_zero, List.getElem_cons_succ, List.setIfInBounds_toArray, List.set_cons_zero, List.set_cons_succ])
              refine wpAnyH_ready (rs := [11]) (by kernel_rfl) (by simp) ?_
              refine AllReadyH.cons rfl ?_ ?_
              · intro K' hK
                rw [if_pos (by rfl)]
                have c0 := obj_at hs_B.2.2.1 0 _ rfl
                have c1 := obj_at hs_B.2.2.1 1 _ rfl
                have f0 := obj_fz hs_B.2.2.1 0
                have f1 := obj_fz hs_B.2.2.1 1
                go_simp
                refine hK.out _ _ (Below.setCell (p := ⟨W1.heap.size, 1, none⟩) (Below.setCell (p := ⟨W1.heap.size, 0, none⟩) hP hs_B.1 _) hs_B.1 _) (fun _ => ?_)
                clear hK K'
                (try simp only [Act.put, List.getElem_toArray, List.getElem_cons_zero, List.getElem_cons_succ, List.setIfInBounds_toArray, List.set_cons_zero, List.set_cons_succ])
                refine wpAnyH_done (by kernel_rfl) ?_ _
                refine NoPanic.normal ?_
                have hO4 := hO
                rw [show ts.map Value.string ++ [.string more] = (ts ++ [more]).map Value.string by simp] at hO4
                have hS4 : Strs _ A3 (ts ++ [more]) := strs_far hO4 hs_B.2.2.2 (.int .i64 W) (.slice A3 (ts.length + 1) c3)
                go_wp2_with fail
                go_meet
                exact ⟨_, A3, c3, rfl, set_two hs_B.2.2.1, hS4, hs_B.1, Below.setCell (Below.setCell hP hs_B.1 _) hs_B.1 _⟩
              exact AllReadyH.nil
            exact AllReadyH.nil
          exact AllReadyH.nil
        refine AllReadyH.cons rfl ?_ ?_
        · intro K' hK
          rw [if_pos (by rfl)]
          go_simp
          have hP2 := below_alloc hP hZ (.cells #[.string more] 9)
          refine hK.out _ _ hP2 (fun _ => ?_)
          clear hK K'
          (try simp only [Act.put, List.getElem_toArray, List.getElem_cons_zero, List.getElem_cons_succ, List.setIfInBounds_toArray, List.set_cons_zero, List.set_cons_succ])
          replace hs_B := hs_B.alloc (.cells #[.string more] 9)
          have hs_L := Side.fresh hZ hO #[.string more] 9
          replace hO := hO.alloc (.cells #[.string more] 9)
          replace hZ : wa.heap.size ≤ (W26.alloc (.cells #[.string more] 9)).heap.size := by rw [World.size_alloc]; omega
          clear hP
          have hP := hP2
          clear hP2
          obtain ⟨W31, hWe⟩ : ∃ W31, (W26.alloc (.cells #[.string more] 9)) = W31 := ⟨_, rfl⟩
          rw [hWe] at hP hZ hO hs_B hs_L ⊢
          clear hWe
          refine wpAnyH_ready (rs := [5]) (by kernel_rfl) (by simp) ?_
          refine AllReadyH.cons rfl ?_ ?_
          · intro K' hK
            refine step_appN W31 rfl (.tmp 34) (.tmp 36) 22 rfl wa.heap.size 9 i0 _ 1 16 und22 ih iz is ib rfl (by decide) _ (0) ([]) rfl hO A (ts.length) c (ts.map Value.string) rfl (strs_rd (hA.ext hP)) (one_strs _) (by unfold maxLen; omega) (by omega) hZ ?_
            intro A2 c2 W32 hO2 hg2 hf2
            rw [Nat.zero_add ts.length, List.nil_append] at hO2
            rw [Nat.zero_add ts.length] at hf2 ⊢
            have hP2 := gb_below hP hg2 hZ (fun g hg => (hO.lt g hg).1)
            have hZ2 := Nat.le_trans hZ hg2.size
            refine hK.out _ _ hP2 (fun _ => ?_)
            clear hK K'
            (try simp only [Act.put, List.getElem_toArray, List.getElem_cons_zero, List.getElem_cons_succ, List.setIfInBounds_toArray, List.set_cons_zero, List.set_cons_succ])
            replace hs_B := hs_B.grown hg2 hf2
            replace hs_L := hs_L.grown hg2 hf2
            clear hO hP hZ hg2 hf2
            have hO := hO2
            have hP := hP2
            have hZ := hZ2
            clear hO2 hP2 hZ2
            refine wpAnyH_ready (rs := [8]) (by kernel_rfl) (by simp) ?_
            refine AllReadyH.cons rfl ?_ ?_
            · intro K' hK
              refine step_appN W32 rfl (.tmp 37) (.tmp 39) 22 rfl wa.heap.size 9 i0 _ 1 16 und22 ih iz is ib rfl (by decide) _ (ts.length) (ts.map Value.string) rfl hO (some ⟨W26.heap.size, 0, none⟩) (1) 1 ([.string more]) rfl (hs_L.rd) (by simp [Value.oneCell']) (by unfold maxLen; omega) (by omega) hZ ?_
              intro A3 c3 W33 hO2 hg2 hf2
              have hP2 := gb_below hP hg2 hZ (fun g hg => (hO.lt g hg).1)
              have hZ2 := Nat.le_trans hZ hg2.size
              refine hK.out _ _ hP2 (fun _ => ?_)
              clear hK K'
              (try simp only [Act.put, List.getElem_toArray, List.getElem_cons_zero, List.getElem_cons_succ, List.setIfInBounds_toArray, List.set_cons_zero, List.set_cons_succ])
              replace hs_B := hs_B.grown hg2 hf2
              replace hs_L := hs_L.grown hg2 hf2
              clear hO hP hZ hg2 hf2
              have hO := hO2
              have hP := hP2
              have hZ := hZ2
              clear hO2 hP2 hZ2
              refine wpAnyH_take (i := 9) (v := ?_) rfl (by kernel_rfl) (by kernel_rfl) (by kernel_rfl) (fun _ _ _ h => h) (Or.inl ⟨by rfl, ?_⟩) hP ?_
              rotate_left
              · (intro ww hSw; go_simp; try with_reducible rfl)
              (try simp only [Act.put, List.getElem_toArray, List.getElem_cons_zero, List.getElem_cons_succ, List.setIfInBounds_toArray, List.set_cons_zero, List.set_cons_succ])
              refine wpAnyH_ready (rs := [11]) (by kernel_rfl) (by simp) ?_
              refine AllReadyH.cons rfl ?_ ?_
              · intro K' hK
                rw [if_pos (by rfl)]
                have c0 := obj_at hs_B.2.2.1 0 _ rfl
                have c1 := obj_at hs_B.2.2.1 1 _ rfl
                have f0 := obj_fz hs_B.2.2.1 0
                have f1 := obj_fz hs_B.2.2.1 1
                go_simp
                refine hK.out _ _ (Below.setCell (p := ⟨W1.heap.size, 1, none⟩) (Below.setCell (p := ⟨W1.heap.size, 0, none⟩) hP hs_B.1 _) hs_B.1 _) (fun _ => ?_)
                clear hK K'
                (try simp only [Act.put, List.getElem_toArray, List.getElem_cons_zero, List.getElem_cons_succ, List.setIfInBounds_toArray, List.set_cons_zero, List.set_cons_succ])
                refine wpAnyH_done (by kernel_rfl) ?_ _
                refine NoPanic.normal ?_
                have hO4 := hO
                rw [show ts.map Value.string ++ [.string more] = (ts ++ [more]).map Value.string by simp] at hO4
                have hS4 : Strs _ A3 (ts ++ [more]) := strs_far hO4 hs_B.2.2.2 (.int .i64 W) (.slice A3 (ts.length + 1) c3)
                go_wp2_with fail
                go_meet
                exact ⟨_, A3, c3, rfl, set_two hs_B.2.2.1, hS4, hs_B.1, Below.setCell (Below.setCell hP hs_B.1 _) hs_B.1 _⟩
              exact AllReadyH.nil
            exact AllReadyH.nil
          exact AllReadyH.nil
        exact AllReadyH.nil
      exact AllReadyH.nil
    refine AllReadyH.cons rfl ?_ ?_
    · intro K' hK
      rw [if_pos (by rfl)]
      go_simp
      have hP2 := below_alloc hP hZ (.cells #[.string more] 9)
      refine hK.out _ _ hP2 (fun _ => ?_)
      clear hK K'
      (try simp only [Act.put, List.getElem_toArray, List.getElem_cons_zero, List.getElem_cons_succ, List.setIfInBounds_toArray, List.set_cons_zero, List.set_cons_succ])
      have hs_L := Side.fresh0 (W := W0) hZ #[.string more] 9
      replace hZ : wa.heap.size ≤ (W0.alloc (.cells #[.string more] 9)).heap.size := by rw [World.size_alloc]; omega
      clear hP
      have hP := hP2
      clear hP2
      obtain ⟨W35, hWe⟩ : ∃ W35, (W0.alloc (.cells #[.string more] 9)) = W35 := ⟨_, rfl⟩
      rw [hWe] at hP hZ hs_L ⊢
      clear hWe
      refine wpAnyH_ready (rs := [2, 10]) (by kernel_rfl) (by simp) ?_
      refine AllReadyH.cons rfl ?_ ?_
      · intro K' hK
        rw [if_pos (by rfl)]
        go_simp
        have hP2 := below_alloc hP hZ (.cells #[] 9)
        refine hK.out _ _ hP2 (fun _ => ?_)
        clear hK K'
        (try simp only [Act.put, List.getElem_toArray, List.getElem_cons_zero, List.getElem_cons_succ, List.setIfInBounds_toArray, List.set_cons_zero, List.set_cons_succ])
        replace hs_L := hs_L.lit (.cells #[] 9)
        have hO : (W35.alloc (.cells #[] 9)).ownsRow wa.heap.size 9 1 (.slice (some ⟨W35.heap.size, 0, none⟩) 0 0) 0 [] := own_lit0 (heap_alloc_new W35 _) hZ
        replace hZ : wa.heap.size ≤ (W35.alloc (.cells #[] 9)).heap.size := by rw [World.size_alloc]; omega
        clear hP
        have hP := hP2
        clear hP2
        obtain ⟨W36, hWe⟩ : ∃ W36, (W35.alloc (.cells #[] 9)) = W36 := ⟨_, rfl⟩
        rw [hWe] at hP hZ hO hs_L ⊢
        clear hWe
        refine wpAnyH_ready (rs := [5, 10]) (by kernel_rfl) (by simp) ?_
        refine AllReadyH.cons rfl ?_ ?_
        · intro K' hK
          refine step_appN W36 rfl (.tmp 34) (.tmp 36) 22 rfl wa.heap.size 9 i0 _ 1 16 und22 ih iz is ib rfl (by decide) _ (0) ([]) rfl hO A (ts.length) c (ts.map Value.string) rfl (strs_rd (hA.ext hP)) (one_strs _) (by unfold maxLen; omega) (by omega) hZ ?_
          intro A2 c2 W37 hO2 hg2 hf2
          rw [Nat.zero_add ts.length, List.nil_append] at hO2
          rw [Nat.zero_add ts.length] at hf2 ⊢
          have hP2 := gb_below hP hg2 hZ (fun g hg => (hO.lt g hg).1)
          have hZ2 := Nat.le_trans hZ hg2.size
          refine hK.out _ _ hP2 (fun _ => ?_)
          clear hK K'
          (try simp only [Act.put, List.getElem_toArray, List.getElem_cons_zero, List.getElem_cons_succ, List.setIfInBounds_toArray, List.set_cons_zero, List.set_cons_succ])
          replace hs_L := hs_L.grown hg2 hf2
          clear hO hP hZ hg2 hf2
          have hO := hO2
          have hP := hP2
          have hZ := hZ2
          clear hO2 hP2 hZ2
          refine wpAnyH_ready (rs := [8, 10]) (by kernel_rfl) (by simp) ?_
          refine AllReadyH.cons rfl ?_ ?_
          · intro K' hK
            refine step_appN W37 rfl (.tmp 37) (.tmp 39) 22 rfl wa.heap.size 9 i0 _ 1 16 und22 ih iz is ib rfl (by decide) _ (ts.length) (ts.map Value.string) rfl hO (some ⟨W0.heap.size, 0, none⟩) (1) 1 ([.string more]) rfl (hs_L.rd) (by simp [Value.oneCell']) (by unfold maxLen; omega) (by omega) hZ ?_
            intro A3 c3 W38 hO2 hg2 hf2
            have hP2 := gb_below hP hg2 hZ (fun g hg => (hO.lt g hg).1)
            have hZ2 := Nat.le_trans hZ hg2.size
            refine hK.out _ _ hP2 (fun _ => ?_)
            clear hK K'
            (try simp only [Act.put, List.getElem_toArray, List.getElem_cons_zero, List.getElem_cons_succ, List.setIfInBounds_toArray, List.set_cons_zero, List.set_cons_succ])
            replace hs_L := hs_L.grown hg2 hf2
            clear hO hP hZ hg2 hf2
            have hO := hO2
            have hP := hP2
            have hZ := hZ2
            clear hO2 hP2 hZ2
            refine wpAnyH_take (i := 9) (v := ?_) rfl (by kernel_rfl) (by kernel_rfl) (by kernel_rfl) (fun _ _ _ h => h) (Or.inl ⟨by rfl, ?_⟩) hP ?_
            rotate_left
            · (intro ww hSw; go_simp; try with_reducible rfl)
            (try simp only [Act.put, List.getElem_toArray, List.getElem_cons_zero, List.getElem_cons_succ, List.setIfInBounds_toArray, List.set_cons_zero, List.set_cons_succ])
            refine wpAnyH_ready (rs := [10]) (by kernel_rfl) (by simp) ?_
            refine AllReadyH.cons rfl ?_ ?_
            · intro K' hK
              rw [if_pos (by rfl)]
              go_simp
              have hP2 := below_alloc hP hZ (.cells #[.int .i64 0, .slice none 0 0] 24)
              refine hK.out _ _ hP2 (fun _ => ?_)
              clear hK K'
              (try simp only [Act.put, List.getElem_toArray, List.getElem_cons_zero, List.getElem_cons_succ, List.setIfInBounds_toArray, List.set_cons_zero, List.set_cons_succ])
              replace hs_L := hs_L.alloc (.cells #[.int .i64 0, .slice none 0 0] 24)
              have hs_B := Side.fresh hZ hO #[.int .i64 0, .slice none 0 0] 24
              replace hO := hO.alloc (.cells #[.int .i64 0, .slice none 0 0] 24)
              replace hZ : wa.heap.size ≤ (W38.alloc (.cells #[.int .i64 0, .slice none 0 0] 24)).heap.size := by rw [World.size_alloc]; omega
              clear hP
              have hP := hP2
              clear hP2
              obtain ⟨W39, hWe⟩ : ∃ W39, (W38.alloc (.cells #[.int .i64 0, .slice none 0 0] 24)) = W39 := ⟨_, rfl⟩
              rw [hWe] at hP hZ hO hs_L hs_B ⊢
              clear hWe
              refine wpAnyH_ready (rs := [11]) (by kernel_rfl) (by simp) ?_
              refine AllReadyH.cons rfl ?_ ?_
              · intro K' hK
                rw [if_pos (by rfl)]
                have c0 := obj_at hs_B.2.2.1 0 _ rfl
                have c1 := obj_at hs_B.2.2.1 1 _ rfl
                have f0 := obj_fz hs_B.2.2.1 0
                have f1 := obj_fz hs_B.2.2.1 1
                go_simp
                refine hK.out _ _ (Below.setCell (p := ⟨W38.heap.size, 1, none⟩) (Below.setCell (p := ⟨W38.heap.size, 0, none⟩) hP hs_B.1 _) hs_B.1 _) (fun _ => ?_)
                clear hK K'
                (try simp only [Act.put, List.getElem_toArray, List.getElem_cons_zero, List.getElem_cons_succ, List.setIfInBounds_toArray, List.set_cons_zero, List.set_cons_succ])
                refine wpAnyH_done (by kernel_rfl) ?_ _
                refine NoPanic.normal ?_
                have hO4 := hO
                rw [show ts.map Value.string ++ [.string more] = (ts ++ [more]).map Value.string by simp] at hO4
                have hS4 : Strs _ A3 (ts ++ [more]) := strs_far hO4 hs_B.2.2.2 (.int .i64 W) (.slice A3 (ts.length + 1) c3)
                go_wp2_with fail
                go_meet
                exact ⟨_, A3, c3, rfl, set_two hs_B.2.2.1, hS4, hs_B.1, Below.setCell (Below.setCell hP hs_B.1 _) hs_B.1 _⟩
              exact AllReadyH.nil
            exact AllReadyH.nil
          refine AllReadyH.cons rfl ?_ ?_
          · intro K' hK
            rw [if_pos (by rfl)]
            go_simp
            have hP2 := below_alloc hP hZ (.cells #[.int .i64 0, .slice none 0 0] 24)
            refine hK.out _ _ hP2 (fun _ => ?_)
            clear hK K'
            (try simp only [Act.put, List.getElem_toArray, List.getElem_cons_zero, List.getElem_cons_succ, List.setIfInBounds_toArray, List.set_cons_zero, List.set_cons_succ])
            replace hs_L := hs_L.alloc (.cells #[.int .i64 0, .slice none 0 0] 24)
            have hs_B := Side.fresh hZ hO #[.int .i64 0, .slice none 0 0] 24
            replace hO := hO.alloc (.cells #[.int .i64 0, .slice none 0 0] 24)
            replace hZ : wa.heap.size ≤ (W37.alloc (.cells #[.int .i64 0, .slice none 0 0] 24)).heap.size := by rw [World.size_alloc]; omega
            clear hP
            have hP := hP2
            clear hP2
            obtain ⟨W41, hWe⟩ : ∃ W41, (W37.alloc (.cells #[.int .i64 0, .slice none 0 0] 24)) = W41 := ⟨_, rfl⟩
            rw [hWe] at hP hZ hO hs_L hs_B ⊢
            clear hWe
            refine wpAnyH_ready (rs := [8]) (by kernel_rfl) (by simp) ?_
            refine AllReadyH.cons rfl ?_ ?_
            · intro K' hK
              refine step_appN W41 rfl (.tmp 37) (.tmp 39) 22 rfl wa.heap.size 9 i0 _ 1 16 und22 ih iz is ib rfl (by decide) _ (ts.length) (ts.map Value.string) rfl hO (some ⟨W0.heap.size, 0, none⟩) (1) 1 ([.string more]) rfl (hs_L.rd) (by simp [Value.oneCell']) (by unfold maxLen; omega) (by omega) hZ ?_
              intro A3 c3 W42 hO2 hg2 hf2
              have hP2 := gb_below hP hg2 hZ (fun g hg => (hO.lt g hg).1)
              have hZ2 := Nat.le_trans hZ hg2.size
              refine hK.out _ _ hP2 (fun _ => ?_)
              clear hK K'
              (try simp only [Act.put, List.getElem_toArray, List.getElem_cons_zero, List.getElem_cons_succ, List.setIfInBounds_toArray, List.set_cons_zero, List.set_cons_succ])
              replace hs_L := hs_L.grown hg2 hf2
              replace hs_B := hs_B.grown hg2 hf2
              clear hO hP hZ hg2 hf2
              have hO := hO2
              have hP := hP2
              have hZ := hZ2
              clear hO2 hP2 hZ2
              refine wpAnyH_take (i := 9) (v := ?_) rfl (by kernel_rfl) (by kernel_rfl) (by kernel_rfl) (fun _ _ _ h => h) (Or.inl ⟨by rfl, ?_⟩) hP ?_
              rotate_left
              · (intro ww hSw; go_simp; try with_reducible rfl)
              (try simp only [Act.put, List.getElem_toArray, List.getElem_cons_zero, List.getElem_cons_succ, List.setIfInBounds_toArray, List.set_cons_zero, List.set_cons_succ])
              refine wpAnyH_ready (rs := [11]) (by kernel_rfl) (by simp) ?_
              refine AllReadyH.cons rfl ?_ ?_
              · intro K' hK
                rw [if_pos (by rfl)]
                have c0 := obj_at hs_B.2.2.1 0 _ rfl
                have c1 := obj_at hs_B.2.2.1 1 _ rfl
                have f0 := obj_fz hs_B.2.2.1 0
                have f1 := obj_fz hs_B.2.2.1 1
                go_simp
                refine hK.out _ _ (Below.setCell (p := ⟨W37.heap.size, 1, none⟩) (Below.setCell (p := ⟨W37.heap.size, 0, none⟩) hP hs_B.1 _) hs_B.1 _) (fun _ => ?_)
                clear hK K'
                (try simp only [Act.put, List.getElem_toArray, List.getElem_cons_zero, List.getElem_cons_succ, List.setIfInBounds_toArray, List.set_cons_zero, List.set_cons_succ])
                refine wpAnyH_done (by kernel_rfl) ?_ _
                refine NoPanic.normal ?_
                have hO4 := hO
                rw [show ts.map Value.string ++ [.string more] = (ts ++ [more]).map Value.string by simp] at hO4
                have hS4 : Strs _ A3 (ts ++ [more]) := strs_far hO4 hs_B.2.2.2 (.int .i64 W) (.slice A3 (ts.length + 1) c3)
                go_wp2_with fail
                go_meet
                exact ⟨_, A3, c3, rfl, set_two hs_B.2.2.1, hS4, hs_B.1, Below.setCell (Below.setCell hP hs_B.1 _) hs_B.1 _⟩
              exact AllReadyH.nil
            exact AllReadyH.nil
          exact AllReadyH.nil
        refine AllReadyH.cons rfl ?_ ?_
        · intro K' hK
          rw [if_pos (by rfl)]
          go_simp
          have hP2 := below_alloc hP hZ (.cells #[.int .i64 0, .slice none 0 0] 24)
          refine hK.out _ _ hP2 (fun _ => ?_)
          clear hK K'
          (try simp only [Act.put, List.getElem_toArray, List.getElem_cons_zero, List.getElem_cons_succ, List.setIfInBounds_toArray, List.set_cons_zero, List.set_cons_succ])
          replace hs_L := hs_L.alloc (.cells #[.int .i64 0, .slice none 0 0] 24)
          have hs_B := Side.fresh hZ hO #[.int .i64 0, .slice none 0 0] 24
          replace hO := hO.alloc (.cells #[.int .i64 0, .slice none 0 0] 24)
          replace hZ : wa.heap.size ≤ (W36.alloc (.cells #[.int .i64 0, .slice none 0 0] 24)).heap.size := by rw [World.size_alloc]; omega
          clear hP
          have hP := hP2
          clear hP2
          obtain ⟨W44, hWe⟩ : ∃ W44, (W36.alloc (.cells #[.int .i64 0, .slice none 0 0] 24)) = W44 := ⟨_, rfl⟩
          rw [hWe] at hP hZ hO hs_L hs_B ⊢
          clear hWe
          refine wpAnyH_ready (rs := [5]) (by kernel_rfl) (by simp) ?_
          refine AllReadyH.cons rfl ?_ ?_
          · intro K' hK
            refine step_appN W44 rfl (.tmp 34) (.tmp 36) 22 rfl wa.heap.size 9 i0 _ 1 16 und22 ih iz is ib rfl (by decide) _ (0) ([]) rfl hO A (ts.length) c (ts.map Value.string) rfl (strs_rd (hA.ext hP)) (one_strs _) (by unfold maxLen; omega) (by omega) hZ ?_
            intro A2 c2 W45 hO2 hg2 hf2
            rw [Nat.zero_add ts.length, List.nil_append] at hO2
            rw [Nat.zero_add ts.length] at hf2 ⊢
            have hP2 := gb_below hP hg2 hZ (fun g hg => (hO.lt g hg).1)
            have hZ2 := Nat.le_trans hZ hg2.size
            refine hK.out _ _ hP2 (fun _ => ?_)
            clear hK K'
            (try simp only [Act.put, List.getElem_toArray, List.getElem_cons_zero, List.getElem_cons_succ, List.setIfInBounds_toArray, List.set_cons_zero, List.set_cons_succ])
            replace hs_L := hs_L.grown hg2 hf2
            replace hs_B := hs_B.grown hg2 hf2
            clear hO hP hZ hg2 hf2
            have hO := hO2
            have hP := hP2
            have hZ := hZ2
            clear hO2 hP2 hZ2
            refine wpAnyH_ready (rs := [8]) (by kernel_rfl) (by simp) ?_
            refine AllReadyH.cons rfl ?_ ?_
            · intro K' hK
              refine step_appN W45 rfl (.tmp 37) (.tmp 39) 22 rfl wa.heap.size 9 i0 _ 1 16 und22 ih iz is ib rfl (by decide) _ (ts.length) (ts.map Value.string) rfl hO (some ⟨W0.heap.size, 0, none⟩) (1) 1 ([.string more]) rfl (hs_L.rd) (by simp [Value.oneCell']) (by unfold maxLen; omega) (by omega) hZ ?_
              intro A3 c3 W46 hO2 hg2 hf2
              have hP2 := gb_below hP hg2 hZ (fun g hg => (hO.lt g hg).1)
              have hZ2 := Nat.le_trans hZ hg2.size
              refine hK.out _ _ hP2 (fun _ => ?_)
              clear hK K'
              (try simp only [Act.put, List.getElem_toArray, List.getElem_cons_zero, List.getElem_cons_succ, List.setIfInBounds_toArray, List.set_cons_zero, List.set_cons_succ])
              replace hs_L := hs_L.grown hg2 hf2
              replace hs_B := hs_B.grown hg2 hf2
              clear hO hP hZ hg2 hf2
              have hO := hO2
              have hP := hP2
              have hZ := hZ2
              clear hO2 hP2 hZ2
              refine wpAnyH_take (i := 9) (v := ?_) rfl (by kernel_rfl) (by kernel_rfl) (by kernel_rfl) (fun _ _ _ h => h) (Or.inl ⟨by rfl, ?_⟩) hP ?_
              rotate_left
              · (intro ww hSw; go_simp; try with_reducible rfl)
              (try simp only [Act.put, List.getElem_toArray, List.getElem_cons_zero, List.getElem_cons_succ, List.setIfInBounds_toArray, List.set_cons_zero, List.set_cons_succ])
              refine wpAnyH_ready (rs := [11]) (by kernel_rfl) (by simp) ?_
              refine AllReadyH.cons rfl ?_ ?_
              · intro K' hK
                rw [if_pos (by rfl)]
                have c0 := obj_at hs_B.2.2.1 0 _ rfl
                have c1 := obj_at hs_B.2.2.1 1 _ rfl
                have f0 := obj_fz hs_B.2.2.1 0
                have f1 := obj_fz hs_B.2.2.1 1
                go_simp
                refine hK.out _ _ (Below.setCell (p := ⟨W36.heap.size, 1, none⟩) (Below.setCell (p := ⟨W36.heap.size, 0, none⟩) hP hs_B.1 _) hs_B.1 _) (fun _ => ?_)
                clear hK K'
                (try simp only [Act.put, List.getElem_toArray, List.getElem_cons_zero, List.getElem_cons_succ, List.setIfInBounds_toArray, List.set_cons_zero, List.set_cons_succ])
                refine wpAnyH_done (by kernel_rfl) ?_ _
                refine NoPanic.normal ?_
                have hO4 := hO
                rw [show ts.map Value.string ++ [.string more] = (ts ++ [more]).map Value.string by simp] at hO4
                have hS4 : Strs _ A3 (ts ++ [more]) := strs_far hO4 hs_B.2.2.2 (.int .i64 W) (.slice A3 (ts.length + 1) c3)
                go_wp2_with fail
                go_meet
                exact ⟨_, A3, c3, rfl, set_two hs_B.2.2.1, hS4, hs_B.1, Below.setCell (Below.setCell hP hs_B.1 _) hs_B.1 _⟩
              exact AllReadyH.nil
            exact AllReadyH.nil
          exact AllReadyH.nil
        exact AllReadyH.nil
      refine AllReadyH.cons rfl ?_ ?_
      · intro K' hK
        rw [if_pos (by rfl)]
        go_simp
        have hP2 := below_alloc hP hZ (.cells #[.int .i64 0, .slice none 0 0] 24)
        refine hK.out _ _ hP2 (fun _ => ?_)
        clear hK K'
        (try simp only [Act.put, List.getElem_toArray, List.getElem_cons_zero, List.getElem_cons_succ, List.setIfInBounds_toArray, List.set_cons_zero, List.set_cons_succ])
        replace hs_L := hs_L.alloc (.cells #[.int .i64 0, .slice none 0 0] 24)
        have hs_B := Side.fresh0 (W := W35) hZ #[.int .i64 0, .slice none 0 0] 24
        replace hZ : wa.heap.size ≤ (W35.alloc (.cells #[.int .i64 0, .slice none 0 0] 24)).heap.size := by rw [World.size_alloc]; omega
        clear hP
        have hP := hP2
        clear hP2
        obtain ⟨W48, hWe⟩ : ∃ W48, (W35.alloc (.cells #[.int .i64 0, .slice none 0 0] 24)) = W48 := ⟨_, rfl⟩
        rw [hWe] at hP hZ hs_L hs_B ⊢
        clear hWe
        refine wpAnyH_ready (rs := [2]) (by kernel_rfl) (by simp) ?_
        refine AllReadyH.cons rfl ?_ ?_
        · intro K' hK
          rw [if_pos (by rfl)]
          go_simp
          have hP2 := below_alloc hP hZ (.cells #[] 9)
          refine hK.out _ _ hP2 (fun _ => ?_)
          clear hK K'
          (try simp only [Act.put, List.getElem_toArray, List.getElem_cons_zero, List.getElem_cons_succ, List.setIfInBounds_toArray, List.set_cons_zero, List.set_cons_succ])
          replace hs_L := hs_L.lit (.cells #[] 9)
          replace hs_B := hs_B.lit (.cells #[] 9)
          have hO : (W48.alloc (.cells #[] 9)).ownsRow wa.heap.size 9 1 (.slice (some ⟨W48.heap.size, 0, none⟩) 0 0) 0 [] := own_lit0 (heap_alloc_new W48 _) hZ
          replace hZ : wa.heap.size ≤ (W48.alloc (.cells #[] 9)).heap.size := by rw [World.size_alloc]; omega
          clear hP
          have hP := hP2
          clear hP2
          obtain ⟨W49, hWe⟩ : ∃ W49, (W48.alloc (.cells #[] 9)) = W49 := ⟨_, rfl⟩
          rw [hWe] at hP hZ hO hs_L hs_B ⊢
          clear hWe
          refine wpAnyH_ready (rs := [5]) (by kernel_rfl) (by simp) ?_
          refine AllReadyH.cons rfl ?_ ?_
          · intro K' hK
            refine step_appN W49 rfl (.tmp 34) (.tmp 36) 22 rfl wa.heap.size 9 i0 _ 1 16 und22 ih iz is ib rfl (by decide) _ (0) ([]) rfl hO A (ts.length) c (ts.map Value.string) rfl (strs_rd (hA.ext hP)) (one_strs _) (by unfold maxLen; omega) (by omega) hZ ?_
            intro A2 c2 W50 hO2 hg2 hf2
            rw [Nat.zero_add ts.length, List.nil_append] at hO2
            rw [Nat.zero_add ts.length] at hf2 ⊢
            have hP2 := gb_below hP hg2 hZ (fun g hg => (hO.lt g hg).1)
            have hZ2 := Nat.le_trans hZ hg2.size
            refine hK.out _ _ hP2 (fun _ => ?_)
            clear hK K'
            (try simp only [Act.put, List.getElem_toArray, List.getElem_cons_zero, List.getElem_cons_succ, List.setIfInBounds_toArray, List.set_cons_zero, List.set_cons_succ])
            replace hs_L := hs_L.grown hg2 hf2
            replace hs_B := hs_B.grown hg2 hf2
            clear hO hP hZ hg2 hf2
            have hO := hO2
            have hP := hP2
            have hZ := hZ2
            clear hO2 hP2 hZ2
            refine wpAnyH_ready (rs := [8]) (by kernel_rfl) (by simp) ?_
            refine AllReadyH.cons rfl ?_ ?_
            · intro K' hK
              refine step_appN W50 rfl (.tmp 37) (.tmp 39) 22 rfl wa.heap.size 9 i0 _ 1 16 und22 ih iz is ib rfl (by decide) _ (ts.length) (ts.map Value.string) rfl hO (some ⟨W0.heap.size, 0, none⟩) (1) 1 ([.string more]) rfl (hs_L.rd) (by simp [Value.oneCell']) (by unfold maxLen; omega) (by omega) hZ ?_
              intro A3 c3 W51 hO2 hg2 hf2
              have hP2 := gb_below hP hg2 hZ (fun g hg => (hO.lt g hg).1)
              have hZ2 := Nat.le_trans hZ hg2.size
              refine hK.out _ _ hP2 (fun _ => ?_)
              clear hK K'
              (try simp only [Act.put, List.getElem_toArray, List.getElem_cons_zero, List.getElem_cons_succ, List.setIfInBounds_toArray, List.set_cons_zero, List.set_cons_succ])
              replace hs_L := hs_L.grown hg2 hf2
              replace hs_B := hs_B.grown hg2 hf2
              clear hO hP hZ hg2 hf2
              have hO := hO2
              have hP := hP2
              have hZ := hZ2
              clear hO2 hP2 hZ2
              refine wpAnyH_take (i := 9) (v := ?_) rfl (by kernel_rfl) (by kernel_rfl) (by kernel_rfl) (fun _ _ _ h => h) (Or.inl ⟨by rfl, ?_⟩) hP ?_
              rotate_left
              · (intro ww hSw; go_simp; try with_reducible rfl)
              (try simp only [Act.put, List.getElem_toArray, List.getElem_cons_zero, List.getElem_cons_succ, List.setIfInBounds_toArray, List.set_cons_zero, List.set_cons_succ])
              refine wpAnyH_ready (rs := [11]) (by kernel_rfl) (by simp) ?_
              refine AllReadyH.cons rfl ?_ ?_
              · intro K' hK
                rw [if_pos (by rfl)]
                have c0 := obj_at hs_B.2.2.1 0 _ rfl
                have c1 := obj_at hs_B.2.2.1 1 _ rfl
                have f0 := obj_fz hs_B.2.2.1 0
                have f1 := obj_fz hs_B.2.2.1 1
                go_simp
                refine hK.out _ _ (Below.setCell (p := ⟨W35.heap.size, 1, none⟩) (Below.setCell (p := ⟨W35.heap.size, 0, none⟩) hP hs_B.1 _) hs_B.1 _) (fun _ => ?_)
                clear hK K'
                (try simp only [Act.put, List.getElem_toArray, List.getElem_cons_zero, List.getElem_cons_succ, List.setIfInBounds_toArray, List.set_cons_zero, List.set_cons_succ])
                refine wpAnyH_done (by kernel_rfl) ?_ _
                refine NoPanic.normal ?_
                have hO4 := hO
                rw [show ts.map Value.string ++ [.string more] = (ts ++ [more]).map Value.string by simp] at hO4
                have hS4 : Strs _ A3 (ts ++ [more]) := strs_far hO4 hs_B.2.2.2 (.int .i64 W) (.slice A3 (ts.length + 1) c3)
                go_wp2_with fail
                go_meet
                exact ⟨_, A3, c3, rfl, set_two hs_B.2.2.1, hS4, hs_B.1, Below.setCell (Below.setCell hP hs_B.1 _) hs_B.1 _⟩
              exact AllReadyH.nil
            exact AllReadyH.nil
          exact AllReadyH.nil
        exact AllReadyH.nil
      exact AllReadyH.nil
    refine AllReadyH.cons rfl ?_ ?_
    · intro K' hK
      rw [if_pos (by rfl)]
      go_simp
      have hP2 := below_alloc hP hZ (.cells #[.int .i64 0, .slice none 0 0] 24)
      refine hK.out _ _ hP2 (fun _ => ?_)
      clear hK K'
      (try simp only [Act.put, List.getElem_toArray, List.getElem_cons_zero, List.getElem_cons_succ, List.setIfInBounds_toArray, List.set_cons_zero, List.set_cons_succ])
      have hs_B := Side.fresh0 (W := W0) hZ #[.int .i64 0, .slice none 0 0] 24
      replace hZ : wa.heap.size ≤ (W0.alloc (.cells #[.int .i64 0, .slice none 0 0] 24)).heap.size := by rw [World.size_alloc]; omega
      clear hP
      have hP := hP2
      clear hP2
      obtain ⟨W53, hWe⟩ : ∃ W53, (W0.alloc (.cells #[.int .i64 0, .slice none 0 0] 24)) = W53 := ⟨_, rfl⟩
      rw [hWe] at hP hZ hs_B ⊢
      clear hWe
      refine wpAnyH_ready (rs := [2, 7]) (by kernel_rfl) (by simp) ?_
      refine AllReadyH.cons rfl ?_ ?_
      · intro K' hK
        rw [if_pos (by rfl)]
        go_simp
        have hP2 := below_alloc hP hZ (.cells #[] 9)
        refine hK.out _ _ hP2 (fun _ => ?_)
        clear hK K'
        (try simp only [Act.put, List.getElem_toArray, List.getElem_cons_zero, List.getElem_cons_succ, List.setIfInBounds_toArray, List.set_cons_zero, List.set_cons_succ])
        replace hs_B := hs_B.lit (.cells #[] 9)
        have hO : (W53.alloc (.cells #[] 9)).ownsRow wa.heap.size 9 1 (.slice (some ⟨W53.heap.size, 0, none⟩) 0 0) 0 [] := own_lit0 (heap_alloc_new W53 _) hZ
        replace hZ : wa.heap.size ≤ (W53.alloc (.cells #[] 9)).heap.size := by rw [World.size_alloc]; omega
        clear hP
        have hP := hP2
        clear hP2
        obtain ⟨W54, hWe⟩ : ∃ W54, (W53.alloc (.cells #[] 9)) = W54 := ⟨_, rfl⟩
        rw [hWe] at hP hZ hO hs_B ⊢
        clear hWe
        refine wpAnyH_ready (rs := [5, 7]) (by kernel_rfl) (by simp) ?_
        refine AllReadyH.cons rfl ?_ ?_
        · intro K' hK
          refine step_appN W54 rfl (.tmp 34) (.tmp 36) 22 rfl wa.heap.size 9 i0 _ 1 16 und22 ih iz is ib rfl (by decide) _ (0) ([]) rfl hO A (ts.length) c (ts.map Value.string) rfl (strs_rd (hA.ext hP)) (one_strs _) (by unfold maxLen; omega) (by omega) hZ ?_
          intro A2 c2 W55 hO2 hg2 hf2
          rw [Nat.zero_add ts.length, List.nil_append] at hO2
          rw [Nat.zero_add ts.length] at hf2 ⊢
          have hP2 := gb_below hP hg2 hZ (fun g hg => (hO.lt g hg).1)
          have hZ2 := Nat.le_trans hZ hg2.size
          refine hK.out _ _ hP2 (fun _ => ?_)
          clear hK K'
          (try simp only [Act.put, List.getElem_toArray, List.getElem_cons_zero, List.getElem_cons_succ, List.setIfInBounds_toArray, List.set_cons_zero, List.set_cons_succ])
          replace hs_B := hs_B.grown hg2 hf2
          clear hO hP hZ hg2 hf2
          have hO := hO2
          have hP := hP2
          have hZ := hZ2
          clear hO2 hP2 hZ2
          refine wpAnyH_ready (rs := [7]) (by kernel_rfl) (by simp) ?_
          refine AllReadyH.cons rfl ?_ ?_
          · intro K' hK
            rw [if_pos (by rfl)]
            go_simp
            have hP2 := below_alloc hP hZ (.cells #[.string more] 9)
            refine hK.out _ _ hP2 (fun _ => ?_)
            clear hK K'
            (try simp only [Act.put, List.getElem_toArray, List.getElem_cons_zero, List.getElem_cons_succ, List.setIfInBounds_toArray, List.set_cons_zero, List.set_cons_succ])
            replace hs_B := hs_B.alloc (.cells #[.string more] 9)
            have hs_L := Side.fresh hZ hO #[.string more] 9
            replace hO := hO.alloc (.cells #[.string more] 9)
            replace hZ : wa.heap.size ≤ (W55.alloc (.cells #[.string more] 9)).heap.size := by rw [World.size_alloc]; omega
            clear hP
            have hP := hP2
            clear hP2
            obtain ⟨W56, hWe⟩ : ∃ W56, (W55.alloc (.cells #[.string more] 9)) = W56 := ⟨_, rfl⟩
            rw [hWe] at hP hZ hO hs_B hs_L ⊢
            clear hWe
            refine wpAnyH_ready (rs := [8]) (by kernel_rfl) (by simp) ?_
            refine AllReadyH.cons rfl ?_ ?_
            · intro K' hK
              refine step_appN W56 rfl (.tmp 37) (.tmp 39) 22 rfl wa.heap.size 9 i0 _ 1 16 und22 ih iz is ib rfl (by decide) _ (ts.length) (ts.map Value.string) rfl hO (some ⟨W55.heap.size, 0, none⟩) (1) 1 ([.string more]) rfl (hs_L.rd) (by simp [Value.oneCell']) (by unfold maxLen; omega) (by omega) hZ ?_
              intro A3 c3 W57 hO2 hg2 hf2
              have hP2 := gb_below hP hg2 hZ (fun g hg => (hO.lt g hg).1)
              have hZ2 := Nat.le_trans hZ hg2.size
              refine hK.out _ _ hP2 (fun _ => ?_)
              clear hK K'
              (try simp only [Act.put, List.getElem_toArray, List.getElem_cons_zero, List.getElem_cons_succ, List.setIfInBounds_toArray, List.set_cons_zero, List.set_cons_succ])
              replace hs_B := hs_B.grown hg2 hf2
              replace hs_L := hs_L.grown hg2 hf2
              clear hO hP hZ hg2 hf2
              have hO := hO2
              have hP := hP2
              have hZ := hZ2
              clear hO2 hP2 hZ2
              refine wpAnyH_take (i := 9) (v := ?_) rfl (by kernel_rfl) (by kernel_rfl) (by kernel_rfl) (fun _ _ _ h => h) (Or.inl ⟨by rfl, ?_⟩) hP ?_
              rotate_left
              · (intro ww hSw; go_simp; try with_reducible rfl)
              (try simp only [Act.put, List.getElem_toArray, List.getElem_cons_zero, List.getElem_cons_succ, List.setIfInBounds_toArray, List.set_cons_zero, List.set_cons_succ])
              refine wpAnyH_ready (rs := [11]) (by kernel_rfl) (by simp) ?_
              refine AllReadyH.cons rfl ?_ ?_
              · intro K' hK
                rw [if_pos (by rfl)]
                have c0 := obj_at hs_B.2.2.1 0 _ rfl
                have c1 := obj_at hs_B.2.2.1 1 _ rfl
                have f0 := obj_fz hs_B.2.2.1 0
                have f1 := obj_fz hs_B.2.2.1 1
                go_simp
                refine hK.out _ _ (Below.setCell (p := ⟨W0.heap.size, 1, none⟩) (Below.setCell (p := ⟨W0.heap.size, 0, none⟩) hP hs_B.1 _) hs_B.1 _) (fun _ => ?_)
                clear hK K'
                (try simp only [Act.put, List.getElem_toArray, List.getElem_cons_zero, List.getElem_cons_succ, List.setIfInBounds_toArray, List.set_cons_zero, List.set_cons_succ])
                refine wpAnyH_done (by kernel_rfl) ?_ _
                refine NoPanic.normal ?_
                have hO4 := hO
                rw [show ts.map Value.string ++ [.string more] = (ts ++ [more]).map Value.string by simp] at hO4
                have hS4 : Strs _ A3 (ts ++ [more]) := strs_far hO4 hs_B.2.2.2 (.int .i64 W) (.slice A3 (ts.length + 1) c3)
                go_wp2_with fail
                go_meet
                exact ⟨_, A3, c3, rfl, set_two hs_B.2.2.1, hS4, hs_B.1, Below.setCell (Below.setCell hP hs_B.1 _) hs_B.1 _⟩
              exact AllReadyH.nil
            exact AllReadyH.nil
          exact AllReadyH.nil
        refine AllReadyH.cons rfl ?_ ?_
        · intro K' hK
          rw [if_pos (by rfl)]
          go_simp
          have hP2 := below_alloc hP hZ (.cells #[.string more] 9)
          refine hK.out _ _ hP2 (fun _ => ?_)
          clear hK K'
          (try simp only [Act.put, List.getElem_toArray, List.getElem_cons_zero, List.getElem_cons_succ, List.setIfInBounds_toArray, List.set_cons_zero, List.set_cons_succ])
          replace hs_B := hs_B.alloc (.cells #[.string more] 9)
          have hs_L := Side.fresh hZ hO #[.string more] 9
          replace hO := hO.alloc (.cells #[.string more] 9)
          replace hZ : wa.heap.size ≤ (W54.alloc (.cells #[.string more] 9)).heap.size := by rw [World.size_alloc]; omega
          clear hP
          have hP := hP2
          clear hP2
          obtain ⟨W59, hWe⟩ : ∃ W59, (W54.alloc (.cells #[.string more] 9)) = W59 := ⟨_, rfl⟩
          rw [hWe] at hP hZ hO hs_B hs_L ⊢
          clear hWe
          refine wpAnyH_ready (rs := [5]) (by kernel_rfl) (by simp) ?_
          refine AllReadyH.cons rfl ?_ ?_
          · intro K' hK
            refine step_appN W59 rfl (.tmp 34) (.tmp 36) 22 rfl wa.heap.size 9 i0 _ 1 16 und22 ih iz is ib rfl (by decide) _ (0) ([]) rfl hO A (ts.length) c (ts.map Value.string) rfl (strs_rd (hA.ext hP)) (one_strs _) (by unfold maxLen; omega) (by omega) hZ ?_
            intro A2 c2 W60 hO2 hg2 hf2
            rw [Nat.zero_add ts.length, List.nil_append] at hO2
            rw [Nat.zero_add ts.length] at hf2 ⊢
            have hP2 := gb_below hP hg2 hZ (fun g hg => (hO.lt g hg).1)
            have hZ2 := Nat.le_trans hZ hg2.size
            refine hK.out _ _ hP2 (fun _ => ?_)
            clear hK K'
            (try simp only [Act.put, List.getElem_toArray, List.getElem_cons_zero, List.getElem_cons_succ, List.setIfInBounds_toArray, List.set_cons_zero, List.set_cons_succ])
            replace hs_B := hs_B.grown hg2 hf2
            replace hs_L := hs_L.grown hg2 hf2
            clear hO hP hZ hg2 hf2
            have hO := hO2
            have hP := hP2
            have hZ := hZ2
            clear hO2 hP2 hZ2
            refine wpAnyH_ready (rs := [8]) (by kernel_rfl) (by simp) ?_
            refine AllReadyH.cons rfl ?_ ?_
            · intro K' hK
              refine step_appN W60 rfl (.tmp 37) (.tmp 39) 22 rfl wa.heap.size 9 i0 _ 1 16 und22 ih iz is ib rfl (by decide) _ (ts.length) (ts.map Value.string) rfl hO (some ⟨W54.heap.size, 0, none⟩) (1) 1 ([.string more]) rfl (hs_L.rd) (by simp [Value.oneCell']) (by unfold maxLen; omega) (by omega) hZ ?_
              intro A3 c3 W61 hO2 hg2 hf2
              have hP2 := gb_below hP hg2 hZ (fun g hg => (hO.lt g hg).1)
              have hZ2 := Nat.le_trans hZ hg2.size
              refine hK.out _ _ hP2 (fun _ => ?_)
              clear hK K'
              (try simp only [Act.put, List.getElem_toArray, List.getElem_cons_zero, List.getElem_cons_succ, List.setIfInBounds_toArray, List.set_cons_zero, List.set_cons_succ])
              replace hs_B := hs_B.grown hg2 hf2
              replace hs_L := hs_L.grown hg2 hf2
              clear hO hP hZ hg2 hf2
              have hO := hO2
              have hP := hP2
              have hZ := hZ2
              clear hO2 hP2 hZ2
              refine wpAnyH_take (i := 9) (v := ?_) rfl (by kernel_rfl) (by kernel_rfl) (by kernel_rfl) (fun _ _ _ h => h) (Or.inl ⟨by rfl, ?_⟩) hP ?_
              rotate_left
              · (intro ww hSw; go_simp; try with_reducible rfl)
              (try simp only [Act.put, List.getElem_toArray, List.getElem_cons_zero, List.getElem_cons_succ, List.setIfInBounds_toArray, List.set_cons_zero, List.set_cons_succ])
              refine wpAnyH_ready (rs := [11]) (by kernel_rfl) (by simp) ?_
              refine AllReadyH.cons rfl ?_ ?_
              · intro K' hK
                rw [if_pos (by rfl)]
                have c0 := obj_at hs_B.2.2.1 0 _ rfl
                have c1 := obj_at hs_B.2.2.1 1 _ rfl
                have f0 := obj_fz hs_B.2.2.1 0
                have f1 := obj_fz hs_B.2.2.1 1
                go_simp
                refine hK.out _ _ (Below.setCell (p := ⟨W0.heap.size, 1, none⟩) (Below.setCell (p := ⟨W0.heap.size, 0, none⟩) hP hs_B.1 _) hs_B.1 _) (fun _ => ?_)
                clear hK K'
                (try simp only [Act.put, List.getElem_toArray, List.getElem_cons_zero, List.getElem_cons_succ, List.setIfInBounds_toArray, List.set_cons_zero, List.set_cons_succ])
                refine wpAnyH_done (by kernel_rfl) ?_ _
                refine NoPanic.normal ?_
                have hO4 := hO
                rw [show ts.map Value.string ++ [.string more] = (ts ++ [more]).map Value.string by simp] at hO4
                have hS4 : Strs _ A3 (ts ++ [more]) := strs_far hO4 hs_B.2.2.2 (.int .i64 W) (.slice A3 (ts.length + 1) c3)
                go_wp2_with fail
                go_meet
                exact ⟨_, A3, c3, rfl, set_two hs_B.2.2.1, hS4, hs_B.1, Below.setCell (Below.setCell hP hs_B.1 _) hs_B.1 _⟩
              exact AllReadyH.nil
            exact AllReadyH.nil
          exact AllReadyH.nil
        exact AllReadyH.nil
      refine AllReadyH.cons rfl ?_ ?_
      · intro K' hK
        rw [if_pos (by rfl)]
        go_simp
        have hP2 := below_alloc hP hZ (.cells #[.string more] 9)
        refine hK.out _ _ hP2 (fun _ => ?_)
        clear hK K'
        (try simp only [Act.put, List.getElem_toArray, List.getElem_cons_zero, List.getElem_cons_succ, List.setIfInBounds_toArray, List.set_cons_zero, List.set_cons_succ])
        replace hs_B := hs_B.alloc (.cells #[.string more] 9)
        have hs_L := Side.fresh0 (W := W53) hZ #[.string more] 9
        replace hZ : wa.heap.size ≤ (W53.alloc (.cells #[.string more] 9)).heap.size := by rw [World.size_alloc]; omega
        clear hP
        have hP := hP2
        clear hP2
        obtain ⟨W63, hWe⟩ : ∃ W63, (W53.alloc (.cells #[.string more] 9)) = W63 := ⟨_, rfl⟩
        rw [hWe] at hP hZ hs_B hs_L ⊢
        clear hWe
        refine wpAnyH_ready (rs := [2]) (by kernel_rfl) (by simp) ?_
        refine AllReadyH.cons rfl ?_ ?_
        · intro K' hK
          rw [if_pos (by rfl)]
          go_simp
          have hP2 := below_alloc hP hZ (.cells #[] 9)
          refine hK.out _ _ hP2 (fun _ => ?_)
          clear hK K'
          (try simp only [Act.put, List.getElem_toArray, List.getElem_cons_zero, List.getElem_cons_succ, List.setIfInBounds_toArray, List.set_cons_zero, List.set_cons_succ])
          replace hs_B := hs_B.lit (.cells #[] 9)
          replace hs_L := hs_L.lit (.cells #[] 9)
          have hO : (W63.alloc (.cells #[] 9)).ownsRow wa.heap.size 9 1 (.slice (some ⟨W63.heap.size, 0, none⟩) 0 0) 0 [] := own_lit0 (heap_alloc_new W63 _) hZ
          replace hZ : wa.heap.size ≤ (W63.alloc (.cells #[] 9)).heap.size := by rw [World.size_alloc]; omega
          clear hP
          have hP := hP2
          clear hP2
          obtain ⟨W64, hWe⟩ : ∃ W64, (W63.alloc (.cells #[] 9)) = W64 := ⟨_, rfl⟩
          rw [hWe] at hP hZ hO hs_B hs_L ⊢
          clear hWe
          refine wpAnyH_ready (rs := [5]) (by kernel_rfl) (by simp) ?_
          refine AllReadyH.cons rfl ?_ ?_
          · intro K' hK
            refine step_appN W64 rfl (.tmp 34) (.tmp 36) 22 rfl wa.heap.size 9 i0 _ 1 16 und22 ih iz is ib rfl (by decide) _ (0) ([]) rfl hO A (ts.length) c (ts.map Value.string) rfl (strs_rd (hA.ext hP)) (one_strs _) (by unfold maxLen; omega) (by omega) hZ ?_
            intro A2 c2 W65 hO2 hg2 hf2
            rw [Nat.zero_add ts.length, List.nil_append] at hO2
            rw [Nat.zero_add ts.length] at hf2 ⊢
            have hP2 := gb_below hP hg2 hZ (fun g hg => (hO.lt g hg).1)
            have hZ2 := Nat.le_trans hZ hg2.size
            refine hK.out _ _ hP2 (fun _ => ?_)
            clear hK K'
            (try simp only [Act.put, List.getElem_toArray, List.getElem_cons_zero, List.getElem_cons_succ, List.setIfInBounds_toArray, List.set_cons_zero, List.set_cons_succ])
            replace hs_B := hs_B.grown hg2 hf2
            replace hs_L := hs_L.grown hg2 hf2
            clear hO hP hZ hg2 hf2
            have hO := hO2
            have hP := hP2
            have hZ := hZ2
            clear hO2 hP2 hZ2
            refine wpAnyH_ready (rs := [8]) (by kernel_rfl) (by simp) ?_
            refine AllReadyH.cons rfl ?_ ?_
            · intro K' hK
              refine step_appN W65 rfl (.tmp 37) (.tmp 39) 22 rfl wa.heap.size 9 i0 _ 1 16 und22 ih iz is ib rfl (by decide) _ (ts.length) (ts.map Value.string) rfl hO (some ⟨W53.heap.size, 0, none⟩) (1) 1 ([.string more]) rfl (hs_L.rd) (by simp [Value.oneCell']) (by unfold maxLen; omega) (by omega) hZ ?_
              intro A3 c3 W66 hO2 hg2 hf2
              have hP2 := gb_below hP hg2 hZ (fun g hg => (hO.lt g hg).1)
              have hZ2 := Nat.le_trans hZ hg2.size
              refine hK.out _ _ hP2 (fun _ => ?_)
              clear hK K'
              (try simp only [Act.put, List.getElem_toArray, List.getElem_cons_zero, List.getElem_cons_succ, List.setIfInBounds_toArray, List.set_cons_zero, List.set_cons_succ])
              replace hs_B := hs_B.grown hg2 hf2
              replace hs_L := hs_L.grown hg2 hf2
              clear hO hP hZ hg2 hf2
              have hO := hO2
              have hP := hP2
              have hZ := hZ2
              clear hO2 hP2 hZ2
              refine wpAnyH_take (i := 9) (v := ?_) rfl (by kernel_rfl) (by kernel_rfl) (by kernel_rfl) (fun _ _ _ h => h) (Or.inl ⟨by rfl, ?_⟩) hP ?_
              rotate_left
              · (intro ww hSw; go_simp; try with_reducible rfl)
              (try simp only [Act.put, List.getElem_toArray, List.getElem_cons_zero, List.getElem_cons_succ, List.setIfInBounds_toArray, List.set_cons_zero, List.set_cons_succ])
              refine wpAnyH_ready (rs := [11]) (by kernel_rfl) (by simp) ?_
              refine AllReadyH.cons rfl ?_ ?_
              · intro K' hK
                rw [if_pos (by rfl)]
                have c0 := obj_at hs_B.2.2.1 0 _ rfl
                have c1 := obj_at hs_B.2.2.1 1 _ rfl
                have f0 := obj_fz hs_B.2.2.1 0
                have f1 := obj_fz hs_B.2.2.1 1
                go_simp
                refine hK.out _ _ (Below.setCell (p := ⟨W0.heap.size, 1, none⟩) (Below.setCell (p := ⟨W0.heap.size, 0, none⟩) hP hs_B.1 _) hs_B.1 _) (fun _ => ?_)
                clear hK K'
                (try simp only [Act.put, List.getElem_toArray, List.getElem_cons_zero, List.getElem_cons_succ, List.setIfInBounds_toArray, List.set_cons_zero, List.set_cons_succ])
                refine wpAnyH_done (by kernel_rfl) ?_ _
                refine NoPanic.normal ?_
                have hO4 := hO
                rw [show ts.map Value.string ++ [.string more] = (ts ++ [more]).map Value.string by simp] at hO4
                have hS4 : Strs _ A3 (ts ++ [more]) := strs_far hO4 hs_B.2.2.2 (.int .i64 W) (.slice A3 (ts.length + 1) c3)
                go_wp2_with fail
                go_meet
                exact ⟨_, A3, c3, rfl, set_two hs_B.2.2.1, hS4, hs_B.1, Below.setCell (Below.setCell hP hs_B.1 _) hs_B.1 _⟩
              exact AllReadyH.nil
            exact AllReadyH.nil
          exact AllReadyH.nil
        exact AllReadyH.nil
      exact AllReadyH.nil
    exact AllReadyH.nil
  case rest =>
    obtain ⟨blk, A2, c2, rfl, hY, hV, hblk, hb3⟩ := hcut
    obtain ⟨wd, rfl⟩ : ∃ wd : World, wd = wc := ⟨_, rfl⟩
    clear hXc0 hXc1 hXlt i0 ih iz is ib
    have hW : Below w.heap.size w wd := below_step hbw hb3 hbw.size
    replace hA := hA.ext hb3
    replace hX := hX.below hb3
    replace hG := hG.below hb3
    replace hN := hN.below hb3
    clear hb3 hbw
    have hXc0 := hX.c0
    have hXc1 := hX.c1
    have hXlt := hX.lt
    have hGc0 := hG.c0
    have hGc1 := hG.c1
    have hGc2 := hG.c2
    have hGlt := hG.lt
    have hNc0 := hN.c0
    have hNc1 := hN.c1
    have hNlt := hN.lt
    have hYc0 := hY.c0
    have hYc1 := hY.c1
    have hYlt := hY.lt
    have hxl : (ts ++ [more]).length = ts.length + 1 := by simp
    have HFI := hide (fun w' (hA : Strs w' A ts) => fine_any W A ts c w' hA hl9 hs9)
    have HFX := hide (fun w' (hV : Strs w' A2 (ts ++ [more])) => fine_any W A2 (ts ++ [more]) c2 w' hV (by rw [hxl]; omega) (fun s hs => by rcases List.mem_append.1 hs with h | h; exact hs9 s h; rw [List.mem_singleton.1 h]; exact hm9))
    rw [hxl] at HFX
    cases hf : fineB W ts with
    | false =>
      rw [hf] at HFI
      go_wp2_with (first
        | (clear tok0; go_at_call 42; refine (HFI.out _ (hA.ext (by (repeat (first | exact Below.refl _ _ | assumption | refine below_drewN ?_ _ | refine below_drew ?_ | refine below_gr ?_ ?_ _ | refine below_alloc ?_ ?_ _ | refine Below.setCell ?_ ?_ _ | refine below_step ?_ (by assumption) ?_ | omega | (simp only [zz] at *; omega)))))).mono ?_; rintro e u1 ⟨rfl, hb1⟩; replace hb1 := ex_below hb1; have bel1 : Below wd.heap.size wd u1 := (by (repeat (first | exact Below.refl _ _ | assumption | refine below_drewN ?_ _ | refine below_drew ?_ | refine below_gr ?_ ?_ _ | refine below_alloc ?_ ?_ _ | refine Below.setCell ?_ ?_ _ | refine below_step ?_ (by assumption) ?_ | omega | (simp only [zz] at *; omega)))); clear hb1; have sz1 := bel1.size; replace hA := hA.ext bel1; replace hV := hV.ext bel1; replace hX := hX.below bel1; replace hG := hG.below bel1; replace hN := hN.below bel1; replace hY := hY.below bel1; replace hW := below_step hW bel1 (by have := hW.size; omega); (try clear hXc0 hXc1 hXlt); have hXc0 := hX.c0; have hXc1 := hX.c1; have hXlt := hX.lt; (try clear hGc0 hGc1 hGc2 hGlt); have hGc0 := hG.c0; have hGc1 := hG.c1; have hGc2 := hG.c2; have hGlt := hG.lt; (try clear hNc0 hNc1 hNlt); have hNc0 := hN.c0; have hNc1 := hN.c1; have hNlt := hN.lt; (try clear hYc0 hYc1 hYlt); have hYc0 := hY.c0; have hYc1 := hY.c1; have hYlt := hY.lt; clear bel1; have tok1 : True := trivial)
        | (clear tok1; go_at_call 18; refine (works_any _).mono ?_; rintro e u2 ⟨rfl, hb2⟩; replace hb2 := ex_below hb2; have bel2 : Below u1.heap.size u1 u2 := (by (repeat (first | exact Below.refl _ _ | assumption | refine below_drewN ?_ _ | refine below_drew ?_ | refine below_gr ?_ ?_ _ | refine below_alloc ?_ ?_ _ | refine Below.setCell ?_ ?_ _ | refine below_step ?_ (by assumption) ?_ | omega | (simp only [zz] at *; omega)))); clear hb2; have sz2 := bel2.size; replace hA := hA.ext bel2; replace hV := hV.ext bel2; replace hX := hX.below bel2; replace hG := hG.below bel2; replace hN := hN.below bel2; replace hY := hY.below bel2; replace hW := below_step hW bel2 (by have := hW.size; omega); (try clear hXc0 hXc1 hXlt); have hXc0 := hX.c0; have hXc1 := hX.c1; have hXlt := hX.lt; (try clear hGc0 hGc1 hGc2 hGlt); have hGc0 := hG.c0; have hGc1 := hG.c1; have hGc2 := hG.c2; have hGlt := hG.lt; (try clear hNc0 hNc1 hNlt); have hNc0 := hN.c0; have hNc1 := hN.c1; have hNlt := hN.lt; (try clear hYc0 hYc1 hYlt); have hYc0 := hY.c0; have hYc1 := hY.c1; have hYlt := hY.lt; clear bel2; have tok2 : True := trivial))
      go_ret
      exact gives_of rfl hW
    | true =>
      rw [hf] at HFI
      cases hfx : fineB W (ts ++ [more]) with
      | false =>
        rw [hfx] at HFX
        go_wp2_with (first
          | (clear tok0; go_at_call 42; refine (HFI.out _ (hA.ext (by (repeat (first | exact Below.refl _ _ | assumption | refine below_drewN ?_ _ | refine below_drew ?_ | refine below_gr ?_ ?_ _ | refine below_alloc ?_ ?_ _ | refine Below.setCell ?_ ?_ _ | refine below_step ?_ (by assumption) ?_ | omega | (simp only [zz] at *; omega)))))).mono ?_; rintro e u1 ⟨rfl, hb1⟩; replace hb1 := ex_below hb1; have bel1 : Below wd.heap.size wd u1 := (by (repeat (first | exact Below.refl _ _ | assumption | refine below_drewN ?_ _ | refine below_drew ?_ | refine below_gr ?_ ?_ _ | refine below_alloc ?_ ?_ _ | refine Below.setCell ?_ ?_ _ | refine below_step ?_ (by assumption) ?_ | omega | (simp only [zz] at *; omega)))); clear hb1; have sz1 := bel1.size; replace hA := hA.ext bel1; replace hV := hV.ext bel1; replace hX := hX.below bel1; replace hG := hG.below bel1; replace hN := hN.below bel1; replace hY := hY.below bel1; replace hW := below_step hW bel1 (by have := hW.size; omega); (try clear hXc0 hXc1 hXlt); have hXc0 := hX.c0; have hXc1 := hX.c1; have hXlt := hX.lt; (try clear hGc0 hGc1 hGc2 hGlt); have hGc0 := hG.c0; have hGc1 := hG.c1; have hGc2 := hG.c2; have hGlt := hG.lt; (try clear hNc0 hNc1 hNlt); have hNc0 := hN.c0; have hNc1 := hN.c1; have hNlt := hN.lt; (try clear hYc0 hYc1 hYlt); have hYc0 := hY.c0; have hYc1 := hY.c1; have hYlt := hY.lt; clear bel1; have tok1 : True := trivial)
          | (clear tok1; go_at_call 42; refine (HFX.out _ (hV.ext (by (repeat (first | exact Below.refl _ _ | assumption | refine below_drewN ?_ _ | refine below_drew ?_ | refine below_gr ?_ ?_ _ | refine below_alloc ?_ ?_ _ | refine Below.setCell ?_ ?_ _ | refine below_step ?_ (by assumption) ?_ | omega | (simp only [zz] at *; omega)))))).mono ?_; rintro e u2 ⟨rfl, hb2⟩; replace hb2 := ex_below hb2; have bel2 : Below u1.heap.size u1 u2 := (by (repeat (first | exact Below.refl _ _ | assumption | refine below_drewN ?_ _ | refine below_drew ?_ | refine below_gr ?_ ?_ _ | refine below_alloc ?_ ?_ _ | refine Below.setCell ?_ ?_ _ | refine below_step ?_ (by assumption) ?_ | omega | (simp only [zz] at *; omega)))); clear hb2; have sz2 := bel2.size; replace hA := hA.ext bel2; replace hV := hV.ext bel2; replace hX := hX.below bel2; replace hG := hG.below bel2; replace hN := hN.below bel2; replace hY := hY.below bel2; replace hW := below_step hW bel2 (by have := hW.size; omega); (try clear hXc0 hXc1 hXlt); have hXc0 := hX.c0; have hXc1 := hX.c1; have hXlt := hX.lt; (try clear hGc0 hGc1 hGc2 hGlt); have hGc0 := hG.c0; have hGc1 := hG.c1; have hGc2 := hG.c2; have hGlt := hG.lt; (try clear hNc0 hNc1 hNlt); have hNc0 := hN.c0; have hNc1 := hN.c1; have hNlt := hN.lt; (try clear hYc0 hYc1 hYlt); have hYc0 := hY.c0; have hYc1 := hY.c1; have hYlt := hY.lt; clear bel2; have tok2 : True := trivial)
          | (clear tok2; go_at_call 18; refine (works_any _).mono ?_; rintro e u3 ⟨rfl, hb3⟩; replace hb3 := ex_below hb3; have bel3 : Below u2.heap.size u2 u3 := (by (repeat (first | exact Below.refl _ _ | assumption | refine below_drewN ?_ _ | refine below_drew ?_ | refine below_gr ?_ ?_ _ | refine below_alloc ?_ ?_ _ | refine Below.setCell ?_ ?_ _ | refine below_step ?_ (by assumption) ?_ | omega | (simp only [zz] at *; omega)))); clear hb3; have sz3 := bel3.size; replace hA := hA.ext bel3; replace hV := hV.ext bel3; replace hX := hX.below bel3; replace hG := hG.below bel3; replace hN := hN.below bel3; replace hY := hY.below bel3; replace hW := below_step hW bel3 (by have := hW.size; omega); (try clear hXc0 hXc1 hXlt); have hXc0 := hX.c0; have hXc1 := hX.c1; have hXlt := hX.lt; (try clear hGc0 hGc1 hGc2 hGlt); have hGc0 := hG.c0; have hGc1 := hG.c1; have hGc2 := hG.c2; have hGlt := hG.lt; (try clear hNc0 hNc1 hNlt); have hNc0 := hN.c0; have hNc1 := hN.c1; have hNlt := hN.lt; (try clear hYc0 hYc1 hYlt); have hYc0 := hY.c0; have hYc1 := hY.c1; have hYlt := hY.lt; clear bel3; have tok3 : True := trivial))
        go_ret
        exact gives_of rfl hW
      | true =>
        rw [hfx] at HFX
        obtain ⟨hl, hsz⟩ := fine_len hf
        obtain ⟨hlx, hszx⟩ := fine_len hfx
        have hc := fine_chk hf
        have hcx := fine_chk hfx
        obtain ⟨hW1, hW2, -⟩ := chk_val hc
        have hW0 : W ≠ 0 := by omega
        obtain ⟨n, hxn, hn⟩ : ∃ n : Nat, (l : Int) % 21 = (n : Nat) ∧ n ≤ 20 := ⟨l % 21, by omega, by omega⟩
        obtain ⟨b, hwb, hb, hwin, -⟩ := win_of hW1 hW2 w0
        obtain ⟨b1, hwb1, hb1, hwin1, -⟩ := win_of hW1 hW2 w1
        obtain ⟨b2, hwb2, hb2, hwin2, -⟩ := win_of hW1 hW2 w2
        obtain ⟨m1, hm1, hm1l⟩ : ∃ n : Nat, (d0 : Int) % 20 = (n : Nat) ∧ n < 20 := ⟨d0 % 20, by omega, by omega⟩
        obtain ⟨m2, hm2, hm2l⟩ : ∃ n : Nat, (d1 : Int) % 20 = (n : Nat) ∧ n < 20 := ⟨d1 % 20, by omega, by omega⟩
        have HR1 := hide (raw_win hW1 hW2 h18 hwb1)
        have HR2 := hide (raw_win hW1 hW2 h28 hwb2)
        have HR3 := hide (raw_num hd08 hm1)
        have HR4 := hide (raw_num hd18 hm2)
        obtain ⟨f, g, cc, e3, dd, e4, u, v, p1, p2, e5, q1, q2, e6, k, e7, j, e8, E1, E2, E3, E4, E5, E6, E7, E8, E9, E10, hfg, hgf, hf24, hms, hvu, H5, HZ⟩ := more_plain hc hcx (n := n) (b := b) (b1 := b1) (b2 := b2) (n1 := 1 + (m1 : Nat)) (n2 := 1 + (m2 : Nat)) hn hwin hwin1 hwin2 (by simp [withinB, outB]; omega)
        have HF1 := hide (fun w' (hA : Strs w' A ts) => Fewest_any W A ts c w' hA hl hsz)
        have HF2 := hide (fun w' hV => Fewest_any W A2 (ts ++ [more]) c2 w' hV hlx hszx)
        have HC1 := hide (fun w' (hA : Strs w' A ts) => Count_any W A ts c w' hA hl hsz (n : Nat))
        have HC2 := hide (fun w' hV => Count_any W A2 (ts ++ [more]) c2 w' hV hlx hszx (n : Nat))
        have HM1 := hide (fun w' (hA : Strs w' A ts) => Common_any W A ts c w' hA hl hsz)
        have HM2 := hide (fun w' hV => Common_any W A2 (ts ++ [more]) c2 w' hV hlx hszx)
        have HP1 := hide (fun w' (hA : Strs w' A ts) => Pulls_any W A ts c w' hA hl hsz b hb (n : Nat))
        have HP2 := hide (fun w' hV => Pulls_any W A2 (ts ++ [more]) c2 w' hV hlx hszx b hb (n : Nat))
        have HK1 := hide (fun w' (hA : Strs w' A ts) => Kind_any W A ts c w' hA hl hsz b1 (1 + (m1 : Nat)) b2 (1 + (m2 : Nat)) hb1 hb2 (n : Nat))
        have HK2 := hide (fun w' hV => Kind_any W A2 (ts ++ [more]) c2 w' hV hlx hszx b1 (1 + (m1 : Nat)) b2 (1 + (m2 : Nat)) hb1 hb2 (n : Nat))
        rw [E1] at HF1
        rw [E2] at HF2
        rw [E3] at HC1
        rw [E4] at HC2
        rw [E5] at HM1
        rw [E6] at HM2
        rw [E7] at HP1
        rw [E8] at HP2
        rw [E9] at HK1
        rw [E10] at HK2
        rw [hxl] at HF2 HC2 HM2 HP2 HK2
        unfold tup2V at HF1 HF2 HC1 HC2 HK1 HK2
        unfold strE at HM1 HM2
        unfold rngE at HP1 HP2
        clear E1 E2 E3 E4 E5 E6 E7 E8 E9 E10
        replace hf := hide hf
        replace hfx := hide hfx
        replace hc := hide hc
        replace hcx := hide hcx
        replace hxl := hide hxl
        replace HZ := hide HZ
        replace H5 := hide H5
        have hk1d : decide (g < f) = false := decide_eq_false (by omega)
        have hk2d : decide ((f : Int) + (more.size : Nat) < (g : Nat)) = false := decide_eq_false (by omega)
        have hk3d : decide (u.size < v.size) = false := decide_eq_false (by omega)
        go_upto_region 11 with (first
            | (clear tok0; go_at_call 42; refine (HFI.out _ (hA.ext (by (repeat (first | exact Below.refl _ _ | assumption | refine below_drewN ?_ _ | refine below_drew ?_ | refine below_gr ?_ ?_ _ | refine below_alloc ?_ ?_ _ | refine Below.setCell ?_ ?_ _ | refine below_step ?_ (by assumption) ?_ | omega | (simp only [zz] at *; omega)))))).mono ?_; rintro e u1 ⟨rfl, hb1⟩; replace hb1 := ex_below hb1; have bel1 : Below wd.heap.size wd u1 := (by (repeat (first | exact Below.refl _ _ | assumption | refine below_drewN ?_ _ | refine below_drew ?_ | refine below_gr ?_ ?_ _ | refine below_alloc ?_ ?_ _ | refine Below.setCell ?_ ?_ _ | refine below_step ?_ (by assumption) ?_ | omega | (simp only [zz] at *; omega)))); clear hb1; have sz1 := bel1.size; replace hA := hA.ext bel1; replace hV := hV.ext bel1; replace hX := hX.below bel1; replace hG := hG.below bel1; replace hN := hN.below bel1; replace hY := hY.below bel1; replace hW := below_step hW bel1 (by have := hW.size; omega); (try clear hXc0 hXc1 hXlt); have hXc0 := hX.c0; have hXc1 := hX.c1; have hXlt := hX.lt; (try clear hGc0 hGc1 hGc2 hGlt); have hGc0 := hG.c0; have hGc1 := hG.c1; have hGc2 := hG.c2; have hGlt := hG.lt; (try clear hNc0 hNc1 hNlt); have hNc0 := hN.c0; have hNc1 := hN.c1; have hNlt := hN.lt; (try clear hYc0 hYc1 hYlt); have hYc0 := hY.c0; have hYc1 := hY.c1; have hYlt := hY.lt; clear bel1; have tok1 : True := trivial)
            | (clear tok1; go_at_call 42; refine (HFX.out _ (hV.ext (by (repeat (first | exact Below.refl _ _ | assumption | refine below_drewN ?_ _ | refine below_drew ?_ | refine below_gr ?_ ?_ _ | refine below_alloc ?_ ?_ _ | refine Below.setCell ?_ ?_ _ | refine below_step ?_ (by assumption) ?_ | omega | (simp only [zz] at *; omega)))))).mono ?_; rintro e u2 ⟨rfl, hb2⟩; replace hb2 := ex_below hb2; have bel2 : Below u1.heap.size u1 u2 := (by (repeat (first | exact Below.refl _ _ | assumption | refine below_drewN ?_ _ | refine below_drew ?_ | refine below_gr ?_ ?_ _ | refine below_alloc ?_ ?_ _ | refine Below.setCell ?_ ?_ _ | refine below_step ?_ (by assumption) ?_ | omega | (simp only [zz] at *; omega)))); clear hb2; have sz2 := bel2.size; replace hA := hA.ext bel2; replace hV := hV.ext bel2; replace hX := hX.below bel2; replace hG := hG.below bel2; replace hN := hN.below bel2; replace hY := hY.below bel2; replace hW := below_step hW bel2 (by have := hW.size; omega); (try clear hXc0 hXc1 hXlt); have hXc0 := hX.c0; have hXc1 := hX.c1; have hXlt := hX.lt; (try clear hGc0 hGc1 hGc2 hGlt); have hGc0 := hG.c0; have hGc1 := hG.c1; have hGc2 := hG.c2; have hGlt := hG.lt; (try clear hNc0 hNc1 hNlt); have hNc0 := hN.c0; have hNc1 := hN.c1; have hNlt := hN.lt; (try clear hYc0 hYc1 hYlt); have hYc0 := hY.c0; have hYc1 := hY.c1; have hYlt := hY.lt; clear bel2; have tok2 : True := trivial)
            | (clear tok2; go_at_call 23; refine (HF1.out _ (hA.ext (by (repeat (first | exact Below.refl _ _ | assumption | refine below_drewN ?_ _ | refine below_drew ?_ | refine below_gr ?_ ?_ _ | refine below_alloc ?_ ?_ _ | refine Below.setCell ?_ ?_ _ | refine below_step ?_ (by assumption) ?_ | omega | (simp only [zz] at *; omega)))))).mono ?_; rintro e u3 ⟨rfl, hb3⟩; replace hb3 := ex_below hb3; have bel3 : Below u2.heap.size u2 u3 := (by (repeat (first | exact Below.refl _ _ | assumption | refine below_drewN ?_ _ | refine below_drew ?_ | refine below_gr ?_ ?_ _ | refine below_alloc ?_ ?_ _ | refine Below.setCell ?_ ?_ _ | refine below_step ?_ (by assumption) ?_ | omega | (simp only [zz] at *; omega)))); clear hb3; have sz3 := bel3.size; replace hA := hA.ext bel3; replace hV := hV.ext bel3; replace hX := hX.below bel3; replace hG := hG.below bel3; replace hN := hN.below bel3; replace hY := hY.below bel3; replace hW := below_step hW bel3 (by have := hW.size; omega); (try clear hXc0 hXc1 hXlt); have hXc0 := hX.c0; have hXc1 := hX.c1; have hXlt := hX.lt; (try clear hGc0 hGc1 hGc2 hGlt); have hGc0 := hG.c0; have hGc1 := hG.c1; have hGc2 := hG.c2; have hGlt := hG.lt; (try clear hNc0 hNc1 hNlt); have hNc0 := hN.c0; have hNc1 := hN.c1; have hNlt := hN.lt; (try clear hYc0 hYc1 hYlt); have hYc0 := hY.c0; have hYc1 := hY.c1; have hYlt := hY.lt; clear bel3; have tok3 : True := trivial)
            | (clear tok3; go_at_call 23; refine (HF2.out _ (hV.ext (by (repeat (first | exact Below.refl _ _ | assumption | refine below_drewN ?_ _ | refine below_drew ?_ | refine below_gr ?_ ?_ _ | refine below_alloc ?_ ?_ _ | refine Below.setCell ?_ ?_ _ | refine below_step ?_ (by assumption) ?_ | omega | (simp only [zz] at *; omega)))))).mono ?_; rintro e u4 ⟨rfl, hb4⟩; replace hb4 := ex_below hb4; have bel4 : Below u3.heap.size u3 u4 := (by (repeat (first | exact Below.refl _ _ | assumption | refine below_drewN ?_ _ | refine below_drew ?_ | refine below_gr ?_ ?_ _ | refine below_alloc ?_ ?_ _ | refine Below.setCell ?_ ?_ _ | refine below_step ?_ (by assumption) ?_ | omega | (simp only [zz] at *; omega)))); clear hb4; have sz4 := bel4.size; replace hA := hA.ext bel4; replace hV := hV.ext bel4; replace hX := hX.below bel4; replace hG := hG.below bel4; replace hN := hN.below bel4; replace hY := hY.below bel4; replace hW := below_step hW bel4 (by have := hW.size; omega); (try clear hXc0 hXc1 hXlt); have hXc0 := hX.c0; have hXc1 := hX.c1; have hXlt := hX.lt; (try clear hGc0 hGc1 hGc2 hGlt); have hGc0 := hG.c0; have hGc1 := hG.c1; have hGc2 := hG.c2; have hGlt := hG.lt; (try clear hNc0 hNc1 hNlt); have hNc0 := hN.c0; have hNc1 := hN.c1; have hNlt := hN.lt; (try clear hYc0 hYc1 hYlt); have hYc0 := hY.c0; have hYc1 := hY.c1; have hYlt := hY.lt; clear bel4; have tok4 : True := trivial)
            | (clear tok4; go_at_call 30; refine (HC1.out _ (hA.ext (by (repeat (first | exact Below.refl _ _ | assumption | refine below_drewN ?_ _ | refine below_drew ?_ | refine below_gr ?_ ?_ _ | refine below_alloc ?_ ?_ _ | refine Below.setCell ?_ ?_ _ | refine below_step ?_ (by assumption) ?_ | omega | (simp only [zz] at *; omega)))))).mono ?_; rintro e u5 ⟨rfl, hb5⟩; replace hb5 := ex_below hb5; have bel5 : Below u4.heap.size u4 u5 := (by (repeat (first | exact Below.refl _ _ | assumption | refine below_drewN ?_ _ | refine below_drew ?_ | refine below_gr ?_ ?_ _ | refine below_alloc ?_ ?_ _ | refine Below.setCell ?_ ?_ _ | refine below_step ?_ (by assumption) ?_ | omega | (simp only [zz] at *; omega)))); clear hb5; have sz5 := bel5.size; replace hA := hA.ext bel5; replace hV := hV.ext bel5; replace hX := hX.below bel5; replace hG := hG.below bel5; replace hN := hN.below bel5; replace hY := hY.below bel5; replace hW := below_step hW bel5 (by have := hW.size; omega); (try clear hXc0 hXc1 hXlt); have hXc0 := hX.c0; have hXc1 := hX.c1; have hXlt := hX.lt; (try clear hGc0 hGc1 hGc2 hGlt); have hGc0 := hG.c0; have hGc1 := hG.c1; have hGc2 := hG.c2; have hGlt := hG.lt; (try clear hNc0 hNc1 hNlt); have hNc0 := hN.c0; have hNc1 := hN.c1; have hNlt := hN.lt; (try clear hYc0 hYc1 hYlt); have hYc0 := hY.c0; have hYc1 := hY.c1; have hYlt := hY.lt; clear bel5; have tok5 : True := trivial)
            | (clear tok5; go_at_call 30; refine (HC2.out _ (hV.ext (by (repeat (first | exact Below.refl _ _ | assumption | refine below_drewN ?_ _ | refine below_drew ?_ | refine below_gr ?_ ?_ _ | refine below_alloc ?_ ?_ _ | refine Below.setCell ?_ ?_ _ | refine below_step ?_ (by assumption) ?_ | omega | (simp only [zz] at *; omega)))))).mono ?_; rintro e u6 ⟨rfl, hb6⟩; replace hb6 := ex_below hb6; have bel6 : Below u5.heap.size u5 u6 := (by (repeat (first | exact Below.refl _ _ | assumption | refine below_drewN ?_ _ | refine below_drew ?_ | refine below_gr ?_ ?_ _ | refine below_alloc ?_ ?_ _ | refine Below.setCell ?_ ?_ _ | refine below_step ?_ (by assumption) ?_ | omega | (simp only [zz] at *; omega)))); clear hb6; have sz6 := bel6.size; replace hA := hA.ext bel6; replace hV := hV.ext bel6; replace hX := hX.below bel6; replace hG := hG.below bel6; replace hN := hN.below bel6; replace hY := hY.below bel6; replace hW := below_step hW bel6 (by have := hW.size; omega); (try clear hXc0 hXc1 hXlt); have hXc0 := hX.c0; have hXc1 := hX.c1; have hXlt := hX.lt; (try clear hGc0 hGc1 hGc2 hGlt); have hGc0 := hG.c0; have hGc1 := hG.c1; have hGc2 := hG.c2; have hGlt := hG.lt; (try clear hNc0 hNc1 hNlt); have hNc0 := hN.c0; have hNc1 := hN.c1; have hNlt := hN.lt; (try clear hYc0 hYc1 hYlt); have hYc0 := hY.c0; have hYc1 := hY.c1; have hYlt := hY.lt; clear bel6; have tok6 : True := trivial)
            | (clear tok6; go_at_call 25; refine (HM1.out _ (hA.ext (by (repeat (first | exact Below.refl _ _ | assumption | refine below_drewN ?_ _ | refine below_drew ?_ | refine below_gr ?_ ?_ _ | refine below_alloc ?_ ?_ _ | refine Below.setCell ?_ ?_ _ | refine below_step ?_ (by assumption) ?_ | omega | (simp only [zz] at *; omega)))))).mono ?_; rintro e u7 ⟨rfl, hb7⟩; replace hb7 := ex_below hb7; have bel7 : Below u6.heap.size u6 u7 := (by (repeat (first | exact Below.refl _ _ | assumption | refine below_drewN ?_ _ | refine below_drew ?_ | refine below_gr ?_ ?_ _ | refine below_alloc ?_ ?_ _ | refine Below.setCell ?_ ?_ _ | refine below_step ?_ (by assumption) ?_ | omega | (simp only [zz] at *; omega)))); clear hb7; have sz7 := bel7.size; replace hA := hA.ext bel7; replace hV := hV.ext bel7; replace hX := hX.below bel7; replace hG := hG.below bel7; replace hN := hN.below bel7; replace hY := hY.below bel7; replace hW := below_step hW bel7 (by have := hW.size; omega); (try clear hXc0 hXc1 hXlt); have hXc0 := hX.c0; have hXc1 := hX.c1; have hXlt := hX.lt; (try clear hGc0 hGc1 hGc2 hGlt); have hGc0 := hG.c0; have hGc1 := hG.c1; have hGc2 := hG.c2; have hGlt := hG.lt; (try clear hNc0 hNc1 hNlt); have hNc0 := hN.c0; have hNc1 := hN.c1; have hNlt := hN.lt; (try clear hYc0 hYc1 hYlt); have hYc0 := hY.c0; have hYc1 := hY.c1; have hYlt := hY.lt; clear bel7; have tok7 : True := trivial)
            | (clear tok7; go_at_call 25; refine (HM2.out _ (hV.ext (by (repeat (first | exact Below.refl _ _ | assumption | refine below_drewN ?_ _ | refine below_drew ?_ | refine below_gr ?_ ?_ _ | refine below_alloc ?_ ?_ _ | refine Below.setCell ?_ ?_ _ | refine below_step ?_ (by assumption) ?_ | omega | (simp only [zz] at *; omega)))))).mono ?_; rintro e u8 ⟨rfl, hb8⟩; replace hb8 := ex_below hb8; have bel8 : Below u7.heap.size u7 u8 := (by (repeat (first | exact Below.refl _ _ | assumption | refine below_drewN ?_ _ | refine below_drew ?_ | refine below_gr ?_ ?_ _ | refine below_alloc ?_ ?_ _ | refine Below.setCell ?_ ?_ _ | refine below_step ?_ (by assumption) ?_ | omega | (simp only [zz] at *; omega)))); clear hb8; have sz8 := bel8.size; replace hA := hA.ext bel8; replace hV := hV.ext bel8; replace hX := hX.below bel8; replace hG := hG.below bel8; replace hN := hN.below bel8; replace hY := hY.below bel8; replace hW := below_step hW bel8 (by have := hW.size; omega); (try clear hXc0 hXc1 hXlt); have hXc0 := hX.c0; have hXc1 := hX.c1; have hXlt := hX.lt; (try clear hGc0 hGc1 hGc2 hGlt); have hGc0 := hG.c0; have hGc1 := hG.c1; have hGc2 := hG.c2; have hGlt := hG.lt; (try clear hNc0 hNc1 hNlt); have hNc0 := hN.c0; have hNc1 := hN.c1; have hNlt := hN.lt; (try clear hYc0 hYc1 hYlt); have hYc0 := hY.c0; have hYc1 := hY.c1; have hYlt := hY.lt; clear bel8; have tok8 : True := trivial))
        go_cut [140] from 86 to 139 (fun s wx => s = .bool false ∧ wx = u8)
        case first =>
          as_aux_lemma =>
          rcases H5.out with ⟨rfl, rfl, h6⟩ | ⟨rfl, rfl⟩ | ⟨rfl, rfl⟩
          · have hk4d : decide (cc < dd) = false := decide_eq_false (by omega)
            go_wp2_with fail
            go_meet
            exact ⟨rfl, rfl⟩
          · go_wp2_with fail
            go_meet
            exact ⟨rfl, rfl⟩
          · go_wp2_with fail
            go_meet
            exact ⟨rfl, rfl⟩
        case rest =>
          obtain ⟨hs0, hwe⟩ := hcut
          subst hs0
          rw [hwe]
          clear hwe
          go_upto_region 14 with fail
          (try simp only [hwb])
          go_cut [26] from 149 to 162 (fun sx wx => ∃ blk : Nat, sx = .pointer (some ⟨blk, 0, none⟩) ∧ ObjV wx blk 54 (.int .u8 (b1 : Nat)) (.int .i64 (1 + (m1 : Nat))) ∧ u8.heap.size ≤ blk ∧ Below u8.heap.size u8 wx)
          case first =>
            as_aux_lemma =>
            refine wp_region_noPanic ?_
            refine wp_region_held_drew (S := fun w' => Below u8.heap.size u8 w') (by kernel_rfl) ?_ (fun _ => ?_)
            · exact below_drew (Below.refl _ _)
            have hP : Below u8.heap.size u8 u8.drew := below_drew (Below.refl _ _)
            have hZ : u8.heap.size ≤ u8.drew.heap.size := Nat.le_refl _
            obtain ⟨W0, hW0⟩ : ∃ W0, u8.drew = W0 := ⟨_, rfl⟩
            rw [hW0] at hP hZ ⊢
            clear hW0
            refine wpAnyH_take (i := 0) (v := ?_) rfl (by kernel_rfl) (by kernel_rfl) (by kernel_rfl) (fun _ _ _ h => h) (Or.inl ⟨by rfl, ?_⟩) hP ?_
            rotate_left
            · (intro ww hSw; go_simp; try with_reducible rfl)
            (try simp only [Act.put, List.getElem_toArray, List.getElem_cons_zero, List.getElem_cons_succ, List.setIfInBounds_toArray, List.set_cons_zero, List.set_cons_succ])
            refine wpAnyH_take (i := 1) (v := ?_) rfl (by kernel_rfl) (by kernel_rfl) (by kernel_rfl) (fun _ _ _ h => h) (Or.inl ⟨by rfl, ?_⟩) hP ?_
            rotate_left
            · (intro ww hSw; have g1 := (hSw.cell (p := ⟨w.heap.size + 1, 1, none⟩) hGlt).trans hGc1; go_simp; try with_reducible rfl)
            (try simp only [Act.put, List.getElem_toArray, List.getElem_cons_zero, List.getElem_cons_succ, List.setIfInBounds_toArray, List.set_cons_zero, List.set_cons_succ])
            refine wpAnyH_take (i := 2) (v := ?_) rfl (by kernel_rfl) (by kernel_rfl) (by kernel_rfl) (fun _ _ _ h => h) (Or.inl ⟨by rfl, ?_⟩) hP ?_
            rotate_left
            · (intro ww hSw; go_simp; try with_reducible rfl)
            (try simp only [Act.put, List.getElem_toArray, List.getElem_cons_zero, List.getElem_cons_succ, List.setIfInBounds_toArray, List.set_cons_zero, List.set_cons_succ])
            refine wpAnyH_take (i := 3) (v := ?_) rfl (by kernel_rfl) (by kernel_rfl) (by kernel_rfl) (fun _ _ _ h => h) (Or.inl ⟨by rfl, ?_⟩) hP ?_
            rotate_left
            · (intro ww hSw; go_simp; try with_reducible rfl)
            (try simp only [Act.put, List.getElem_toArray, List.getElem_cons_zero, List.getElem_cons_succ, List.setIfInBounds_toArray, List.set_cons_zero, List.set_cons_succ])
            refine wpAnyH_take (i := 4) (v := ?_) rfl (by kernel_rfl) (by kernel_rfl) (by kernel_rfl) (fun _ _ _ h => h) (Or.inl ⟨by rfl, ?_⟩) hP ?_
            rotate_left
            · (intro ww hSw; have g0 := (hSw.cell (p := ⟨w.heap.size, 0, none⟩) hXlt).trans hXc0; go_simp; try with_reducible rfl)
            (try simp only [Act.put, List.getElem_toArray, List.getElem_cons_zero, List.getElem_cons_succ, List.setIfInBounds_toArray, List.set_cons_zero, List.set_cons_succ])
            refine wpAnyH_take (i := 5) (v := ?_) rfl (by kernel_rfl) (by kernel_rfl) (by kernel_rfl) (fun _ _ _ h => h) (Or.inl ⟨by rfl, ?_⟩) hP ?_
            rotate_left
            · (intro ww hSw; go_simp; try with_reducible rfl)
            (try simp only [Act.put, List.getElem_toArray, List.getElem_cons_zero, List.getElem_cons_succ, List.setIfInBounds_toArray, List.set_cons_zero, List.set_cons_succ])
            refine wpAnyH_take (i := 6) (v := ?_) rfl (by kernel_rfl) (by kernel_rfl) (by kernel_rfl) (fun _ _ _ h => h) (Or.inl ⟨by rfl, ?_⟩) hP ?_
            rotate_left
            · (intro ww hSw; go_simp; try with_reducible rfl)
            (try simp only [Act.put, List.getElem_toArray, List.getElem_cons_zero, List.getElem_cons_succ, List.setIfInBounds_toArray, List.set_cons_zero, List.set_cons_succ])
            refine wpAnyH_take (i := 7) (v := ?_) rfl (by kernel_rfl) (by kernel_rfl) (by kernel_rfl) (fun _ _ _ h => h) (Or.inl ⟨by rfl, ?_⟩) hP ?_
            rotate_left
            · (intro ww hSw; go_simp; try with_reducible rfl)
            (try simp only [Act.put, List.getElem_toArray, List.getElem_cons_zero, List.getElem_cons_succ, List.setIfInBounds_toArray, List.set_cons_zero, List.set_cons_succ])
            refine wpAnyH_take (i := 8) (v := ?_) rfl (by kernel_rfl) (by kernel_rfl) (by kernel_rfl) (fun _ _ _ h => h) (Or.inl ⟨by rfl, ?_⟩) hP ?_
            rotate_left
            · (intro ww hSw; go_simp; try with_reducible rfl)
            (try simp only [Act.put, List.getElem_toArray, List.getElem_cons_zero, List.getElem_cons_succ, List.setIfInBounds_toArray, List.set_cons_zero, List.set_cons_succ])
            refine wpAnyH_take (i := 9) (v := ?_) rfl (by kernel_rfl) (by kernel_rfl) (by kernel_rfl) (fun _ _ _ h => h) (Or.inl ⟨by rfl, ?_⟩) hP ?_
            rotate_left
            · (intro ww hSw; have g2 := (hSw.cell (p := ⟨w.heap.size + 1 + 1, 0, none⟩) hNlt).trans hNc0; go_simp; try with_reducible rfl)
            (try simp only [Act.put, List.getElem_toArray, List.getElem_cons_zero, List.getElem_cons_succ, List.setIfInBounds_toArray, List.set_cons_zero, List.set_cons_succ])
            refine wpAnyH_take (i := 10) (v := ?_) rfl (by kernel_rfl) (by kernel_rfl) (by kernel_rfl) (fun _ _ _ h => h) (Or.inl ⟨by rfl, ?_⟩) hP ?_
            rotate_left
            · (intro ww hSw; go_simp; try with_reducible rfl)
            (try simp only [Act.put, List.getElem_toArray, List.getElem_cons_zero, List.getElem_cons_succ, List.setIfInBounds_toArray, List.set_cons_zero, List.set_cons_succ])
            refine wpAnyH_take (i := 11) (v := ?_) rfl (by kernel_rfl) (by kernel_rfl) (by kernel_rfl) (fun _ _ _ h => h) (Or.inl ⟨by rfl, ?_⟩) hP ?_
            rotate_left
            · (intro ww hSw; go_simp; try with_reducible rfl)
            (try simp only [Act.put, List.getElem_toArray, List.getElem_cons_zero, List.getElem_cons_succ, List.setIfInBounds_toArray, List.set_cons_zero, List.set_cons_succ])
            refine wpAnyH_take (i := 12) (v := ?_) rfl (by kernel_rfl) (by kernel_rfl) (by kernel_rfl) (fun _ _ _ h => h) (Or.inl ⟨by rfl, ?_⟩) hP ?_
            rotate_left
            · (intro ww hSw; go_simp; try with_reducible rfl)
            (try simp only [Act.put, List.getElem_toArray, List.getElem_cons_zero, List.getElem_cons_succ, List.setIfInBounds_toArray, List.set_cons_zero, List.set_cons_succ])
            refine wpAnyH_ready (rs := [13, 14]) (by kernel_rfl) (by simp) ?_
            refine AllReadyH.cons rfl ?_ ?_
            · intro K' hK
              rw [if_pos (by rfl)]
              go_simp
              go_at_call 48
              refine (nthM _ _ _).mono ?_
              rintro e W1 ⟨rfl, hbq⟩
              replace hbq := ex_below hbq
              (try dsimp only)
              have hP2 := below_step hP hbq hZ
              have hZ2 := Nat.le_trans hZ hbq.size
              refine hK.out _ _ hP2 (fun _ => ?_)
              clear hK K'
              (try simp only [Act.put, List.getElem_toArray, List.getElem_cons_zero, List.getElem_cons_succ, List.setIfInBounds_toArray, List.set_cons_zero, List.set_cons_succ])
              clear hP hZ hbq
              have hP := hP2
              have hZ := hZ2
              clear hP2 hZ2
              refine wpAnyH_ready (rs := [14]) (by kernel_rfl) (by simp) ?_
              refine AllReadyH.cons rfl ?_ ?_
              · intro K' hK
                rw [if_pos (by rfl)]
                go_simp
                have hP2 := below_alloc hP hZ (.cells #[.int .u8 0, .int .i64 0] 54)
                refine hK.out _ _ hP2 (fun _ => ?_)
                clear hK K'
                (try simp only [Act.put, List.getElem_toArray, List.getElem_cons_zero, List.getElem_cons_succ, List.setIfInBounds_toArray, List.set_cons_zero, List.set_cons_succ])
                have hs_B := Side.fresh0 (W := W1) hZ #[.int .u8 0, .int .i64 0] 54
                replace hZ : u8.heap.size ≤ (W1.alloc (.cells #[.int .u8 0, .int .i64 0] 54)).heap.size := by rw [World.size_alloc]; omega
                clear hP
                have hP := hP2
                clear hP2
                obtain ⟨W2, hWe⟩ : ∃ W2, (W1.alloc (.cells #[.int .u8 0, .int .i64 0] 54)) = W2 := ⟨_, rfl⟩
                rw [hWe] at hP hZ hs_B ⊢
                clear hWe
                refine wpAnyH_ready (rs := [15]) (by kernel_rfl) (by simp) ?_
                refine AllReadyH.cons rfl ?_ ?_
                · intro K' hK
                  rw [if_pos (by rfl)]
                  have c0 := obj_at hs_B.2.2.1 0 _ rfl
                  have c1 := obj_at hs_B.2.2.1 1 _ rfl
                  have f0 := obj_fz hs_B.2.2.1 0
                  have f1 := obj_fz hs_B.2.2.1 1
                  go_simp
                  refine hK.out _ _ (Below.setCell (p := ⟨W1.heap.size, 1, none⟩) (Below.setCell (p := ⟨W1.heap.size, 0, none⟩) hP hs_B.1 _) hs_B.1 _) (fun _ => ?_)
                  clear hK K'
                  (try simp only [Act.put, List.getElem_toArray, List.getElem_cons_zero, List.getElem_cons_succ, List.setIfInBounds_toArray, List.set_cons_zero, List.set_cons_succ])
                  refine wpAnyH_done (by kernel_rfl) ?_ _
                  refine NoPanic.normal ?_
                  go_wp2_with fail
                  go_meet
                  simp only [HR1.out, HR2.out, HR3.out, HR4.out]
                  exact ⟨_, rfl, set_two hs_B.2.2.1, hs_B.1, Below.setCell (Below.setCell hP hs_B.1 _) hs_B.1 _⟩
                exact AllReadyH.nil
              exact AllReadyH.nil
            refine AllReadyH.cons rfl ?_ ?_
            · intro K' hK
              rw [if_pos (by rfl)]
              go_simp
              have hP2 := below_alloc hP hZ (.cells #[.int .u8 0, .int .i64 0] 54)
              refine hK.out _ _ hP2 (fun _ => ?_)
              clear hK K'
              (try simp only [Act.put, List.getElem_toArray, List.getElem_cons_zero, List.getElem_cons_succ, List.setIfInBounds_toArray, List.set_cons_zero, List.set_cons_succ])
              have hs_B := Side.fresh0 (W := W0) hZ #[.int .u8 0, .int .i64 0] 54
              replace hZ : u8.heap.size ≤ (W0.alloc (.cells #[.int .u8 0, .int .i64 0] 54)).heap.size := by rw [World.size_alloc]; omega
              clear hP
              have hP := hP2
              clear hP2
              obtain ⟨W4, hWe⟩ : ∃ W4, (W0.alloc (.cells #[.int .u8 0, .int .i64 0] 54)) = W4 := ⟨_, rfl⟩
              rw [hWe] at hP hZ hs_B ⊢
              clear hWe
              refine wpAnyH_ready (rs := [13]) (by kernel_rfl) (by simp) ?_
              refine AllReadyH.cons rfl ?_ ?_
              · intro K' hK
                rw [if_pos (by rfl)]
                go_simp
                go_at_call 48
                refine (nthM _ _ _).mono ?_
                rintro e W5 ⟨rfl, hbq⟩
                replace hbq := ex_below hbq
                (try dsimp only)
                replace hs_B := hs_B.below hbq
                have hP2 := below_step hP hbq hZ
                have hZ2 := Nat.le_trans hZ hbq.size
                refine hK.out _ _ hP2 (fun _ => ?_)
                clear hK K'
                (try simp only [Act.put, List.getElem_toArray, List.getElem_cons_zero, List.getElem_cons_succ, List.setIfInBounds_toArray, List.set_cons_zero, List.set_cons_succ])
                clear hP hZ hbq
                have hP := hP2
                have hZ := hZ2
                clear hP2 hZ2
                refine wpAnyH_ready (rs := [15]) (by kernel_rfl) (by simp) ?_
                refine AllReadyH.cons rfl ?_ ?_
                · intro K' hK
                  rw [if_pos (by rfl)]
                  have c0 := obj_at hs_B.2.2.1 0 _ rfl
                  have c1 := obj_at hs_B.2.2.1 1 _ rfl
                  have f0 := obj_fz hs_B.2.2.1 0
                  have f1 := obj_fz hs_B.2.2.1 1
                  go_simp
                  refine hK.out _ _ (Below.setCell (p := ⟨W0.heap.size, 1, none⟩) (Below.setCell (p := ⟨W0.heap.size, 0, none⟩) hP hs_B.1 _) hs_B.1 _) (fun _ => ?_)
                  clear hK K'
                  (try simp only [Act.put, List.getElem_toArray, List.getElem_cons_zero, List.getElem_cons_succ, List.setIfInBounds_toArray, List.set_cons_zero, List.set_cons_succ])
                  refine wpAnyH_done (by kernel_rfl) ?_ _
                  refine NoPanic.normal ?_
                  go_wp2_with fail
                  go_meet
                  simp only [HR1.out, HR2.out, HR3.out, HR4.out]
                  exact ⟨_, rfl, set_two hs_B.2.2.1, hs_B.1, Below.setCell (Below.setCell hP hs_B.1 _) hs_B.1 _⟩
                exact AllReadyH.nil
              exact AllReadyH.nil
            exact AllReadyH.nil
          case rest =>
            obtain ⟨bi, rfl, hI, hbi, hb4⟩ := hcut
            obtain ⟨we, rfl⟩ : ∃ we : World, we = wc := ⟨_, rfl⟩
            have szwe := hb4.size
            replace hA := hA.ext hb4
            replace hV := hV.ext hb4
            replace hX := hX.below hb4
            (try clear hXc0 hXc1 hXlt)
            have hXc0 := hX.c0
            have hXc1 := hX.c1
            have hXlt := hX.lt
            replace hG := hG.below hb4
            (try clear hGc0 hGc1 hGc2 hGlt)
            have hGc0 := hG.c0
            have hGc1 := hG.c1
            have hGc2 := hG.c2
            have hGlt := hG.lt
            replace hN := hN.below hb4
            (try clear hNc0 hNc1 hNlt)
            have hNc0 := hN.c0
            have hNc1 := hN.c1
            have hNlt := hN.lt
            replace hY := hY.below hb4
            (try clear hYc0 hYc1 hYlt)
            have hYc0 := hY.c0
            have hYc1 := hY.c1
            have hYlt := hY.lt
            replace hW := below_step hW hb4 (by have := hW.size; omega)
            clear hb4
            have hIc0 := hI.c0
            have hIc1 := hI.c1
            have hIlt := hI.lt
            go_upto_region 15 with fail
            (try simp only [hwb])
            go_cut [27] from 163 to 176 (fun sx wx => ∃ blk : Nat, sx = .pointer (some ⟨blk, 0, none⟩) ∧ ObjV wx blk 54 (.int .u8 (b2 : Nat)) (.int .i64 (1 + (m2 : Nat))) ∧ we.heap.size ≤ blk ∧ Below we.heap.size we wx)
            case first =>
              as_aux_lemma =>
              refine wp_region_noPanic ?_
              refine wp_region_held_drew (S := fun w' => Below we.heap.size we w') (by kernel_rfl) ?_ (fun _ => ?_)
              · exact below_drew (Below.refl _ _)
              have hP : Below we.heap.size we we.drew := below_drew (Below.refl _ _)
              have hZ : we.heap.size ≤ we.drew.heap.size := Nat.le_refl _
              obtain ⟨W0, hW0⟩ : ∃ W0, we.drew = W0 := ⟨_, rfl⟩
              rw [hW0] at hP hZ ⊢
              clear hW0
              refine wpAnyH_take (i := 0) (v := ?_) rfl (by kernel_rfl) (by kernel_rfl) (by kernel_rfl) (fun _ _ _ h => h) (Or.inl ⟨by rfl, ?_⟩) hP ?_
              rotate_left
              · (intro ww hSw; go_simp; try with_reducible rfl)
              (try simp only [Act.put, List.getElem_toArray, List.getElem_cons_zero, List.getElem_cons_succ, List.setIfInBounds_toArray, List.set_cons_zero, List.set_cons_succ])
              refine wpAnyH_take (i := 1) (v := ?_) rfl (by kernel_rfl) (by kernel_rfl) (by kernel_rfl) (fun _ _ _ h => h) (Or.inl ⟨by rfl, ?_⟩) hP ?_
              rotate_left
              · (intro ww hSw; have g1 := (hSw.cell (p := ⟨w.heap.size + 1, 2, none⟩) hGlt).trans hGc2; go_simp; try with_reducible rfl)
              (try simp only [Act.put, List.getElem_toArray, List.getElem_cons_zero, List.getElem_cons_succ, List.setIfInBounds_toArray, List.set_cons_zero, List.set_cons_succ])
              refine wpAnyH_take (i := 2) (v := ?_) rfl (by kernel_rfl) (by kernel_rfl) (by kernel_rfl) (fun _ _ _ h => h) (Or.inl ⟨by rfl, ?_⟩) hP ?_
              rotate_left
              · (intro ww hSw; go_simp; try with_reducible rfl)
              (try simp only [Act.put, List.getElem_toArray, List.getElem_cons_zero, List.getElem_cons_succ, List.setIfInBounds_toArray, List.set_cons_zero, List.set_cons_succ])
              refine wpAnyH_take (i := 3) (v := ?_) rfl (by kernel_rfl) (by kernel_rfl) (by kernel_rfl) (fun _ _ _ h => h) (Or.inl ⟨by rfl, ?_⟩) hP ?_
              rotate_left
              · (intro ww hSw; go_simp; try with_reducible rfl)
              (try simp only [Act.put, List.getElem_toArray, List.getElem_cons_zero, List.getElem_cons_succ, List.setIfInBounds_toArray, List.set_cons_zero, List.set_cons_succ])
              refine wpAnyH_take (i := 4) (v := ?_) rfl (by kernel_rfl) (by kernel_rfl) (by kernel_rfl) (fun _ _ _ h => h) (Or.inl ⟨by rfl, ?_⟩) hP ?_
              rotate_left
              · (intro ww hSw; have g0 := (hSw.cell (p := ⟨w.heap.size, 0, none⟩) hXlt).trans hXc0; go_simp; try with_reducible rfl)
              (try simp only [Act.put, List.getElem_toArray, List.getElem_cons_zero, List.getElem_cons_succ, List.setIfInBounds_toArray, List.set_cons_zero, List.set_cons_succ])
              refine wpAnyH_take (i := 5) (v := ?_) rfl (by kernel_rfl) (by kernel_rfl) (by kernel_rfl) (fun _ _ _ h => h) (Or.inl ⟨by rfl, ?_⟩) hP ?_
              rotate_left
              · (intro ww hSw; go_simp; try with_reducible rfl)
              (try simp only [Act.put, List.getElem_toArray, List.getElem_cons_zero, List.getElem_cons_succ, List.setIfInBounds_toArray, List.set_cons_zero, List.set_cons_succ])
              refine wpAnyH_take (i := 6) (v := ?_) rfl (by kernel_rfl) (by kernel_rfl) (by kernel_rfl) (fun _ _ _ h => h) (Or.inl ⟨by rfl, ?_⟩) hP ?_
              rotate_left
              · (intro ww hSw; go_simp; try with_reducible rfl)
              (try simp only [Act.put, List.getElem_toArray, List.getElem_cons_zero, List.getElem_cons_succ, List.setIfInBounds_toArray, List.set_cons_zero, List.set_cons_succ])
              refine wpAnyH_take (i := 7) (v := ?_) rfl (by kernel_rfl) (by kernel_rfl) (by kernel_rfl) (fun _ _ _ h => h) (Or.inl ⟨by rfl, ?_⟩) hP ?_
              rotate_left
              · (intro ww hSw; go_simp; try with_reducible rfl)
              (try simp only [Act.put, List.getElem_toArray, List.getElem_cons_zero, List.getElem_cons_succ, List.setIfInBounds_toArray, List.set_cons_zero, List.set_cons_succ])
              refine wpAnyH_take (i := 8) (v := ?_) rfl (by kernel_rfl) (by kernel_rfl) (by kernel_rfl) (fun _ _ _ h => h) (Or.inl ⟨by rfl, ?_⟩) hP ?_
              rotate_left
              · (intro ww hSw; go_simp; try with_reducible rfl)
              (try simp only [Act.put, List.getElem_toArray, List.getElem_cons_zero, List.getElem_cons_succ, List.setIfInBounds_toArray, List.set_cons_zero, List.set_cons_succ])
              refine wpAnyH_take (i := 9) (v := ?_) rfl (by kernel_rfl) (by kernel_rfl) (by kernel_rfl) (fun _ _ _ h => h) (Or.inl ⟨by rfl, ?_⟩) hP ?_
              rotate_left
              · (intro ww hSw; have g2 := (hSw.cell (p := ⟨w.heap.size + 1 + 1, 1, none⟩) hNlt).trans hNc1; go_simp; try with_reducible rfl)
              (try simp only [Act.put, List.getElem_toArray, List.getElem_cons_zero, List.getElem_cons_succ, List.setIfInBounds_toArray, List.set_cons_zero, List.set_cons_succ])
              refine wpAnyH_take (i := 10) (v := ?_) rfl (by kernel_rfl) (by kernel_rfl) (by kernel_rfl) (fun _ _ _ h => h) (Or.inl ⟨by rfl, ?_⟩) hP ?_
              rotate_left
              · (intro ww hSw; go_simp; try with_reducible rfl)
              (try simp only [Act.put, List.getElem_toArray, List.getElem_cons_zero, List.getElem_cons_succ, List.setIfInBounds_toArray, List.set_cons_zero, List.set_cons_succ])
              refine wpAnyH_take (i := 11) (v := ?_) rfl (by kernel_rfl) (by kernel_rfl) (by kernel_rfl) (fun _ _ _ h => h) (Or.inl ⟨by rfl, ?_⟩) hP ?_
              rotate_left
              · (intro ww hSw; go_simp; try with_reducible rfl)
              (try simp only [Act.put, List.getElem_toArray, List.getElem_cons_zero, List.getElem_cons_succ, List.setIfInBounds_toArray, List.set_cons_zero, List.set_cons_succ])
              refine wpAnyH_take (i := 12) (v := ?_) rfl (by kernel_rfl) (by kernel_rfl) (by kernel_rfl) (fun _ _ _ h => h) (Or.inl ⟨by rfl, ?_⟩) hP ?_
              rotate_left
              · (intro ww hSw; go_simp; try with_reducible rfl)
              (try simp only [Act.put, List.getElem_toArray, List.getElem_cons_zero, List.getElem_cons_succ, List.setIfInBounds_toArray, List.set_cons_zero, List.set_cons_succ])
              refine wpAnyH_ready (rs := [13, 14]) (by kernel_rfl) (by simp) ?_
              refine AllReadyH.cons rfl ?_ ?_
              · intro K' hK
                rw [if_pos (by rfl)]
                go_simp
                go_at_call 48
                refine (nthM _ _ _).mono ?_
                rintro e W1 ⟨rfl, hbq⟩
                replace hbq := ex_below hbq
                (try dsimp only)
                have hP2 := below_step hP hbq hZ
                have hZ2 := Nat.le_trans hZ hbq.size
                refine hK.out _ _ hP2 (fun _ => ?_)
                clear hK K'
                (try simp only [Act.put, List.getElem_toArray, List.getElem_cons_zero, List.getElem_cons_succ, List.setIfInBounds_toArray, List.set_cons_zero, List.set_cons_succ])
                clear hP hZ hbq
                have hP := hP2
                have hZ := hZ2
                clear hP2 hZ2
                refine wpAnyH_ready (rs := [14]) (by kernel_rfl) (by simp) ?_
                refine AllReadyH.cons rfl ?_ ?_
                · intro K' hK
                  rw [if_pos (by rfl)]
                  go_simp
                  have hP2 := below_alloc hP hZ (.cells #[.int .u8 0, .int .i64 0] 54)
                  refine hK.out _ _ hP2 (fun _ => ?_)
                  clear hK K'
                  (try simp only [Act.put, List.getElem_toArray, List.getElem_cons_zero, List.getElem_cons_succ, List.setIfInBounds_toArray, List.set_cons_zero, List.set_cons_succ])
                  have hs_B := Side.fresh0 (W := W1) hZ #[.int .u8 0, .int .i64 0] 54
                  replace hZ : we.heap.size ≤ (W1.alloc (.cells #[.int .u8 0, .int .i64 0] 54)).heap.size := by rw [World.size_alloc]; omega
                  clear hP
                  have hP := hP2
                  clear hP2
                  obtain ⟨W2, hWe⟩ : ∃ W2, (W1.alloc (.cells #[.int .u8 0, .int .i64 0] 54)) = W2 := ⟨_, rfl⟩
                  rw [hWe] at hP hZ hs_B ⊢
                  clear hWe
                  refine wpAnyH_ready (rs := [15]) (by kernel_rfl) (by simp) ?_
                  refine AllReadyH.cons rfl ?_ ?_
                  · intro K' hK
                    rw [if_pos (by rfl)]
                    have c0 := obj_at hs_B.2.2.1 0 _ rfl
                    have c1 := obj_at hs_B.2.2.1 1 _ rfl
                    have f0 := obj_fz hs_B.2.2.1 0
                    have f1 := obj_fz hs_B.2.2.1 1
                    go_simp
                    refine hK.out _ _ (Below.setCell (p := ⟨W1.heap.size, 1, none⟩) (Below.setCell (p := ⟨W1.heap.size, 0, none⟩) hP hs_B.1 _) hs_B.1 _) (fun _ => ?_)
                    clear hK K'
                    (try simp only [Act.put, List.getElem_toArray, List.getElem_cons_zero, List.getElem_cons_succ, List.setIfInBounds_toArray, List.set_cons_zero, List.set_cons_succ])
                    refine wpAnyH_done (by kernel_rfl) ?_ _
                    refine NoPanic.normal ?_
                    go_wp2_with fail
                    go_meet
                    simp only [HR1.out, HR2.out, HR3.out, HR4.out]
                    exact ⟨_, rfl, set_two hs_B.2.2.1, hs_B.1, Below.setCell (Below.setCell hP hs_B.1 _) hs_B.1 _⟩
                  exact AllReadyH.nil
                exact AllReadyH.nil
              refine AllReadyH.cons rfl ?_ ?_
              · intro K' hK
                rw [if_pos (by rfl)]
                go_simp
                have hP2 := below_alloc hP hZ (.cells #[.int .u8 0, .int .i64 0] 54)
                refine hK.out _ _ hP2 (fun _ => ?_)
                clear hK K'
                (try simp only [Act.put, List.getElem_toArray, List.getElem_cons_zero, List.getElem_cons_succ, List.setIfInBounds_toArray, List.set_cons_zero, List.set_cons_succ])
                have hs_B := Side.fresh0 (W := W0) hZ #[.int .u8 0, .int .i64 0] 54
                replace hZ : we.heap.size ≤ (W0.alloc (.cells #[.int .u8 0, .int .i64 0] 54)).heap.size := by rw [World.size_alloc]; omega
                clear hP
                have hP := hP2
                clear hP2
                obtain ⟨W4, hWe⟩ : ∃ W4, (W0.alloc (.cells #[.int .u8 0, .int .i64 0] 54)) = W4 := ⟨_, rfl⟩
                rw [hWe] at hP hZ hs_B ⊢
                clear hWe
                refine wpAnyH_ready (rs := [13]) (by kernel_rfl) (by simp) ?_
                refine AllReadyH.cons rfl ?_ ?_
                · intro K' hK
                  rw [if_pos (by rfl)]
                  go_simp
                  go_at_call 48
                  refine (nthM _ _ _).mono ?_
                  rintro e W5 ⟨rfl, hbq⟩
                  replace hbq := ex_below hbq
                  (try dsimp only)
                  replace hs_B := hs_B.below hbq
                  have hP2 := below_step hP hbq hZ
                  have hZ2 := Nat.le_trans hZ hbq.size
                  refine hK.out _ _ hP2 (fun _ => ?_)
                  clear hK K'
                  (try simp only [Act.put, List.getElem_toArray, List.getElem_cons_zero, List.getElem_cons_succ, List.setIfInBounds_toArray, List.set_cons_zero, List.set_cons_succ])
                  clear hP hZ hbq
                  have hP := hP2
                  have hZ := hZ2
                  clear hP2 hZ2
                  refine wpAnyH_ready (rs := [15]) (by kernel_rfl) (by simp) ?_
                  refine AllReadyH.cons rfl ?_ ?_
                  · intro K' hK
                    rw [if_pos (by rfl)]
                    have c0 := obj_at hs_B.2.2.1 0 _ rfl
                    have c1 := obj_at hs_B.2.2.1 1 _ rfl
                    have f0 := obj_fz hs_B.2.2.1 0
                    have f1 := obj_fz hs_B.2.2.1 1
                    go_simp
                    refine hK.out _ _ (Below.setCell (p := ⟨W0.heap.size, 1, none⟩) (Below.setCell (p := ⟨W0.heap.size, 0, none⟩) hP hs_B.1 _) hs_B.1 _) (fun _ => ?_)
                    clear hK K'
                    (try simp only [Act.put, List.getElem_toArray, List.getElem_cons_zero, List.getElem_cons_succ, List.setIfInBounds_toArray, List.set_cons_zero, List.set_cons_succ])
                    refine wpAnyH_done (by kernel_rfl) ?_ _
                    refine NoPanic.normal ?_
                    go_wp2_with fail
                    go_meet
                    simp only [HR1.out, HR2.out, HR3.out, HR4.out]
                    exact ⟨_, rfl, set_two hs_B.2.2.1, hs_B.1, Below.setCell (Below.setCell hP hs_B.1 _) hs_B.1 _⟩
                  exact AllReadyH.nil
                exact AllReadyH.nil
              exact AllReadyH.nil
            case rest =>
              obtain ⟨bj, rfl, hJ, hbj, hb5⟩ := hcut
              obtain ⟨wf, rfl⟩ : ∃ wf : World, wf = wc := ⟨_, rfl⟩
              have szwf := hb5.size
              replace hA := hA.ext hb5
              replace hV := hV.ext hb5
              replace hX := hX.below hb5
              (try clear hXc0 hXc1 hXlt)
              have hXc0 := hX.c0
              have hXc1 := hX.c1
              have hXlt := hX.lt
              replace hG := hG.below hb5
              (try clear hGc0 hGc1 hGc2 hGlt)
              have hGc0 := hG.c0
              have hGc1 := hG.c1
              have hGc2 := hG.c2
              have hGlt := hG.lt
              replace hN := hN.below hb5
              (try clear hNc0 hNc1 hNlt)
              have hNc0 := hN.c0
              have hNc1 := hN.c1
              have hNlt := hN.lt
              replace hY := hY.below hb5
              (try clear hYc0 hYc1 hYlt)
              have hYc0 := hY.c0
              have hYc1 := hY.c1
              have hYlt := hY.lt
              replace hW := below_step hW hb5 (by have := hW.size; omega)
              replace hI := hI.below hb5
              (try clear hIc0 hIc1 hIlt)
              have hIc0 := hI.c0
              have hIc1 := hI.c1
              have hIlt := hI.lt
              clear hb5
              have hJc0 := hJ.c0
              have hJc1 := hJ.c1
              have hJlt := hJ.lt
              go_upto_region 20 with (first
                  | (clear tok8; go_at_call 35; refine (HP1.out _ (hA.ext (by (repeat (first | exact Below.refl _ _ | assumption | refine below_drewN ?_ _ | refine below_drew ?_ | refine below_gr ?_ ?_ _ | refine below_alloc ?_ ?_ _ | refine Below.setCell ?_ ?_ _ | refine below_step ?_ (by assumption) ?_ | omega | (simp only [zz] at *; omega)))))).mono ?_; rintro e u9 ⟨rfl, hb9⟩; replace hb9 := ex_below hb9; have bel9 : Below wf.heap.size wf u9 := (by (repeat (first | exact Below.refl _ _ | assumption | refine below_drewN ?_ _ | refine below_drew ?_ | refine below_gr ?_ ?_ _ | refine below_alloc ?_ ?_ _ | refine Below.setCell ?_ ?_ _ | refine below_step ?_ (by assumption) ?_ | omega | (simp only [zz] at *; omega)))); clear hb9; have sz9 := bel9.size; replace hA := hA.ext bel9; replace hV := hV.ext bel9; replace hX := hX.below bel9; replace hG := hG.below bel9; replace hN := hN.below bel9; replace hY := hY.below bel9; replace hW := below_step hW bel9 (by have := hW.size; omega); replace hI := hI.below bel9; replace hJ := hJ.below bel9; (try clear hXc0 hXc1 hXlt); have hXc0 := hX.c0; have hXc1 := hX.c1; have hXlt := hX.lt; (try clear hGc0 hGc1 hGc2 hGlt); have hGc0 := hG.c0; have hGc1 := hG.c1; have hGc2 := hG.c2; have hGlt := hG.lt; (try clear hNc0 hNc1 hNlt); have hNc0 := hN.c0; have hNc1 := hN.c1; have hNlt := hN.lt; (try clear hYc0 hYc1 hYlt); have hYc0 := hY.c0; have hYc1 := hY.c1; have hYlt := hY.lt; (try clear hIc0 hIc1 hIlt); have hIc0 := hI.c0; have hIc1 := hI.c1; have hIlt := hI.lt; (try clear hJc0 hJc1 hJlt); have hJc0 := hJ.c0; have hJc1 := hJ.c1; have hJlt := hJ.lt; clear bel9; have tok9 : True := trivial)
                  | (clear tok9; go_at_call 35; refine (HP2.out _ (hV.ext (by (repeat (first | exact Below.refl _ _ | assumption | refine below_drewN ?_ _ | refine below_drew ?_ | refine below_gr ?_ ?_ _ | refine below_alloc ?_ ?_ _ | refine Below.setCell ?_ ?_ _ | refine below_step ?_ (by assumption) ?_ | omega | (simp only [zz] at *; omega)))))).mono ?_; rintro e u10 ⟨rfl, hb10⟩; replace hb10 := ex_below hb10; have bob10 : Below (u9.alloc (.cells #[.int .i64 p1, .int .i64 p2] 47)).heap.size (u9.alloc (.cells #[.int .i64 p1, .int .i64 p2] 47)) u10 := (by (repeat (first | exact Below.refl _ _ | assumption | refine below_drewN ?_ _ | refine below_drew ?_ | refine below_gr ?_ ?_ _ | refine below_alloc ?_ ?_ _ | refine Below.setCell ?_ ?_ _ | refine below_step ?_ (by assumption) ?_ | omega | (simp only [zz] at *; omega)))); have hp := (ObjV.new u9 47 (.int .i64 p1) (.int .i64 p2)).below bob10; have bel10 : Below u9.heap.size u9 u10 := (by (repeat (first | exact Below.refl _ _ | assumption | refine below_drewN ?_ _ | refine below_drew ?_ | refine below_gr ?_ ?_ _ | refine below_alloc ?_ ?_ _ | refine Below.setCell ?_ ?_ _ | refine below_step ?_ (by assumption) ?_ | omega | (simp only [zz] at *; omega)))); clear bob10; clear hb10; have sz10 := bel10.size; replace hA := hA.ext bel10; replace hV := hV.ext bel10; replace hX := hX.below bel10; replace hG := hG.below bel10; replace hN := hN.below bel10; replace hY := hY.below bel10; replace hW := below_step hW bel10 (by have := hW.size; omega); replace hI := hI.below bel10; replace hJ := hJ.below bel10; (try clear hXc0 hXc1 hXlt); have hXc0 := hX.c0; have hXc1 := hX.c1; have hXlt := hX.lt; (try clear hGc0 hGc1 hGc2 hGlt); have hGc0 := hG.c0; have hGc1 := hG.c1; have hGc2 := hG.c2; have hGlt := hG.lt; (try clear hNc0 hNc1 hNlt); have hNc0 := hN.c0; have hNc1 := hN.c1; have hNlt := hN.lt; (try clear hYc0 hYc1 hYlt); have hYc0 := hY.c0; have hYc1 := hY.c1; have hYlt := hY.lt; (try clear hIc0 hIc1 hIlt); have hIc0 := hI.c0; have hIc1 := hI.c1; have hIlt := hI.lt; (try clear hJc0 hJc1 hJlt); have hJc0 := hJ.c0; have hJc1 := hJ.c1; have hJlt := hJ.lt; (try clear hpc0 hpc1 hplt); have hpc0 := hp.c0; have hpc1 := hp.c1; have hplt := hp.lt; clear bel10; have tok10 : True := trivial)
                  | (clear tok10; go_at_call 40; refine (HK1.out _ (hA.ext (by (repeat (first | exact Below.refl _ _ | assumption | refine below_drewN ?_ _ | refine below_drew ?_ | refine below_gr ?_ ?_ _ | refine below_alloc ?_ ?_ _ | refine Below.setCell ?_ ?_ _ | refine below_step ?_ (by assumption) ?_ | omega | (simp only [zz] at *; omega)))))).mono ?_; rintro e u11 ⟨rfl, hb11⟩; replace hb11 := ex_below hb11; have bob11 : Below (u10.alloc (.cells #[.int .i64 q1, .int .i64 q2] 47)).heap.size (u10.alloc (.cells #[.int .i64 q1, .int .i64 q2] 47)) u11 := (by (repeat (first | exact Below.refl _ _ | assumption | refine below_drewN ?_ _ | refine below_drew ?_ | refine below_gr ?_ ?_ _ | refine below_alloc ?_ ?_ _ | refine Below.setCell ?_ ?_ _ | refine below_step ?_ (by assumption) ?_ | omega | (simp only [zz] at *; omega)))); have hq := (ObjV.new u10 47 (.int .i64 q1) (.int .i64 q2)).below bob11; have bel11 : Below u10.heap.size u10 u11 := (by (repeat (first | exact Below.refl _ _ | assumption | refine below_drewN ?_ _ | refine below_drew ?_ | refine below_gr ?_ ?_ _ | refine below_alloc ?_ ?_ _ | refine Below.setCell ?_ ?_ _ | refine below_step ?_ (by assumption) ?_ | omega | (simp only [zz] at *; omega)))); clear bob11; clear hb11; have sz11 := bel11.size; replace hA := hA.ext bel11; replace hV := hV.ext bel11; replace hX := hX.below bel11; replace hG := hG.below bel11; replace hN := hN.below bel11; replace hY := hY.below bel11; replace hW := below_step hW bel11 (by have := hW.size; omega); replace hI := hI.below bel11; replace hJ := hJ.below bel11; replace hp := hp.below bel11; (try clear hXc0 hXc1 hXlt); have hXc0 := hX.c0; have hXc1 := hX.c1; have hXlt := hX.lt; (try clear hGc0 hGc1 hGc2 hGlt); have hGc0 := hG.c0; have hGc1 := hG.c1; have hGc2 := hG.c2; have hGlt := hG.lt; (try clear hNc0 hNc1 hNlt); have hNc0 := hN.c0; have hNc1 := hN.c1; have hNlt := hN.lt; (try clear hYc0 hYc1 hYlt); have hYc0 := hY.c0; have hYc1 := hY.c1; have hYlt := hY.lt; (try clear hIc0 hIc1 hIlt); have hIc0 := hI.c0; have hIc1 := hI.c1; have hIlt := hI.lt; (try clear hJc0 hJc1 hJlt); have hJc0 := hJ.c0; have hJc1 := hJ.c1; have hJlt := hJ.lt; (try clear hpc0 hpc1 hplt); have hpc0 := hp.c0; have hpc1 := hp.c1; have hplt := hp.lt; (try clear hqc0 hqc1 hqlt); have hqc0 := hq.c0; have hqc1 := hq.c1; have hqlt := hq.lt; clear bel11; have tok11 : True := trivial)
                  | (clear tok11; go_at_call 40; refine (HK2.out _ (hV.ext (by (repeat (first | exact Below.refl _ _ | assumption | refine below_drewN ?_ _ | refine below_drew ?_ | refine below_gr ?_ ?_ _ | refine below_alloc ?_ ?_ _ | refine Below.setCell ?_ ?_ _ | refine below_step ?_ (by assumption) ?_ | omega | (simp only [zz] at *; omega)))))).mono ?_; rintro e u12 ⟨rfl, hb12⟩; replace hb12 := ex_below hb12; have bel12 : Below u11.heap.size u11 u12 := (by (repeat (first | exact Below.refl _ _ | assumption | refine below_drewN ?_ _ | refine below_drew ?_ | refine below_gr ?_ ?_ _ | refine below_alloc ?_ ?_ _ | refine Below.setCell ?_ ?_ _ | refine below_step ?_ (by assumption) ?_ | omega | (simp only [zz] at *; omega)))); clear hb12; have sz12 := bel12.size; replace hA := hA.ext bel12; replace hV := hV.ext bel12; replace hX := hX.below bel12; replace hG := hG.below bel12; replace hN := hN.below bel12; replace hY := hY.below bel12; replace hW := below_step hW bel12 (by have := hW.size; omega); replace hI := hI.below bel12; replace hJ := hJ.below bel12; replace hp := hp.below bel12; replace hq := hq.below bel12; (try clear hXc0 hXc1 hXlt); have hXc0 := hX.c0; have hXc1 := hX.c1; have hXlt := hX.lt; (try clear hGc0 hGc1 hGc2 hGlt); have hGc0 := hG.c0; have hGc1 := hG.c1; have hGc2 := hG.c2; have hGlt := hG.lt; (try clear hNc0 hNc1 hNlt); have hNc0 := hN.c0; have hNc1 := hN.c1; have hNlt := hN.lt; (try clear hYc0 hYc1 hYlt); have hYc0 := hY.c0; have hYc1 := hY.c1; have hYlt := hY.lt; (try clear hIc0 hIc1 hIlt); have hIc0 := hI.c0; have hIc1 := hI.c1; have hIlt := hI.lt; (try clear hJc0 hJc1 hJlt); have hJc0 := hJ.c0; have hJc1 := hJ.c1; have hJlt := hJ.lt; (try clear hpc0 hpc1 hplt); have hpc0 := hp.c0; have hpc1 := hp.c1; have hplt := hp.lt; (try clear hqc0 hqc1 hqlt); have hqc0 := hq.c0; have hqc1 := hq.c1; have hqlt := hq.lt; clear bel12; have tok12 : True := trivial))
              rcases HZ.out with ⟨hn1, hn2, rfl, rfl, rfl, rfl⟩ | ⟨hn1, hn2, rfl, rfl, rfl, rfl⟩ | ⟨hn1, hn2, rfl, rfl, rfl, rfl, z1, z2, z3, z4⟩
              · have hd1 : decide (n < f) = true := decide_eq_true hn1
                have hd2 : decide (n < g) = true := decide_eq_true hn2
                have hd3 : ((n : Nat) : Int) < (f : Nat) := by omega
                have hd4 : ((n : Nat) : Int) < (g : Nat) := by omega
                go_wp2_with (first
                      | (clear tok12; go_at_call 18; refine (works_any _).mono ?_; rintro e u13 ⟨rfl, hb13⟩; replace hb13 := ex_below hb13; have bel13 : Below u12.heap.size u12 u13 := (by (repeat (first | exact Below.refl _ _ | assumption | refine below_drewN ?_ _ | refine below_drew ?_ | refine below_gr ?_ ?_ _ | refine below_alloc ?_ ?_ _ | refine Below.setCell ?_ ?_ _ | refine below_step ?_ (by assumption) ?_ | omega | (simp only [zz] at *; omega)))); clear hb13; have sz13 := bel13.size; replace hA := hA.ext bel13; replace hV := hV.ext bel13; replace hX := hX.below bel13; replace hG := hG.below bel13; replace hN := hN.below bel13; replace hY := hY.below bel13; replace hW := below_step hW bel13 (by have := hW.size; omega); replace hI := hI.below bel13; replace hJ := hJ.below bel13; replace hp := hp.below bel13; replace hq := hq.below bel13; (try clear hXc0 hXc1 hXlt); have hXc0 := hX.c0; have hXc1 := hX.c1; have hXlt := hX.lt; (try clear hGc0 hGc1 hGc2 hGlt); have hGc0 := hG.c0; have hGc1 := hG.c1; have hGc2 := hG.c2; have hGlt := hG.lt; (try clear hNc0 hNc1 hNlt); have hNc0 := hN.c0; have hNc1 := hN.c1; have hNlt := hN.lt; (try clear hYc0 hYc1 hYlt); have hYc0 := hY.c0; have hYc1 := hY.c1; have hYlt := hY.lt; (try clear hIc0 hIc1 hIlt); have hIc0 := hI.c0; have hIc1 := hI.c1; have hIlt := hI.lt; (try clear hJc0 hJc1 hJlt); have hJc0 := hJ.c0; have hJc1 := hJ.c1; have hJlt := hJ.lt; (try clear hpc0 hpc1 hplt); have hpc0 := hp.c0; have hpc1 := hp.c1; have hplt := hp.lt; (try clear hqc0 hqc1 hqlt); have hqc0 := hq.c0; have hqc1 := hq.c1; have hqlt := hq.lt; clear bel13; have tok13 : True := trivial))
                go_ret
                exact gives_of rfl hW
              · have hd1 : decide (n < f) = false := decide_eq_false (by omega)
                have hd2 : decide (n < g) = true := decide_eq_true hn2
                have hd3 : ¬ ((n : Nat) : Int) < (f : Nat) := by omega
                have hd4 : ((n : Nat) : Int) < (g : Nat) := by omega
                go_wp2_with (first
                      | (clear tok12; go_at_call 18; refine (works_any _).mono ?_; rintro e u13 ⟨rfl, hb13⟩; replace hb13 := ex_below hb13; have bel13 : Below u12.heap.size u12 u13 := (by (repeat (first | exact Below.refl _ _ | assumption | refine below_drewN ?_ _ | refine below_drew ?_ | refine below_gr ?_ ?_ _ | refine below_alloc ?_ ?_ _ | refine Below.setCell ?_ ?_ _ | refine below_step ?_ (by assumption) ?_ | omega | (simp only [zz] at *; omega)))); clear hb13; have sz13 := bel13.size; replace hA := hA.ext bel13; replace hV := hV.ext bel13; replace hX := hX.below bel13; replace hG := hG.below bel13; replace hN := hN.below bel13; replace hY := hY.below bel13; replace hW := below_step hW bel13 (by have := hW.size; omega); replace hI := hI.below bel13; replace hJ := hJ.below bel13; replace hp := hp.below bel13; replace hq := hq.below bel13; (try clear hXc0 hXc1 hXlt); have hXc0 := hX.c0; have hXc1 := hX.c1; have hXlt := hX.lt; (try clear hGc0 hGc1 hGc2 hGlt); have hGc0 := hG.c0; have hGc1 := hG.c1; have hGc2 := hG.c2; have hGlt := hG.lt; (try clear hNc0 hNc1 hNlt); have hNc0 := hN.c0; have hNc1 := hN.c1; have hNlt := hN.lt; (try clear hYc0 hYc1 hYlt); have hYc0 := hY.c0; have hYc1 := hY.c1; have hYlt := hY.lt; (try clear hIc0 hIc1 hIlt); have hIc0 := hI.c0; have hIc1 := hI.c1; have hIlt := hI.lt; (try clear hJc0 hJc1 hJlt); have hJc0 := hJ.c0; have hJc1 := hJ.c1; have hJlt := hJ.lt; (try clear hpc0 hpc1 hplt); have hpc0 := hp.c0; have hpc1 := hp.c1; have hplt := hp.lt; (try clear hqc0 hqc1 hqlt); have hqc0 := hq.c0; have hqc1 := hq.c1; have hqlt := hq.lt; clear bel13; have tok13 : True := trivial))
                go_ret
                exact gives_of rfl hW
              · have hd2 : decide (n < g) = false := decide_eq_false (by omega)
                have hd4 : ¬ ((n : Nat) : Int) < (g : Nat) := by omega
                by_cases hk1 : k = 1
                · subst hk1
                  go_wp2_with (first
                      | (clear tok12; go_at_call 18; refine (works_any _).mono ?_; rintro e u13 ⟨rfl, hb13⟩; replace hb13 := ex_below hb13; have bel13 : Below u12.heap.size u12 u13 := (by (repeat (first | exact Below.refl _ _ | assumption | refine below_drewN ?_ _ | refine below_drew ?_ | refine below_gr ?_ ?_ _ | refine below_alloc ?_ ?_ _ | refine Below.setCell ?_ ?_ _ | refine below_step ?_ (by assumption) ?_ | omega | (simp only [zz] at *; omega)))); clear hb13; have sz13 := bel13.size; replace hA := hA.ext bel13; replace hV := hV.ext bel13; replace hX := hX.below bel13; replace hG := hG.below bel13; replace hN := hN.below bel13; replace hY := hY.below bel13; replace hW := below_step hW bel13 (by have := hW.size; omega); replace hI := hI.below bel13; replace hJ := hJ.below bel13; replace hp := hp.below bel13; replace hq := hq.below bel13; (try clear hXc0 hXc1 hXlt); have hXc0 := hX.c0; have hXc1 := hX.c1; have hXlt := hX.lt; (try clear hGc0 hGc1 hGc2 hGlt); have hGc0 := hG.c0; have hGc1 := hG.c1; have hGc2 := hG.c2; have hGlt := hG.lt; (try clear hNc0 hNc1 hNlt); have hNc0 := hN.c0; have hNc1 := hN.c1; have hNlt := hN.lt; (try clear hYc0 hYc1 hYlt); have hYc0 := hY.c0; have hYc1 := hY.c1; have hYlt := hY.lt; (try clear hIc0 hIc1 hIlt); have hIc0 := hI.c0; have hIc1 := hI.c1; have hIlt := hI.lt; (try clear hJc0 hJc1 hJlt); have hJc0 := hJ.c0; have hJc1 := hJ.c1; have hJlt := hJ.lt; (try clear hpc0 hpc1 hplt); have hpc0 := hp.c0; have hpc1 := hp.c1; have hplt := hp.lt; (try clear hqc0 hqc1 hqlt); have hqc0 := hq.c0; have hqc1 := hq.c1; have hqlt := hq.lt; clear bel13; have tok13 : True := trivial))
                  go_ret
                  exact gives_of rfl hW
                · obtain rfl : j = k := by rcases z4 with h | h; exact absurd h hk1; exact h
                  have hk1b : (j == 1) = false := by simpa using hk1
                  go_wp2_with (first
                      | (clear tok12; go_at_call 18; refine (works_any _).mono ?_; rintro e u13 ⟨rfl, hb13⟩; replace hb13 := ex_below hb13; have bel13 : Below u12.heap.size u12 u13 := (by (repeat (first | exact Below.refl _ _ | assumption | refine below_drewN ?_ _ | refine below_drew ?_ | refine below_gr ?_ ?_ _ | refine below_alloc ?_ ?_ _ | refine Below.setCell ?_ ?_ _ | refine below_step ?_ (by assumption) ?_ | omega | (simp only [zz] at *; omega)))); clear hb13; have sz13 := bel13.size; replace hA := hA.ext bel13; replace hV := hV.ext bel13; replace hX := hX.below bel13; replace hG := hG.below bel13; replace hN := hN.below bel13; replace hY := hY.below bel13; replace hW := below_step hW bel13 (by have := hW.size; omega); replace hI := hI.below bel13; replace hJ := hJ.below bel13; replace hp := hp.below bel13; replace hq := hq.below bel13; (try clear hXc0 hXc1 hXlt); have hXc0 := hX.c0; have hXc1 := hX.c1; have hXlt := hX.lt; (try clear hGc0 hGc1 hGc2 hGlt); have hGc0 := hG.c0; have hGc1 := hG.c1; have hGc2 := hG.c2; have hGlt := hG.lt; (try clear hNc0 hNc1 hNlt); have hNc0 := hN.c0; have hNc1 := hN.c1; have hNlt := hN.lt; (try clear hYc0 hYc1 hYlt); have hYc0 := hY.c0; have hYc1 := hY.c1; have hYlt := hY.lt; (try clear hIc0 hIc1 hIlt); have hIc0 := hI.c0; have hIc1 := hI.c1; have hIlt := hI.lt; (try clear hJc0 hJc1 hJlt); have hJc0 := hJ.c0; have hJc1 := hJ.c1; have hJlt := hJ.lt; (try clear hpc0 hpc1 hplt); have hpc0 := hp.c0; have hpc1 := hp.c1; have hplt := hp.lt; (try clear hqc0 hqc1 hqlt); have hqc0 := hq.c0; have hqc1 := hq.c1; have hqlt := hq.lt; clear bel13; have tok13 : True := trivial))
                  go_ret
                  exact gives_of rfl hW
end Go.Proofs.Ytafncmgijbkomaa
