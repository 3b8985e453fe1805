/- Proved here: the law BoxJoined, a part of the proofs about the box laws. Conditions: those that each theorem names, no others. -/
import Derived.Test.YtlbkaeoagdbemaaP38
import Derived.WalkKit
import Derived.WalkSpells
import Derived.WalkLawsBesides
import Derived.Below
import Derived.Deep.QuietTactic
import Derived.BigQuiet
import Derived.Deep.Light
import Derived.Test.YtlbkaeoagdbemaaG9
import Derived.Test.YtlbkaeoagdbemaaG15
import Derived.Test.YtlbkaeoagdbemaaG17
import Derived.Test.YtlbkaeoagdbemaaG18
import Derived.Deep.RegionHeld3
import Derived.Deep.CutRange
set_option linter.unusedSimpArgs false
set_option linter.unusedVariables false
namespace Go.Proofs.Ytlbkaeoagdbemaa
open Go.RowKit Go.Maps
theorem card_join {R Q : List Nat} {ts us : List Bm.Tk} (hok : Ok R ts) (hoku : Ok Q us) (h : chkCard (zs (R ++ Q)) = 0) : Ok (R ++ Q) [] := by
  have h5 : (R ++ Q).length ≤ 5 := by
    unfold chkCard at h
    split at h
    · cases h
    · rename_i h1
      rw [Bool.not_eq_false, decide_eq_true_eq, zs_len] at h1
      omega
  refine { h1 := ?_, h5 := h5, r1 := ?_, r6 := ?_, t10 := by simp, tb := fun t ht => by simp at ht, tu := fun t ht => by simp at ht }
  · have := hok.h1; rw [List.length_append]; omega
  · intro n hn; exact (List.mem_append.1 hn).elim (hok.r1 n) (hoku.r1 n)
  · intro n hn; exact (List.mem_append.1 hn).elim (hok.r6 n) (hoku.r6 n)
theorem ok_mem {R : List Nat} {ts : List Bm.Tk} (hok : Ok R ts) {t : Bm.Tk} (ht : t ∈ ts) : Ok R [(t.1, t.2)] :=
  { h1 := hok.h1, h5 := hok.h5, r1 := hok.r1, r6 := hok.r6, t10 := by simp, tb := fun x hx => by rw [List.mem_singleton.1 hx]; exact hok.tb t ht, tu := fun x hx => by rw [List.mem_singleton.1 hx]; exact hok.tu t ht }
theorem ok_join1 {R Q : List Nat} {ts us : List Bm.Tk} (hok : Ok R ts) (hoku : Ok Q us) (h0 : Ok (R ++ Q) []) {t u : Bm.Tk} (ht : t ∈ ts) (hu : u ∈ us) : Ok (R ++ Q) [(t.1 ++ u.1, 1)] :=
  { h1 := h0.h1, h5 := h0.h5, r1 := h0.r1, r6 := h0.r6, t10 := by simp, tb := fun x hx => by rw [List.mem_singleton.1 hx]; exact Bm.isBox_app _ _ _ _ (hok.tb t ht) (hoku.tb u hu), tu := fun x hx => by rw [List.mem_singleton.1 hx]; simp }
theorem ok_joinT {R Q : List Nat} {ts us : List Bm.Tk} (hok : Ok R ts) (hoku : Ok Q us) (h0 : Ok (R ++ Q) []) (hl : ts.length * us.length ≤ 10) : Ok (R ++ Q) (Bm.joinT ts us) :=
  { h1 := h0.h1, h5 := h0.h5, r1 := h0.r1, r6 := h0.r6, t10 := by rw [Bm.join_len]; exact hl, tb := fun x hx => by obtain ⟨t, ht, u, hu, rfl⟩ := Bm.mem_join.1 hx; exact Bm.isBox_app _ _ _ _ (hok.tb t ht) (hoku.tb u hu), tu := fun x hx => by obtain ⟨t, ht, u, hu, rfl⟩ := Bm.mem_join.1 hx; exact ⟨Nat.le_refl _, by omega⟩ }
theorem size_le5 {R : List Nat} {ts : List Bm.Tk} (hok : Ok R ts) {t : Bm.Tk} (ht : t ∈ ts) : Bm.size t.1 ≤ 7776 := by
  rw [← Bm.size_count (Bm.all6 hok.r6) (hok.tb t ht)]
  have h1 : (Bm.outs R).countP (Bm.win t.1) ≤ (Bm.outs R).length := List.countP_le_length
  have h2 := Bm.outs_len_le hok.r6
  have h3 : 6 ^ R.length ≤ 6 ^ 5 := Nat.pow_le_pow_right (by omega) hok.h5
  omega
/-- the joined tickets, up to a pair -/
def joinK (ts us : List Bm.Tk) (i k : Nat) : List Bm.Tk := Bm.joinT (ts.take i) us ++ (us.take k).map fun u => ((ts.getD i ([], 0)).1 ++ u.1, 1)
theorem joinK_step {ts us : List Bm.Tk} {i k : Nat} (hi : i < ts.length) (hk : k < us.length) : joinK ts us i (k + 1) = joinK ts us i k ++ [(ts[i].1 ++ us[k].1, 1)] := by
  unfold joinK
  rw [List.take_succ_eq_append_getElem hk, List.map_append, List.append_assoc, getD_at _ _ hi]; rfl
theorem joinK_next {ts us : List Bm.Tk} {i : Nat} (hi : i < ts.length) : joinK ts us i us.length = joinK ts us (i + 1) 0 := by
  unfold joinK Bm.joinT
  rw [List.take_succ_eq_append_getElem hi, List.flatMap_append, List.take_length, getD_at _ _ hi]; simp
theorem joinK_all (ts us : List Bm.Tk) : joinK ts us ts.length 0 = Bm.joinT ts us := by
  unfold joinK; rw [List.take_length]; simp
theorem joinK_len {ts us : List Bm.Tk} {i k : Nat} (hi : i ≤ ts.length) (hk : k ≤ us.length) : (joinK ts us i k).length = i * us.length + k := by
  unfold joinK; rw [List.length_append, Bm.join_len, List.length_take, List.length_map, List.length_take, Nat.min_eq_left hi, Nat.min_eq_left hk]
/-- the sets of the rows lie in blocks that are there and are not the list's own -/
def RowsFar (w : World) (v : Value) (rows : List Row) : Prop := ∀ r, r ∈ rows → ∀ b o, r.1 = some ⟨b, o, none⟩ → b < w.heap.size ∧ Far v b
theorem RowsFar.ext {w w' : World} {v : Value} {rows : List Row} (h : RowsFar w v rows) (hb : Below w.heap.size w w') : RowsFar w' v rows := fun r hr b o e => ⟨Nat.lt_of_lt_of_le (h r hr b o e).1 hb.size, (h r hr b o e).2⟩
theorem i64_grownF {w w' : World} {v : Value} {A : Option Addr} {xs : List Int} (h : I64 w A xs) (hg : w.grownBy w' v.ownBlock) (hf : ∀ b o, A = some ⟨b, o, none⟩ → Far v b) : I64 w' A xs := fun k x hk => by
  obtain ⟨b, o, h1, h2, h3, h4⟩ := h k x hk
  have hs := hg.size
  exact ⟨b, o, h1, by omega, by omega, (gb_cell hg b h2 (fun kk e => hf b o h1 kk e) _).trans h4⟩
theorem after_le7 {R : List Nat} {ts : List Bm.Tk} (hok : Ok R ts) (xs : List Bm.Tk) : Bm.afterN R xs [] ≤ 7776 := by
  have h1 : Bm.afterN R xs [] ≤ (Bm.outs R).length := List.countP_le_length
  have h2 := Bm.outs_len_le hok.r6
  have h3 : 6 ^ R.length ≤ 6 ^ 5 := Nat.pow_le_pow_right (by omega) hok.h5
  omega
theorem rd_new2 (w : World) (x y : Value) (t : TypeId) : Rd (w.alloc (.cells #[x, y] t)) 2 (some ⟨w.heap.size, 0, none⟩) 1 [x, y] :=
  ⟨rfl, fun _ => ⟨w.heap.size, 0, rfl, by rw [World.size_alloc]; omega, fun j u hu => by
    have hj : j = 0 ∨ j = 1 := by
      have := (List.getElem?_eq_some_iff.1 hu).1
      simp at this
      omega
    rcases hj with rfl | rfl
    · simp at hu; subst hu; exact obj_at (heap_alloc_new _ _) 0 _ rfl
    · simp at hu; subst hu; exact obj_at (heap_alloc_new _ _) 1 _ rfl⟩⟩
set_option maxRecDepth 100000 in
set_option maxHeartbeats 8000000 in
theorem joined_law (A : Option Addr) (R : List Int) (c : Nat) (E : Option Addr) (Q : List Int) (e : Nat) (B : Option Addr) (ts : List Tz) (d : Nat) (D : Option Addr) (us : List Tz) (dd : Nat) (w : World) (hA : I64 w A R) (hE : I64 w E Q) (hB : Tks w B ts) (hD : Tks w D us) (hl9 : R.length ≤ 9223372036854775807) (hq9 : Q.length ≤ 9223372036854775807) (hd : ts.length ≤ d) (hd9 : d ≤ 9223372036854775807) (hts9 : ∀ t, t ∈ ts → t.1.length ≤ 9223372036854775807) (hdd : us.length ≤ dd) (hdd9 : dd ≤ 9223372036854775807) (hus9 : ∀ t, t ∈ us → t.1.length ≤ 9223372036854775807) (hlz : (R.length + Q.length) * 8 ≤ 140737488355328) : Calls Try.prog 16 #[.agg #[.slice A R.length c], .agg #[.slice E Q.length e], .slice B ts.length d, .slice D us.length dd] w (Gives w (.bool true)) := by
  have hdi : (ts.length : Int) ≤ 9223372036854775807 := by omega
  have hdi2 : (us.length : Int) ≤ 9223372036854775807 := by omega
  obtain ⟨j0, jh, jz, js, jb⟩ := info_parts info3
  go_enter Try.func16, Try.ntmps16
  go_upto_region 1 with fail
  have hW : Below w.heap.size w ((w.alloc (.cells #[.slice A R.length c] 24)).alloc (.cells #[.slice E Q.length e] 24)) := by (repeat (first | exact Below.refl _ _ | assumption | (refine below_gr ?_ (by (first | omega | (simp only [size_grow, World.size_alloc, size_drewN, size_drew, size_setCell] at *; omega))) _) | (refine below_alloc ?_ (by (first | omega | (simp only [size_grow, World.size_alloc, size_drewN, size_drew, size_setCell] at *; omega))) _) | (refine Below.setCell ?_ (by (first | omega | (simp only [size_grow, World.size_alloc, size_drewN, size_drew, size_setCell] at *; omega))) _) | refine below_drewN ?_ _ | refine below_drew ?_ | (refine below_step ?_ (by assumption) (by (first | omega | (simp only [size_grow, World.size_alloc, size_drewN, size_drew, size_setCell] at *; omega))))))
  have hX : BlkAt ((w.alloc (.cells #[.slice A R.length c] 24)).alloc (.cells #[.slice E Q.length e] 24)) w.heap.size #[.slice A R.length c] 24 := heap_a _ _ _
  have hX2 : BlkAt ((w.alloc (.cells #[.slice A R.length c] 24)).alloc (.cells #[.slice E Q.length e] 24)) (w.heap.size + 1) #[.slice E Q.length e] 24 := heap_b _ _ _
  obtain ⟨wa, hwa⟩ : ∃ wa, ((w.alloc (.cells #[.slice A R.length c] 24)).alloc (.cells #[.slice E Q.length e] 24)) = wa := ⟨_, rfl⟩
  rw [hwa] at hW hX hX2 ⊢
  clear hwa
  replace hA := hA.ext hW
  replace hE := hE.ext hW
  replace hB := hB.ext hW
  replace hD := hD.ext hW
  (try clear hXc0 hXf hXl)
  have hXc0 := obj_at hX 0 _ rfl
  have hXf := obj_fz hX 0
  have hXl := obj_lt hX
  (try clear hX2c0 hX2f hX2l)
  have hX2c0 := obj_at hX2 0 _ rfl
  have hX2f := obj_fz hX2 0
  have hX2l := obj_lt hX2
  go_cut [9] from 26 to 33 (fun sx wx => ∃ (blk : Nat) (C : Option Addr) (c3 : Nat), sx = .pointer (some ⟨blk, 0, none⟩) ∧ BlkAt wx blk #[.slice C (R.length + Q.length) c3] 24 ∧ I64 wx C (R ++ Q) ∧ wa.heap.size ≤ blk ∧ Below wa.heap.size wa wx)
  case first =>
    as_aux_lemma =>
    refine wp_region_noPanic ?_
    refine wp_region_held_drew (S := fun w' => Below wa.heap.size wa w') (by kernel_rfl) ?_ (fun _ => ?_)
    · exact below_drew (Below.refl _ _)
    have hP : Below wa.heap.size wa wa.drew := below_drew (Below.refl _ _)
    have hZ : wa.heap.size ≤ wa.drew.heap.size := Nat.le_refl _
    obtain ⟨W0, hW0⟩ : ∃ W0, wa.drew = W0 := ⟨_, rfl⟩
    rw [hW0] at hP hZ ⊢
    clear hW0
    refine wpAnyH_take (i := 1) (v := ?_) rfl (by kernel_rfl) (by kernel_rfl) (by kernel_rfl) (fun _ _ _ h => h) (Or.inl ⟨by rfl, ?_⟩) hP ?_
    rotate_left
    · (intro ww hSw; go_simp; try with_reducible rfl)
    (try simp only [Act.put, List.getElem_toArray, List.getElem_cons_zero, List.getElem_cons_succ, List.setIfInBounds_toArray, List.set_cons_zero, List.set_cons_succ])
    refine wpAnyH_take (i := 2) (v := ?_) rfl (by kernel_rfl) (by kernel_rfl) (by kernel_rfl) (fun _ _ _ h => h) (Or.inl ⟨by rfl, ?_⟩) hP ?_
    rotate_left
    · (intro ww hSw; have g0 := (hSw.cell (p := ⟨w.heap.size, 0, none⟩) hXl).trans hXc0; go_simp; try with_reducible rfl)
    (try simp only [Act.put, List.getElem_toArray, List.getElem_cons_zero, List.getElem_cons_succ, List.setIfInBounds_toArray, List.set_cons_zero, List.set_cons_succ])
    refine wpAnyH_take (i := 4) (v := ?_) rfl (by kernel_rfl) (by kernel_rfl) (by kernel_rfl) (fun _ _ _ h => h) (Or.inl ⟨by rfl, ?_⟩) hP ?_
    rotate_left
    · (intro ww hSw; go_simp; try with_reducible rfl)
    (try simp only [Act.put, List.getElem_toArray, List.getElem_cons_zero, List.getElem_cons_succ, List.setIfInBounds_toArray, List.set_cons_zero, List.set_cons_succ])
    refine wpAnyH_take (i := 5) (v := ?_) rfl (by kernel_rfl) (by kernel_rfl) (by kernel_rfl) (fun _ _ _ h => h) (Or.inl ⟨by rfl, ?_⟩) hP ?_
    rotate_left
    · (intro ww hSw; have g1 := (hSw.cell (p := ⟨w.heap.size + 1, 0, none⟩) hX2l).trans hX2c0; go_simp; try with_reducible rfl)
    (try simp only [Act.put, List.getElem_toArray, List.getElem_cons_zero, List.getElem_cons_succ, List.setIfInBounds_toArray, List.set_cons_zero, List.set_cons_succ])
    refine wpAnyH_ready (rs := [0, 8]) (by kernel_rfl) (by simp) ?_
    refine AllReadyH.cons rfl ?_ ?_
    · intro K' hK
      rw [if_pos (by rfl)]
      go_simp
      have hP2 := below_alloc hP hZ (.cells #[] 3)
      refine hK.out _ _ hP2 (fun _ => ?_)
      clear hK K'
      (try simp only [Act.put, List.getElem_toArray, List.getElem_cons_zero, List.getElem_cons_succ, List.setIfInBounds_toArray, List.set_cons_zero, List.set_cons_succ])
      have hO : (W0.alloc (.cells #[] 3)).ownsRow wa.heap.size 3 1 (.slice (some ⟨W0.heap.size, 0, none⟩) 0 0) 0 [] := own_lit0 (heap_alloc_new W0 _) hZ
      replace hZ : wa.heap.size ≤ (W0.alloc (.cells #[] 3)).heap.size := by rw [World.size_alloc]; omega
      clear hP
      have hP := hP2
      clear hP2
      obtain ⟨W1, hWe⟩ : ∃ W1, (W0.alloc (.cells #[] 3)) = W1 := ⟨_, rfl⟩
      rw [hWe] at hP hZ hO ⊢
      clear hWe
      refine wpAnyH_ready (rs := [3, 8]) (by kernel_rfl) (by simp) ?_
      refine AllReadyH.cons rfl ?_ ?_
      · intro K' hK
        refine step_appN W1 rfl (.tmp 26) (.tmp 28) 22 rfl wa.heap.size 3 j0 _ 1 8 und22 jh jz js jb rfl (by decide) _ (0) ([]) rfl hO A (R.length) c ((R.map (Value.int .i64))) rfl (i64_rd (hA.ext hP)) (one_i64 _) (by unfold maxLen; omega) (by omega) hZ ?_
        intro A2 c2 W2 hO2 hg2 hf2
        rw [Nat.zero_add R.length, List.nil_append] at hO2
        rw [Nat.zero_add R.length] at hf2 ⊢
        have hP2 := gb_below hP hg2 hZ (fun g hg => (hO.lt g hg).1)
        have hZ2 := Nat.le_trans hZ hg2.size
        refine hK.out _ _ hP2 (fun _ => ?_)
        clear hK K'
        (try simp only [Act.put, List.getElem_toArray, List.getElem_cons_zero, List.getElem_cons_succ, List.setIfInBounds_toArray, List.set_cons_zero, List.set_cons_succ])
        clear hO hP hZ hg2 hf2
        have hO := hO2
        have hP := hP2
        have hZ := hZ2
        clear hO2 hP2 hZ2
        refine wpAnyH_ready (rs := [6, 8]) (by kernel_rfl) (by simp) ?_
        refine AllReadyH.cons rfl ?_ ?_
        · intro K' hK
          refine step_appN W2 rfl (.tmp 29) (.tmp 31) 22 rfl wa.heap.size 3 j0 _ 1 8 und22 jh jz js jb rfl (by decide) _ (R.length) ((R.map (Value.int .i64))) rfl hO E (Q.length) e ((Q.map (Value.int .i64))) rfl (i64_rd (hE.ext hP)) (one_i64 _) (by unfold maxLen; omega) (by omega) hZ ?_
          intro A3 c3 W3 hO2 hg2 hf2
          have hP2 := gb_below hP hg2 hZ (fun g hg => (hO.lt g hg).1)
          have hZ2 := Nat.le_trans hZ hg2.size
          refine hK.out _ _ hP2 (fun _ => ?_)
          clear hK K'
          (try simp only [Act.put, List.getElem_toArray, List.getElem_cons_zero, List.getElem_cons_succ, List.setIfInBounds_toArray, List.set_cons_zero, List.set_cons_succ])
          clear hO hP hZ hg2 hf2
          have hO := hO2
          have hP := hP2
          have hZ := hZ2
          clear hO2 hP2 hZ2
          refine wpAnyH_take (i := 7) (v := ?_) rfl (by kernel_rfl) (by kernel_rfl) (by kernel_rfl) (fun _ _ _ h => h) (Or.inl ⟨by rfl, ?_⟩) hP ?_
          rotate_left
          · (intro ww hSw; go_simp; try with_reducible rfl)
          (try simp only [Act.put, List.getElem_toArray, List.getElem_cons_zero, List.getElem_cons_succ, List.setIfInBounds_toArray, List.set_cons_zero, List.set_cons_succ])
          refine wpAnyH_ready (rs := [8]) (by kernel_rfl) (by simp) ?_
          refine AllReadyH.cons rfl ?_ ?_
          · intro K' hK
            rw [if_pos (by rfl)]
            go_simp
            have hP2 := below_alloc hP hZ (.cells #[.slice none 0 0] 24)
            refine hK.out _ _ hP2 (fun _ => ?_)
            clear hK K'
            (try simp only [Act.put, List.getElem_toArray, List.getElem_cons_zero, List.getElem_cons_succ, List.setIfInBounds_toArray, List.set_cons_zero, List.set_cons_succ])
            have hs_B := Side.fresh hZ hO #[.slice none 0 0] 24
            replace hO := hO.alloc (.cells #[.slice none 0 0] 24)
            replace hZ : wa.heap.size ≤ (W3.alloc (.cells #[.slice none 0 0] 24)).heap.size := by rw [World.size_alloc]; omega
            clear hP
            have hP := hP2
            clear hP2
            obtain ⟨W4, hWe⟩ : ∃ W4, (W3.alloc (.cells #[.slice none 0 0] 24)) = W4 := ⟨_, rfl⟩
            rw [hWe] at hP hZ hO hs_B ⊢
            clear hWe
            refine wpAnyH_ready (rs := [9]) (by kernel_rfl) (by simp) ?_
            refine AllReadyH.cons rfl ?_ ?_
            · intro K' hK
              rw [if_pos (by rfl)]
              have c0 := obj_at hs_B.2.2.1 0 _ rfl
              have f0 := obj_fz hs_B.2.2.1 0
              go_simp
              refine hK.out _ _ (Below.setCell (p := ⟨W3.heap.size, 0, none⟩) hP hs_B.1 _) (fun _ => ?_)
              clear hK K'
              (try simp only [Act.put, List.getElem_toArray, List.getElem_cons_zero, List.getElem_cons_succ, List.setIfInBounds_toArray, List.set_cons_zero, List.set_cons_succ])
              refine wpAnyH_done (by kernel_rfl) ?_ _
              refine NoPanic.normal ?_
              have hO4 := own_setFar hO hs_B.2.2.2 0 (.slice A3 (R.length + Q.length) c3)
              rw [← List.map_append] at hO4
              have hI4 := (own_i64 (xs := R ++ Q) (c := c3) (by rw [List.length_append]; exact hO4)).1
              go_wp2_with fail
              go_meet
              exact ⟨_, A3, c3, rfl, set_obj hs_B.2.2.1 0 _, hI4, hs_B.1, Below.setCell hP hs_B.1 _⟩
            exact AllReadyH.nil
          exact AllReadyH.nil
        refine AllReadyH.cons rfl ?_ ?_
        · intro K' hK
          rw [if_pos (by rfl)]
          go_simp
          have hP2 := below_alloc hP hZ (.cells #[.slice none 0 0] 24)
          refine hK.out _ _ hP2 (fun _ => ?_)
          clear hK K'
          (try simp only [Act.put, List.getElem_toArray, List.getElem_cons_zero, List.getElem_cons_succ, List.setIfInBounds_toArray, List.set_cons_zero, List.set_cons_succ])
          have hs_B := Side.fresh hZ hO #[.slice none 0 0] 24
          replace hO := hO.alloc (.cells #[.slice none 0 0] 24)
          replace hZ : wa.heap.size ≤ (W2.alloc (.cells #[.slice none 0 0] 24)).heap.size := by rw [World.size_alloc]; omega
          clear hP
          have hP := hP2
          clear hP2
          obtain ⟨W6, hWe⟩ : ∃ W6, (W2.alloc (.cells #[.slice none 0 0] 24)) = W6 := ⟨_, rfl⟩
          rw [hWe] at hP hZ hO hs_B ⊢
          clear hWe
          refine wpAnyH_ready (rs := [6]) (by kernel_rfl) (by simp) ?_
          refine AllReadyH.cons rfl ?_ ?_
          · intro K' hK
            refine step_appN W6 rfl (.tmp 29) (.tmp 31) 22 rfl wa.heap.size 3 j0 _ 1 8 und22 jh jz js jb rfl (by decide) _ (R.length) ((R.map (Value.int .i64))) rfl hO E (Q.length) e ((Q.map (Value.int .i64))) rfl (i64_rd (hE.ext hP)) (one_i64 _) (by unfold maxLen; omega) (by omega) hZ ?_
            intro A3 c3 W7 hO2 hg2 hf2
            have hP2 := gb_below hP hg2 hZ (fun g hg => (hO.lt g hg).1)
            have hZ2 := Nat.le_trans hZ hg2.size
            refine hK.out _ _ hP2 (fun _ => ?_)
            clear hK K'
            (try simp only [Act.put, List.getElem_toArray, List.getElem_cons_zero, List.getElem_cons_succ, List.setIfInBounds_toArray, List.set_cons_zero, List.set_cons_succ])
            replace hs_B := hs_B.grown hg2 hf2
            clear hO hP hZ hg2 hf2
            have hO := hO2
            have hP := hP2
            have hZ := hZ2
            clear hO2 hP2 hZ2
            refine wpAnyH_take (i := 7) (v := ?_) rfl (by kernel_rfl) (by kernel_rfl) (by kernel_rfl) (fun _ _ _ h => h) (Or.inl ⟨by rfl, ?_⟩) hP ?_
            rotate_left
            · (intro ww hSw; go_simp; try with_reducible rfl)
            (try simp only [Act.put, List.getElem_toArray, List.getElem_cons_zero, List.getElem_cons_succ, List.setIfInBounds_toArray, List.set_cons_zero, List.set_cons_succ])
            refine wpAnyH_ready (rs := [9]) (by kernel_rfl) (by simp) ?_
            refine AllReadyH.cons rfl ?_ ?_
            · intro K' hK
              rw [if_pos (by rfl)]
              have c0 := obj_at hs_B.2.2.1 0 _ rfl
              have f0 := obj_fz hs_B.2.2.1 0
              go_simp
              refine hK.out _ _ (Below.setCell (p := ⟨W2.heap.size, 0, none⟩) hP hs_B.1 _) (fun _ => ?_)
              clear hK K'
              (try simp only [Act.put, List.getElem_toArray, List.getElem_cons_zero, List.getElem_cons_succ, List.setIfInBounds_toArray, List.set_cons_zero, List.set_cons_succ])
              refine wpAnyH_done (by kernel_rfl) ?_ _
              refine NoPanic.normal ?_
              have hO4 := own_setFar hO hs_B.2.2.2 0 (.slice A3 (R.length + Q.length) c3)
              rw [← List.map_append] at hO4
              have hI4 := (own_i64 (xs := R ++ Q) (c := c3) (by rw [List.length_append]; exact hO4)).1
              go_wp2_with fail
              go_meet
              exact ⟨_, A3, c3, rfl, set_obj hs_B.2.2.1 0 _, hI4, hs_B.1, Below.setCell hP hs_B.1 _⟩
            exact AllReadyH.nil
          exact AllReadyH.nil
        exact AllReadyH.nil
      refine AllReadyH.cons rfl ?_ ?_
      · intro K' hK
        rw [if_pos (by rfl)]
        go_simp
        have hP2 := below_alloc hP hZ (.cells #[.slice none 0 0] 24)
        refine hK.out _ _ hP2 (fun _ => ?_)
        clear hK K'
        (try simp only [Act.put, List.getElem_toArray, List.getElem_cons_zero, List.getElem_cons_succ, List.setIfInBounds_toArray, List.set_cons_zero, List.set_cons_succ])
        have hs_B := Side.fresh hZ hO #[.slice none 0 0] 24
        replace hO := hO.alloc (.cells #[.slice none 0 0] 24)
        replace hZ : wa.heap.size ≤ (W1.alloc (.cells #[.slice none 0 0] 24)).heap.size := by rw [World.size_alloc]; omega
        clear hP
        have hP := hP2
        clear hP2
        obtain ⟨W9, hWe⟩ : ∃ W9, (W1.alloc (.cells #[.slice none 0 0] 24)) = W9 := ⟨_, rfl⟩
        rw [hWe] at hP hZ hO hs_B ⊢
        clear hWe
        refine wpAnyH_ready (rs := [3]) (by kernel_rfl) (by simp) ?_
        refine AllReadyH.cons rfl ?_ ?_
        · intro K' hK
          refine step_appN W9 rfl (.tmp 26) (.tmp 28) 22 rfl wa.heap.size 3 j0 _ 1 8 und22 jh jz js jb rfl (by decide) _ (0) ([]) rfl hO A (R.length) c ((R.map (Value.int .i64))) rfl (i64_rd (hA.ext hP)) (one_i64 _) (by unfold maxLen; omega) (by omega) hZ ?_
          intro A2 c2 W10 hO2 hg2 hf2
          rw [Nat.zero_add R.length, List.nil_append] at hO2
          rw [Nat.zero_add R.length] at hf2 ⊢
          have hP2 := gb_below hP hg2 hZ (fun g hg => (hO.lt g hg).1)
          have hZ2 := Nat.le_trans hZ hg2.size
          refine hK.out _ _ hP2 (fun _ => ?_)
          clear hK K'
          (try simp only [Act.put, List.getElem_toArray, List.getElem_cons_zero, List.getElem_cons_succ, List.setIfInBounds_toArray, List.set_cons_zero, List.set_cons_succ])
          replace hs_B := hs_B.grown hg2 hf2
          clear hO hP hZ hg2 hf2
          have hO := hO2
          have hP := hP2
          have hZ := hZ2
          clear hO2 hP2 hZ2
          refine wpAnyH_ready (rs := [6]) (by kernel_rfl) (by simp) ?_
          refine AllReadyH.cons rfl ?_ ?_
          · intro K' hK
            refine step_appN W10 rfl (.tmp 29) (.tmp 31) 22 rfl wa.heap.size 3 j0 _ 1 8 und22 jh jz js jb rfl (by decide) _ (R.length) ((R.map (Value.int .i64))) rfl hO E (Q.length) e ((Q.map (Value.int .i64))) rfl (i64_rd (hE.ext hP)) (one_i64 _) (by unfold maxLen; omega) (by omega) hZ ?_
            intro A3 c3 W11 hO2 hg2 hf2
            have hP2 := gb_below hP hg2 hZ (fun g hg => (hO.lt g hg).1)
            have hZ2 := Nat.le_trans hZ hg2.size
            refine hK.out _ _ hP2 (fun _ => ?_)
            clear hK K'
            (try simp only [Act.put, List.getElem_toArray, List.getElem_cons_zero, List.getElem_cons_succ, List.setIfInBounds_toArray, List.set_cons_zero, List.set_cons_succ])
            replace hs_B := hs_B.grown hg2 hf2
            clear hO hP hZ hg2 hf2
            have hO := hO2
            have hP := hP2
            have hZ := hZ2
            clear hO2 hP2 hZ2
            refine wpAnyH_take (i := 7) (v := ?_) rfl (by kernel_rfl) (by kernel_rfl) (by kernel_rfl) (fun _ _ _ h => h) (Or.inl ⟨by rfl, ?_⟩) hP ?_
            rotate_left
            · (intro ww hSw; go_simp; try with_reducible rfl)
            (try simp only [Act.put, List.getElem_toArray, List.getElem_cons_zero, List.getElem_cons_succ, List.setIfInBounds_toArray, List.set_cons_zero, List.set_cons_succ])
            refine wpAnyH_ready (rs := [9]) (by kernel_rfl) (by simp) ?_
            refine AllReadyH.cons rfl ?_ ?_
            · intro K' hK
              rw [if_pos (by rfl)]
              have c0 := obj_at hs_B.2.2.1 0 _ rfl
              have f0 := obj_fz hs_B.2.2.1 0
              go_simp
              refine hK.out _ _ (Below.setCell (p := ⟨W1.heap.size, 0, none⟩) hP hs_B.1 _) (fun _ => ?_)
              clear hK K'
              (try simp only [Act.put, List.getElem_toArray, List.getElem_cons_zero, List.getElem_cons_succ, List.setIfInBounds_toArray, List.set_cons_zero, List.set_cons_succ])
              refine wpAnyH_done (by kernel_rfl) ?_ _
              refine NoPanic.normal ?_
              have hO4 := own_setFar hO hs_B.2.2.2 0 (.slice A3 (R.length + Q.length) c3)
              rw [← List.map_append] at hO4
              have hI4 := (own_i64 (xs := R ++ Q) (c := c3) (by rw [List.length_append]; exact hO4)).1
              go_wp2_with fail
              go_meet
              exact ⟨_, A3, c3, rfl, set_obj hs_B.2.2.1 0 _, hI4, hs_B.1, Below.setCell hP hs_B.1 _⟩
            exact AllReadyH.nil
          exact AllReadyH.nil
        exact AllReadyH.nil
      exact AllReadyH.nil
    refine AllReadyH.cons rfl ?_ ?_
    · intro K' hK
      rw [if_pos (by rfl)]
      go_simp
      have hP2 := below_alloc hP hZ (.cells #[.slice none 0 0] 24)
      refine hK.out _ _ hP2 (fun _ => ?_)
      clear hK K'
      (try simp only [Act.put, List.getElem_toArray, List.getElem_cons_zero, List.getElem_cons_succ, List.setIfInBounds_toArray, List.set_cons_zero, List.set_cons_succ])
      have hs_B := Side.fresh0 (W := W0) hZ #[.slice none 0 0] 24
      replace hZ : wa.heap.size ≤ (W0.alloc (.cells #[.slice none 0 0] 24)).heap.size := by rw [World.size_alloc]; omega
      clear hP
      have hP := hP2
      clear hP2
      obtain ⟨W13, hWe⟩ : ∃ W13, (W0.alloc (.cells #[.slice none 0 0] 24)) = W13 := ⟨_, rfl⟩
      rw [hWe] at hP hZ hs_B ⊢
      clear hWe
      refine wpAnyH_ready (rs := [0]) (by kernel_rfl) (by simp) ?_
      refine AllReadyH.cons rfl ?_ ?_
      · intro K' hK
        rw [if_pos (by rfl)]
        go_simp
        have hP2 := below_alloc hP hZ (.cells #[] 3)
        refine hK.out _ _ hP2 (fun _ => ?_)
        clear hK K'
        (try simp only [Act.put, List.getElem_toArray, List.getElem_cons_zero, List.getElem_cons_succ, List.setIfInBounds_toArray, List.set_cons_zero, List.set_cons_succ])
        replace hs_B := hs_B.lit (.cells #[] 3)
        have hO : (W13.alloc (.cells #[] 3)).ownsRow wa.heap.size 3 1 (.slice (some ⟨W13.heap.size, 0, none⟩) 0 0) 0 [] := own_lit0 (heap_alloc_new W13 _) hZ
        replace hZ : wa.heap.size ≤ (W13.alloc (.cells #[] 3)).heap.size := by rw [World.size_alloc]; omega
        clear hP
        have hP := hP2
        clear hP2
        obtain ⟨W14, hWe⟩ : ∃ W14, (W13.alloc (.cells #[] 3)) = W14 := ⟨_, rfl⟩
        rw [hWe] at hP hZ hO hs_B ⊢
        clear hWe
        refine wpAnyH_ready (rs := [3]) (by kernel_rfl) (by simp) ?_
        refine AllReadyH.cons rfl ?_ ?_
        · intro K' hK
          refine step_appN W14 rfl (.tmp 26) (.tmp 28) 22 rfl wa.heap.size 3 j0 _ 1 8 und22 jh jz js jb rfl (by decide) _ (0) ([]) rfl hO A (R.length) c ((R.map (Value.int .i64))) rfl (i64_rd (hA.ext hP)) (one_i64 _) (by unfold maxLen; omega) (by omega) hZ ?_
          intro A2 c2 W15 hO2 hg2 hf2
          rw [Nat.zero_add R.length, List.nil_append] at hO2
          rw [Nat.zero_add R.length] at hf2 ⊢
          have hP2 := gb_below hP hg2 hZ (fun g hg => (hO.lt g hg).1)
          have hZ2 := Nat.le_trans hZ hg2.size
          refine hK.out _ _ hP2 (fun _ => ?_)
          clear hK K'
          (try simp only [Act.put, List.getElem_toArray, List.getElem_cons_zero, List.getElem_cons_succ, List.setIfInBounds_toArray, List.set_cons_zero, List.set_cons_succ])
          replace hs_B := hs_B.grown hg2 hf2
          clear hO hP hZ hg2 hf2
          have hO := hO2
          have hP := hP2
          have hZ := hZ2
          clear hO2 hP2 hZ2
          refine wpAnyH_ready (rs := [6]) (by kernel_rfl) (by simp) ?_
          refine AllReadyH.cons rfl ?_ ?_
          · intro K' hK
            refine step_appN W15 rfl (.tmp 29) (.tmp 31) 22 rfl wa.heap.size 3 j0 _ 1 8 und22 jh jz js jb rfl (by decide) _ (R.length) ((R.map (Value.int .i64))) rfl hO E (Q.length) e ((Q.map (Value.int .i64))) rfl (i64_rd (hE.ext hP)) (one_i64 _) (by unfold maxLen; omega) (by omega) hZ ?_
            intro A3 c3 W16 hO2 hg2 hf2
            have hP2 := gb_below hP hg2 hZ (fun g hg => (hO.lt g hg).1)
            have hZ2 := Nat.le_trans hZ hg2.size
            refine hK.out _ _ hP2 (fun _ => ?_)
            clear hK K'
            (try simp only [Act.put, List.getElem_toArray, List.getElem_cons_zero, List.getElem_cons_succ, List.setIfInBounds_toArray, List.set_cons_zero, List.set_cons_succ])
            replace hs_B := hs_B.grown hg2 hf2
            clear hO hP hZ hg2 hf2
            have hO := hO2
            have hP := hP2
            have hZ := hZ2
            clear hO2 hP2 hZ2
            refine wpAnyH_take (i := 7) (v := ?_) rfl (by kernel_rfl) (by kernel_rfl) (by kernel_rfl) (fun _ _ _ h => h) (Or.inl ⟨by rfl, ?_⟩) hP ?_
            rotate_left
            · (intro ww hSw; go_simp; try with_reducible rfl)
            (try simp only [Act.put, List.getElem_toArray, List.getElem_cons_zero, List.getElem_cons_succ, List.setIfInBounds_toArray, List.set_cons_zero, List.set_cons_succ])
            refine wpAnyH_ready (rs := [9]) (by kernel_rfl) (by simp) ?_
            refine AllReadyH.cons rfl ?_ ?_
            · intro K' hK
              rw [if_pos (by rfl)]
              have c0 := obj_at hs_B.2.2.1 0 _ rfl
              have f0 := obj_fz hs_B.2.2.1 0
              go_simp
              refine hK.out _ _ (Below.setCell (p := ⟨W0.heap.size, 0, none⟩) hP hs_B.1 _) (fun _ => ?_)
              clear hK K'
              (try simp only [Act.put, List.getElem_toArray, List.getElem_cons_zero, List.getElem_cons_succ, List.setIfInBounds_toArray, List.set_cons_zero, List.set_cons_succ])
              refine wpAnyH_done (by kernel_rfl) ?_ _
              refine NoPanic.normal ?_
              have hO4 := own_setFar hO hs_B.2.2.2 0 (.slice A3 (R.length + Q.length) c3)
              rw [← List.map_append] at hO4
              have hI4 := (own_i64 (xs := R ++ Q) (c := c3) (by rw [List.length_append]; exact hO4)).1
              go_wp2_with fail
              go_meet
              exact ⟨_, A3, c3, rfl, set_obj hs_B.2.2.1 0 _, hI4, hs_B.1, Below.setCell hP hs_B.1 _⟩
            exact AllReadyH.nil
          exact AllReadyH.nil
        exact AllReadyH.nil
      exact AllReadyH.nil
    exact AllReadyH.nil
  case rest =>
    obtain ⟨blk, C, c3, rfl, hK, hC, hblk, hbc⟩ := hcut
    obtain ⟨v2, hv2⟩ : ∃ v, v = wc := ⟨_, rfl⟩
    rw [← hv2] at hK hC hbc ⊢
    clear hv2 j0 jh jz js jb
    replace hX := hX.ext hbc
    replace hX2 := hX2.ext hbc
    replace hA := hA.ext hbc
    replace hE := hE.ext hbc
    replace hB := hB.ext hbc
    replace hD := hD.ext hbc
    replace hW := below_step hW hbc (by have := hW.size; omega)
    clear hbc
    (try clear hXc0 hXf hXl)
    have hXc0 := obj_at hX 0 _ rfl
    have hXf := obj_fz hX 0
    have hXl := obj_lt hX
    (try clear hX2c0 hX2f hX2l)
    have hX2c0 := obj_at hX2 0 _ rfl
    have hX2f := obj_fz hX2 0
    have hX2l := obj_lt hX2
    (try clear hKc0 hKf hKl)
    have hKc0 := obj_at hK 0 _ rfl
    have hKf := obj_fz hK 0
    have hKl := obj_lt hK
    have HF := hide (fun w' (h1 : I64 w' A R) (h2 : Tks w' B ts) => fine_any A R c B ts d w' h1 h2 hl9 hd hd9 hts9)
    have HG := hide (fun w' (h1 : I64 w' E Q) (h2 : Tks w' D us) => fine_any E Q e D us dd w' h1 h2 hq9 hdd hdd9 hus9)
    have hrq : (R ++ Q).length = R.length + Q.length := List.length_append
    have HR := hide (fun w' (h1 : I64 w' C (R ++ Q)) => great_any C (R ++ Q) c3 w' h1 (by rw [hrq]; omega))
    rw [hrq] at HR
    cases hf : fineB R ts with
    | false =>
      rw [hf] at HF
      clear hrq
      have tok0 : True := trivial
      go_wp2_with (first
    | (clear tok0; go_at_call 45; refine (HF.out _ (hA.ext (by (repeat (first | exact Below.refl _ _ | assumption | (refine below_gr ?_ (by (first | omega | (simp only [size_grow, World.size_alloc, size_drewN, size_drew, size_setCell] at *; omega))) _) | (refine below_alloc ?_ (by (first | omega | (simp only [size_grow, World.size_alloc, size_drewN, size_drew, size_setCell] at *; omega))) _) | (refine Below.setCell ?_ (by (first | omega | (simp only [size_grow, World.size_alloc, size_drewN, size_drew, size_setCell] at *; omega))) _) | refine below_drewN ?_ _ | refine below_drew ?_ | (refine below_step ?_ (by assumption) (by (first | omega | (simp only [size_grow, World.size_alloc, size_drewN, size_drew, size_setCell] at *; omega)))))))) (hB.ext (by (repeat (first | exact Below.refl _ _ | assumption | (refine below_gr ?_ (by (first | omega | (simp only [size_grow, World.size_alloc, size_drewN, size_drew, size_setCell] at *; omega))) _) | (refine below_alloc ?_ (by (first | omega | (simp only [size_grow, World.size_alloc, size_drewN, size_drew, size_setCell] at *; omega))) _) | (refine Below.setCell ?_ (by (first | omega | (simp only [size_grow, World.size_alloc, size_drewN, size_drew, size_setCell] at *; omega))) _) | refine below_drewN ?_ _ | refine below_drew ?_ | (refine below_step ?_ (by assumption) (by (first | omega | (simp only [size_grow, World.size_alloc, size_drewN, size_drew, size_setCell] at *; omega))))))))).mono ?_; rintro e u1 ⟨rfl, hb_u1⟩; replace hb_u1 := ex_below hb_u1; have bel_u1 : Below v2.heap.size v2 u1 := (by (repeat (first | exact Below.refl _ _ | assumption | (refine below_gr ?_ (by (first | omega | (simp only [size_grow, World.size_alloc, size_drewN, size_drew, size_setCell] at *; omega))) _) | (refine below_alloc ?_ (by (first | omega | (simp only [size_grow, World.size_alloc, size_drewN, size_drew, size_setCell] at *; omega))) _) | (refine Below.setCell ?_ (by (first | omega | (simp only [size_grow, World.size_alloc, size_drewN, size_drew, size_setCell] at *; omega))) _) | refine below_drewN ?_ _ | refine below_drew ?_ | (refine below_step ?_ (by assumption) (by (first | omega | (simp only [size_grow, World.size_alloc, size_drewN, size_drew, size_setCell] at *; omega))))))); clear hb_u1; have sz_u1 := bel_u1.size; replace hX := hX.ext bel_u1; replace hX2 := hX2.ext bel_u1; replace hA := hA.ext bel_u1; replace hE := hE.ext bel_u1; replace hB := hB.ext bel_u1; replace hD := hD.ext bel_u1; replace hW := below_step hW bel_u1 (by have := hW.size; omega); replace hK := hK.ext bel_u1; replace hC := hC.ext bel_u1; (try clear hXc0 hXf hXl); have hXc0 := obj_at hX 0 _ rfl; have hXf := obj_fz hX 0; have hXl := obj_lt hX; (try clear hX2c0 hX2f hX2l); have hX2c0 := obj_at hX2 0 _ rfl; have hX2f := obj_fz hX2 0; have hX2l := obj_lt hX2; (try clear hKc0 hKf hKl); have hKc0 := obj_at hK 0 _ rfl; have hKf := obj_fz hK 0; have hKl := obj_lt hK; clear bel_u1; have tok1 : True := trivial)
    | (clear tok1; go_at_call 20; refine (works_any _).mono ?_; rintro e u2 ⟨rfl, hb_u2⟩; replace hb_u2 := ex_below hb_u2; have bel_u2 : Below u1.heap.size u1 u2 := (by (repeat (first | exact Below.refl _ _ | assumption | (refine below_gr ?_ (by (first | omega | (simp only [size_grow, World.size_alloc, size_drewN, size_drew, size_setCell] at *; omega))) _) | (refine below_alloc ?_ (by (first | omega | (simp only [size_grow, World.size_alloc, size_drewN, size_drew, size_setCell] at *; omega))) _) | (refine Below.setCell ?_ (by (first | omega | (simp only [size_grow, World.size_alloc, size_drewN, size_drew, size_setCell] at *; omega))) _) | refine below_drewN ?_ _ | refine below_drew ?_ | (refine below_step ?_ (by assumption) (by (first | omega | (simp only [size_grow, World.size_alloc, size_drewN, size_drew, size_setCell] at *; omega))))))); clear hb_u2; have sz_u2 := bel_u2.size; replace hX := hX.ext bel_u2; replace hX2 := hX2.ext bel_u2; replace hA := hA.ext bel_u2; replace hE := hE.ext bel_u2; replace hB := hB.ext bel_u2; replace hD := hD.ext bel_u2; replace hW := below_step hW bel_u2 (by have := hW.size; omega); replace hK := hK.ext bel_u2; replace hC := hC.ext bel_u2; (try clear hXc0 hXf hXl); have hXc0 := obj_at hX 0 _ rfl; have hXf := obj_fz hX 0; have hXl := obj_lt hX; (try clear hX2c0 hX2f hX2l); have hX2c0 := obj_at hX2 0 _ rfl; have hX2f := obj_fz hX2 0; have hX2l := obj_lt hX2; (try clear hKc0 hKf hKl); have hKc0 := obj_at hK 0 _ rfl; have hKf := obj_fz hK 0; have hKl := obj_lt hK; clear bel_u2; have tok2 : True := trivial))
      go_ret
      exact gives_of rfl hW
    | true =>
      rw [hf] at HF
      cases hf2 : fineB Q us with
      | false =>
        rw [hf2] at HG
        clear hrq
        have tok0 : True := trivial
        go_wp2_with (first
    | (clear tok0; go_at_call 45; refine (HF.out _ (hA.ext (by (repeat (first | exact Below.refl _ _ | assumption | (refine below_gr ?_ (by (first | omega | (simp only [size_grow, World.size_alloc, size_drewN, size_drew, size_setCell] at *; omega))) _) | (refine below_alloc ?_ (by (first | omega | (simp only [size_grow, World.size_alloc, size_drewN, size_drew, size_setCell] at *; omega))) _) | (refine Below.setCell ?_ (by (first | omega | (simp only [size_grow, World.size_alloc, size_drewN, size_drew, size_setCell] at *; omega))) _) | refine below_drewN ?_ _ | refine below_drew ?_ | (refine below_step ?_ (by assumption) (by (first | omega | (simp only [size_grow, World.size_alloc, size_drewN, size_drew, size_setCell] at *; omega)))))))) (hB.ext (by (repeat (first | exact Below.refl _ _ | assumption | (refine below_gr ?_ (by (first | omega | (simp only [size_grow, World.size_alloc, size_drewN, size_drew, size_setCell] at *; omega))) _) | (refine below_alloc ?_ (by (first | omega | (simp only [size_grow, World.size_alloc, size_drewN, size_drew, size_setCell] at *; omega))) _) | (refine Below.setCell ?_ (by (first | omega | (simp only [size_grow, World.size_alloc, size_drewN, size_drew, size_setCell] at *; omega))) _) | refine below_drewN ?_ _ | refine below_drew ?_ | (refine below_step ?_ (by assumption) (by (first | omega | (simp only [size_grow, World.size_alloc, size_drewN, size_drew, size_setCell] at *; omega))))))))).mono ?_; rintro e u1 ⟨rfl, hb_u1⟩; replace hb_u1 := ex_below hb_u1; have bel_u1 : Below v2.heap.size v2 u1 := (by (repeat (first | exact Below.refl _ _ | assumption | (refine below_gr ?_ (by (first | omega | (simp only [size_grow, World.size_alloc, size_drewN, size_drew, size_setCell] at *; omega))) _) | (refine below_alloc ?_ (by (first | omega | (simp only [size_grow, World.size_alloc, size_drewN, size_drew, size_setCell] at *; omega))) _) | (refine Below.setCell ?_ (by (first | omega | (simp only [size_grow, World.size_alloc, size_drewN, size_drew, size_setCell] at *; omega))) _) | refine below_drewN ?_ _ | refine below_drew ?_ | (refine below_step ?_ (by assumption) (by (first | omega | (simp only [size_grow, World.size_alloc, size_drewN, size_drew, size_setCell] at *; omega))))))); clear hb_u1; have sz_u1 := bel_u1.size; replace hX := hX.ext bel_u1; replace hX2 := hX2.ext bel_u1; replace hA := hA.ext bel_u1; replace hE := hE.ext bel_u1; replace hB := hB.ext bel_u1; replace hD := hD.ext bel_u1; replace hW := below_step hW bel_u1 (by have := hW.size; omega); replace hK := hK.ext bel_u1; replace hC := hC.ext bel_u1; (try clear hXc0 hXf hXl); have hXc0 := obj_at hX 0 _ rfl; have hXf := obj_fz hX 0; have hXl := obj_lt hX; (try clear hX2c0 hX2f hX2l); have hX2c0 := obj_at hX2 0 _ rfl; have hX2f := obj_fz hX2 0; have hX2l := obj_lt hX2; (try clear hKc0 hKf hKl); have hKc0 := obj_at hK 0 _ rfl; have hKf := obj_fz hK 0; have hKl := obj_lt hK; clear bel_u1; have tok1 : True := trivial)
    | (clear tok1; go_at_call 45; refine (HG.out _ (hE.ext (by (repeat (first | exact Below.refl _ _ | assumption | (refine below_gr ?_ (by (first | omega | (simp only [size_grow, World.size_alloc, size_drewN, size_drew, size_setCell] at *; omega))) _) | (refine below_alloc ?_ (by (first | omega | (simp only [size_grow, World.size_alloc, size_drewN, size_drew, size_setCell] at *; omega))) _) | (refine Below.setCell ?_ (by (first | omega | (simp only [size_grow, World.size_alloc, size_drewN, size_drew, size_setCell] at *; omega))) _) | refine below_drewN ?_ _ | refine below_drew ?_ | (refine below_step ?_ (by assumption) (by (first | omega | (simp only [size_grow, World.size_alloc, size_drewN, size_drew, size_setCell] at *; omega)))))))) (hD.ext (by (repeat (first | exact Below.refl _ _ | assumption | (refine below_gr ?_ (by (first | omega | (simp only [size_grow, World.size_alloc, size_drewN, size_drew, size_setCell] at *; omega))) _) | (refine below_alloc ?_ (by (first | omega | (simp only [size_grow, World.size_alloc, size_drewN, size_drew, size_setCell] at *; omega))) _) | (refine Below.setCell ?_ (by (first | omega | (simp only [size_grow, World.size_alloc, size_drewN, size_drew, size_setCell] at *; omega))) _) | refine below_drewN ?_ _ | refine below_drew ?_ | (refine below_step ?_ (by assumption) (by (first | omega | (simp only [size_grow, World.size_alloc, size_drewN, size_drew, size_setCell] at *; omega))))))))).mono ?_; rintro e u2 ⟨rfl, hb_u2⟩; replace hb_u2 := ex_below hb_u2; have bel_u2 : Below u1.heap.size u1 u2 := (by (repeat (first | exact Below.refl _ _ | assumption | (refine below_gr ?_ (by (first | omega | (simp only [size_grow, World.size_alloc, size_drewN, size_drew, size_setCell] at *; omega))) _) | (refine below_alloc ?_ (by (first | omega | (simp only [size_grow, World.size_alloc, size_drewN, size_drew, size_setCell] at *; omega))) _) | (refine Below.setCell ?_ (by (first | omega | (simp only [size_grow, World.size_alloc, size_drewN, size_drew, size_setCell] at *; omega))) _) | refine below_drewN ?_ _ | refine below_drew ?_ | (refine below_step ?_ (by assumption) (by (first | omega | (simp only [size_grow, World.size_alloc, size_drewN, size_drew, size_setCell] at *; omega))))))); clear hb_u2; have sz_u2 := bel_u2.size; replace hX := hX.ext bel_u2; replace hX2 := hX2.ext bel_u2; replace hA := hA.ext bel_u2; replace hE := hE.ext bel_u2; replace hB := hB.ext bel_u2; replace hD := hD.ext bel_u2; replace hW := below_step hW bel_u2 (by have := hW.size; omega); replace hK := hK.ext bel_u2; replace hC := hC.ext bel_u2; (try clear hXc0 hXf hXl); have hXc0 := obj_at hX 0 _ rfl; have hXf := obj_fz hX 0; have hXl := obj_lt hX; (try clear hX2c0 hX2f hX2l); have hX2c0 := obj_at hX2 0 _ rfl; have hX2f := obj_fz hX2 0; have hX2l := obj_lt hX2; (try clear hKc0 hKf hKl); have hKc0 := obj_at hK 0 _ rfl; have hKf := obj_fz hK 0; have hKl := obj_lt hK; clear bel_u2; have tok2 : True := trivial)
    | (clear tok2; go_at_call 20; refine (works_any _).mono ?_; rintro e u3 ⟨rfl, hb_u3⟩; replace hb_u3 := ex_below hb_u3; have bel_u3 : Below u2.heap.size u2 u3 := (by (repeat (first | exact Below.refl _ _ | assumption | (refine below_gr ?_ (by (first | omega | (simp only [size_grow, World.size_alloc, size_drewN, size_drew, size_setCell] at *; omega))) _) | (refine below_alloc ?_ (by (first | omega | (simp only [size_grow, World.size_alloc, size_drewN, size_drew, size_setCell] at *; omega))) _) | (refine Below.setCell ?_ (by (first | omega | (simp only [size_grow, World.size_alloc, size_drewN, size_drew, size_setCell] at *; omega))) _) | refine below_drewN ?_ _ | refine below_drew ?_ | (refine below_step ?_ (by assumption) (by (first | omega | (simp only [size_grow, World.size_alloc, size_drewN, size_drew, size_setCell] at *; omega))))))); clear hb_u3; have sz_u3 := bel_u3.size; replace hX := hX.ext bel_u3; replace hX2 := hX2.ext bel_u3; replace hA := hA.ext bel_u3; replace hE := hE.ext bel_u3; replace hB := hB.ext bel_u3; replace hD := hD.ext bel_u3; replace hW := below_step hW bel_u3 (by have := hW.size; omega); replace hK := hK.ext bel_u3; replace hC := hC.ext bel_u3; (try clear hXc0 hXf hXl); have hXc0 := obj_at hX 0 _ rfl; have hXf := obj_fz hX 0; have hXl := obj_lt hX; (try clear hX2c0 hX2f hX2l); have hX2c0 := obj_at hX2 0 _ rfl; have hX2f := obj_fz hX2 0; have hX2l := obj_lt hX2; (try clear hKc0 hKf hKl); have hKc0 := obj_at hK 0 _ rfl; have hKf := obj_fz hK 0; have hKl := obj_lt hK; clear bel_u3; have tok3 : True := trivial))
        go_ret
        exact gives_of rfl hW
      | true =>
        rw [hf2] at HG
        cases hg : greatB (R ++ Q) with
        | true =>
          rw [hg] at HR
          clear hrq
          have tok0 : True := trivial
          go_wp2_with (first
    | (clear tok0; go_at_call 45; refine (HF.out _ (hA.ext (by (repeat (first | exact Below.refl _ _ | assumption | (refine below_gr ?_ (by (first | omega | (simp only [size_grow, World.size_alloc, size_drewN, size_drew, size_setCell] at *; omega))) _) | (refine below_alloc ?_ (by (first | omega | (simp only [size_grow, World.size_alloc, size_drewN, size_drew, size_setCell] at *; omega))) _) | (refine Below.setCell ?_ (by (first | omega | (simp only [size_grow, World.size_alloc, size_drewN, size_drew, size_setCell] at *; omega))) _) | refine below_drewN ?_ _ | refine below_drew ?_ | (refine below_step ?_ (by assumption) (by (first | omega | (simp only [size_grow, World.size_alloc, size_drewN, size_drew, size_setCell] at *; omega)))))))) (hB.ext (by (repeat (first | exact Below.refl _ _ | assumption | (refine below_gr ?_ (by (first | omega | (simp only [size_grow, World.size_alloc, size_drewN, size_drew, size_setCell] at *; omega))) _) | (refine below_alloc ?_ (by (first | omega | (simp only [size_grow, World.size_alloc, size_drewN, size_drew, size_setCell] at *; omega))) _) | (refine Below.setCell ?_ (by (first | omega | (simp only [size_grow, World.size_alloc, size_drewN, size_drew, size_setCell] at *; omega))) _) | refine below_drewN ?_ _ | refine below_drew ?_ | (refine below_step ?_ (by assumption) (by (first | omega | (simp only [size_grow, World.size_alloc, size_drewN, size_drew, size_setCell] at *; omega))))))))).mono ?_; rintro e u1 ⟨rfl, hb_u1⟩; replace hb_u1 := ex_below hb_u1; have bel_u1 : Below v2.heap.size v2 u1 := (by (repeat (first | exact Below.refl _ _ | assumption | (refine below_gr ?_ (by (first | omega | (simp only [size_grow, World.size_alloc, size_drewN, size_drew, size_setCell] at *; omega))) _) | (refine below_alloc ?_ (by (first | omega | (simp only [size_grow, World.size_alloc, size_drewN, size_drew, size_setCell] at *; omega))) _) | (refine Below.setCell ?_ (by (first | omega | (simp only [size_grow, World.size_alloc, size_drewN, size_drew, size_setCell] at *; omega))) _) | refine below_drewN ?_ _ | refine below_drew ?_ | (refine below_step ?_ (by assumption) (by (first | omega | (simp only [size_grow, World.size_alloc, size_drewN, size_drew, size_setCell] at *; omega))))))); clear hb_u1; have sz_u1 := bel_u1.size; replace hX := hX.ext bel_u1; replace hX2 := hX2.ext bel_u1; replace hA := hA.ext bel_u1; replace hE := hE.ext bel_u1; replace hB := hB.ext bel_u1; replace hD := hD.ext bel_u1; replace hW := below_step hW bel_u1 (by have := hW.size; omega); replace hK := hK.ext bel_u1; replace hC := hC.ext bel_u1; (try clear hXc0 hXf hXl); have hXc0 := obj_at hX 0 _ rfl; have hXf := obj_fz hX 0; have hXl := obj_lt hX; (try clear hX2c0 hX2f hX2l); have hX2c0 := obj_at hX2 0 _ rfl; have hX2f := obj_fz hX2 0; have hX2l := obj_lt hX2; (try clear hKc0 hKf hKl); have hKc0 := obj_at hK 0 _ rfl; have hKf := obj_fz hK 0; have hKl := obj_lt hK; clear bel_u1; have tok1 : True := trivial)
    | (clear tok1; go_at_call 45; refine (HG.out _ (hE.ext (by (repeat (first | exact Below.refl _ _ | assumption | (refine below_gr ?_ (by (first | omega | (simp only [size_grow, World.size_alloc, size_drewN, size_drew, size_setCell] at *; omega))) _) | (refine below_alloc ?_ (by (first | omega | (simp only [size_grow, World.size_alloc, size_drewN, size_drew, size_setCell] at *; omega))) _) | (refine Below.setCell ?_ (by (first | omega | (simp only [size_grow, World.size_alloc, size_drewN, size_drew, size_setCell] at *; omega))) _) | refine below_drewN ?_ _ | refine below_drew ?_ | (refine below_step ?_ (by assumption) (by (first | omega | (simp only [size_grow, World.size_alloc, size_drewN, size_drew, size_setCell] at *; omega)))))))) (hD.ext (by (repeat (first | exact Below.refl _ _ | assumption | (refine below_gr ?_ (by (first | omega | (simp only [size_grow, World.size_alloc, size_drewN, size_drew, size_setCell] at *; omega))) _) | (refine below_alloc ?_ (by (first | omega | (simp only [size_grow, World.size_alloc, size_drewN, size_drew, size_setCell] at *; omega))) _) | (refine Below.setCell ?_ (by (first | omega | (simp only [size_grow, World.size_alloc, size_drewN, size_drew, size_setCell] at *; omega))) _) | refine below_drewN ?_ _ | refine below_drew ?_ | (refine below_step ?_ (by assumption) (by (first | omega | (simp only [size_grow, World.size_alloc, size_drewN, size_drew, size_setCell] at *; omega))))))))).mono ?_; rintro e u2 ⟨rfl, hb_u2⟩; replace hb_u2 := ex_below hb_u2; have bel_u2 : Below u1.heap.size u1 u2 := (by (repeat (first | exact Below.refl _ _ | assumption | (refine below_gr ?_ (by (first | omega | (simp only [size_grow, World.size_alloc, size_drewN, size_drew, size_setCell] at *; omega))) _) | (refine below_alloc ?_ (by (first | omega | (simp only [size_grow, World.size_alloc, size_drewN, size_drew, size_setCell] at *; omega))) _) | (refine Below.setCell ?_ (by (first | omega | (simp only [size_grow, World.size_alloc, size_drewN, size_drew, size_setCell] at *; omega))) _) | refine below_drewN ?_ _ | refine below_drew ?_ | (refine below_step ?_ (by assumption) (by (first | omega | (simp only [size_grow, World.size_alloc, size_drewN, size_drew, size_setCell] at *; omega))))))); clear hb_u2; have sz_u2 := bel_u2.size; replace hX := hX.ext bel_u2; replace hX2 := hX2.ext bel_u2; replace hA := hA.ext bel_u2; replace hE := hE.ext bel_u2; replace hB := hB.ext bel_u2; replace hD := hD.ext bel_u2; replace hW := below_step hW bel_u2 (by have := hW.size; omega); replace hK := hK.ext bel_u2; replace hC := hC.ext bel_u2; (try clear hXc0 hXf hXl); have hXc0 := obj_at hX 0 _ rfl; have hXf := obj_fz hX 0; have hXl := obj_lt hX; (try clear hX2c0 hX2f hX2l); have hX2c0 := obj_at hX2 0 _ rfl; have hX2f := obj_fz hX2 0; have hX2l := obj_lt hX2; (try clear hKc0 hKf hKl); have hKc0 := obj_at hK 0 _ rfl; have hKf := obj_fz hK 0; have hKl := obj_lt hK; clear bel_u2; have tok2 : True := trivial)
    | (clear tok2; go_at_call 18; refine (HR.out _ (hC.ext (by (repeat (first | exact Below.refl _ _ | assumption | (refine below_gr ?_ (by (first | omega | (simp only [size_grow, World.size_alloc, size_drewN, size_drew, size_setCell] at *; omega))) _) | (refine below_alloc ?_ (by (first | omega | (simp only [size_grow, World.size_alloc, size_drewN, size_drew, size_setCell] at *; omega))) _) | (refine Below.setCell ?_ (by (first | omega | (simp only [size_grow, World.size_alloc, size_drewN, size_drew, size_setCell] at *; omega))) _) | refine below_drewN ?_ _ | refine below_drew ?_ | (refine below_step ?_ (by assumption) (by (first | omega | (simp only [size_grow, World.size_alloc, size_drewN, size_drew, size_setCell] at *; omega))))))))).mono ?_; rintro e u3 ⟨rfl, hb_u3⟩; replace hb_u3 := ex_below hb_u3; have bel_u3 : Below u2.heap.size u2 u3 := (by (repeat (first | exact Below.refl _ _ | assumption | (refine below_gr ?_ (by (first | omega | (simp only [size_grow, World.size_alloc, size_drewN, size_drew, size_setCell] at *; omega))) _) | (refine below_alloc ?_ (by (first | omega | (simp only [size_grow, World.size_alloc, size_drewN, size_drew, size_setCell] at *; omega))) _) | (refine Below.setCell ?_ (by (first | omega | (simp only [size_grow, World.size_alloc, size_drewN, size_drew, size_setCell] at *; omega))) _) | refine below_drewN ?_ _ | refine below_drew ?_ | (refine below_step ?_ (by assumption) (by (first | omega | (simp only [size_grow, World.size_alloc, size_drewN, size_drew, size_setCell] at *; omega))))))); clear hb_u3; have sz_u3 := bel_u3.size; replace hX := hX.ext bel_u3; replace hX2 := hX2.ext bel_u3; replace hA := hA.ext bel_u3; replace hE := hE.ext bel_u3; replace hB := hB.ext bel_u3; replace hD := hD.ext bel_u3; replace hW := below_step hW bel_u3 (by have := hW.size; omega); replace hK := hK.ext bel_u3; replace hC := hC.ext bel_u3; (try clear hXc0 hXf hXl); have hXc0 := obj_at hX 0 _ rfl; have hXf := obj_fz hX 0; have hXl := obj_lt hX; (try clear hX2c0 hX2f hX2l); have hX2c0 := obj_at hX2 0 _ rfl; have hX2f := obj_fz hX2 0; have hX2l := obj_lt hX2; (try clear hKc0 hKf hKl); have hKc0 := obj_at hK 0 _ rfl; have hKf := obj_fz hK 0; have hKl := obj_lt hK; clear bel_u3; have tok3 : True := trivial)
    | (clear tok3; go_at_call 20; refine (works_any _).mono ?_; rintro e u4 ⟨rfl, hb_u4⟩; replace hb_u4 := ex_below hb_u4; have bel_u4 : Below u3.heap.size u3 u4 := (by (repeat (first | exact Below.refl _ _ | assumption | (refine below_gr ?_ (by (first | omega | (simp only [size_grow, World.size_alloc, size_drewN, size_drew, size_setCell] at *; omega))) _) | (refine below_alloc ?_ (by (first | omega | (simp only [size_grow, World.size_alloc, size_drewN, size_drew, size_setCell] at *; omega))) _) | (refine Below.setCell ?_ (by (first | omega | (simp only [size_grow, World.size_alloc, size_drewN, size_drew, size_setCell] at *; omega))) _) | refine below_drewN ?_ _ | refine below_drew ?_ | (refine below_step ?_ (by assumption) (by (first | omega | (simp only [size_grow, World.size_alloc, size_drewN, size_drew, size_setCell] at *; omega))))))); clear hb_u4; have sz_u4 := bel_u4.size; replace hX := hX.ext bel_u4; replace hX2 := hX2.ext bel_u4; replace hA := hA.ext bel_u4; replace hE := hE.ext bel_u4; replace hB := hB.ext bel_u4; replace hD := hD.ext bel_u4; replace hW := below_step hW bel_u4 (by have := hW.size; omega); replace hK := hK.ext bel_u4; replace hC := hC.ext bel_u4; (try clear hXc0 hXf hXl); have hXc0 := obj_at hX 0 _ rfl; have hXf := obj_fz hX 0; have hXl := obj_lt hX; (try clear hX2c0 hX2f hX2l); have hX2c0 := obj_at hX2 0 _ rfl; have hX2f := obj_fz hX2 0; have hX2l := obj_lt hX2; (try clear hKc0 hKf hKl); have hKc0 := obj_at hK 0 _ rfl; have hKf := obj_fz hK 0; have hKl := obj_lt hK; clear bel_u4; have tok4 : True := trivial))
          go_ret
          exact gives_of rfl hW
        | false =>
          rw [hg] at HR
          have hgl := great_no hg
          have HC := hide (fun w' (h1 : I64 w' C (R ++ Q)) => rCheckCard_any C (R ++ Q) c3 w' h1 (by omega))
          rw [hrq] at HC
          clear hrq
          by_cases hcc : chkCard (R ++ Q) = 0
          · rw [hcc] at HC
            obtain ⟨R1, ts1, rfl, rfl, hok, hgr, hwd⟩ := fine_ok hf
            obtain ⟨Q1, us1, rfl, rfl, hoku, -, -⟩ := fine_ok hf2
            have hzz : zs R1 ++ zs Q1 = zs (R1 ++ Q1) := by unfold zs; rw [List.map_append]
            have hok0 := card_join hok hoku (by rw [← hzz]; exact hcc)
            rw [hzz] at hC HR HC
            simp only [zs_len, tz_len] at HF HG HR HC hdi hdi2 hX hX2 hK hXc0 hX2c0 hKc0
            rw [zs_len R1, zs_len Q1, tz_len ts1, tz_len us1]
            clear hf hf2 hg hgl hcc hzz hgr hwd hl9 hq9 hd hd9 hts9 hdd hdd9 hus9 hlz
            have ht10 := hok.t10
            have hu10 := hoku.t10
            have hti : (ts1.length : Int) ≤ 10 := by omega
            have hui : (us1.length : Int) ≤ 10 := by omega
            have hRQ : (R1 ++ Q1).length = R1.length + Q1.length := List.length_append
            have hR5 := hok0.h5
            rw [hRQ] at hR5
            obtain ⟨l0, lh, lz, ls, lb⟩ := info_parts info34
            obtain ⟨j0, jh, jz, js, jb⟩ := info_parts info3
            have CT := hide (fun (X : Option Addr) (n xc : Nat) w' => Ticket_any 1 X n xc w')
            have C1 := fun i (hi : i < ts1.length) => hide (fun Y yc w' (h1 : I64 w' A (zs R1)) (h2 : I64 w' Y (zs ts1[i].1)) (hyc : ts1[i].1.length ≤ yc) => size_api_ok A R1 c Y ts1[i].1 yc ts1[i].2 w' h1 h2 hyc (ok_mem hok (List.getElem_mem hi)))
            have C2 := fun i (hi : i < us1.length) => hide (fun Y yc w' (h1 : I64 w' E (zs Q1)) (h2 : I64 w' Y (zs us1[i].1)) (hyc : us1[i].1.length ≤ yc) => size_api_ok E Q1 e Y us1[i].1 yc us1[i].2 w' h1 h2 hyc (ok_mem hoku (List.getElem_mem hi)))
            have C3 := fun i k (hi : i < ts1.length) (hk : k < us1.length) => hide (fun Y yc w' (h1 : I64 w' C (zs (R1 ++ Q1))) (h2 : I64 w' Y (zs (ts1[i].1 ++ us1[k].1))) (hyc : ts1[i].1.length + us1[k].1.length ≤ yc) => by
              have := size_api_ok C (R1 ++ Q1) c3 Y (ts1[i].1 ++ us1[k].1) yc 1 w' h1 h2 (by rw [List.length_append]; exact hyc) (ok_join1 hok hoku hok0 (List.getElem_mem hi) (List.getElem_mem hk))
              rw [Bm.size_app, hRQ, List.length_append] at this
              exact this)
            have HSZ := hide (fun i (hi : i < ts1.length) => size_le5 hok (List.getElem_mem hi))
            have HSU := hide (fun i (hi : i < us1.length) => size_le5 hoku (List.getElem_mem hi))
            have HTL := hide (fun i (hi : i < ts1.length) => (show ts1[i].1.length ≤ 5 by rw [hok.htl _ (List.getElem_mem hi)]; exact hok.h5))
            have HUL := hide (fun i (hi : i < us1.length) => (show us1[i].1.length ≤ 5 by rw [hoku.htl _ (List.getElem_mem hi)]; exact hoku.h5))
            have HT1 := hide (fun i (hi : i < ts1.length) => (show 1 ≤ ts1[i].1.length by rw [hok.htl _ (List.getElem_mem hi)]; exact hok.h1))
            have HU1 := hide (fun i (hi : i < us1.length) => (show 1 ≤ us1[i].1.length by rw [hoku.htl _ (List.getElem_mem hi)]; exact hoku.h1))
            have tok0 : True := trivial
            go_wp2_with (first
    | (clear tok0; go_at_call 45; refine (HF.out _ (hA.ext (by (repeat (first | exact Below.refl _ _ | assumption | (refine below_gr ?_ (by (first | omega | (simp only [size_grow, World.size_alloc, size_drewN, size_drew, size_setCell] at *; omega))) _) | (refine below_alloc ?_ (by (first | omega | (simp only [size_grow, World.size_alloc, size_drewN, size_drew, size_setCell] at *; omega))) _) | (refine Below.setCell ?_ (by (first | omega | (simp only [size_grow, World.size_alloc, size_drewN, size_drew, size_setCell] at *; omega))) _) | refine below_drewN ?_ _ | refine below_drew ?_ | (refine below_step ?_ (by assumption) (by (first | omega | (simp only [size_grow, World.size_alloc, size_drewN, size_drew, size_setCell] at *; omega)))))))) (hB.ext (by (repeat (first | exact Below.refl _ _ | assumption | (refine below_gr ?_ (by (first | omega | (simp only [size_grow, World.size_alloc, size_drewN, size_drew, size_setCell] at *; omega))) _) | (refine below_alloc ?_ (by (first | omega | (simp only [size_grow, World.size_alloc, size_drewN, size_drew, size_setCell] at *; omega))) _) | (refine Below.setCell ?_ (by (first | omega | (simp only [size_grow, World.size_alloc, size_drewN, size_drew, size_setCell] at *; omega))) _) | refine below_drewN ?_ _ | refine below_drew ?_ | (refine below_step ?_ (by assumption) (by (first | omega | (simp only [size_grow, World.size_alloc, size_drewN, size_drew, size_setCell] at *; omega))))))))).mono ?_; rintro e u1 ⟨rfl, hb_u1⟩; replace hb_u1 := ex_below hb_u1; have bel_u1 : Below v2.heap.size v2 u1 := (by (repeat (first | exact Below.refl _ _ | assumption | (refine below_gr ?_ (by (first | omega | (simp only [size_grow, World.size_alloc, size_drewN, size_drew, size_setCell] at *; omega))) _) | (refine below_alloc ?_ (by (first | omega | (simp only [size_grow, World.size_alloc, size_drewN, size_drew, size_setCell] at *; omega))) _) | (refine Below.setCell ?_ (by (first | omega | (simp only [size_grow, World.size_alloc, size_drewN, size_drew, size_setCell] at *; omega))) _) | refine below_drewN ?_ _ | refine below_drew ?_ | (refine below_step ?_ (by assumption) (by (first | omega | (simp only [size_grow, World.size_alloc, size_drewN, size_drew, size_setCell] at *; omega))))))); clear hb_u1; have sz_u1 := bel_u1.size; replace hX := hX.ext bel_u1; replace hX2 := hX2.ext bel_u1; replace hA := hA.ext bel_u1; replace hE := hE.ext bel_u1; replace hB := hB.ext bel_u1; replace hD := hD.ext bel_u1; replace hW := below_step hW bel_u1 (by have := hW.size; omega); replace hK := hK.ext bel_u1; replace hC := hC.ext bel_u1; (try clear hXc0 hXf hXl); have hXc0 := obj_at hX 0 _ rfl; have hXf := obj_fz hX 0; have hXl := obj_lt hX; (try clear hX2c0 hX2f hX2l); have hX2c0 := obj_at hX2 0 _ rfl; have hX2f := obj_fz hX2 0; have hX2l := obj_lt hX2; (try clear hKc0 hKf hKl); have hKc0 := obj_at hK 0 _ rfl; have hKf := obj_fz hK 0; have hKl := obj_lt hK; clear bel_u1; have tok1 : True := trivial)
    | (clear tok1; go_at_call 45; refine (HG.out _ (hE.ext (by (repeat (first | exact Below.refl _ _ | assumption | (refine below_gr ?_ (by (first | omega | (simp only [size_grow, World.size_alloc, size_drewN, size_drew, size_setCell] at *; omega))) _) | (refine below_alloc ?_ (by (first | omega | (simp only [size_grow, World.size_alloc, size_drewN, size_drew, size_setCell] at *; omega))) _) | (refine Below.setCell ?_ (by (first | omega | (simp only [size_grow, World.size_alloc, size_drewN, size_drew, size_setCell] at *; omega))) _) | refine below_drewN ?_ _ | refine below_drew ?_ | (refine below_step ?_ (by assumption) (by (first | omega | (simp only [size_grow, World.size_alloc, size_drewN, size_drew, size_setCell] at *; omega)))))))) (hD.ext (by (repeat (first | exact Below.refl _ _ | assumption | (refine below_gr ?_ (by (first | omega | (simp only [size_grow, World.size_alloc, size_drewN, size_drew, size_setCell] at *; omega))) _) | (refine below_alloc ?_ (by (first | omega | (simp only [size_grow, World.size_alloc, size_drewN, size_drew, size_setCell] at *; omega))) _) | (refine Below.setCell ?_ (by (first | omega | (simp only [size_grow, World.size_alloc, size_drewN, size_drew, size_setCell] at *; omega))) _) | refine below_drewN ?_ _ | refine below_drew ?_ | (refine below_step ?_ (by assumption) (by (first | omega | (simp only [size_grow, World.size_alloc, size_drewN, size_drew, size_setCell] at *; omega))))))))).mono ?_; rintro e u2 ⟨rfl, hb_u2⟩; replace hb_u2 := ex_below hb_u2; have bel_u2 : Below u1.heap.size u1 u2 := (by (repeat (first | exact Below.refl _ _ | assumption | (refine below_gr ?_ (by (first | omega | (simp only [size_grow, World.size_alloc, size_drewN, size_drew, size_setCell] at *; omega))) _) | (refine below_alloc ?_ (by (first | omega | (simp only [size_grow, World.size_alloc, size_drewN, size_drew, size_setCell] at *; omega))) _) | (refine Below.setCell ?_ (by (first | omega | (simp only [size_grow, World.size_alloc, size_drewN, size_drew, size_setCell] at *; omega))) _) | refine below_drewN ?_ _ | refine below_drew ?_ | (refine below_step ?_ (by assumption) (by (first | omega | (simp only [size_grow, World.size_alloc, size_drewN, size_drew, size_setCell] at *; omega))))))); clear hb_u2; have sz_u2 := bel_u2.size; replace hX := hX.ext bel_u2; replace hX2 := hX2.ext bel_u2; replace hA := hA.ext bel_u2; replace hE := hE.ext bel_u2; replace hB := hB.ext bel_u2; replace hD := hD.ext bel_u2; replace hW := below_step hW bel_u2 (by have := hW.size; omega); replace hK := hK.ext bel_u2; replace hC := hC.ext bel_u2; (try clear hXc0 hXf hXl); have hXc0 := obj_at hX 0 _ rfl; have hXf := obj_fz hX 0; have hXl := obj_lt hX; (try clear hX2c0 hX2f hX2l); have hX2c0 := obj_at hX2 0 _ rfl; have hX2f := obj_fz hX2 0; have hX2l := obj_lt hX2; (try clear hKc0 hKf hKl); have hKc0 := obj_at hK 0 _ rfl; have hKf := obj_fz hK 0; have hKl := obj_lt hK; clear bel_u2; have tok2 : True := trivial)
    | (clear tok2; go_at_call 18; refine (HR.out _ (hC.ext (by (repeat (first | exact Below.refl _ _ | assumption | (refine below_gr ?_ (by (first | omega | (simp only [size_grow, World.size_alloc, size_drewN, size_drew, size_setCell] at *; omega))) _) | (refine below_alloc ?_ (by (first | omega | (simp only [size_grow, World.size_alloc, size_drewN, size_drew, size_setCell] at *; omega))) _) | (refine Below.setCell ?_ (by (first | omega | (simp only [size_grow, World.size_alloc, size_drewN, size_drew, size_setCell] at *; omega))) _) | refine below_drewN ?_ _ | refine below_drew ?_ | (refine below_step ?_ (by assumption) (by (first | omega | (simp only [size_grow, World.size_alloc, size_drewN, size_drew, size_setCell] at *; omega))))))))).mono ?_; rintro e u3 ⟨rfl, hb_u3⟩; replace hb_u3 := ex_below hb_u3; have bel_u3 : Below u2.heap.size u2 u3 := (by (repeat (first | exact Below.refl _ _ | assumption | (refine below_gr ?_ (by (first | omega | (simp only [size_grow, World.size_alloc, size_drewN, size_drew, size_setCell] at *; omega))) _) | (refine below_alloc ?_ (by (first | omega | (simp only [size_grow, World.size_alloc, size_drewN, size_drew, size_setCell] at *; omega))) _) | (refine Below.setCell ?_ (by (first | omega | (simp only [size_grow, World.size_alloc, size_drewN, size_drew, size_setCell] at *; omega))) _) | refine below_drewN ?_ _ | refine below_drew ?_ | (refine below_step ?_ (by assumption) (by (first | omega | (simp only [size_grow, World.size_alloc, size_drewN, size_drew, size_setCell] at *; omega))))))); clear hb_u3; have sz_u3 := bel_u3.size; replace hX := hX.ext bel_u3; replace hX2 := hX2.ext bel_u3; replace hA := hA.ext bel_u3; replace hE := hE.ext bel_u3; replace hB := hB.ext bel_u3; replace hD := hD.ext bel_u3; replace hW := below_step hW bel_u3 (by have := hW.size; omega); replace hK := hK.ext bel_u3; replace hC := hC.ext bel_u3; (try clear hXc0 hXf hXl); have hXc0 := obj_at hX 0 _ rfl; have hXf := obj_fz hX 0; have hXl := obj_lt hX; (try clear hX2c0 hX2f hX2l); have hX2c0 := obj_at hX2 0 _ rfl; have hX2f := obj_fz hX2 0; have hX2l := obj_lt hX2; (try clear hKc0 hKf hKl); have hKc0 := obj_at hK 0 _ rfl; have hKf := obj_fz hK 0; have hKl := obj_lt hK; clear bel_u3; have tok3 : True := trivial)
    | (clear tok3; go_at_call 22; refine (HC.out _ (hC.ext (by (repeat (first | exact Below.refl _ _ | assumption | (refine below_gr ?_ (by (first | omega | (simp only [size_grow, World.size_alloc, size_drewN, size_drew, size_setCell] at *; omega))) _) | (refine below_alloc ?_ (by (first | omega | (simp only [size_grow, World.size_alloc, size_drewN, size_drew, size_setCell] at *; omega))) _) | (refine Below.setCell ?_ (by (first | omega | (simp only [size_grow, World.size_alloc, size_drewN, size_drew, size_setCell] at *; omega))) _) | refine below_drewN ?_ _ | refine below_drew ?_ | (refine below_step ?_ (by assumption) (by (first | omega | (simp only [size_grow, World.size_alloc, size_drewN, size_drew, size_setCell] at *; omega))))))))).mono ?_; rintro e u4 ⟨rfl, hb_u4⟩; replace hb_u4 := ex_below hb_u4; have bel_u4 : Below u3.heap.size u3 u4 := (by (repeat (first | exact Below.refl _ _ | assumption | (refine below_gr ?_ (by (first | omega | (simp only [size_grow, World.size_alloc, size_drewN, size_drew, size_setCell] at *; omega))) _) | (refine below_alloc ?_ (by (first | omega | (simp only [size_grow, World.size_alloc, size_drewN, size_drew, size_setCell] at *; omega))) _) | (refine Below.setCell ?_ (by (first | omega | (simp only [size_grow, World.size_alloc, size_drewN, size_drew, size_setCell] at *; omega))) _) | refine below_drewN ?_ _ | refine below_drew ?_ | (refine below_step ?_ (by assumption) (by (first | omega | (simp only [size_grow, World.size_alloc, size_drewN, size_drew, size_setCell] at *; omega))))))); clear hb_u4; have sz_u4 := bel_u4.size; replace hX := hX.ext bel_u4; replace hX2 := hX2.ext bel_u4; replace hA := hA.ext bel_u4; replace hE := hE.ext bel_u4; replace hB := hB.ext bel_u4; replace hD := hD.ext bel_u4; replace hW := below_step hW bel_u4 (by have := hW.size; omega); replace hK := hK.ext bel_u4; replace hC := hC.ext bel_u4; (try clear hXc0 hXf hXl); have hXc0 := obj_at hX 0 _ rfl; have hXf := obj_fz hX 0; have hXl := obj_lt hX; (try clear hX2c0 hX2f hX2l); have hX2c0 := obj_at hX2 0 _ rfl; have hX2f := obj_fz hX2 0; have hX2l := obj_lt hX2; (try clear hKc0 hKf hKl); have hKc0 := obj_at hK 0 _ rfl; have hKf := obj_fz hK 0; have hKl := obj_lt hK; clear bel_u4; have tok4 : True := trivial))

            have HOK := hide (And.intro hok (And.intro hoku hok0))
            clear hok hoku hok0 HF HG HR HC tok4
            obtain ⟨v4, hv4⟩ : ∃ v, v = u4 := ⟨_, rfl⟩
            go_loopw [10, 11] (fun t10 t11 wr => ∃ (i : Nat) (rows : List Row) (O : Option Addr) (oc : Nat), i ≤ ts1.length ∧ t11 = .int .i64 (i : Nat) ∧ t10 = .slice O rows.length oc ∧ tksT rows = tz (joinK ts1 us1 i 0) ∧ RowsOk wr rows ∧ RowsFar wr (.slice O rows.length oc) rows ∧ wr.ownsRow u4.heap.size 34 2 (.slice O rows.length oc) rows.length (cellsT rows) ∧ Below u4.heap.size u4 wr) (fun _ i _ => ts1.length - (intOf i).toNat)
            case atStart => exact ⟨0, [], none, 0, Nat.zero_le _, rfl, rfl, rfl, fun r hr => by simp at hr, fun r hr => by simp at hr, World.ownsRow_nil _ _ _ _, Below.refl _ _⟩
            case round =>
              obtain ⟨i, rows, O, oc, hi, rfl, rfl, hrw, hro, hrf, hown, hb⟩ := hrel
              obtain ⟨wo, rfl⟩ : ∃ wo, wo = wr := ⟨_, rfl⟩
              by_cases hlt : i < ts1.length
              · have hii : (i : Int) < (ts1.length : Int) := by omega
                go_wp2
                go_loopw [10, 12] (fun t10 t12 wr => ∃ (k : Nat) (rows : List Row) (O : Option Addr) (oc : Nat), k ≤ us1.length ∧ t12 = .int .i64 (k : Nat) ∧ t10 = .slice O rows.length oc ∧ tksT rows = tz (joinK ts1 us1 i k) ∧ RowsOk wr rows ∧ RowsFar wr (.slice O rows.length oc) rows ∧ wr.ownsRow u4.heap.size 34 2 (.slice O rows.length oc) rows.length (cellsT rows) ∧ Below u4.heap.size u4 wr) (fun _ k _ => us1.length - (intOf k).toNat)
                case atStart => exact ⟨0, rows, O, oc, Nat.zero_le _, rfl, rfl, hrw, hro, hrf, hown, hb⟩
                case round =>
                  clear hrw hro hrf hown hb
                  obtain ⟨k, rows, O, oc, hk, rfl, rfl, hrw, hro, hrf, hown, hb⟩ := hrel
                  obtain ⟨wp, rfl⟩ : ∃ wp, wp = wr := ⟨_, rfl⟩
                  by_cases hlk : k < us1.length
                  · have hki : (k : Int) < (us1.length : Int) := by omega
                    have hA1 := hA.ext hb
                    have hE1 := hE.ext hb
                    have hB1 := hB.ext hb
                    have hD1 := hD.ext hb
                    have hC1 := hC.ext hb
                    have hX1 := hX.ext hb
                    have hY1 := hX2.ext hb
                    have hK1 := hK.ext hb
                    obtain ⟨tb, tq, rfl, htb⟩ := hB1.form (by rw [tz_len]; omega)
                    obtain ⟨ub, uo, rfl, hub⟩ := hD1.form (by rw [tz_len]; omega)
                    obtain ⟨Sa, sc, q1, q2, q3, hS⟩ := hB1.at (k := i) (by rw [tz_len]; exact hlt)
                    obtain ⟨Ta, tc, p1, p2, p3, hT⟩ := hD1.at (k := k) (by rw [tz_len]; exact hlk)
                    simp only [tz_at _ _ hlt, zs_len] at q1 q2 q3 hS
                    simp only [tz_at _ _ hlk, zs_len] at p1 p2 p3 hT
                    have D1 := C1 i hlt
                    have D2 := C2 k hlk
                    have D3 := C3 i k hlt hlk
                    have hz1 := HSZ.out i hlt
                    have hz2 := HSU.out k hlk
                    have hl1 := HTL.out i hlt
                    have hl2 := HUL.out k hlk
                    have hJS := hide (joinK_step hlt hlk)
                    have hrl : rows.length ≤ 110 := by
                      have h1 := congrArg List.length hrw
                      unfold tksT at h1
                      rw [List.length_map, tz_len, joinK_len hi hk] at h1
                      have : i * us1.length ≤ 10 * 10 := Nat.mul_le_mul (by omega) hu10
                      omega
                    have HRW := hide hrw
                    clear hrw
                    generalize ts1[i] = t at *
                    generalize us1[k] = u at *
                    obtain ⟨SS, su⟩ : Bm.Tk := t
                    obtain ⟨TT, tu⟩ : Bm.Tk := u
                    simp only at q1 q2 q3 hS p1 p2 p3 hT D1 D2 D3 hz1 hz2 hl1 hl2
                    have HJS := hide (show joinK ts1 us1 i (k + 1) = joinK ts1 us1 i k ++ [(SS ++ TT, 1)] from hJS.out)
                    clear hJS
                    generalize Bm.size SS = s1 at *
                    generalize Bm.size TT = s2 at *
                    have hml : (s1 : Int) * (s2 : Int) = ((s1 * s2 : Nat) : Int) := by simp
                    have hmb : s1 * s2 ≤ 7776 * 7776 := Nat.mul_le_mul hz1 hz2
                    have hm0 : (0 : Int) ≤ (s1 : Int) * (s2 : Int) := by rw [hml]; omega
                    have hm1 : (s1 : Int) * (s2 : Int) ≤ 60466176 := by rw [hml]; omega
                    rw [← hml] at D3
                    clear hml hmb
                    go_upto_region 11 with fail
                    go_cut [13] from 60 to 124 (fun sx wx => ∃ (blk : Nat) (X : Option Addr) (xc : Nat), sx = .pointer (some ⟨blk, 0, none⟩) ∧ BlkAt wx blk #[.slice X (SS.length + TT.length) xc, .int .i64 1] 34 ∧ I64 wx X (zs (SS ++ TT)) ∧ SS.length + TT.length ≤ xc ∧ (∀ b o, X = some ⟨b, o, none⟩ → wp.heap.size ≤ b ∧ b < wx.heap.size) ∧ wp.heap.size ≤ blk ∧ Below wp.heap.size wp wx)
                    case first =>
                      as_aux_lemma =>
                      refine wp_region_noPanic ?_
                      refine wp_region_held_drew (S := fun w' => Below wp.heap.size wp w') (by kernel_rfl) ?_ (fun _ => ?_)
                      · exact below_drew (Below.refl _ _)
                      have hP : Below wp.heap.size wp wp.drew := below_drew (Below.refl _ _)
                      have hZ : wp.heap.size ≤ wp.drew.heap.size := Nat.le_refl _
                      obtain ⟨W0, hW0⟩ : ∃ W0, wp.drew = W0 := ⟨_, rfl⟩
                      rw [hW0] at hP hZ ⊢
                      clear hW0
                      refine wpAnyH_take (i := 1) (v := ?_) rfl (by kernel_rfl) (by kernel_rfl) (by kernel_rfl) (fun _ _ _ h => h) (Or.inl ⟨by rfl, ?_⟩) hP ?_
                      rotate_left
                      · (intro ww hSw; go_simp; try with_reducible rfl)
                      (try simp only [Act.put, List.getElem_toArray, List.getElem_cons_zero, List.getElem_cons_succ, List.setIfInBounds_toArray, List.set_cons_zero, List.set_cons_succ])
                      refine wpAnyH_take (i := 2) (v := ?_) rfl (by kernel_rfl) (by kernel_rfl) (by kernel_rfl) (fun _ _ _ h => h) (Or.inl ⟨by rfl, ?_⟩) hP ?_
                      rotate_left
                      · (intro ww hSw; go_simp; try with_reducible rfl)
                      (try simp only [Act.put, List.getElem_toArray, List.getElem_cons_zero, List.getElem_cons_succ, List.setIfInBounds_toArray, List.set_cons_zero, List.set_cons_succ])
                      refine wpAnyH_take (i := 3) (v := ?_) rfl (by kernel_rfl) (by kernel_rfl) (by kernel_rfl) (fun _ _ _ h => h) (Or.inl ⟨by rfl, ?_⟩) hP ?_
                      rotate_left
                      · (intro ww hSw; go_simp; try with_reducible rfl)
                      (try simp only [Act.put, List.getElem_toArray, List.getElem_cons_zero, List.getElem_cons_succ, List.setIfInBounds_toArray, List.set_cons_zero, List.set_cons_succ])
                      refine wpAnyH_take (i := 4) (v := ?_) rfl (by kernel_rfl) (by kernel_rfl) (by kernel_rfl) (fun _ _ _ h => h) (Or.inl ⟨by rfl, ?_⟩) hP ?_
                      rotate_left
                      · (intro ww hSw; go_simp; try with_reducible rfl)
                      (try simp only [Act.put, List.getElem_toArray, List.getElem_cons_zero, List.getElem_cons_succ, List.setIfInBounds_toArray, List.set_cons_zero, List.set_cons_succ])
                      refine wpAnyH_take (i := 5) (v := ?_) rfl (by kernel_rfl) (by kernel_rfl) (by kernel_rfl) (fun _ _ _ h => h) (Or.inl ⟨by rfl, ?_⟩) hP ?_
                      rotate_left
                      · (intro ww hSw; have g0 := (hSw.cell (p := ⟨tb, tq + i * 2, none⟩) htb).trans q1; go_simp; try with_reducible rfl)
                      (try simp only [Act.put, List.getElem_toArray, List.getElem_cons_zero, List.getElem_cons_succ, List.setIfInBounds_toArray, List.set_cons_zero, List.set_cons_succ])
                      refine wpAnyH_take (i := 7) (v := ?_) rfl (by kernel_rfl) (by kernel_rfl) (by kernel_rfl) (fun _ _ _ h => h) (Or.inl ⟨by rfl, ?_⟩) hP ?_
                      rotate_left
                      · (intro ww hSw; go_simp; try with_reducible rfl)
                      (try simp only [Act.put, List.getElem_toArray, List.getElem_cons_zero, List.getElem_cons_succ, List.setIfInBounds_toArray, List.set_cons_zero, List.set_cons_succ])
                      refine wpAnyH_take (i := 8) (v := ?_) rfl (by kernel_rfl) (by kernel_rfl) (by kernel_rfl) (fun _ _ _ h => h) (Or.inl ⟨by rfl, ?_⟩) hP ?_
                      rotate_left
                      · (intro ww hSw; go_simp; try with_reducible rfl)
                      (try simp only [Act.put, List.getElem_toArray, List.getElem_cons_zero, List.getElem_cons_succ, List.setIfInBounds_toArray, List.set_cons_zero, List.set_cons_succ])
                      refine wpAnyH_take (i := 9) (v := ?_) rfl (by kernel_rfl) (by kernel_rfl) (by kernel_rfl) (fun _ _ _ h => h) (Or.inl ⟨by rfl, ?_⟩) hP ?_
                      rotate_left
                      · (intro ww hSw; go_simp; try with_reducible rfl)
                      (try simp only [Act.put, List.getElem_toArray, List.getElem_cons_zero, List.getElem_cons_succ, List.setIfInBounds_toArray, List.set_cons_zero, List.set_cons_succ])
                      refine wpAnyH_take (i := 10) (v := ?_) rfl (by kernel_rfl) (by kernel_rfl) (by kernel_rfl) (fun _ _ _ h => h) (Or.inl ⟨by rfl, ?_⟩) hP ?_
                      rotate_left
                      · (intro ww hSw; go_simp; try with_reducible rfl)
                      (try simp only [Act.put, List.getElem_toArray, List.getElem_cons_zero, List.getElem_cons_succ, List.setIfInBounds_toArray, List.set_cons_zero, List.set_cons_succ])
                      refine wpAnyH_take (i := 11) (v := ?_) rfl (by kernel_rfl) (by kernel_rfl) (by kernel_rfl) (fun _ _ _ h => h) (Or.inl ⟨by rfl, ?_⟩) hP ?_
                      rotate_left
                      · (intro ww hSw; have g1 := (hSw.cell (p := ⟨ub, uo + k * 2, none⟩) hub).trans p1; go_simp; try with_reducible rfl)
                      (try simp only [Act.put, List.getElem_toArray, List.getElem_cons_zero, List.getElem_cons_succ, List.setIfInBounds_toArray, List.set_cons_zero, List.set_cons_succ])
                      refine wpAnyH_ready (rs := [0, 14]) (by kernel_rfl) (by simp) ?_
                      refine AllReadyH.cons rfl ?_ ?_
                      · intro K' hK
                        rw [if_pos (by rfl)]
                        go_simp
                        have hP2 := below_alloc hP hZ (.cells #[] 3)
                        refine hK.out _ _ hP2 (fun _ => ?_)
                        clear hK K'
                        (try simp only [Act.put, List.getElem_toArray, List.getElem_cons_zero, List.getElem_cons_succ, List.setIfInBounds_toArray, List.set_cons_zero, List.set_cons_succ])
                        have hO : (W0.alloc (.cells #[] 3)).ownsRow wp.heap.size 3 1 (.slice (some ⟨W0.heap.size, 0, none⟩) 0 0) 0 [] := own_lit0 (heap_alloc_new W0 _) hZ
                        replace hZ : wp.heap.size ≤ (W0.alloc (.cells #[] 3)).heap.size := by rw [World.size_alloc]; omega
                        clear hP
                        have hP := hP2
                        clear hP2
                        obtain ⟨W1, hWe⟩ : ∃ W1, (W0.alloc (.cells #[] 3)) = W1 := ⟨_, rfl⟩
                        rw [hWe] at hP hZ hO ⊢
                        clear hWe
                        refine wpAnyH_ready (rs := [6, 14]) (by kernel_rfl) (by simp) ?_
                        refine AllReadyH.cons rfl ?_ ?_
                        · intro K' hK
                          refine step_appN W1 rfl (.tmp 66) (.tmp 71) 22 rfl wp.heap.size 3 j0 _ 1 8 und22 jh jz js jb rfl (by decide) _ (0) ([]) rfl hO Sa (SS.length) sc (((zs SS).map (Value.int .i64))) rfl (by have := i64_rd (hS.ext hP); rwa [zs_len] at this) (one_i64 _) (by unfold maxLen; omega) (by omega) hZ ?_
                          intro A2 c2 W2 hO2 hg2 hf2
                          rw [Nat.zero_add SS.length, List.nil_append] at hO2
                          rw [Nat.zero_add SS.length] at hf2 ⊢
                          have hP2 := gb_below hP hg2 hZ (fun g hg => (hO.lt g hg).1)
                          have hZ2 := Nat.le_trans hZ hg2.size
                          refine hK.out _ _ hP2 (fun _ => ?_)
                          clear hK K'
                          (try simp only [Act.put, List.getElem_toArray, List.getElem_cons_zero, List.getElem_cons_succ, List.setIfInBounds_toArray, List.set_cons_zero, List.set_cons_succ])
                          clear hO hP hZ hg2 hf2
                          have hO := hO2
                          have hP := hP2
                          have hZ := hZ2
                          clear hO2 hP2 hZ2
                          refine wpAnyH_ready (rs := [12, 14]) (by kernel_rfl) (by simp) ?_
                          refine AllReadyH.cons rfl ?_ ?_
                          · intro K' hK
                            refine step_appN W2 rfl (.tmp 72) (.tmp 77) 22 rfl wp.heap.size 3 j0 _ 1 8 und22 jh jz js jb rfl (by decide) _ (SS.length) (((zs SS).map (Value.int .i64))) rfl hO Ta (TT.length) tc (((zs TT).map (Value.int .i64))) rfl (by have := i64_rd (hT.ext hP); rwa [zs_len] at this) (one_i64 _) (by unfold maxLen; omega) (by omega) hZ ?_
                            intro A3 c6 W3 hO2 hg2 hf2
                            have hP2 := gb_below hP hg2 hZ (fun g hg => (hO.lt g hg).1)
                            have hZ2 := Nat.le_trans hZ hg2.size
                            refine hK.out _ _ hP2 (fun _ => ?_)
                            clear hK K'
                            (try simp only [Act.put, List.getElem_toArray, List.getElem_cons_zero, List.getElem_cons_succ, List.setIfInBounds_toArray, List.set_cons_zero, List.set_cons_succ])
                            clear hO hP hZ hg2 hf2
                            have hO := hO2
                            have hP := hP2
                            have hZ := hZ2
                            clear hO2 hP2 hZ2
                            refine wpAnyH_ready (rs := [13, 14]) (by kernel_rfl) (by simp) ?_
                            refine AllReadyH.cons rfl ?_ ?_
                            · intro K' hK
                              rw [if_pos (by rfl)]
                              go_simp
                              go_at_call 49
                              refine (CT.out _ _ _ _).mono ?_
                              rintro e W4 ⟨rfl, hbq⟩
                              replace hbq := ex_below hbq
                              (try dsimp only)
                              replace hO := ownsRow_grows hO hbq
                              have hP2 := below_step hP hbq hZ
                              have hZ2 := Nat.le_trans hZ hbq.size
                              refine hK.out _ _ hP2 (fun _ => ?_)
                              clear hK K'
                              (try simp only [Act.put, List.getElem_toArray, List.getElem_cons_zero, List.getElem_cons_succ, List.setIfInBounds_toArray, List.set_cons_zero, List.set_cons_succ])
                              clear hP hZ hbq
                              have hP := hP2
                              have hZ := hZ2
                              clear hP2 hZ2
                              refine wpAnyH_ready (rs := [14]) (by kernel_rfl) (by simp) ?_
                              refine AllReadyH.cons rfl ?_ ?_
                              · intro K' hK
                                rw [if_pos (by rfl)]
                                go_simp
                                have hP2 := below_alloc hP hZ (.cells #[.slice none 0 0, .int .i64 0] 34)
                                refine hK.out _ _ hP2 (fun _ => ?_)
                                clear hK K'
                                (try simp only [Act.put, List.getElem_toArray, List.getElem_cons_zero, List.getElem_cons_succ, List.setIfInBounds_toArray, List.set_cons_zero, List.set_cons_succ])
                                have hs_B := Side.fresh hZ hO #[.slice none 0 0, .int .i64 0] 34
                                replace hO := hO.alloc (.cells #[.slice none 0 0, .int .i64 0] 34)
                                replace hZ : wp.heap.size ≤ (W4.alloc (.cells #[.slice none 0 0, .int .i64 0] 34)).heap.size := by rw [World.size_alloc]; omega
                                clear hP
                                have hP := hP2
                                clear hP2
                                obtain ⟨W5, hWe⟩ : ∃ W5, (W4.alloc (.cells #[.slice none 0 0, .int .i64 0] 34)) = W5 := ⟨_, rfl⟩
                                rw [hWe] at hP hZ hO hs_B ⊢
                                clear hWe
                                refine wpAnyH_ready (rs := [15]) (by kernel_rfl) (by simp) ?_
                                refine AllReadyH.cons rfl ?_ ?_
                                · intro K' hK
                                  rw [if_pos (by rfl)]
                                  have c0 := obj_at hs_B.2.2.1 0 _ rfl
                                  have c1 := obj_at hs_B.2.2.1 1 _ rfl
                                  have f0 := obj_fz hs_B.2.2.1 0
                                  have f1 := obj_fz hs_B.2.2.1 1
                                  go_simp
                                  refine hK.out _ _ (Below.setCell (p := ⟨W4.heap.size, 1, none⟩) (Below.setCell (p := ⟨W4.heap.size, 0, none⟩) hP hs_B.1 _) hs_B.1 _) (fun _ => ?_)
                                  clear hK K'
                                  (try simp only [Act.put, List.getElem_toArray, List.getElem_cons_zero, List.getElem_cons_succ, List.setIfInBounds_toArray, List.set_cons_zero, List.set_cons_succ])
                                  refine wpAnyH_done (by kernel_rfl) ?_ _
                                  refine NoPanic.normal ?_
                                  have hO4 := own_setFar (own_setFar hO hs_B.2.2.2 0 (.slice A3 (SS.length + TT.length) c6)) hs_B.2.2.2 1 (.int .i64 1)
                                  rw [← List.map_append] at hO4
                                  have hI4 := own_i64 (xs := zs SS ++ zs TT) (c := c6) (by rw [List.length_append, zs_len, zs_len]; exact hO4)
                                  rw [show zs SS ++ zs TT = zs (SS ++ TT) by unfold zs; rw [List.map_append], zs_len, List.length_append] at hI4
                                  go_wp2_with fail
                                  go_meet
                                  exact ⟨_, A3, c6, rfl, set_two hs_B.2.2.1, hI4.1, hI4.2.1, fun b o e => hO4.lt b (by rw [e]; rfl), hs_B.1, Below.setCell (Below.setCell hP hs_B.1 _) hs_B.1 _⟩
                                exact AllReadyH.nil
                              exact AllReadyH.nil
                            refine AllReadyH.cons rfl ?_ ?_
                            · intro K' hK
                              rw [if_pos (by rfl)]
                              go_simp
                              have hP2 := below_alloc hP hZ (.cells #[.slice none 0 0, .int .i64 0] 34)
                              refine hK.out _ _ hP2 (fun _ => ?_)
                              clear hK K'
                              (try simp only [Act.put, List.getElem_toArray, List.getElem_cons_zero, List.getElem_cons_succ, List.setIfInBounds_toArray, List.set_cons_zero, List.set_cons_succ])
                              have hs_B := Side.fresh hZ hO #[.slice none 0 0, .int .i64 0] 34
                              replace hO := hO.alloc (.cells #[.slice none 0 0, .int .i64 0] 34)
                              replace hZ : wp.heap.size ≤ (W3.alloc (.cells #[.slice none 0 0, .int .i64 0] 34)).heap.size := by rw [World.size_alloc]; omega
                              clear hP
                              have hP := hP2
                              clear hP2
                              obtain ⟨W7, hWe⟩ : ∃ W7, (W3.alloc (.cells #[.slice none 0 0, .int .i64 0] 34)) = W7 := ⟨_, rfl⟩
                              rw [hWe] at hP hZ hO hs_B ⊢
                              clear hWe
                              refine wpAnyH_ready (rs := [13]) (by kernel_rfl) (by simp) ?_
                              refine AllReadyH.cons rfl ?_ ?_
                              · intro K' hK
                                rw [if_pos (by rfl)]
                                go_simp
                                go_at_call 49
                                refine (CT.out _ _ _ _).mono ?_
                                rintro e W8 ⟨rfl, hbq⟩
                                replace hbq := ex_below hbq
                                (try dsimp only)
                                replace hs_B := hs_B.below hbq
                                replace hO := ownsRow_grows hO hbq
                                have hP2 := below_step hP hbq hZ
                                have hZ2 := Nat.le_trans hZ hbq.size
                                refine hK.out _ _ hP2 (fun _ => ?_)
                                clear hK K'
                                (try simp only [Act.put, List.getElem_toArray, List.getElem_cons_zero, List.getElem_cons_succ, List.setIfInBounds_toArray, List.set_cons_zero, List.set_cons_succ])
                                clear hP hZ hbq
                                have hP := hP2
                                have hZ := hZ2
                                clear hP2 hZ2
                                refine wpAnyH_ready (rs := [15]) (by kernel_rfl) (by simp) ?_
                                refine AllReadyH.cons rfl ?_ ?_
                                · intro K' hK
                                  rw [if_pos (by rfl)]
                                  have c0 := obj_at hs_B.2.2.1 0 _ rfl
                                  have c1 := obj_at hs_B.2.2.1 1 _ rfl
                                  have f0 := obj_fz hs_B.2.2.1 0
                                  have f1 := obj_fz hs_B.2.2.1 1
                                  go_simp
                                  refine hK.out _ _ (Below.setCell (p := ⟨W3.heap.size, 1, none⟩) (Below.setCell (p := ⟨W3.heap.size, 0, none⟩) hP hs_B.1 _) hs_B.1 _) (fun _ => ?_)
                                  clear hK K'
                                  (try simp only [Act.put, List.getElem_toArray, List.getElem_cons_zero, List.getElem_cons_succ, List.setIfInBounds_toArray, List.set_cons_zero, List.set_cons_succ])
                                  refine wpAnyH_done (by kernel_rfl) ?_ _
                                  refine NoPanic.normal ?_
                                  have hO4 := own_setFar (own_setFar hO hs_B.2.2.2 0 (.slice A3 (SS.length + TT.length) c6)) hs_B.2.2.2 1 (.int .i64 1)
                                  rw [← List.map_append] at hO4
                                  have hI4 := own_i64 (xs := zs SS ++ zs TT) (c := c6) (by rw [List.length_append, zs_len, zs_len]; exact hO4)
                                  rw [show zs SS ++ zs TT = zs (SS ++ TT) by unfold zs; rw [List.map_append], zs_len, List.length_append] at hI4
                                  go_wp2_with fail
                                  go_meet
                                  exact ⟨_, A3, c6, rfl, set_two hs_B.2.2.1, hI4.1, hI4.2.1, fun b o e => hO4.lt b (by rw [e]; rfl), hs_B.1, Below.setCell (Below.setCell hP hs_B.1 _) hs_B.1 _⟩
                                exact AllReadyH.nil
                              exact AllReadyH.nil
                            exact AllReadyH.nil
                          refine AllReadyH.cons rfl ?_ ?_
                          · intro K' hK
                            rw [if_pos (by rfl)]
                            go_simp
                            have hP2 := below_alloc hP hZ (.cells #[.slice none 0 0, .int .i64 0] 34)
                            refine hK.out _ _ hP2 (fun _ => ?_)
                            clear hK K'
                            (try simp only [Act.put, List.getElem_toArray, List.getElem_cons_zero, List.getElem_cons_succ, List.setIfInBounds_toArray, List.set_cons_zero, List.set_cons_succ])
                            have hs_B := Side.fresh hZ hO #[.slice none 0 0, .int .i64 0] 34
                            replace hO := hO.alloc (.cells #[.slice none 0 0, .int .i64 0] 34)
                            replace hZ : wp.heap.size ≤ (W2.alloc (.cells #[.slice none 0 0, .int .i64 0] 34)).heap.size := by rw [World.size_alloc]; omega
                            clear hP
                            have hP := hP2
                            clear hP2
                            obtain ⟨W10, hWe⟩ : ∃ W10, (W2.alloc (.cells #[.slice none 0 0, .int .i64 0] 34)) = W10 := ⟨_, rfl⟩
                            rw [hWe] at hP hZ hO hs_B ⊢
                            clear hWe
                            refine wpAnyH_ready (rs := [12]) (by kernel_rfl) (by simp) ?_
                            refine AllReadyH.cons rfl ?_ ?_
                            · intro K' hK
                              refine step_appN W10 rfl (.tmp 72) (.tmp 77) 22 rfl wp.heap.size 3 j0 _ 1 8 und22 jh jz js jb rfl (by decide) _ (SS.length) (((zs SS).map (Value.int .i64))) rfl hO Ta (TT.length) tc (((zs TT).map (Value.int .i64))) rfl (by have := i64_rd (hT.ext hP); rwa [zs_len] at this) (one_i64 _) (by unfold maxLen; omega) (by omega) hZ ?_
                              intro A3 c6 W11 hO2 hg2 hf2
                              have hP2 := gb_below hP hg2 hZ (fun g hg => (hO.lt g hg).1)
                              have hZ2 := Nat.le_trans hZ hg2.size
                              refine hK.out _ _ hP2 (fun _ => ?_)
                              clear hK K'
                              (try simp only [Act.put, List.getElem_toArray, List.getElem_cons_zero, List.getElem_cons_succ, List.setIfInBounds_toArray, List.set_cons_zero, List.set_cons_succ])
                              replace hs_B := hs_B.grown hg2 hf2
                              clear hO hP hZ hg2 hf2
                              have hO := hO2
                              have hP := hP2
                              have hZ := hZ2
                              clear hO2 hP2 hZ2
                              refine wpAnyH_ready (rs := [13]) (by kernel_rfl) (by simp) ?_
                              refine AllReadyH.cons rfl ?_ ?_
                              · intro K' hK
                                rw [if_pos (by rfl)]
                                go_simp
                                go_at_call 49
                                refine (CT.out _ _ _ _).mono ?_
                                rintro e W12 ⟨rfl, hbq⟩
                                replace hbq := ex_below hbq
                                (try dsimp only)
                                replace hs_B := hs_B.below hbq
                                replace hO := ownsRow_grows hO hbq
                                have hP2 := below_step hP hbq hZ
                                have hZ2 := Nat.le_trans hZ hbq.size
                                refine hK.out _ _ hP2 (fun _ => ?_)
                                clear hK K'
                                (try simp only [Act.put, List.getElem_toArray, List.getElem_cons_zero, List.getElem_cons_succ, List.setIfInBounds_toArray, List.set_cons_zero, List.set_cons_succ])
                                clear hP hZ hbq
                                have hP := hP2
                                have hZ := hZ2
                                clear hP2 hZ2
                                refine wpAnyH_ready (rs := [15]) (by kernel_rfl) (by simp) ?_
                                refine AllReadyH.cons rfl ?_ ?_
                                · intro K' hK
                                  rw [if_pos (by rfl)]
                                  have c0 := obj_at hs_B.2.2.1 0 _ rfl
                                  have c1 := obj_at hs_B.2.2.1 1 _ rfl
                                  have f0 := obj_fz hs_B.2.2.1 0
                                  have f1 := obj_fz hs_B.2.2.1 1
                                  go_simp
                                  refine hK.out _ _ (Below.setCell (p := ⟨W2.heap.size, 1, none⟩) (Below.setCell (p := ⟨W2.heap.size, 0, none⟩) hP hs_B.1 _) hs_B.1 _) (fun _ => ?_)
                                  clear hK K'
                                  (try simp only [Act.put, List.getElem_toArray, List.getElem_cons_zero, List.getElem_cons_succ, List.setIfInBounds_toArray, List.set_cons_zero, List.set_cons_succ])
                                  refine wpAnyH_done (by kernel_rfl) ?_ _
                                  refine NoPanic.normal ?_
                                  have hO4 := own_setFar (own_setFar hO hs_B.2.2.2 0 (.slice A3 (SS.length + TT.length) c6)) hs_B.2.2.2 1 (.int .i64 1)
                                  rw [← List.map_append] at hO4
                                  have hI4 := own_i64 (xs := zs SS ++ zs TT) (c := c6) (by rw [List.length_append, zs_len, zs_len]; exact hO4)
                                  rw [show zs SS ++ zs TT = zs (SS ++ TT) by unfold zs; rw [List.map_append], zs_len, List.length_append] at hI4
                                  go_wp2_with fail
                                  go_meet
                                  exact ⟨_, A3, c6, rfl, set_two hs_B.2.2.1, hI4.1, hI4.2.1, fun b o e => hO4.lt b (by rw [e]; rfl), hs_B.1, Below.setCell (Below.setCell hP hs_B.1 _) hs_B.1 _⟩
                                exact AllReadyH.nil
                              exact AllReadyH.nil
                            exact AllReadyH.nil
                          exact AllReadyH.nil
                        refine AllReadyH.cons rfl ?_ ?_
                        · intro K' hK
                          rw [if_pos (by rfl)]
                          go_simp
                          have hP2 := below_alloc hP hZ (.cells #[.slice none 0 0, .int .i64 0] 34)
                          refine hK.out _ _ hP2 (fun _ => ?_)
                          clear hK K'
                          (try simp only [Act.put, List.getElem_toArray, List.getElem_cons_zero, List.getElem_cons_succ, List.setIfInBounds_toArray, List.set_cons_zero, List.set_cons_succ])
                          have hs_B := Side.fresh hZ hO #[.slice none 0 0, .int .i64 0] 34
                          replace hO := hO.alloc (.cells #[.slice none 0 0, .int .i64 0] 34)
                          replace hZ : wp.heap.size ≤ (W1.alloc (.cells #[.slice none 0 0, .int .i64 0] 34)).heap.size := by rw [World.size_alloc]; omega
                          clear hP
                          have hP := hP2
                          clear hP2
                          obtain ⟨W14, hWe⟩ : ∃ W14, (W1.alloc (.cells #[.slice none 0 0, .int .i64 0] 34)) = W14 := ⟨_, rfl⟩
                          rw [hWe] at hP hZ hO hs_B ⊢
                          clear hWe
                          refine wpAnyH_ready (rs := [6]) (by kernel_rfl) (by simp) ?_
                          refine AllReadyH.cons rfl ?_ ?_
                          · intro K' hK
                            refine step_appN W14 rfl (.tmp 66) (.tmp 71) 22 rfl wp.heap.size 3 j0 _ 1 8 und22 jh jz js jb rfl (by decide) _ (0) ([]) rfl hO Sa (SS.length) sc (((zs SS).map (Value.int .i64))) rfl (by have := i64_rd (hS.ext hP); rwa [zs_len] at this) (one_i64 _) (by unfold maxLen; omega) (by omega) hZ ?_
                            intro A2 c2 W15 hO2 hg2 hf2
                            rw [Nat.zero_add SS.length, List.nil_append] at hO2
                            rw [Nat.zero_add SS.length] at hf2 ⊢
                            have hP2 := gb_below hP hg2 hZ (fun g hg => (hO.lt g hg).1)
                            have hZ2 := Nat.le_trans hZ hg2.size
                            refine hK.out _ _ hP2 (fun _ => ?_)
                            clear hK K'
                            (try simp only [Act.put, List.getElem_toArray, List.getElem_cons_zero, List.getElem_cons_succ, List.setIfInBounds_toArray, List.set_cons_zero, List.set_cons_succ])
                            replace hs_B := hs_B.grown hg2 hf2
                            clear hO hP hZ hg2 hf2
                            have hO := hO2
                            have hP := hP2
                            have hZ := hZ2
                            clear hO2 hP2 hZ2
                            refine wpAnyH_ready (rs := [12]) (by kernel_rfl) (by simp) ?_
                            refine AllReadyH.cons rfl ?_ ?_
                            · intro K' hK
                              refine step_appN W15 rfl (.tmp 72) (.tmp 77) 22 rfl wp.heap.size 3 j0 _ 1 8 und22 jh jz js jb rfl (by decide) _ (SS.length) (((zs SS).map (Value.int .i64))) rfl hO Ta (TT.length) tc (((zs TT).map (Value.int .i64))) rfl (by have := i64_rd (hT.ext hP); rwa [zs_len] at this) (one_i64 _) (by unfold maxLen; omega) (by omega) hZ ?_
                              intro A3 c6 W16 hO2 hg2 hf2
                              have hP2 := gb_below hP hg2 hZ (fun g hg => (hO.lt g hg).1)
                              have hZ2 := Nat.le_trans hZ hg2.size
                              refine hK.out _ _ hP2 (fun _ => ?_)
                              clear hK K'
                              (try simp only [Act.put, List.getElem_toArray, List.getElem_cons_zero, List.getElem_cons_succ, List.setIfInBounds_toArray, List.set_cons_zero, List.set_cons_succ])
                              replace hs_B := hs_B.grown hg2 hf2
                              clear hO hP hZ hg2 hf2
                              have hO := hO2
                              have hP := hP2
                              have hZ := hZ2
                              clear hO2 hP2 hZ2
                              refine wpAnyH_ready (rs := [13]) (by kernel_rfl) (by simp) ?_
                              refine AllReadyH.cons rfl ?_ ?_
                              · intro K' hK
                                rw [if_pos (by rfl)]
                                go_simp
                                go_at_call 49
                                refine (CT.out _ _ _ _).mono ?_
                                rintro e W17 ⟨rfl, hbq⟩
                                replace hbq := ex_below hbq
                                (try dsimp only)
                                replace hs_B := hs_B.below hbq
                                replace hO := ownsRow_grows hO hbq
                                have hP2 := below_step hP hbq hZ
                                have hZ2 := Nat.le_trans hZ hbq.size
                                refine hK.out _ _ hP2 (fun _ => ?_)
                                clear hK K'
                                (try simp only [Act.put, List.getElem_toArray, List.getElem_cons_zero, List.getElem_cons_succ, List.setIfInBounds_toArray, List.set_cons_zero, List.set_cons_succ])
                                clear hP hZ hbq
                                have hP := hP2
                                have hZ := hZ2
                                clear hP2 hZ2
                                refine wpAnyH_ready (rs := [15]) (by kernel_rfl) (by simp) ?_
                                refine AllReadyH.cons rfl ?_ ?_
                                · intro K' hK
                                  rw [if_pos (by rfl)]
                                  have c0 := obj_at hs_B.2.2.1 0 _ rfl
                                  have c1 := obj_at hs_B.2.2.1 1 _ rfl
                                  have f0 := obj_fz hs_B.2.2.1 0
                                  have f1 := obj_fz hs_B.2.2.1 1
                                  go_simp
                                  refine hK.out _ _ (Below.setCell (p := ⟨W1.heap.size, 1, none⟩) (Below.setCell (p := ⟨W1.heap.size, 0, none⟩) hP hs_B.1 _) hs_B.1 _) (fun _ => ?_)
                                  clear hK K'
                                  (try simp only [Act.put, List.getElem_toArray, List.getElem_cons_zero, List.getElem_cons_succ, List.setIfInBounds_toArray, List.set_cons_zero, List.set_cons_succ])
                                  refine wpAnyH_done (by kernel_rfl) ?_ _
                                  refine NoPanic.normal ?_
                                  have hO4 := own_setFar (own_setFar hO hs_B.2.2.2 0 (.slice A3 (SS.length + TT.length) c6)) hs_B.2.2.2 1 (.int .i64 1)
                                  rw [← List.map_append] at hO4
                                  have hI4 := own_i64 (xs := zs SS ++ zs TT) (c := c6) (by rw [List.length_append, zs_len, zs_len]; exact hO4)
                                  rw [show zs SS ++ zs TT = zs (SS ++ TT) by unfold zs; rw [List.map_append], zs_len, List.length_append] at hI4
                                  go_wp2_with fail
                                  go_meet
                                  exact ⟨_, A3, c6, rfl, set_two hs_B.2.2.1, hI4.1, hI4.2.1, fun b o e => hO4.lt b (by rw [e]; rfl), hs_B.1, Below.setCell (Below.setCell hP hs_B.1 _) hs_B.1 _⟩
                                exact AllReadyH.nil
                              exact AllReadyH.nil
                            exact AllReadyH.nil
                          exact AllReadyH.nil
                        exact AllReadyH.nil
                      refine AllReadyH.cons rfl ?_ ?_
                      · intro K' hK
                        rw [if_pos (by rfl)]
                        go_simp
                        have hP2 := below_alloc hP hZ (.cells #[.slice none 0 0, .int .i64 0] 34)
                        refine hK.out _ _ hP2 (fun _ => ?_)
                        clear hK K'
                        (try simp only [Act.put, List.getElem_toArray, List.getElem_cons_zero, List.getElem_cons_succ, List.setIfInBounds_toArray, List.set_cons_zero, List.set_cons_succ])
                        have hs_B := Side.fresh0 (W := W0) hZ #[.slice none 0 0, .int .i64 0] 34
                        replace hZ : wp.heap.size ≤ (W0.alloc (.cells #[.slice none 0 0, .int .i64 0] 34)).heap.size := by rw [World.size_alloc]; omega
                        clear hP
                        have hP := hP2
                        clear hP2
                        obtain ⟨W19, hWe⟩ : ∃ W19, (W0.alloc (.cells #[.slice none 0 0, .int .i64 0] 34)) = W19 := ⟨_, rfl⟩
                        rw [hWe] at hP hZ hs_B ⊢
                        clear hWe
                        refine wpAnyH_ready (rs := [0]) (by kernel_rfl) (by simp) ?_
                        refine AllReadyH.cons rfl ?_ ?_
                        · intro K' hK
                          rw [if_pos (by rfl)]
                          go_simp
                          have hP2 := below_alloc hP hZ (.cells #[] 3)
                          refine hK.out _ _ hP2 (fun _ => ?_)
                          clear hK K'
                          (try simp only [Act.put, List.getElem_toArray, List.getElem_cons_zero, List.getElem_cons_succ, List.setIfInBounds_toArray, List.set_cons_zero, List.set_cons_succ])
                          replace hs_B := hs_B.lit (.cells #[] 3)
                          have hO : (W19.alloc (.cells #[] 3)).ownsRow wp.heap.size 3 1 (.slice (some ⟨W19.heap.size, 0, none⟩) 0 0) 0 [] := own_lit0 (heap_alloc_new W19 _) hZ
                          replace hZ : wp.heap.size ≤ (W19.alloc (.cells #[] 3)).heap.size := by rw [World.size_alloc]; omega
                          clear hP
                          have hP := hP2
                          clear hP2
                          obtain ⟨W20, hWe⟩ : ∃ W20, (W19.alloc (.cells #[] 3)) = W20 := ⟨_, rfl⟩
                          rw [hWe] at hP hZ hO hs_B ⊢
                          clear hWe
                          refine wpAnyH_ready (rs := [6]) (by kernel_rfl) (by simp) ?_
                          refine AllReadyH.cons rfl ?_ ?_
                          · intro K' hK
                            refine step_appN W20 rfl (.tmp 66) (.tmp 71) 22 rfl wp.heap.size 3 j0 _ 1 8 und22 jh jz js jb rfl (by decide) _ (0) ([]) rfl hO Sa (SS.length) sc (((zs SS).map (Value.int .i64))) rfl (by have := i64_rd (hS.ext hP); rwa [zs_len] at this) (one_i64 _) (by unfold maxLen; omega) (by omega) hZ ?_
                            intro A2 c2 W21 hO2 hg2 hf2
                            rw [Nat.zero_add SS.length, List.nil_append] at hO2
                            rw [Nat.zero_add SS.length] at hf2 ⊢
                            have hP2 := gb_below hP hg2 hZ (fun g hg => (hO.lt g hg).1)
                            have hZ2 := Nat.le_trans hZ hg2.size
                            refine hK.out _ _ hP2 (fun _ => ?_)
                            clear hK K'
                            (try simp only [Act.put, List.getElem_toArray, List.getElem_cons_zero, List.getElem_cons_succ, List.setIfInBounds_toArray, List.set_cons_zero, List.set_cons_succ])
                            replace hs_B := hs_B.grown hg2 hf2
                            clear hO hP hZ hg2 hf2
                            have hO := hO2
                            have hP := hP2
                            have hZ := hZ2
                            clear hO2 hP2 hZ2
                            refine wpAnyH_ready (rs := [12]) (by kernel_rfl) (by simp) ?_
                            refine AllReadyH.cons rfl ?_ ?_
                            · intro K' hK
                              refine step_appN W21 rfl (.tmp 72) (.tmp 77) 22 rfl wp.heap.size 3 j0 _ 1 8 und22 jh jz js jb rfl (by decide) _ (SS.length) (((zs SS).map (Value.int .i64))) rfl hO Ta (TT.length) tc (((zs TT).map (Value.int .i64))) rfl (by have := i64_rd (hT.ext hP); rwa [zs_len] at this) (one_i64 _) (by unfold maxLen; omega) (by omega) hZ ?_
                              intro A3 c6 W22 hO2 hg2 hf2
                              have hP2 := gb_below hP hg2 hZ (fun g hg => (hO.lt g hg).1)
                              have hZ2 := Nat.le_trans hZ hg2.size
                              refine hK.out _ _ hP2 (fun _ => ?_)
                              clear hK K'
                              (try simp only [Act.put, List.getElem_toArray, List.getElem_cons_zero, List.getElem_cons_succ, List.setIfInBounds_toArray, List.set_cons_zero, List.set_cons_succ])
                              replace hs_B := hs_B.grown hg2 hf2
                              clear hO hP hZ hg2 hf2
                              have hO := hO2
                              have hP := hP2
                              have hZ := hZ2
                              clear hO2 hP2 hZ2
                              refine wpAnyH_ready (rs := [13]) (by kernel_rfl) (by simp) ?_
                              refine AllReadyH.cons rfl ?_ ?_
                              · intro K' hK
                                rw [if_pos (by rfl)]
                                go_simp
                                go_at_call 49
                                refine (CT.out _ _ _ _).mono ?_
                                rintro e W23 ⟨rfl, hbq⟩
                                replace hbq := ex_below hbq
                                (try dsimp only)
                                replace hs_B := hs_B.below hbq
                                replace hO := ownsRow_grows hO hbq
                                have hP2 := below_step hP hbq hZ
                                have hZ2 := Nat.le_trans hZ hbq.size
                                refine hK.out _ _ hP2 (fun _ => ?_)
                                clear hK K'
                                (try simp only [Act.put, List.getElem_toArray, List.getElem_cons_zero, List.getElem_cons_succ, List.setIfInBounds_toArray, List.set_cons_zero, List.set_cons_succ])
                                clear hP hZ hbq
                                have hP := hP2
                                have hZ := hZ2
                                clear hP2 hZ2
                                refine wpAnyH_ready (rs := [15]) (by kernel_rfl) (by simp) ?_
                                refine AllReadyH.cons rfl ?_ ?_
                                · intro K' hK
                                  rw [if_pos (by rfl)]
                                  have c0 := obj_at hs_B.2.2.1 0 _ rfl
                                  have c1 := obj_at hs_B.2.2.1 1 _ rfl
                                  have f0 := obj_fz hs_B.2.2.1 0
                                  have f1 := obj_fz hs_B.2.2.1 1
                                  go_simp
                                  refine hK.out _ _ (Below.setCell (p := ⟨W0.heap.size, 1, none⟩) (Below.setCell (p := ⟨W0.heap.size, 0, none⟩) hP hs_B.1 _) hs_B.1 _) (fun _ => ?_)
                                  clear hK K'
                                  (try simp only [Act.put, List.getElem_toArray, List.getElem_cons_zero, List.getElem_cons_succ, List.setIfInBounds_toArray, List.set_cons_zero, List.set_cons_succ])
                                  refine wpAnyH_done (by kernel_rfl) ?_ _
                                  refine NoPanic.normal ?_
                                  have hO4 := own_setFar (own_setFar hO hs_B.2.2.2 0 (.slice A3 (SS.length + TT.length) c6)) hs_B.2.2.2 1 (.int .i64 1)
                                  rw [← List.map_append] at hO4
                                  have hI4 := own_i64 (xs := zs SS ++ zs TT) (c := c6) (by rw [List.length_append, zs_len, zs_len]; exact hO4)
                                  rw [show zs SS ++ zs TT = zs (SS ++ TT) by unfold zs; rw [List.map_append], zs_len, List.length_append] at hI4
                                  go_wp2_with fail
                                  go_meet
                                  exact ⟨_, A3, c6, rfl, set_two hs_B.2.2.1, hI4.1, hI4.2.1, fun b o e => hO4.lt b (by rw [e]; rfl), hs_B.1, Below.setCell (Below.setCell hP hs_B.1 _) hs_B.1 _⟩
                                exact AllReadyH.nil
                              exact AllReadyH.nil
                            exact AllReadyH.nil
                          exact AllReadyH.nil
                        exact AllReadyH.nil
                      exact AllReadyH.nil
                    case rest =>
                      obtain ⟨bl2, X, xc, rfl, hL, hI, hxc, hXf, hbl2, hbc⟩ := hcut
                      obtain ⟨v6, hv6⟩ : ∃ v, v = wc := ⟨_, rfl⟩
                      rw [← hv6] at hL hI hXf hbc ⊢
                      have hgw : ∀ g, (Value.slice O rows.length oc).ownBlock = some g → g < wp.heap.size := fun g hg => (hown.lt g hg).2
                      have HXF := hide hXf
                      clear hv6 hXf
                      replace hA1 := hA1.ext hbc
                      replace hE1 := hE1.ext hbc
                      replace hC1 := hC1.ext hbc
                      replace hS := hS.ext hbc
                      replace hT := hT.ext hbc
                      replace hX1 := hX1.ext hbc
                      replace hY1 := hY1.ext hbc
                      replace hK1 := hK1.ext hbc
                      replace q1 := (hbc.cell (p := ⟨tb, tq + i * 2, none⟩) htb).trans q1
                      replace q2 := (hbc.cell (p := ⟨tb, tq + i * 2 + 1, none⟩) htb).trans q2
                      replace htb := Nat.lt_of_lt_of_le htb hbc.size
                      replace p1 := (hbc.cell (p := ⟨ub, uo + k * 2, none⟩) hub).trans p1
                      replace p2 := (hbc.cell (p := ⟨ub, uo + k * 2 + 1, none⟩) hub).trans p2
                      replace hub := Nat.lt_of_lt_of_le hub hbc.size
                      replace hro := hro.ext hbc
                      replace hrf := hrf.ext hbc
                      replace hown := ownsRow_grows hown hbc
                      replace hb := below_step hb hbc (by have := hb.size; omega)
                      clear hbc
                      (try clear hX1c0 hX1f hX1l)
                      have hX1c0 := obj_at hX1 0 _ rfl
                      have hX1f := obj_fz hX1 0
                      have hX1l := obj_lt hX1
                      (try clear hY1c0 hY1f hY1l)
                      have hY1c0 := obj_at hY1 0 _ rfl
                      have hY1f := obj_fz hY1 0
                      have hY1l := obj_lt hY1
                      (try clear hK1c0 hK1f hK1l)
                      have hK1c0 := obj_at hK1 0 _ rfl
                      have hK1f := obj_fz hK1 0
                      have hK1l := obj_lt hK1
                      (try clear hLc0 hLc1 hLf hLl)
                      have hLc0 := obj_at hL 0 _ rfl
                      have hLc1 := obj_at hL 1 _ rfl
                      have hLf := obj_fz hL 0
                      have hLl := obj_lt hL
                      go_upto_region 12 with fail
                      have tkv70 : True := trivial
                      go_region_held3 (fun w' => w'.cell? ⟨w.heap.size, 0, none⟩ = some (.slice A R1.length c) ∧ w'.cell? ⟨tb, tq + i * 2, none⟩ = some (.slice Sa SS.length sc) ∧ w'.cell? ⟨tb, tq + i * 2 + 1, none⟩ = some (.int .i64 (su : Nat))) (simp (maxDischargeDepth := 9) [*, World.cell?_alloc_some, World.cell?_setCell_far]) (first
                        | (clear tkv70; go_at_call 25; refine (D1.out _ _ _ (hA1.ext (by (repeat (first | exact Below.refl _ _ | assumption | (refine below_gr ?_ (by (first | omega | (simp only [size_grow, World.size_alloc, size_drewN, size_drew, size_setCell] at *; omega))) _) | (refine below_alloc ?_ (by (first | omega | (simp only [size_grow, World.size_alloc, size_drewN, size_drew, size_setCell] at *; omega))) _) | (refine Below.setCell ?_ (by (first | omega | (simp only [size_grow, World.size_alloc, size_drewN, size_drew, size_setCell] at *; omega))) _) | refine below_drewN ?_ _ | refine below_drew ?_ | (refine below_step ?_ (by assumption) (by (first | omega | (simp only [size_grow, World.size_alloc, size_drewN, size_drew, size_setCell] at *; omega)))))))) (hS.ext (by (repeat (first | exact Below.refl _ _ | assumption | (refine below_gr ?_ (by (first | omega | (simp only [size_grow, World.size_alloc, size_drewN, size_drew, size_setCell] at *; omega))) _) | (refine below_alloc ?_ (by (first | omega | (simp only [size_grow, World.size_alloc, size_drewN, size_drew, size_setCell] at *; omega))) _) | (refine Below.setCell ?_ (by (first | omega | (simp only [size_grow, World.size_alloc, size_drewN, size_drew, size_setCell] at *; omega))) _) | refine below_drewN ?_ _ | refine below_drew ?_ | (refine below_step ?_ (by assumption) (by (first | omega | (simp only [size_grow, World.size_alloc, size_drewN, size_drew, size_setCell] at *; omega)))))))) q3).mono ?_; rintro e v7 ⟨rfl, hb_v7⟩; replace hb_v7 := ex_below hb_v7; have hz_v7 := hb_v7.size; (try simp only [size_grow, World.size_alloc, size_drewN, size_drew, size_setCell] at hz_v7); have hk0_v7 := own_cell hb_v7 (b := w.heap.size) (by (first | omega | (simp only [size_grow, World.size_alloc, size_drewN, size_drew, size_setCell]; omega) | (simp only [size_grow, World.size_alloc, size_drewN, size_drew, size_setCell] at *; omega) | (simp; done) | (simp; omega))); have hl0_v7 : w.heap.size < v7.heap.size := (by (first | omega | (simp only [size_grow, World.size_alloc, size_drewN, size_drew, size_setCell] at *; omega))); have hk1_v7 := own_cell hb_v7 (b := tb) (by (first | omega | (simp only [size_grow, World.size_alloc, size_drewN, size_drew, size_setCell]; omega) | (simp only [size_grow, World.size_alloc, size_drewN, size_drew, size_setCell] at *; omega) | (simp; done) | (simp; omega))); have hl1_v7 : tb < v7.heap.size := (by (first | omega | (simp only [size_grow, World.size_alloc, size_drewN, size_drew, size_setCell] at *; omega))); have tkv71 : True := trivial)
                        )
                      have bel_v7 : Below v6.heap.size v6 v7 := (by (repeat (first | exact Below.refl _ _ | assumption | (refine below_gr ?_ (by (first | omega | (simp only [size_grow, World.size_alloc, size_drewN, size_drew, size_setCell] at *; omega))) _) | (refine below_alloc ?_ (by (first | omega | (simp only [size_grow, World.size_alloc, size_drewN, size_drew, size_setCell] at *; omega))) _) | (refine Below.setCell ?_ (by (first | omega | (simp only [size_grow, World.size_alloc, size_drewN, size_drew, size_setCell] at *; omega))) _) | refine below_drewN ?_ _ | refine below_drew ?_ | (refine below_step ?_ (by assumption) (by (first | omega | (simp only [size_grow, World.size_alloc, size_drewN, size_drew, size_setCell] at *; omega)))))))
                      have sz_v7 := bel_v7.size
                      replace hA1 := hA1.ext bel_v7
                      replace hE1 := hE1.ext bel_v7
                      replace hC1 := hC1.ext bel_v7
                      replace hS := hS.ext bel_v7
                      replace hT := hT.ext bel_v7
                      replace hX1 := hX1.ext bel_v7
                      replace hY1 := hY1.ext bel_v7
                      replace hK1 := hK1.ext bel_v7
                      replace q1 := (bel_v7.cell (p := ⟨tb, tq + i * 2, none⟩) htb).trans q1
                      replace q2 := (bel_v7.cell (p := ⟨tb, tq + i * 2 + 1, none⟩) htb).trans q2
                      replace htb := Nat.lt_of_lt_of_le htb bel_v7.size
                      replace p1 := (bel_v7.cell (p := ⟨ub, uo + k * 2, none⟩) hub).trans p1
                      replace p2 := (bel_v7.cell (p := ⟨ub, uo + k * 2 + 1, none⟩) hub).trans p2
                      replace hub := Nat.lt_of_lt_of_le hub bel_v7.size
                      replace hro := hro.ext bel_v7
                      replace hrf := hrf.ext bel_v7
                      replace hown := ownsRow_grows hown bel_v7
                      replace hb := below_step hb bel_v7 (by have := hb.size; omega)
                      replace hL := hL.ext bel_v7
                      replace hI := hI.ext bel_v7
                      clear bel_v7 hb_v7 hz_v7 hk0_v7 hk1_v7 hl0_v7 hl1_v7
                      (try clear hX1c0 hX1f hX1l)
                      have hX1c0 := obj_at hX1 0 _ rfl
                      have hX1f := obj_fz hX1 0
                      have hX1l := obj_lt hX1
                      (try clear hY1c0 hY1f hY1l)
                      have hY1c0 := obj_at hY1 0 _ rfl
                      have hY1f := obj_fz hY1 0
                      have hY1l := obj_lt hY1
                      (try clear hK1c0 hK1f hK1l)
                      have hK1c0 := obj_at hK1 0 _ rfl
                      have hK1f := obj_fz hK1 0
                      have hK1l := obj_lt hK1
                      (try clear hLc0 hLc1 hLf hLl)
                      have hLc0 := obj_at hL 0 _ rfl
                      have hLc1 := obj_at hL 1 _ rfl
                      have hLf := obj_fz hL 0
                      have hLl := obj_lt hL
                      go_upto_region 13 with fail
                      have tkv80 : True := trivial
                      go_region_held3 (fun w' => w'.cell? ⟨w.heap.size + 1, 0, none⟩ = some (.slice E Q1.length e) ∧ w'.cell? ⟨ub, uo + k * 2, none⟩ = some (.slice Ta TT.length tc) ∧ w'.cell? ⟨ub, uo + k * 2 + 1, none⟩ = some (.int .i64 (tu : Nat))) (simp (maxDischargeDepth := 9) [*, World.cell?_alloc_some, World.cell?_setCell_far]) (first
                        | (clear tkv80; go_at_call 25; refine (D2.out _ _ _ (hE1.ext (by (repeat (first | exact Below.refl _ _ | assumption | (refine below_gr ?_ (by (first | omega | (simp only [size_grow, World.size_alloc, size_drewN, size_drew, size_setCell] at *; omega))) _) | (refine below_alloc ?_ (by (first | omega | (simp only [size_grow, World.size_alloc, size_drewN, size_drew, size_setCell] at *; omega))) _) | (refine Below.setCell ?_ (by (first | omega | (simp only [size_grow, World.size_alloc, size_drewN, size_drew, size_setCell] at *; omega))) _) | refine below_drewN ?_ _ | refine below_drew ?_ | (refine below_step ?_ (by assumption) (by (first | omega | (simp only [size_grow, World.size_alloc, size_drewN, size_drew, size_setCell] at *; omega)))))))) (hT.ext (by (repeat (first | exact Below.refl _ _ | assumption | (refine below_gr ?_ (by (first | omega | (simp only [size_grow, World.size_alloc, size_drewN, size_drew, size_setCell] at *; omega))) _) | (refine below_alloc ?_ (by (first | omega | (simp only [size_grow, World.size_alloc, size_drewN, size_drew, size_setCell] at *; omega))) _) | (refine Below.setCell ?_ (by (first | omega | (simp only [size_grow, World.size_alloc, size_drewN, size_drew, size_setCell] at *; omega))) _) | refine below_drewN ?_ _ | refine below_drew ?_ | (refine below_step ?_ (by assumption) (by (first | omega | (simp only [size_grow, World.size_alloc, size_drewN, size_drew, size_setCell] at *; omega)))))))) p3).mono ?_; rintro e v8 ⟨rfl, hb_v8⟩; replace hb_v8 := ex_below hb_v8; have hz_v8 := hb_v8.size; (try simp only [size_grow, World.size_alloc, size_drewN, size_drew, size_setCell] at hz_v8); have hk0_v8 := own_cell hb_v8 (b := (w.heap.size + 1)) (by (first | omega | (simp only [size_grow, World.size_alloc, size_drewN, size_drew, size_setCell]; omega) | (simp only [size_grow, World.size_alloc, size_drewN, size_drew, size_setCell] at *; omega) | (simp; done) | (simp; omega))); have hl0_v8 : (w.heap.size + 1) < v8.heap.size := (by (first | omega | (simp only [size_grow, World.size_alloc, size_drewN, size_drew, size_setCell] at *; omega))); have hk1_v8 := own_cell hb_v8 (b := ub) (by (first | omega | (simp only [size_grow, World.size_alloc, size_drewN, size_drew, size_setCell]; omega) | (simp only [size_grow, World.size_alloc, size_drewN, size_drew, size_setCell] at *; omega) | (simp; done) | (simp; omega))); have hl1_v8 : ub < v8.heap.size := (by (first | omega | (simp only [size_grow, World.size_alloc, size_drewN, size_drew, size_setCell] at *; omega))); have tkv81 : True := trivial)
                        )
                      have bel_v8 : Below v7.heap.size v7 v8 := (by (repeat (first | exact Below.refl _ _ | assumption | (refine below_gr ?_ (by (first | omega | (simp only [size_grow, World.size_alloc, size_drewN, size_drew, size_setCell] at *; omega))) _) | (refine below_alloc ?_ (by (first | omega | (simp only [size_grow, World.size_alloc, size_drewN, size_drew, size_setCell] at *; omega))) _) | (refine Below.setCell ?_ (by (first | omega | (simp only [size_grow, World.size_alloc, size_drewN, size_drew, size_setCell] at *; omega))) _) | refine below_drewN ?_ _ | refine below_drew ?_ | (refine below_step ?_ (by assumption) (by (first | omega | (simp only [size_grow, World.size_alloc, size_drewN, size_drew, size_setCell] at *; omega)))))))
                      have sz_v8 := bel_v8.size
                      replace hA1 := hA1.ext bel_v8
                      replace hE1 := hE1.ext bel_v8
                      replace hC1 := hC1.ext bel_v8
                      replace hS := hS.ext bel_v8
                      replace hT := hT.ext bel_v8
                      replace hX1 := hX1.ext bel_v8
                      replace hY1 := hY1.ext bel_v8
                      replace hK1 := hK1.ext bel_v8
                      replace q1 := (bel_v8.cell (p := ⟨tb, tq + i * 2, none⟩) htb).trans q1
                      replace q2 := (bel_v8.cell (p := ⟨tb, tq + i * 2 + 1, none⟩) htb).trans q2
                      replace htb := Nat.lt_of_lt_of_le htb bel_v8.size
                      replace p1 := (bel_v8.cell (p := ⟨ub, uo + k * 2, none⟩) hub).trans p1
                      replace p2 := (bel_v8.cell (p := ⟨ub, uo + k * 2 + 1, none⟩) hub).trans p2
                      replace hub := Nat.lt_of_lt_of_le hub bel_v8.size
                      replace hro := hro.ext bel_v8
                      replace hrf := hrf.ext bel_v8
                      replace hown := ownsRow_grows hown bel_v8
                      replace hb := below_step hb bel_v8 (by have := hb.size; omega)
                      replace hL := hL.ext bel_v8
                      replace hI := hI.ext bel_v8
                      clear bel_v8 hb_v8 hz_v8 hk0_v8 hk1_v8 hl0_v8 hl1_v8
                      (try clear hX1c0 hX1f hX1l)
                      have hX1c0 := obj_at hX1 0 _ rfl
                      have hX1f := obj_fz hX1 0
                      have hX1l := obj_lt hX1
                      (try clear hY1c0 hY1f hY1l)
                      have hY1c0 := obj_at hY1 0 _ rfl
                      have hY1f := obj_fz hY1 0
                      have hY1l := obj_lt hY1
                      (try clear hK1c0 hK1f hK1l)
                      have hK1c0 := obj_at hK1 0 _ rfl
                      have hK1f := obj_fz hK1 0
                      have hK1l := obj_lt hK1
                      (try clear hLc0 hLc1 hLf hLl)
                      have hLc0 := obj_at hL 0 _ rfl
                      have hLc1 := obj_at hL 1 _ rfl
                      have hLf := obj_fz hL 0
                      have hLl := obj_lt hL
                      have tok0 : True := trivial
                      go_wp2_with (first
    | (clear tok0; go_at_call 25; refine (D3.out _ _ _ (hC1.ext (by (repeat (first | exact Below.refl _ _ | assumption | (refine below_gr ?_ (by (first | omega | (simp only [size_grow, World.size_alloc, size_drewN, size_drew, size_setCell] at *; omega))) _) | (refine below_alloc ?_ (by (first | omega | (simp only [size_grow, World.size_alloc, size_drewN, size_drew, size_setCell] at *; omega))) _) | (refine Below.setCell ?_ (by (first | omega | (simp only [size_grow, World.size_alloc, size_drewN, size_drew, size_setCell] at *; omega))) _) | refine below_drewN ?_ _ | refine below_drew ?_ | (refine below_step ?_ (by assumption) (by (first | omega | (simp only [size_grow, World.size_alloc, size_drewN, size_drew, size_setCell] at *; omega)))))))) (hI.ext (by (repeat (first | exact Below.refl _ _ | assumption | (refine below_gr ?_ (by (first | omega | (simp only [size_grow, World.size_alloc, size_drewN, size_drew, size_setCell] at *; omega))) _) | (refine below_alloc ?_ (by (first | omega | (simp only [size_grow, World.size_alloc, size_drewN, size_drew, size_setCell] at *; omega))) _) | (refine Below.setCell ?_ (by (first | omega | (simp only [size_grow, World.size_alloc, size_drewN, size_drew, size_setCell] at *; omega))) _) | refine below_drewN ?_ _ | refine below_drew ?_ | (refine below_step ?_ (by assumption) (by (first | omega | (simp only [size_grow, World.size_alloc, size_drewN, size_drew, size_setCell] at *; omega)))))))) hxc).mono ?_; rintro e u1 ⟨rfl, hb_u1⟩; replace hb_u1 := ex_below hb_u1; have bel_u1 : Below v8.heap.size v8 u1 := (by (repeat (first | exact Below.refl _ _ | assumption | (refine below_gr ?_ (by (first | omega | (simp only [size_grow, World.size_alloc, size_drewN, size_drew, size_setCell] at *; omega))) _) | (refine below_alloc ?_ (by (first | omega | (simp only [size_grow, World.size_alloc, size_drewN, size_drew, size_setCell] at *; omega))) _) | (refine Below.setCell ?_ (by (first | omega | (simp only [size_grow, World.size_alloc, size_drewN, size_drew, size_setCell] at *; omega))) _) | refine below_drewN ?_ _ | refine below_drew ?_ | (refine below_step ?_ (by assumption) (by (first | omega | (simp only [size_grow, World.size_alloc, size_drewN, size_drew, size_setCell] at *; omega))))))); clear hb_u1; have sz_u1 := bel_u1.size; replace hA1 := hA1.ext bel_u1; replace hE1 := hE1.ext bel_u1; replace hC1 := hC1.ext bel_u1; replace hS := hS.ext bel_u1; replace hT := hT.ext bel_u1; replace hX1 := hX1.ext bel_u1; replace hY1 := hY1.ext bel_u1; replace hK1 := hK1.ext bel_u1; replace q1 := (bel_u1.cell (p := ⟨tb, tq + i * 2, none⟩) htb).trans q1; replace q2 := (bel_u1.cell (p := ⟨tb, tq + i * 2 + 1, none⟩) htb).trans q2; replace htb := Nat.lt_of_lt_of_le htb bel_u1.size; replace p1 := (bel_u1.cell (p := ⟨ub, uo + k * 2, none⟩) hub).trans p1; replace p2 := (bel_u1.cell (p := ⟨ub, uo + k * 2 + 1, none⟩) hub).trans p2; replace hub := Nat.lt_of_lt_of_le hub bel_u1.size; replace hro := hro.ext bel_u1; replace hrf := hrf.ext bel_u1; replace hown := ownsRow_grows hown bel_u1; replace hb := below_step hb bel_u1 (by have := hb.size; omega); replace hL := hL.ext bel_u1; replace hI := hI.ext bel_u1; (try clear hX1c0 hX1f hX1l); have hX1c0 := obj_at hX1 0 _ rfl; have hX1f := obj_fz hX1 0; have hX1l := obj_lt hX1; (try clear hY1c0 hY1f hY1l); have hY1c0 := obj_at hY1 0 _ rfl; have hY1f := obj_fz hY1 0; have hY1l := obj_lt hY1; (try clear hK1c0 hK1f hK1l); have hK1c0 := obj_at hK1 0 _ rfl; have hK1f := obj_fz hK1 0; have hK1l := obj_lt hK1; (try clear hLc0 hLc1 hLf hLl); have hLc0 := obj_at hL 0 _ rfl; have hLc1 := obj_at hL 1 _ rfl; have hLf := obj_fz hL 0; have hLl := obj_lt hL; clear bel_u1; have tok1 : True := trivial)
    | (at_builtin; refine wpList_appN _ rfl (.tmp 121) (.tmp 123) 25 rfl (u4.heap.size) 34 l0 _ 2 32 und25 lh lz ls lb rfl (by decide) (.slice O rows.length oc) (rows.length) (cellsT rows) rfl (hown.alloc _) (some ⟨u1.heap.size, 0, none⟩) 1 1 ([.slice X (SS.length + TT.length) xc, .int .i64 1]) rfl (rd_new2 _ _ _ _) (by simp [Value.oneCell']) (by unfold maxLen; omega) (by omega) (by have hbs9 := hb.size; (first | omega | (simp only [size_grow, World.size_alloc, size_drewN, size_drew, size_setCell]; omega) | (simp only [size_grow, World.size_alloc, size_drewN, size_drew, size_setCell] at *; omega) | (simp; done) | (simp; omega))) ?_; intro A5 c5 w5 hown5 hgr5 far5))
                      have hsz6 : v6.heap.size ≤ u1.heap.size := by omega
                      have hro5 : RowsOk w5 rows := fun r hr => ⟨i64_grownF (((hro r hr).1).ext (below_alloc (Below.refl _ _) (Nat.le_refl _) _)) hgr5 (fun b o e => (hrf r hr b o e).2), (hro r hr).2⟩
                      have hfx : ∀ b o, X = some ⟨b, o, none⟩ → Far (.slice O rows.length oc) b := fun b o e g hg => by
                        have h1 := (HXF.out b o e).1
                        have h2 := hgw g hg
                        omega
                      have hI5 : I64 w5 X (zs (SS ++ TT)) := i64_grownF (hI.ext (below_alloc (Below.refl _ _) (Nat.le_refl _) _)) hgr5 hfx
                      have hgz := hgr5.size
                      rw [World.size_alloc] at hgz
                      have hbz := hb.size
                      have hb5 : Below u4.heap.size u4 w5 := gb_below (below_alloc hb hbz _) hgr5 (by rw [World.size_alloc]; omega) (fun g hg => (hown.lt g hg).1)
                      have hlx : (zs (SS ++ TT)).length = SS.length + TT.length := by rw [zs_len, List.length_append]
                      refine ⟨⟨k + 1, rows ++ [(X, zs (SS ++ TT), xc, 1)], A5, c5, by omega, by go_num, by rw [List.length_append]; rfl, ?_, ?_, ?_, ?_, hb5⟩, by simp [intOf]; omega⟩
                      · have h := HRW.out
                        rw [HJS.out]
                        unfold tksT tz at h ⊢
                        rw [List.map_append, List.map_append, h]; rfl
                      · exact RowsOk.app hro5 (fun r hr => by rw [List.mem_singleton.1 hr]; exact ⟨hI5, by simp only; rw [hlx]; exact hxc⟩)
                      · intro r hr b o e
                        rw [List.length_append]
                        rcases List.mem_append.1 hr with hr | hr
                        · have h1 := hrf r hr b o e
                          have h2 := h1.1
                          exact ⟨by omega, far5 b (by rw [World.size_alloc]; omega) h1.2⟩
                        · rw [List.mem_singleton.1 hr] at e
                          have h1 := HXF.out b o e
                          exact ⟨by omega, far5 b (by rw [World.size_alloc]; omega) (hfx b o e)⟩
                      · rw [cellsT_app, List.length_append]
                        have e : cellsT [(X, zs (SS ++ TT), xc, (1 : Int))] = [.slice X (SS.length + TT.length) xc, .int .i64 1] := by unfold cellsT; simp [hlx]
                        rw [e]
                        exact hown5
                  · have hki : ¬ (k : Int) < (us1.length : Int) := by omega
                    have hkl : k = us1.length := by omega
                    have hrw2 : tksT rows = tz (joinK ts1 us1 (i + 1) 0) := by rw [hrw, hkl, joinK_next hlt]
                    clear hkl hrw
                    go_wp2
                    exact ⟨⟨i + 1, rows, O, oc, by omega, by go_num, rfl, hrw2, hro, hrf, hown, hb⟩, by simp [intOf]; omega⟩
              · have hii : ¬ (i : Int) < (ts1.length : Int) := by omega
                obtain ⟨hok, hoku, hok0⟩ := HOK.out
                have hrw2 : tksT rows = tz (Bm.joinT ts1 us1) := by rw [hrw, show i = ts1.length by omega, joinK_all]
                have hTX : Tks wo O (tz (Bm.joinT ts1 us1)) := by have := own_tks hown hro; rwa [hrw2] at this
                have hxl : (Bm.joinT ts1 us1).length = rows.length := by
                  have h1 := congrArg List.length hrw2
                  unfold tksT at h1
                  rw [List.length_map, tz_len] at h1
                  exact h1.symm
                have hA1 := hA.ext hb
                have hE1 := hE.ext hb
                have hB1 := hB.ext hb
                have hD1 := hD.ext hb
                have hC1 := hC.ext hb
                have hX1 := hX.ext hb
                have hY1 := hX2.ext hb
                have hK1 := hK.ext hb
                have hW1 := below_step hW hb (by have := hW.size; omega)
                have HXL := hide hxl
                have hn1 := after_le7 hok ts1
                have hn2 := after_le7 hoku us1
                by_cases h10 : 10 < rows.length
                · have h10i : (10 : Int) < (rows.length : Int) := by omega
                  clear hrw hrw2 hro hrf hown hxl hok hoku hok0 C1 C2 C3 HSZ HSU HTL HUL HT1 HU1 hTX
                  (try clear hX1c0 hX1f hX1l)
                  have hX1c0 := obj_at hX1 0 _ rfl
                  have hX1f := obj_fz hX1 0
                  have hX1l := obj_lt hX1
                  (try clear hY1c0 hY1f hY1l)
                  have hY1c0 := obj_at hY1 0 _ rfl
                  have hY1f := obj_fz hY1 0
                  have hY1l := obj_lt hY1
                  (try clear hK1c0 hK1f hK1l)
                  have hK1c0 := obj_at hK1 0 _ rfl
                  have hK1f := obj_fz hK1 0
                  have hK1l := obj_lt hK1
                  have tok0 : True := trivial
                  go_wp2_with (first
    | (clear tok0; go_at_call 20; refine (works_any _).mono ?_; rintro e u1 ⟨rfl, hb_u1⟩; replace hb_u1 := ex_below hb_u1; have bel_u1 : Below wo.heap.size wo u1 := (by (repeat (first | exact Below.refl _ _ | assumption | (refine below_gr ?_ (by (first | omega | (simp only [size_grow, World.size_alloc, size_drewN, size_drew, size_setCell] at *; omega))) _) | (refine below_alloc ?_ (by (first | omega | (simp only [size_grow, World.size_alloc, size_drewN, size_drew, size_setCell] at *; omega))) _) | (refine Below.setCell ?_ (by (first | omega | (simp only [size_grow, World.size_alloc, size_drewN, size_drew, size_setCell] at *; omega))) _) | refine below_drewN ?_ _ | refine below_drew ?_ | (refine below_step ?_ (by assumption) (by (first | omega | (simp only [size_grow, World.size_alloc, size_drewN, size_drew, size_setCell] at *; omega))))))); clear hb_u1; have sz_u1 := bel_u1.size; replace hX1 := hX1.ext bel_u1; replace hY1 := hY1.ext bel_u1; replace hK1 := hK1.ext bel_u1; replace hW1 := below_step hW1 bel_u1 (by have := hW1.size; omega); (try clear hX1c0 hX1f hX1l); have hX1c0 := obj_at hX1 0 _ rfl; have hX1f := obj_fz hX1 0; have hX1l := obj_lt hX1; (try clear hY1c0 hY1f hY1l); have hY1c0 := obj_at hY1 0 _ rfl; have hY1f := obj_fz hY1 0; have hY1l := obj_lt hY1; (try clear hK1c0 hK1f hK1l); have hK1c0 := obj_at hK1 0 _ rfl; have hK1f := obj_fz hK1 0; have hK1l := obj_lt hK1; clear bel_u1; have tok1 : True := trivial))
                  go_ret
                  exact gives_of rfl hW1
                · have h10i : ¬ (10 : Int) < (rows.length : Int) := by omega
                  have hokx := ok_joinT hok hoku hok0 (by rw [← Bm.join_len, hxl]; omega)
                  have hcv := Bm.join_cov (R := R1) (Q := Q1) hok.tb (fun t ht => (hok.tu t ht).1) (us := us1) (fun t ht => (hoku.tu t ht).1)
                  have C4 := hide (fun w' (h1 : I64 w' A (zs R1)) (h2 : Tks w' B (tz ts1)) => o_cov A R1 c B ts1 d w' h1 h2 hok)
                  have C5 := hide (fun w' (h1 : I64 w' E (zs Q1)) (h2 : Tks w' D (tz us1)) => o_cov E Q1 e D us1 dd w' h1 h2 hoku)
                  have C6 := hide (fun w' (h1 : I64 w' C (zs (R1 ++ Q1))) (h2 : Tks w' O (tz (Bm.joinT ts1 us1))) => by
                    have := o_cov C (R1 ++ Q1) c3 O (Bm.joinT ts1 us1) oc w' h1 h2 hokx
                    rw [hcv, hRQ, hxl] at this
                    exact this)
                  clear hrw hrw2 hro hrf hown hxl hok hoku hok0 hokx hcv C1 C2 C3 HSZ HSU HTL HUL HT1 HU1
                  generalize Bm.afterN R1 ts1 [] = n1 at *
                  generalize Bm.afterN Q1 us1 [] = n2 at *
                  have hml : (n1 : Int) * (n2 : Int) = ((n1 * n2 : Nat) : Int) := by simp
                  have hmb : n1 * n2 ≤ 7776 * 7776 := Nat.mul_le_mul hn1 hn2
                  have hm0 : (0 : Int) ≤ (n1 : Int) * (n2 : Int) := by rw [hml]; omega
                  have hm1 : (n1 : Int) * (n2 : Int) ≤ 60466176 := by rw [hml]; omega
                  rw [← hml] at C6
                  clear hml hmb
                  (try clear hX1c0 hX1f hX1l)
                  have hX1c0 := obj_at hX1 0 _ rfl
                  have hX1f := obj_fz hX1 0
                  have hX1l := obj_lt hX1
                  (try clear hY1c0 hY1f hY1l)
                  have hY1c0 := obj_at hY1 0 _ rfl
                  have hY1f := obj_fz hY1 0
                  have hY1l := obj_lt hY1
                  (try clear hK1c0 hK1f hK1l)
                  have hK1c0 := obj_at hK1 0 _ rfl
                  have hK1f := obj_fz hK1 0
                  have hK1l := obj_lt hK1
                  have tok0 : True := trivial
                  go_wp2_with (first
    | (clear tok0; go_at_call 32; refine (C4.out _ (hA1.ext (by (repeat (first | exact Below.refl _ _ | assumption | (refine below_gr ?_ (by (first | omega | (simp only [size_grow, World.size_alloc, size_drewN, size_drew, size_setCell] at *; omega))) _) | (refine below_alloc ?_ (by (first | omega | (simp only [size_grow, World.size_alloc, size_drewN, size_drew, size_setCell] at *; omega))) _) | (refine Below.setCell ?_ (by (first | omega | (simp only [size_grow, World.size_alloc, size_drewN, size_drew, size_setCell] at *; omega))) _) | refine below_drewN ?_ _ | refine below_drew ?_ | (refine below_step ?_ (by assumption) (by (first | omega | (simp only [size_grow, World.size_alloc, size_drewN, size_drew, size_setCell] at *; omega)))))))) (hB1.ext (by (repeat (first | exact Below.refl _ _ | assumption | (refine below_gr ?_ (by (first | omega | (simp only [size_grow, World.size_alloc, size_drewN, size_drew, size_setCell] at *; omega))) _) | (refine below_alloc ?_ (by (first | omega | (simp only [size_grow, World.size_alloc, size_drewN, size_drew, size_setCell] at *; omega))) _) | (refine Below.setCell ?_ (by (first | omega | (simp only [size_grow, World.size_alloc, size_drewN, size_drew, size_setCell] at *; omega))) _) | refine below_drewN ?_ _ | refine below_drew ?_ | (refine below_step ?_ (by assumption) (by (first | omega | (simp only [size_grow, World.size_alloc, size_drewN, size_drew, size_setCell] at *; omega))))))))).mono ?_; rintro e u1 ⟨rfl, hb_u1⟩; replace hb_u1 := ex_below hb_u1; have bel_u1 : Below wo.heap.size wo u1 := (by (repeat (first | exact Below.refl _ _ | assumption | (refine below_gr ?_ (by (first | omega | (simp only [size_grow, World.size_alloc, size_drewN, size_drew, size_setCell] at *; omega))) _) | (refine below_alloc ?_ (by (first | omega | (simp only [size_grow, World.size_alloc, size_drewN, size_drew, size_setCell] at *; omega))) _) | (refine Below.setCell ?_ (by (first | omega | (simp only [size_grow, World.size_alloc, size_drewN, size_drew, size_setCell] at *; omega))) _) | refine below_drewN ?_ _ | refine below_drew ?_ | (refine below_step ?_ (by assumption) (by (first | omega | (simp only [size_grow, World.size_alloc, size_drewN, size_drew, size_setCell] at *; omega))))))); clear hb_u1; have sz_u1 := bel_u1.size; replace hA1 := hA1.ext bel_u1; replace hE1 := hE1.ext bel_u1; replace hB1 := hB1.ext bel_u1; replace hD1 := hD1.ext bel_u1; replace hC1 := hC1.ext bel_u1; replace hTX := hTX.ext bel_u1; replace hX1 := hX1.ext bel_u1; replace hY1 := hY1.ext bel_u1; replace hK1 := hK1.ext bel_u1; replace hW1 := below_step hW1 bel_u1 (by have := hW1.size; omega); (try clear hX1c0 hX1f hX1l); have hX1c0 := obj_at hX1 0 _ rfl; have hX1f := obj_fz hX1 0; have hX1l := obj_lt hX1; (try clear hY1c0 hY1f hY1l); have hY1c0 := obj_at hY1 0 _ rfl; have hY1f := obj_fz hY1 0; have hY1l := obj_lt hY1; (try clear hK1c0 hK1f hK1l); have hK1c0 := obj_at hK1 0 _ rfl; have hK1f := obj_fz hK1 0; have hK1l := obj_lt hK1; clear bel_u1; have tok1 : True := trivial)
    | (clear tok1; go_at_call 32; refine (C5.out _ (hE1.ext (by (repeat (first | exact Below.refl _ _ | assumption | (refine below_gr ?_ (by (first | omega | (simp only [size_grow, World.size_alloc, size_drewN, size_drew, size_setCell] at *; omega))) _) | (refine below_alloc ?_ (by (first | omega | (simp only [size_grow, World.size_alloc, size_drewN, size_drew, size_setCell] at *; omega))) _) | (refine Below.setCell ?_ (by (first | omega | (simp only [size_grow, World.size_alloc, size_drewN, size_drew, size_setCell] at *; omega))) _) | refine below_drewN ?_ _ | refine below_drew ?_ | (refine below_step ?_ (by assumption) (by (first | omega | (simp only [size_grow, World.size_alloc, size_drewN, size_drew, size_setCell] at *; omega)))))))) (hD1.ext (by (repeat (first | exact Below.refl _ _ | assumption | (refine below_gr ?_ (by (first | omega | (simp only [size_grow, World.size_alloc, size_drewN, size_drew, size_setCell] at *; omega))) _) | (refine below_alloc ?_ (by (first | omega | (simp only [size_grow, World.size_alloc, size_drewN, size_drew, size_setCell] at *; omega))) _) | (refine Below.setCell ?_ (by (first | omega | (simp only [size_grow, World.size_alloc, size_drewN, size_drew, size_setCell] at *; omega))) _) | refine below_drewN ?_ _ | refine below_drew ?_ | (refine below_step ?_ (by assumption) (by (first | omega | (simp only [size_grow, World.size_alloc, size_drewN, size_drew, size_setCell] at *; omega))))))))).mono ?_; rintro e u2 ⟨rfl, hb_u2⟩; replace hb_u2 := ex_below hb_u2; have bel_u2 : Below u1.heap.size u1 u2 := (by (repeat (first | exact Below.refl _ _ | assumption | (refine below_gr ?_ (by (first | omega | (simp only [size_grow, World.size_alloc, size_drewN, size_drew, size_setCell] at *; omega))) _) | (refine below_alloc ?_ (by (first | omega | (simp only [size_grow, World.size_alloc, size_drewN, size_drew, size_setCell] at *; omega))) _) | (refine Below.setCell ?_ (by (first | omega | (simp only [size_grow, World.size_alloc, size_drewN, size_drew, size_setCell] at *; omega))) _) | refine below_drewN ?_ _ | refine below_drew ?_ | (refine below_step ?_ (by assumption) (by (first | omega | (simp only [size_grow, World.size_alloc, size_drewN, size_drew, size_setCell] at *; omega))))))); clear hb_u2; have sz_u2 := bel_u2.size; replace hA1 := hA1.ext bel_u2; replace hE1 := hE1.ext bel_u2; replace hB1 := hB1.ext bel_u2; replace hD1 := hD1.ext bel_u2; replace hC1 := hC1.ext bel_u2; replace hTX := hTX.ext bel_u2; replace hX1 := hX1.ext bel_u2; replace hY1 := hY1.ext bel_u2; replace hK1 := hK1.ext bel_u2; replace hW1 := below_step hW1 bel_u2 (by have := hW1.size; omega); (try clear hX1c0 hX1f hX1l); have hX1c0 := obj_at hX1 0 _ rfl; have hX1f := obj_fz hX1 0; have hX1l := obj_lt hX1; (try clear hY1c0 hY1f hY1l); have hY1c0 := obj_at hY1 0 _ rfl; have hY1f := obj_fz hY1 0; have hY1l := obj_lt hY1; (try clear hK1c0 hK1f hK1l); have hK1c0 := obj_at hK1 0 _ rfl; have hK1f := obj_fz hK1 0; have hK1l := obj_lt hK1; clear bel_u2; have tok2 : True := trivial)
    | (clear tok2; go_at_call 32; refine (C6.out _ (hC1.ext (by (repeat (first | exact Below.refl _ _ | assumption | (refine below_gr ?_ (by (first | omega | (simp only [size_grow, World.size_alloc, size_drewN, size_drew, size_setCell] at *; omega))) _) | (refine below_alloc ?_ (by (first | omega | (simp only [size_grow, World.size_alloc, size_drewN, size_drew, size_setCell] at *; omega))) _) | (refine Below.setCell ?_ (by (first | omega | (simp only [size_grow, World.size_alloc, size_drewN, size_drew, size_setCell] at *; omega))) _) | refine below_drewN ?_ _ | refine below_drew ?_ | (refine below_step ?_ (by assumption) (by (first | omega | (simp only [size_grow, World.size_alloc, size_drewN, size_drew, size_setCell] at *; omega)))))))) (hTX.ext (by (repeat (first | exact Below.refl _ _ | assumption | (refine below_gr ?_ (by (first | omega | (simp only [size_grow, World.size_alloc, size_drewN, size_drew, size_setCell] at *; omega))) _) | (refine below_alloc ?_ (by (first | omega | (simp only [size_grow, World.size_alloc, size_drewN, size_drew, size_setCell] at *; omega))) _) | (refine Below.setCell ?_ (by (first | omega | (simp only [size_grow, World.size_alloc, size_drewN, size_drew, size_setCell] at *; omega))) _) | refine below_drewN ?_ _ | refine below_drew ?_ | (refine below_step ?_ (by assumption) (by (first | omega | (simp only [size_grow, World.size_alloc, size_drewN, size_drew, size_setCell] at *; omega))))))))).mono ?_; rintro e u3 ⟨rfl, hb_u3⟩; replace hb_u3 := ex_below hb_u3; have bel_u3 : Below u2.heap.size u2 u3 := (by (repeat (first | exact Below.refl _ _ | assumption | (refine below_gr ?_ (by (first | omega | (simp only [size_grow, World.size_alloc, size_drewN, size_drew, size_setCell] at *; omega))) _) | (refine below_alloc ?_ (by (first | omega | (simp only [size_grow, World.size_alloc, size_drewN, size_drew, size_setCell] at *; omega))) _) | (refine Below.setCell ?_ (by (first | omega | (simp only [size_grow, World.size_alloc, size_drewN, size_drew, size_setCell] at *; omega))) _) | refine below_drewN ?_ _ | refine below_drew ?_ | (refine below_step ?_ (by assumption) (by (first | omega | (simp only [size_grow, World.size_alloc, size_drewN, size_drew, size_setCell] at *; omega))))))); clear hb_u3; have sz_u3 := bel_u3.size; replace hA1 := hA1.ext bel_u3; replace hE1 := hE1.ext bel_u3; replace hB1 := hB1.ext bel_u3; replace hD1 := hD1.ext bel_u3; replace hC1 := hC1.ext bel_u3; replace hTX := hTX.ext bel_u3; replace hX1 := hX1.ext bel_u3; replace hY1 := hY1.ext bel_u3; replace hK1 := hK1.ext bel_u3; replace hW1 := below_step hW1 bel_u3 (by have := hW1.size; omega); (try clear hX1c0 hX1f hX1l); have hX1c0 := obj_at hX1 0 _ rfl; have hX1f := obj_fz hX1 0; have hX1l := obj_lt hX1; (try clear hY1c0 hY1f hY1l); have hY1c0 := obj_at hY1 0 _ rfl; have hY1f := obj_fz hY1 0; have hY1l := obj_lt hY1; (try clear hK1c0 hK1f hK1l); have hK1c0 := obj_at hK1 0 _ rfl; have hK1f := obj_fz hK1 0; have hK1l := obj_lt hK1; clear bel_u3; have tok3 : True := trivial)
    | (clear tok3; go_at_call 20; refine (works_any _).mono ?_; rintro e u4 ⟨rfl, hb_u4⟩; replace hb_u4 := ex_below hb_u4; have bel_u4 : Below u3.heap.size u3 u4 := (by (repeat (first | exact Below.refl _ _ | assumption | (refine below_gr ?_ (by (first | omega | (simp only [size_grow, World.size_alloc, size_drewN, size_drew, size_setCell] at *; omega))) _) | (refine below_alloc ?_ (by (first | omega | (simp only [size_grow, World.size_alloc, size_drewN, size_drew, size_setCell] at *; omega))) _) | (refine Below.setCell ?_ (by (first | omega | (simp only [size_grow, World.size_alloc, size_drewN, size_drew, size_setCell] at *; omega))) _) | refine below_drewN ?_ _ | refine below_drew ?_ | (refine below_step ?_ (by assumption) (by (first | omega | (simp only [size_grow, World.size_alloc, size_drewN, size_drew, size_setCell] at *; omega))))))); clear hb_u4; have sz_u4 := bel_u4.size; replace hA1 := hA1.ext bel_u4; replace hE1 := hE1.ext bel_u4; replace hB1 := hB1.ext bel_u4; replace hD1 := hD1.ext bel_u4; replace hC1 := hC1.ext bel_u4; replace hTX := hTX.ext bel_u4; replace hX1 := hX1.ext bel_u4; replace hY1 := hY1.ext bel_u4; replace hK1 := hK1.ext bel_u4; replace hW1 := below_step hW1 bel_u4 (by have := hW1.size; omega); (try clear hX1c0 hX1f hX1l); have hX1c0 := obj_at hX1 0 _ rfl; have hX1f := obj_fz hX1 0; have hX1l := obj_lt hX1; (try clear hY1c0 hY1f hY1l); have hY1c0 := obj_at hY1 0 _ rfl; have hY1f := obj_fz hY1 0; have hY1l := obj_lt hY1; (try clear hK1c0 hK1f hK1l); have hK1c0 := obj_at hK1 0 _ rfl; have hK1f := obj_fz hK1 0; have hK1l := obj_lt hK1; clear bel_u4; have tok4 : True := trivial))
                  go_ret
                  exact gives_of rfl hW1
          · have hne : (chkCard (R ++ Q) != 0) = true := by simpa using hcc
            generalize chkCard (R ++ Q) = ec at *
            have tok0 : True := trivial
            go_wp2_with (first
    | (clear tok0; go_at_call 45; refine (HF.out _ (hA.ext (by (repeat (first | exact Below.refl _ _ | assumption | (refine below_gr ?_ (by (first | omega | (simp only [size_grow, World.size_alloc, size_drewN, size_drew, size_setCell] at *; omega))) _) | (refine below_alloc ?_ (by (first | omega | (simp only [size_grow, World.size_alloc, size_drewN, size_drew, size_setCell] at *; omega))) _) | (refine Below.setCell ?_ (by (first | omega | (simp only [size_grow, World.size_alloc, size_drewN, size_drew, size_setCell] at *; omega))) _) | refine below_drewN ?_ _ | refine below_drew ?_ | (refine below_step ?_ (by assumption) (by (first | omega | (simp only [size_grow, World.size_alloc, size_drewN, size_drew, size_setCell] at *; omega)))))))) (hB.ext (by (repeat (first | exact Below.refl _ _ | assumption | (refine below_gr ?_ (by (first | omega | (simp only [size_grow, World.size_alloc, size_drewN, size_drew, size_setCell] at *; omega))) _) | (refine below_alloc ?_ (by (first | omega | (simp only [size_grow, World.size_alloc, size_drewN, size_drew, size_setCell] at *; omega))) _) | (refine Below.setCell ?_ (by (first | omega | (simp only [size_grow, World.size_alloc, size_drewN, size_drew, size_setCell] at *; omega))) _) | refine below_drewN ?_ _ | refine below_drew ?_ | (refine below_step ?_ (by assumption) (by (first | omega | (simp only [size_grow, World.size_alloc, size_drewN, size_drew, size_setCell] at *; omega))))))))).mono ?_; rintro e u1 ⟨rfl, hb_u1⟩; replace hb_u1 := ex_below hb_u1; have bel_u1 : Below v2.heap.size v2 u1 := (by (repeat (first | exact Below.refl _ _ | assumption | (refine below_gr ?_ (by (first | omega | (simp only [size_grow, World.size_alloc, size_drewN, size_drew, size_setCell] at *; omega))) _) | (refine below_alloc ?_ (by (first | omega | (simp only [size_grow, World.size_alloc, size_drewN, size_drew, size_setCell] at *; omega))) _) | (refine Below.setCell ?_ (by (first | omega | (simp only [size_grow, World.size_alloc, size_drewN, size_drew, size_setCell] at *; omega))) _) | refine below_drewN ?_ _ | refine below_drew ?_ | (refine below_step ?_ (by assumption) (by (first | omega | (simp only [size_grow, World.size_alloc, size_drewN, size_drew, size_setCell] at *; omega))))))); clear hb_u1; have sz_u1 := bel_u1.size; replace hX := hX.ext bel_u1; replace hX2 := hX2.ext bel_u1; replace hA := hA.ext bel_u1; replace hE := hE.ext bel_u1; replace hB := hB.ext bel_u1; replace hD := hD.ext bel_u1; replace hW := below_step hW bel_u1 (by have := hW.size; omega); replace hK := hK.ext bel_u1; replace hC := hC.ext bel_u1; (try clear hXc0 hXf hXl); have hXc0 := obj_at hX 0 _ rfl; have hXf := obj_fz hX 0; have hXl := obj_lt hX; (try clear hX2c0 hX2f hX2l); have hX2c0 := obj_at hX2 0 _ rfl; have hX2f := obj_fz hX2 0; have hX2l := obj_lt hX2; (try clear hKc0 hKf hKl); have hKc0 := obj_at hK 0 _ rfl; have hKf := obj_fz hK 0; have hKl := obj_lt hK; clear bel_u1; have tok1 : True := trivial)
    | (clear tok1; go_at_call 45; refine (HG.out _ (hE.ext (by (repeat (first | exact Below.refl _ _ | assumption | (refine below_gr ?_ (by (first | omega | (simp only [size_grow, World.size_alloc, size_drewN, size_drew, size_setCell] at *; omega))) _) | (refine below_alloc ?_ (by (first | omega | (simp only [size_grow, World.size_alloc, size_drewN, size_drew, size_setCell] at *; omega))) _) | (refine Below.setCell ?_ (by (first | omega | (simp only [size_grow, World.size_alloc, size_drewN, size_drew, size_setCell] at *; omega))) _) | refine below_drewN ?_ _ | refine below_drew ?_ | (refine below_step ?_ (by assumption) (by (first | omega | (simp only [size_grow, World.size_alloc, size_drewN, size_drew, size_setCell] at *; omega)))))))) (hD.ext (by (repeat (first | exact Below.refl _ _ | assumption | (refine below_gr ?_ (by (first | omega | (simp only [size_grow, World.size_alloc, size_drewN, size_drew, size_setCell] at *; omega))) _) | (refine below_alloc ?_ (by (first | omega | (simp only [size_grow, World.size_alloc, size_drewN, size_drew, size_setCell] at *; omega))) _) | (refine Below.setCell ?_ (by (first | omega | (simp only [size_grow, World.size_alloc, size_drewN, size_drew, size_setCell] at *; omega))) _) | refine below_drewN ?_ _ | refine below_drew ?_ | (refine below_step ?_ (by assumption) (by (first | omega | (simp only [size_grow, World.size_alloc, size_drewN, size_drew, size_setCell] at *; omega))))))))).mono ?_; rintro e u2 ⟨rfl, hb_u2⟩; replace hb_u2 := ex_below hb_u2; have bel_u2 : Below u1.heap.size u1 u2 := (by (repeat (first | exact Below.refl _ _ | assumption | (refine below_gr ?_ (by (first | omega | (simp only [size_grow, World.size_alloc, size_drewN, size_drew, size_setCell] at *; omega))) _) | (refine below_alloc ?_ (by (first | omega | (simp only [size_grow, World.size_alloc, size_drewN, size_drew, size_setCell] at *; omega))) _) | (refine Below.setCell ?_ (by (first | omega | (simp only [size_grow, World.size_alloc, size_drewN, size_drew, size_setCell] at *; omega))) _) | refine below_drewN ?_ _ | refine below_drew ?_ | (refine below_step ?_ (by assumption) (by (first | omega | (simp only [size_grow, World.size_alloc, size_drewN, size_drew, size_setCell] at *; omega))))))); clear hb_u2; have sz_u2 := bel_u2.size; replace hX := hX.ext bel_u2; replace hX2 := hX2.ext bel_u2; replace hA := hA.ext bel_u2; replace hE := hE.ext bel_u2; replace hB := hB.ext bel_u2; replace hD := hD.ext bel_u2; replace hW := below_step hW bel_u2 (by have := hW.size; omega); replace hK := hK.ext bel_u2; replace hC := hC.ext bel_u2; (try clear hXc0 hXf hXl); have hXc0 := obj_at hX 0 _ rfl; have hXf := obj_fz hX 0; have hXl := obj_lt hX; (try clear hX2c0 hX2f hX2l); have hX2c0 := obj_at hX2 0 _ rfl; have hX2f := obj_fz hX2 0; have hX2l := obj_lt hX2; (try clear hKc0 hKf hKl); have hKc0 := obj_at hK 0 _ rfl; have hKf := obj_fz hK 0; have hKl := obj_lt hK; clear bel_u2; have tok2 : True := trivial)
    | (clear tok2; go_at_call 18; refine (HR.out _ (hC.ext (by (repeat (first | exact Below.refl _ _ | assumption | (refine below_gr ?_ (by (first | omega | (simp only [size_grow, World.size_alloc, size_drewN, size_drew, size_setCell] at *; omega))) _) | (refine below_alloc ?_ (by (first | omega | (simp only [size_grow, World.size_alloc, size_drewN, size_drew, size_setCell] at *; omega))) _) | (refine Below.setCell ?_ (by (first | omega | (simp only [size_grow, World.size_alloc, size_drewN, size_drew, size_setCell] at *; omega))) _) | refine below_drewN ?_ _ | refine below_drew ?_ | (refine below_step ?_ (by assumption) (by (first | omega | (simp only [size_grow, World.size_alloc, size_drewN, size_drew, size_setCell] at *; omega))))))))).mono ?_; rintro e u3 ⟨rfl, hb_u3⟩; replace hb_u3 := ex_below hb_u3; have bel_u3 : Below u2.heap.size u2 u3 := (by (repeat (first | exact Below.refl _ _ | assumption | (refine below_gr ?_ (by (first | omega | (simp only [size_grow, World.size_alloc, size_drewN, size_drew, size_setCell] at *; omega))) _) | (refine below_alloc ?_ (by (first | omega | (simp only [size_grow, World.size_alloc, size_drewN, size_drew, size_setCell] at *; omega))) _) | (refine Below.setCell ?_ (by (first | omega | (simp only [size_grow, World.size_alloc, size_drewN, size_drew, size_setCell] at *; omega))) _) | refine below_drewN ?_ _ | refine below_drew ?_ | (refine below_step ?_ (by assumption) (by (first | omega | (simp only [size_grow, World.size_alloc, size_drewN, size_drew, size_setCell] at *; omega))))))); clear hb_u3; have sz_u3 := bel_u3.size; replace hX := hX.ext bel_u3; replace hX2 := hX2.ext bel_u3; replace hA := hA.ext bel_u3; replace hE := hE.ext bel_u3; replace hB := hB.ext bel_u3; replace hD := hD.ext bel_u3; replace hW := below_step hW bel_u3 (by have := hW.size; omega); replace hK := hK.ext bel_u3; replace hC := hC.ext bel_u3; (try clear hXc0 hXf hXl); have hXc0 := obj_at hX 0 _ rfl; have hXf := obj_fz hX 0; have hXl := obj_lt hX; (try clear hX2c0 hX2f hX2l); have hX2c0 := obj_at hX2 0 _ rfl; have hX2f := obj_fz hX2 0; have hX2l := obj_lt hX2; (try clear hKc0 hKf hKl); have hKc0 := obj_at hK 0 _ rfl; have hKf := obj_fz hK 0; have hKl := obj_lt hK; clear bel_u3; have tok3 : True := trivial)
    | (clear tok3; go_at_call 22; refine (HC.out _ (hC.ext (by (repeat (first | exact Below.refl _ _ | assumption | (refine below_gr ?_ (by (first | omega | (simp only [size_grow, World.size_alloc, size_drewN, size_drew, size_setCell] at *; omega))) _) | (refine below_alloc ?_ (by (first | omega | (simp only [size_grow, World.size_alloc, size_drewN, size_drew, size_setCell] at *; omega))) _) | (refine Below.setCell ?_ (by (first | omega | (simp only [size_grow, World.size_alloc, size_drewN, size_drew, size_setCell] at *; omega))) _) | refine below_drewN ?_ _ | refine below_drew ?_ | (refine below_step ?_ (by assumption) (by (first | omega | (simp only [size_grow, World.size_alloc, size_drewN, size_drew, size_setCell] at *; omega))))))))).mono ?_; rintro e u4 ⟨rfl, hb_u4⟩; replace hb_u4 := ex_below hb_u4; have bel_u4 : Below u3.heap.size u3 u4 := (by (repeat (first | exact Below.refl _ _ | assumption | (refine below_gr ?_ (by (first | omega | (simp only [size_grow, World.size_alloc, size_drewN, size_drew, size_setCell] at *; omega))) _) | (refine below_alloc ?_ (by (first | omega | (simp only [size_grow, World.size_alloc, size_drewN, size_drew, size_setCell] at *; omega))) _) | (refine Below.setCell ?_ (by (first | omega | (simp only [size_grow, World.size_alloc, size_drewN, size_drew, size_setCell] at *; omega))) _) | refine below_drewN ?_ _ | refine below_drew ?_ | (refine below_step ?_ (by assumption) (by (first | omega | (simp only [size_grow, World.size_alloc, size_drewN, size_drew, size_setCell] at *; omega))))))); clear hb_u4; have sz_u4 := bel_u4.size; replace hX := hX.ext bel_u4; replace hX2 := hX2.ext bel_u4; replace hA := hA.ext bel_u4; replace hE := hE.ext bel_u4; replace hB := hB.ext bel_u4; replace hD := hD.ext bel_u4; replace hW := below_step hW bel_u4 (by have := hW.size; omega); replace hK := hK.ext bel_u4; replace hC := hC.ext bel_u4; (try clear hXc0 hXf hXl); have hXc0 := obj_at hX 0 _ rfl; have hXf := obj_fz hX 0; have hXl := obj_lt hX; (try clear hX2c0 hX2f hX2l); have hX2c0 := obj_at hX2 0 _ rfl; have hX2f := obj_fz hX2 0; have hX2l := obj_lt hX2; (try clear hKc0 hKf hKl); have hKc0 := obj_at hK 0 _ rfl; have hKf := obj_fz hK 0; have hKl := obj_lt hK; clear bel_u4; have tok4 : True := trivial)
    | (clear tok4; go_at_call 20; refine (works_any _).mono ?_; rintro e u5 ⟨rfl, hb_u5⟩; replace hb_u5 := ex_below hb_u5; have bel_u5 : Below u4.heap.size u4 u5 := (by (repeat (first | exact Below.refl _ _ | assumption | (refine below_gr ?_ (by (first | omega | (simp only [size_grow, World.size_alloc, size_drewN, size_drew, size_setCell] at *; omega))) _) | (refine below_alloc ?_ (by (first | omega | (simp only [size_grow, World.size_alloc, size_drewN, size_drew, size_setCell] at *; omega))) _) | (refine Below.setCell ?_ (by (first | omega | (simp only [size_grow, World.size_alloc, size_drewN, size_drew, size_setCell] at *; omega))) _) | refine below_drewN ?_ _ | refine below_drew ?_ | (refine below_step ?_ (by assumption) (by (first | omega | (simp only [size_grow, World.size_alloc, size_drewN, size_drew, size_setCell] at *; omega))))))); clear hb_u5; have sz_u5 := bel_u5.size; replace hX := hX.ext bel_u5; replace hX2 := hX2.ext bel_u5; replace hA := hA.ext bel_u5; replace hE := hE.ext bel_u5; replace hB := hB.ext bel_u5; replace hD := hD.ext bel_u5; replace hW := below_step hW bel_u5 (by have := hW.size; omega); replace hK := hK.ext bel_u5; replace hC := hC.ext bel_u5; (try clear hXc0 hXf hXl); have hXc0 := obj_at hX 0 _ rfl; have hXf := obj_fz hX 0; have hXl := obj_lt hX; (try clear hX2c0 hX2f hX2l); have hX2c0 := obj_at hX2 0 _ rfl; have hX2f := obj_fz hX2 0; have hX2l := obj_lt hX2; (try clear hKc0 hKf hKl); have hKc0 := obj_at hK 0 _ rfl; have hKf := obj_fz hK 0; have hKl := obj_lt hK; clear bel_u5; have tok5 : True := trivial))
            go_ret
            exact gives_of rfl hW

end Go.Proofs.Ytlbkaeoagdbemaa
