/- Proved here: the law BoxMore, a part of the proofs about the box laws. Conditions: those that each theorem names, no others. -/
import Derived.Test.YtlbkaeoagdbemaaP38
import Derived.WalkKit
import Derived.WalkSpells
import Derived.WalkLawsBesides
import Derived.Below
import Derived.Deep.QuietTactic
import Derived.BigQuiet
import Derived.Deep.Light
import Derived.Test.YtlbkaeoagdbemaaG9
import Derived.Test.YtlbkaeoagdbemaaG14
import Derived.Test.YtlbkaeoagdbemaaG15
import Derived.Deep.RegionHeld3
import Derived.Deep.CutRange
set_option linter.unusedSimpArgs false
set_option linter.unusedVariables false
namespace Go.Proofs.Ytlbkaeoagdbemaa
open Go.RowKit Go.Maps
theorem side_rd2 {B : Nat} {W : World} {v : Value} {b : Nat} {t : TypeId} {x y : Value} (h : Side B W v b (.cells #[x, y] t (0, 0))) : Rd W 2 (some ⟨b, 0, none⟩) 1 [x, y] :=
  ⟨rfl, fun _ => ⟨b, 0, rfl, h.2.1, fun j u hu => by
    have hj : j = 0 ∨ j = 1 := by
      have := (List.getElem?_eq_some_iff.1 hu).1
      simp at this
      omega
    rcases hj with rfl | rfl
    · simp at hu; subst hu; exact obj_at h.2.2.1 0 _ rfl
    · simp at hu; subst hu; exact obj_at h.2.2.1 1 _ rfl⟩⟩
theorem zs_inj {a b : List Nat} (h : zs a = zs b) : a = b := by
  have := congrArg nn h
  rwa [nn_zs, nn_zs] at this
theorem tz_snoc {ts ys : List Bm.Tk} {S : List Int} {u : Int} (h : tz ys = tz ts ++ [(S, u)]) : ∃ S1 uu, S = zs S1 ∧ u = (uu : Nat) ∧ ys = ts ++ [(S1, uu)] := by
  have h2 := congrArg nt h
  rw [nt_tz] at h2
  have h3 : nt (tz ts ++ [(S, u)]) = ts ++ [(S.map Int.toNat, u.toNat)] := by
    have := nt_tz ts
    unfold nt at this ⊢
    rw [List.map_append, this]; rfl
  rw [h3] at h2
  subst h2
  have h4 : tz (ts ++ [(S.map Int.toNat, u.toNat)]) = tz ts ++ [(zs (S.map Int.toNat), ((u.toNat : Nat) : Int))] := by unfold tz; simp
  rw [h4] at h
  have h5 := List.append_cancel_left h
  injection h5 with h5 _
  injection h5 with e1 e2
  exact ⟨S.map Int.toNat, u.toNat, e1.symm, e2.symm, rfl⟩
theorem zs_contains (l : List Nat) (i : Nat) : (zs l).contains ((i : Nat) : Int) = decide (i ∈ l) := by
  rw [Bool.eq_iff_iff, List.contains_iff_mem, decide_eq_true_eq]
  unfold zs
  rw [List.mem_map]
  exact ⟨fun ⟨a, h, e⟩ => by rwa [show a = i by omega] at h, fun h => ⟨i, h, rfl⟩⟩
theorem after_le {R : List Nat} {ts : List Bm.Tk} (hok : Ok R ts) (xs : List Bm.Tk) : Bm.afterN R xs [] ≤ 7776 := by
  have h1 : Bm.afterN R xs [] ≤ (Bm.outs R).length := List.countP_le_length
  have h2 := Bm.outs_len_le hok.r6
  have h3 : 6 ^ R.length ≤ 6 ^ 5 := Nat.pow_le_pow_right (by omega) hok.h5
  omega
theorem ok_one {R : List Nat} {ts : List Bm.Tk} {t : Bm.Tk} (hok : Ok R (ts ++ [t])) : Ok R [t] :=
  { h1 := hok.h1, h5 := hok.h5, r1 := hok.r1, r6 := hok.r6, t10 := by simp, tb := fun x hx => hok.tb x (by rw [List.mem_singleton.1 hx]; simp), tu := fun x hx => hok.tu x (by rw [List.mem_singleton.1 hx]; simp) }
theorem idle_still {R : List Nat} {ts : List Bm.Tk} {t : Bm.Tk} (h : OneMore ts t (ts ++ [t])) {i : Nat} (hi : i ∈ Bm.idleN R ts ts.length) : i ∈ Bm.idleN R (ts ++ [t]) (ts.length + 1) := by
  rw [mem_idle] at hi ⊢
  obtain ⟨h1, h2⟩ := hi
  have e : (ts ++ [t]).getD i ([], 0) = ts.getD i ([], 0) := by
    rw [List.getD_eq_getElem?_getD, List.getElem?_append_left h1, ← List.getD_eq_getElem?_getD]
  refine ⟨by omega, ?_⟩
  rw [e]
  cases hs : Bm.soloN R (ts ++ [t]) (ts.getD i ([], 0)) with
  | false => rfl
  | true =>
    have := h.still (R := R) (q := ts.getD i ([], 0)) (by rw [getD_at _ _ h1]; exact List.getElem_mem h1) hs
    rw [h2] at this; cases this
theorem own_cap {w : World} {B e sz n c : Nat} {A : Option Addr} {xs : List Value} (h : w.ownsRow B e sz (.slice A (n + 1) c) (n + 1) xs) : n + 1 ≤ c ∧ c ≤ 9223372036854775807 := by
  rcases h.2 with ⟨h', _⟩ | ⟨g, cap, cur, h', _, _, hnc, hcm, _, _⟩
  · simp at h'
  · injection h' with _ _ h3
    subst h3
    unfold maxLen at hcm
    exact ⟨hnc, by omega⟩
set_option maxRecDepth 100000 in
set_option maxHeartbeats 8000000 in
theorem more_law (A : Option Addr) (R : List Int) (c : Nat) (B : Option Addr) (ts : List Tz) (d : Nat) (Y : Option Addr) (S : List Int) (yc : Nat) (u : Int) (w : World) (hA : I64 w A R) (hB : Tks w B ts) (hl9 : R.length ≤ 9223372036854775807) (hd : ts.length ≤ d) (hd9 : d ≤ 9223372036854775807) (hts9 : ∀ t, t ∈ ts → t.1.length ≤ 9223372036854775807) (hY : I64 w Y S) (hyc : S.length ≤ yc) (hyc9 : yc ≤ 9223372036854775807) (hlz : (ts.length + 1) * 32 ≤ 140737488355328) : Calls Try.prog 11 #[.agg #[.slice A R.length c], .slice B ts.length d, .agg #[.slice Y S.length yc, .int .i64 u]] w (Gives w (.bool true)) := by
  have hdi : (ts.length : Int) ≤ 9223372036854775807 := by omega
  obtain ⟨j0, jh, jz, js, jb⟩ := info_parts info34
  go_enter Try.func11, Try.ntmps11
  go_upto_region 1 with fail
  have hW : Below w.heap.size w ((w.alloc (.cells #[.slice A R.length c] 24)).alloc (.cells #[.slice Y S.length yc, .int .i64 u] 34)) := by (repeat (first | exact Below.refl _ _ | assumption | (refine below_gr ?_ (by (first | omega | (simp only [size_grow, World.size_alloc, size_drewN, size_drew, size_setCell] at *; omega))) _) | (refine below_alloc ?_ (by (first | omega | (simp only [size_grow, World.size_alloc, size_drewN, size_drew, size_setCell] at *; omega))) _) | (refine Below.setCell ?_ (by (first | omega | (simp only [size_grow, World.size_alloc, size_drewN, size_drew, size_setCell] at *; omega))) _) | refine below_drewN ?_ _ | refine below_drew ?_ | (refine below_step ?_ (by assumption) (by (first | omega | (simp only [size_grow, World.size_alloc, size_drewN, size_drew, size_setCell] at *; omega))))))
  have hX : BlkAt ((w.alloc (.cells #[.slice A R.length c] 24)).alloc (.cells #[.slice Y S.length yc, .int .i64 u] 34)) w.heap.size #[.slice A R.length c] 24 := heap_a _ _ _
  have hT : BlkAt ((w.alloc (.cells #[.slice A R.length c] 24)).alloc (.cells #[.slice Y S.length yc, .int .i64 u] 34)) (w.heap.size + 1) #[.slice Y S.length yc, .int .i64 u] 34 := heap_b _ _ _
  obtain ⟨wa, hwa⟩ : ∃ wa, ((w.alloc (.cells #[.slice A R.length c] 24)).alloc (.cells #[.slice Y S.length yc, .int .i64 u] 34)) = wa := ⟨_, rfl⟩
  rw [hwa] at hW hX hT ⊢
  clear hwa
  replace hA := hA.ext hW
  replace hB := hB.ext hW
  replace hY := hY.ext hW
  (try clear hXc0 hXf hXl)
  have hXc0 := obj_at hX 0 _ rfl
  have hXf := obj_fz hX 0
  have hXl := obj_lt hX
  (try clear hTc0 hTc1 hTf hTl)
  have hTc0 := obj_at hT 0 _ rfl
  have hTc1 := obj_at hT 1 _ rfl
  have hTf := obj_fz hT 0
  have hTl := obj_lt hT
  obtain ⟨rows, hrw, hro, hrd⟩ := tks_rows hB
  have hYw := hide hY
  have HTE := hide (show tksT (rows ++ [(Y, S, yc, u)]) = ts ++ [(S, u)] by rw [← hrw]; unfold tksT; simp)
  go_cut [7] from 25 to 30 (fun sx wx => ∃ (A3 : Option Addr) (c3 : Nat), sx = .slice A3 (ts.length + 1) c3 ∧ Tks wx A3 (ts ++ [(S, u)]) ∧ (ts.length + 1 ≤ c3 ∧ c3 ≤ 9223372036854775807) ∧ Below wa.heap.size wa wx)
  case first =>
    as_aux_lemma =>
    refine wp_region_noPanic ?_
    refine wp_region_held_drew (S := fun w' => Below wa.heap.size wa w') (by kernel_rfl) ?_ (fun _ => ?_)
    · exact below_drew (Below.refl _ _)
    have hP : Below wa.heap.size wa wa.drew := below_drew (Below.refl _ _)
    have hZ : wa.heap.size ≤ wa.drew.heap.size := Nat.le_refl _
    obtain ⟨W0, hW0⟩ : ∃ W0, wa.drew = W0 := ⟨_, rfl⟩
    rw [hW0] at hP hZ ⊢
    clear hW0
    refine wpAnyH_take (i := 1) (v := ?_) rfl (by kernel_rfl) (by kernel_rfl) (by kernel_rfl) (fun _ _ _ h => h) (Or.inl ⟨by rfl, ?_⟩) hP ?_
    rotate_left
    · (intro ww hSw; go_simp; try with_reducible rfl)
    (try simp only [Act.put, List.getElem_toArray, List.getElem_cons_zero, List.getElem_cons_succ, List.setIfInBounds_toArray, List.set_cons_zero, List.set_cons_succ])
    refine wpAnyH_take (i := 3) (v := ?_) rfl (by kernel_rfl) (by kernel_rfl) (by kernel_rfl) (fun _ _ _ h => h) (Or.inl ⟨by rfl, ?_⟩) hP ?_
    rotate_left
    · (intro ww hSw; have g0 := (hSw.cell (p := ⟨w.heap.size + 1, 0, none⟩) hTl).trans hTc0; have g1 := (hSw.cell (p := ⟨w.heap.size + 1, 1, none⟩) hTl).trans hTc1; go_simp; try with_reducible rfl)
    (try simp only [Act.put, List.getElem_toArray, List.getElem_cons_zero, List.getElem_cons_succ, List.setIfInBounds_toArray, List.set_cons_zero, List.set_cons_succ])
    refine wpAnyH_ready (rs := [0, 4]) (by kernel_rfl) (by simp) ?_
    refine AllReadyH.cons rfl ?_ ?_
    · intro K' hK
      rw [if_pos (by rfl)]
      go_simp
      have hP2 := below_alloc hP hZ (.cells #[] 34)
      refine hK.out _ _ hP2 (fun _ => ?_)
      clear hK K'
      (try simp only [Act.put, List.getElem_toArray, List.getElem_cons_zero, List.getElem_cons_succ, List.setIfInBounds_toArray, List.set_cons_zero, List.set_cons_succ])
      have hO : (W0.alloc (.cells #[] 34)).ownsRow wa.heap.size 34 2 (.slice (some ⟨W0.heap.size, 0, none⟩) 0 0) 0 [] := own_lit0 (heap_alloc_new W0 _) hZ
      replace hZ : wa.heap.size ≤ (W0.alloc (.cells #[] 34)).heap.size := by rw [World.size_alloc]; omega
      clear hP
      have hP := hP2
      clear hP2
      obtain ⟨W1, hWe⟩ : ∃ W1, (W0.alloc (.cells #[] 34)) = W1 := ⟨_, rfl⟩
      rw [hWe] at hP hZ hO ⊢
      clear hWe
      refine wpAnyH_ready (rs := [2, 4]) (by kernel_rfl) (by simp) ?_
      refine AllReadyH.cons rfl ?_ ?_
      · intro K' hK
        refine step_appN W1 rfl (.tmp 25) (.tmp 26) 25 rfl wa.heap.size 34 j0 _ 2 32 und25 jh jz js jb rfl (by decide) _ (0) ([]) rfl hO B (ts.length) d (cellsT rows) rfl (hrd.ext hP) (cellsT_one _) (by unfold maxLen; omega) (by omega) hZ ?_
        intro A2 c2 W2 hO2 hg2 hf2
        rw [Nat.zero_add ts.length, List.nil_append] at hO2
        rw [Nat.zero_add ts.length] at hf2 ⊢
        have hP2 := gb_below hP hg2 hZ (fun g hg => (hO.lt g hg).1)
        have hZ2 := Nat.le_trans hZ hg2.size
        refine hK.out _ _ hP2 (fun _ => ?_)
        clear hK K'
        (try simp only [Act.put, List.getElem_toArray, List.getElem_cons_zero, List.getElem_cons_succ, List.setIfInBounds_toArray, List.set_cons_zero, List.set_cons_succ])
        clear hO hP hZ hg2 hf2
        have hO := hO2
        have hP := hP2
        have hZ := hZ2
        clear hO2 hP2 hZ2
        refine wpAnyH_ready (rs := [4]) (by kernel_rfl) (by simp) ?_
        refine AllReadyH.cons rfl ?_ ?_
        · intro K' hK
          rw [if_pos (by rfl)]
          go_simp
          have hP2 := below_alloc hP hZ (.cells #[.slice Y S.length yc, .int .i64 u] 34)
          refine hK.out _ _ hP2 (fun _ => ?_)
          clear hK K'
          (try simp only [Act.put, List.getElem_toArray, List.getElem_cons_zero, List.getElem_cons_succ, List.setIfInBounds_toArray, List.set_cons_zero, List.set_cons_succ])
          have hs_L := Side.fresh hZ hO #[.slice Y S.length yc, .int .i64 u] 34
          replace hO := hO.alloc (.cells #[.slice Y S.length yc, .int .i64 u] 34)
          replace hZ : wa.heap.size ≤ (W2.alloc (.cells #[.slice Y S.length yc, .int .i64 u] 34)).heap.size := by rw [World.size_alloc]; omega
          clear hP
          have hP := hP2
          clear hP2
          obtain ⟨W3, hWe⟩ : ∃ W3, (W2.alloc (.cells #[.slice Y S.length yc, .int .i64 u] 34)) = W3 := ⟨_, rfl⟩
          rw [hWe] at hP hZ hO hs_L ⊢
          clear hWe
          refine wpAnyH_ready (rs := [5]) (by kernel_rfl) (by simp) ?_
          refine AllReadyH.cons rfl ?_ ?_
          · intro K' hK
            refine step_appN W3 rfl (.tmp 27) (.tmp 29) 25 rfl wa.heap.size 34 j0 _ 2 32 und25 jh jz js jb rfl (by decide) _ (ts.length) (cellsT rows) rfl hO (some ⟨W2.heap.size, 0, none⟩) (1) 1 ([.slice Y S.length yc, .int .i64 u]) rfl (side_rd2 hs_L) (by simp [Value.oneCell']) (by unfold maxLen; omega) (by omega) hZ ?_
            intro A3 c3 W4 hO2 hg2 hf2
            have hP2 := gb_below hP hg2 hZ (fun g hg => (hO.lt g hg).1)
            have hZ2 := Nat.le_trans hZ hg2.size
            refine hK.out _ _ hP2 (fun _ => ?_)
            clear hK K'
            (try simp only [Act.put, List.getElem_toArray, List.getElem_cons_zero, List.getElem_cons_succ, List.setIfInBounds_toArray, List.set_cons_zero, List.set_cons_succ])
            replace hs_L := hs_L.grown hg2 hf2
            clear hO hP hZ hg2 hf2
            have hO := hO2
            have hP := hP2
            have hZ := hZ2
            clear hO2 hP2 hZ2
            refine wpAnyH_take (i := 6) (v := ?_) rfl (by kernel_rfl) (by kernel_rfl) (by kernel_rfl) (fun _ _ _ h => h) (Or.inl ⟨by rfl, ?_⟩) hP ?_
            rotate_left
            · (intro ww hSw; go_simp; try with_reducible rfl)
            (try simp only [Act.put, List.getElem_toArray, List.getElem_cons_zero, List.getElem_cons_succ, List.setIfInBounds_toArray, List.set_cons_zero, List.set_cons_succ])
            refine wpAnyH_done (by kernel_rfl) ?_ _
            refine NoPanic.normal ?_
            rw [show cellsT rows ++ [.slice Y S.length yc, .int .i64 u] = cellsT (rows ++ [(Y, S, yc, u)]) by rw [cellsT_app]; rfl] at hO
            have hT := own_tks hO (RowsOk.app (hro.ext hP) (fun r hr => by rw [List.mem_singleton.1 hr]; exact ⟨hYw.out.ext hP, hyc⟩))
            rw [HTE.out] at hT
            go_wp2_with fail
            go_meet
            exact ⟨A3, c3, rfl, hT, own_cap hO, hP⟩
          exact AllReadyH.nil
        exact AllReadyH.nil
      refine AllReadyH.cons rfl ?_ ?_
      · intro K' hK
        rw [if_pos (by rfl)]
        go_simp
        have hP2 := below_alloc hP hZ (.cells #[.slice Y S.length yc, .int .i64 u] 34)
        refine hK.out _ _ hP2 (fun _ => ?_)
        clear hK K'
        (try simp only [Act.put, List.getElem_toArray, List.getElem_cons_zero, List.getElem_cons_succ, List.setIfInBounds_toArray, List.set_cons_zero, List.set_cons_succ])
        have hs_L := Side.fresh hZ hO #[.slice Y S.length yc, .int .i64 u] 34
        replace hO := hO.alloc (.cells #[.slice Y S.length yc, .int .i64 u] 34)
        replace hZ : wa.heap.size ≤ (W1.alloc (.cells #[.slice Y S.length yc, .int .i64 u] 34)).heap.size := by rw [World.size_alloc]; omega
        clear hP
        have hP := hP2
        clear hP2
        obtain ⟨W5, hWe⟩ : ∃ W5, (W1.alloc (.cells #[.slice Y S.length yc, .int .i64 u] 34)) = W5 := ⟨_, rfl⟩
        rw [hWe] at hP hZ hO hs_L ⊢
        clear hWe
        refine wpAnyH_ready (rs := [2]) (by kernel_rfl) (by simp) ?_
        refine AllReadyH.cons rfl ?_ ?_
        · intro K' hK
          refine step_appN W5 rfl (.tmp 25) (.tmp 26) 25 rfl wa.heap.size 34 j0 _ 2 32 und25 jh jz js jb rfl (by decide) _ (0) ([]) rfl hO B (ts.length) d (cellsT rows) rfl (hrd.ext hP) (cellsT_one _) (by unfold maxLen; omega) (by omega) hZ ?_
          intro A2 c2 W6 hO2 hg2 hf2
          rw [Nat.zero_add ts.length, List.nil_append] at hO2
          rw [Nat.zero_add ts.length] at hf2 ⊢
          have hP2 := gb_below hP hg2 hZ (fun g hg => (hO.lt g hg).1)
          have hZ2 := Nat.le_trans hZ hg2.size
          refine hK.out _ _ hP2 (fun _ => ?_)
          clear hK K'
          (try simp only [Act.put, List.getElem_toArray, List.getElem_cons_zero, List.getElem_cons_succ, List.setIfInBounds_toArray, List.set_cons_zero, List.set_cons_succ])
          replace hs_L := hs_L.grown hg2 hf2
          clear hO hP hZ hg2 hf2
          have hO := hO2
          have hP := hP2
          have hZ := hZ2
          clear hO2 hP2 hZ2
          refine wpAnyH_ready (rs := [5]) (by kernel_rfl) (by simp) ?_
          refine AllReadyH.cons rfl ?_ ?_
          · intro K' hK
            refine step_appN W6 rfl (.tmp 27) (.tmp 29) 25 rfl wa.heap.size 34 j0 _ 2 32 und25 jh jz js jb rfl (by decide) _ (ts.length) (cellsT rows) rfl hO (some ⟨W1.heap.size, 0, none⟩) (1) 1 ([.slice Y S.length yc, .int .i64 u]) rfl (side_rd2 hs_L) (by simp [Value.oneCell']) (by unfold maxLen; omega) (by omega) hZ ?_
            intro A3 c3 W7 hO2 hg2 hf2
            have hP2 := gb_below hP hg2 hZ (fun g hg => (hO.lt g hg).1)
            have hZ2 := Nat.le_trans hZ hg2.size
            refine hK.out _ _ hP2 (fun _ => ?_)
            clear hK K'
            (try simp only [Act.put, List.getElem_toArray, List.getElem_cons_zero, List.getElem_cons_succ, List.setIfInBounds_toArray, List.set_cons_zero, List.set_cons_succ])
            replace hs_L := hs_L.grown hg2 hf2
            clear hO hP hZ hg2 hf2
            have hO := hO2
            have hP := hP2
            have hZ := hZ2
            clear hO2 hP2 hZ2
            refine wpAnyH_take (i := 6) (v := ?_) rfl (by kernel_rfl) (by kernel_rfl) (by kernel_rfl) (fun _ _ _ h => h) (Or.inl ⟨by rfl, ?_⟩) hP ?_
            rotate_left
            · (intro ww hSw; go_simp; try with_reducible rfl)
            (try simp only [Act.put, List.getElem_toArray, List.getElem_cons_zero, List.getElem_cons_succ, List.setIfInBounds_toArray, List.set_cons_zero, List.set_cons_succ])
            refine wpAnyH_done (by kernel_rfl) ?_ _
            refine NoPanic.normal ?_
            rw [show cellsT rows ++ [.slice Y S.length yc, .int .i64 u] = cellsT (rows ++ [(Y, S, yc, u)]) by rw [cellsT_app]; rfl] at hO
            have hT := own_tks hO (RowsOk.app (hro.ext hP) (fun r hr => by rw [List.mem_singleton.1 hr]; exact ⟨hYw.out.ext hP, hyc⟩))
            rw [HTE.out] at hT
            go_wp2_with fail
            go_meet
            exact ⟨A3, c3, rfl, hT, own_cap hO, hP⟩
          exact AllReadyH.nil
        exact AllReadyH.nil
      exact AllReadyH.nil
    refine AllReadyH.cons rfl ?_ ?_
    · intro K' hK
      rw [if_pos (by rfl)]
      go_simp
      have hP2 := below_alloc hP hZ (.cells #[.slice Y S.length yc, .int .i64 u] 34)
      refine hK.out _ _ hP2 (fun _ => ?_)
      clear hK K'
      (try simp only [Act.put, List.getElem_toArray, List.getElem_cons_zero, List.getElem_cons_succ, List.setIfInBounds_toArray, List.set_cons_zero, List.set_cons_succ])
      have hs_L := Side.fresh0 (W := W0) hZ #[.slice Y S.length yc, .int .i64 u] 34
      replace hZ : wa.heap.size ≤ (W0.alloc (.cells #[.slice Y S.length yc, .int .i64 u] 34)).heap.size := by rw [World.size_alloc]; omega
      clear hP
      have hP := hP2
      clear hP2
      obtain ⟨W8, hWe⟩ : ∃ W8, (W0.alloc (.cells #[.slice Y S.length yc, .int .i64 u] 34)) = W8 := ⟨_, rfl⟩
      rw [hWe] at hP hZ hs_L ⊢
      clear hWe
      refine wpAnyH_ready (rs := [0]) (by kernel_rfl) (by simp) ?_
      refine AllReadyH.cons rfl ?_ ?_
      · intro K' hK
        rw [if_pos (by rfl)]
        go_simp
        have hP2 := below_alloc hP hZ (.cells #[] 34)
        refine hK.out _ _ hP2 (fun _ => ?_)
        clear hK K'
        (try simp only [Act.put, List.getElem_toArray, List.getElem_cons_zero, List.getElem_cons_succ, List.setIfInBounds_toArray, List.set_cons_zero, List.set_cons_succ])
        replace hs_L := hs_L.lit (.cells #[] 34)
        have hO : (W8.alloc (.cells #[] 34)).ownsRow wa.heap.size 34 2 (.slice (some ⟨W8.heap.size, 0, none⟩) 0 0) 0 [] := own_lit0 (heap_alloc_new W8 _) hZ
        replace hZ : wa.heap.size ≤ (W8.alloc (.cells #[] 34)).heap.size := by rw [World.size_alloc]; omega
        clear hP
        have hP := hP2
        clear hP2
        obtain ⟨W9, hWe⟩ : ∃ W9, (W8.alloc (.cells #[] 34)) = W9 := ⟨_, rfl⟩
        rw [hWe] at hP hZ hO hs_L ⊢
        clear hWe
        refine wpAnyH_ready (rs := [2]) (by kernel_rfl) (by simp) ?_
        refine AllReadyH.cons rfl ?_ ?_
        · intro K' hK
          refine step_appN W9 rfl (.tmp 25) (.tmp 26) 25 rfl wa.heap.size 34 j0 _ 2 32 und25 jh jz js jb rfl (by decide) _ (0) ([]) rfl hO B (ts.length) d (cellsT rows) rfl (hrd.ext hP) (cellsT_one _) (by unfold maxLen; omega) (by omega) hZ ?_
          intro A2 c2 W10 hO2 hg2 hf2
          rw [Nat.zero_add ts.length, List.nil_append] at hO2
          rw [Nat.zero_add ts.length] at hf2 ⊢
          have hP2 := gb_below hP hg2 hZ (fun g hg => (hO.lt g hg).1)
          have hZ2 := Nat.le_trans hZ hg2.size
          refine hK.out _ _ hP2 (fun _ => ?_)
          clear hK K'
          (try simp only [Act.put, List.getElem_toArray, List.getElem_cons_zero, List.getElem_cons_succ, List.setIfInBounds_toArray, List.set_cons_zero, List.set_cons_succ])
          replace hs_L := hs_L.grown hg2 hf2
          clear hO hP hZ hg2 hf2
          have hO := hO2
          have hP := hP2
          have hZ := hZ2
          clear hO2 hP2 hZ2
          refine wpAnyH_ready (rs := [5]) (by kernel_rfl) (by simp) ?_
          refine AllReadyH.cons rfl ?_ ?_
          · intro K' hK
            refine step_appN W10 rfl (.tmp 27) (.tmp 29) 25 rfl wa.heap.size 34 j0 _ 2 32 und25 jh jz js jb rfl (by decide) _ (ts.length) (cellsT rows) rfl hO (some ⟨W0.heap.size, 0, none⟩) (1) 1 ([.slice Y S.length yc, .int .i64 u]) rfl (side_rd2 hs_L) (by simp [Value.oneCell']) (by unfold maxLen; omega) (by omega) hZ ?_
            intro A3 c3 W11 hO2 hg2 hf2
            have hP2 := gb_below hP hg2 hZ (fun g hg => (hO.lt g hg).1)
            have hZ2 := Nat.le_trans hZ hg2.size
            refine hK.out _ _ hP2 (fun _ => ?_)
            clear hK K'
            (try simp only [Act.put, List.getElem_toArray, List.getElem_cons_zero, List.getElem_cons_succ, List.setIfInBounds_toArray, List.set_cons_zero, List.set_cons_succ])
            replace hs_L := hs_L.grown hg2 hf2
            clear hO hP hZ hg2 hf2
            have hO := hO2
            have hP := hP2
            have hZ := hZ2
            clear hO2 hP2 hZ2
            refine wpAnyH_take (i := 6) (v := ?_) rfl (by kernel_rfl) (by kernel_rfl) (by kernel_rfl) (fun _ _ _ h => h) (Or.inl ⟨by rfl, ?_⟩) hP ?_
            rotate_left
            · (intro ww hSw; go_simp; try with_reducible rfl)
            (try simp only [Act.put, List.getElem_toArray, List.getElem_cons_zero, List.getElem_cons_succ, List.setIfInBounds_toArray, List.set_cons_zero, List.set_cons_succ])
            refine wpAnyH_done (by kernel_rfl) ?_ _
            refine NoPanic.normal ?_
            rw [show cellsT rows ++ [.slice Y S.length yc, .int .i64 u] = cellsT (rows ++ [(Y, S, yc, u)]) by rw [cellsT_app]; rfl] at hO
            have hT := own_tks hO (RowsOk.app (hro.ext hP) (fun r hr => by rw [List.mem_singleton.1 hr]; exact ⟨hYw.out.ext hP, hyc⟩))
            rw [HTE.out] at hT
            go_wp2_with fail
            go_meet
            exact ⟨A3, c3, rfl, hT, own_cap hO, hP⟩
          exact AllReadyH.nil
        exact AllReadyH.nil
      exact AllReadyH.nil
    exact AllReadyH.nil
  case rest =>
    obtain ⟨X, xc, rfl, hTX, ⟨hxc, hxc9⟩, hbc⟩ := hcut
    obtain ⟨v2, hv2⟩ : ∃ v, v = wc := ⟨_, rfl⟩
    rw [← hv2] at hTX hbc ⊢
    clear hv2 hrw hro hrd hYw HTE j0 jh jz js jb
    replace hX := hX.ext hbc
    replace hT := hT.ext hbc
    replace hA := hA.ext hbc
    replace hB := hB.ext hbc
    replace hY := hY.ext hbc
    replace hW := below_step hW hbc (by have := hW.size; omega)
    clear hbc
    (try clear hXc0 hXf hXl)
    have hXc0 := obj_at hX 0 _ rfl
    have hXf := obj_fz hX 0
    have hXl := obj_lt hX
    (try clear hTc0 hTc1 hTf hTl)
    have hTc0 := obj_at hT 0 _ rfl
    have hTc1 := obj_at hT 1 _ rfl
    have hTf := obj_fz hT 0
    have hTl := obj_lt hT
    have HF := hide (fun w' (h1 : I64 w' A R) (h2 : Tks w' B ts) => fine_any A R c B ts d w' h1 h2 hl9 hd hd9 hts9)
    have hxl : (ts ++ [(S, u)]).length = ts.length + 1 := by simp
    have HFX := hide (fun w' (h1 : I64 w' A R) (h2 : Tks w' X (ts ++ [(S, u)])) => by
      have := fine_any A R c X (ts ++ [(S, u)]) xc w' h1 h2 hl9 (by rw [hxl]; exact hxc) hxc9 (fun t ht => by
        rcases List.mem_append.1 ht with h | h
        · exact hts9 t h
        · rw [List.mem_singleton.1 h]; simp only; omega)
      rwa [hxl] at this)
    cases hf : fineB R ts with
    | false =>
      rw [hf] at HF
      have tok0 : True := trivial
      go_wp2_with (first
    | (clear tok0; go_at_call 45; refine (HF.out _ (hA.ext (by (repeat (first | exact Below.refl _ _ | assumption | (refine below_gr ?_ (by (first | omega | (simp only [size_grow, World.size_alloc, size_drewN, size_drew, size_setCell] at *; omega))) _) | (refine below_alloc ?_ (by (first | omega | (simp only [size_grow, World.size_alloc, size_drewN, size_drew, size_setCell] at *; omega))) _) | (refine Below.setCell ?_ (by (first | omega | (simp only [size_grow, World.size_alloc, size_drewN, size_drew, size_setCell] at *; omega))) _) | refine below_drewN ?_ _ | refine below_drew ?_ | (refine below_step ?_ (by assumption) (by (first | omega | (simp only [size_grow, World.size_alloc, size_drewN, size_drew, size_setCell] at *; omega)))))))) (hB.ext (by (repeat (first | exact Below.refl _ _ | assumption | (refine below_gr ?_ (by (first | omega | (simp only [size_grow, World.size_alloc, size_drewN, size_drew, size_setCell] at *; omega))) _) | (refine below_alloc ?_ (by (first | omega | (simp only [size_grow, World.size_alloc, size_drewN, size_drew, size_setCell] at *; omega))) _) | (refine Below.setCell ?_ (by (first | omega | (simp only [size_grow, World.size_alloc, size_drewN, size_drew, size_setCell] at *; omega))) _) | refine below_drewN ?_ _ | refine below_drew ?_ | (refine below_step ?_ (by assumption) (by (first | omega | (simp only [size_grow, World.size_alloc, size_drewN, size_drew, size_setCell] at *; omega))))))))).mono ?_; rintro e u1 ⟨rfl, hb_u1⟩; replace hb_u1 := ex_below hb_u1; have bel_u1 : Below v2.heap.size v2 u1 := (by (repeat (first | exact Below.refl _ _ | assumption | (refine below_gr ?_ (by (first | omega | (simp only [size_grow, World.size_alloc, size_drewN, size_drew, size_setCell] at *; omega))) _) | (refine below_alloc ?_ (by (first | omega | (simp only [size_grow, World.size_alloc, size_drewN, size_drew, size_setCell] at *; omega))) _) | (refine Below.setCell ?_ (by (first | omega | (simp only [size_grow, World.size_alloc, size_drewN, size_drew, size_setCell] at *; omega))) _) | refine below_drewN ?_ _ | refine below_drew ?_ | (refine below_step ?_ (by assumption) (by (first | omega | (simp only [size_grow, World.size_alloc, size_drewN, size_drew, size_setCell] at *; omega))))))); clear hb_u1; have sz_u1 := bel_u1.size; replace hX := hX.ext bel_u1; replace hT := hT.ext bel_u1; replace hA := hA.ext bel_u1; replace hB := hB.ext bel_u1; replace hY := hY.ext bel_u1; replace hW := below_step hW bel_u1 (by have := hW.size; omega); replace hTX := hTX.ext bel_u1; (try clear hXc0 hXf hXl); have hXc0 := obj_at hX 0 _ rfl; have hXf := obj_fz hX 0; have hXl := obj_lt hX; (try clear hTc0 hTc1 hTf hTl); have hTc0 := obj_at hT 0 _ rfl; have hTc1 := obj_at hT 1 _ rfl; have hTf := obj_fz hT 0; have hTl := obj_lt hT; clear bel_u1; have tok1 : True := trivial)
    | (clear tok1; go_at_call 20; refine (works_any _).mono ?_; rintro e u2 ⟨rfl, hb_u2⟩; replace hb_u2 := ex_below hb_u2; have bel_u2 : Below u1.heap.size u1 u2 := (by (repeat (first | exact Below.refl _ _ | assumption | (refine below_gr ?_ (by (first | omega | (simp only [size_grow, World.size_alloc, size_drewN, size_drew, size_setCell] at *; omega))) _) | (refine below_alloc ?_ (by (first | omega | (simp only [size_grow, World.size_alloc, size_drewN, size_drew, size_setCell] at *; omega))) _) | (refine Below.setCell ?_ (by (first | omega | (simp only [size_grow, World.size_alloc, size_drewN, size_drew, size_setCell] at *; omega))) _) | refine below_drewN ?_ _ | refine below_drew ?_ | (refine below_step ?_ (by assumption) (by (first | omega | (simp only [size_grow, World.size_alloc, size_drewN, size_drew, size_setCell] at *; omega))))))); clear hb_u2; have sz_u2 := bel_u2.size; replace hX := hX.ext bel_u2; replace hT := hT.ext bel_u2; replace hA := hA.ext bel_u2; replace hB := hB.ext bel_u2; replace hY := hY.ext bel_u2; replace hW := below_step hW bel_u2 (by have := hW.size; omega); replace hTX := hTX.ext bel_u2; (try clear hXc0 hXf hXl); have hXc0 := obj_at hX 0 _ rfl; have hXf := obj_fz hX 0; have hXl := obj_lt hX; (try clear hTc0 hTc1 hTf hTl); have hTc0 := obj_at hT 0 _ rfl; have hTc1 := obj_at hT 1 _ rfl; have hTf := obj_fz hT 0; have hTl := obj_lt hT; clear bel_u2; have tok2 : True := trivial))

      go_ret
      exact gives_of rfl hW
    | true =>
      rw [hf] at HF
      cases hfx : fineB R (ts ++ [(S, u)]) with
      | false =>
        rw [hfx] at HFX
        have tok0 : True := trivial
        go_wp2_with (first
    | (clear tok0; go_at_call 45; refine (HF.out _ (hA.ext (by (repeat (first | exact Below.refl _ _ | assumption | (refine below_gr ?_ (by (first | omega | (simp only [size_grow, World.size_alloc, size_drewN, size_drew, size_setCell] at *; omega))) _) | (refine below_alloc ?_ (by (first | omega | (simp only [size_grow, World.size_alloc, size_drewN, size_drew, size_setCell] at *; omega))) _) | (refine Below.setCell ?_ (by (first | omega | (simp only [size_grow, World.size_alloc, size_drewN, size_drew, size_setCell] at *; omega))) _) | refine below_drewN ?_ _ | refine below_drew ?_ | (refine below_step ?_ (by assumption) (by (first | omega | (simp only [size_grow, World.size_alloc, size_drewN, size_drew, size_setCell] at *; omega)))))))) (hB.ext (by (repeat (first | exact Below.refl _ _ | assumption | (refine below_gr ?_ (by (first | omega | (simp only [size_grow, World.size_alloc, size_drewN, size_drew, size_setCell] at *; omega))) _) | (refine below_alloc ?_ (by (first | omega | (simp only [size_grow, World.size_alloc, size_drewN, size_drew, size_setCell] at *; omega))) _) | (refine Below.setCell ?_ (by (first | omega | (simp only [size_grow, World.size_alloc, size_drewN, size_drew, size_setCell] at *; omega))) _) | refine below_drewN ?_ _ | refine below_drew ?_ | (refine below_step ?_ (by assumption) (by (first | omega | (simp only [size_grow, World.size_alloc, size_drewN, size_drew, size_setCell] at *; omega))))))))).mono ?_; rintro e u1 ⟨rfl, hb_u1⟩; replace hb_u1 := ex_below hb_u1; have bel_u1 : Below v2.heap.size v2 u1 := (by (repeat (first | exact Below.refl _ _ | assumption | (refine below_gr ?_ (by (first | omega | (simp only [size_grow, World.size_alloc, size_drewN, size_drew, size_setCell] at *; omega))) _) | (refine below_alloc ?_ (by (first | omega | (simp only [size_grow, World.size_alloc, size_drewN, size_drew, size_setCell] at *; omega))) _) | (refine Below.setCell ?_ (by (first | omega | (simp only [size_grow, World.size_alloc, size_drewN, size_drew, size_setCell] at *; omega))) _) | refine below_drewN ?_ _ | refine below_drew ?_ | (refine below_step ?_ (by assumption) (by (first | omega | (simp only [size_grow, World.size_alloc, size_drewN, size_drew, size_setCell] at *; omega))))))); clear hb_u1; have sz_u1 := bel_u1.size; replace hX := hX.ext bel_u1; replace hT := hT.ext bel_u1; replace hA := hA.ext bel_u1; replace hB := hB.ext bel_u1; replace hY := hY.ext bel_u1; replace hW := below_step hW bel_u1 (by have := hW.size; omega); replace hTX := hTX.ext bel_u1; (try clear hXc0 hXf hXl); have hXc0 := obj_at hX 0 _ rfl; have hXf := obj_fz hX 0; have hXl := obj_lt hX; (try clear hTc0 hTc1 hTf hTl); have hTc0 := obj_at hT 0 _ rfl; have hTc1 := obj_at hT 1 _ rfl; have hTf := obj_fz hT 0; have hTl := obj_lt hT; clear bel_u1; have tok1 : True := trivial)
    | (clear tok1; go_at_call 45; refine (HFX.out _ (hA.ext (by (repeat (first | exact Below.refl _ _ | assumption | (refine below_gr ?_ (by (first | omega | (simp only [size_grow, World.size_alloc, size_drewN, size_drew, size_setCell] at *; omega))) _) | (refine below_alloc ?_ (by (first | omega | (simp only [size_grow, World.size_alloc, size_drewN, size_drew, size_setCell] at *; omega))) _) | (refine Below.setCell ?_ (by (first | omega | (simp only [size_grow, World.size_alloc, size_drewN, size_drew, size_setCell] at *; omega))) _) | refine below_drewN ?_ _ | refine below_drew ?_ | (refine below_step ?_ (by assumption) (by (first | omega | (simp only [size_grow, World.size_alloc, size_drewN, size_drew, size_setCell] at *; omega)))))))) (hTX.ext (by (repeat (first | exact Below.refl _ _ | assumption | (refine below_gr ?_ (by (first | omega | (simp only [size_grow, World.size_alloc, size_drewN, size_drew, size_setCell] at *; omega))) _) | (refine below_alloc ?_ (by (first | omega | (simp only [size_grow, World.size_alloc, size_drewN, size_drew, size_setCell] at *; omega))) _) | (refine Below.setCell ?_ (by (first | omega | (simp only [size_grow, World.size_alloc, size_drewN, size_drew, size_setCell] at *; omega))) _) | refine below_drewN ?_ _ | refine below_drew ?_ | (refine below_step ?_ (by assumption) (by (first | omega | (simp only [size_grow, World.size_alloc, size_drewN, size_drew, size_setCell] at *; omega))))))))).mono ?_; rintro e u2 ⟨rfl, hb_u2⟩; replace hb_u2 := ex_below hb_u2; have bel_u2 : Below u1.heap.size u1 u2 := (by (repeat (first | exact Below.refl _ _ | assumption | (refine below_gr ?_ (by (first | omega | (simp only [size_grow, World.size_alloc, size_drewN, size_drew, size_setCell] at *; omega))) _) | (refine below_alloc ?_ (by (first | omega | (simp only [size_grow, World.size_alloc, size_drewN, size_drew, size_setCell] at *; omega))) _) | (refine Below.setCell ?_ (by (first | omega | (simp only [size_grow, World.size_alloc, size_drewN, size_drew, size_setCell] at *; omega))) _) | refine below_drewN ?_ _ | refine below_drew ?_ | (refine below_step ?_ (by assumption) (by (first | omega | (simp only [size_grow, World.size_alloc, size_drewN, size_drew, size_setCell] at *; omega))))))); clear hb_u2; have sz_u2 := bel_u2.size; replace hX := hX.ext bel_u2; replace hT := hT.ext bel_u2; replace hA := hA.ext bel_u2; replace hB := hB.ext bel_u2; replace hY := hY.ext bel_u2; replace hW := below_step hW bel_u2 (by have := hW.size; omega); replace hTX := hTX.ext bel_u2; (try clear hXc0 hXf hXl); have hXc0 := obj_at hX 0 _ rfl; have hXf := obj_fz hX 0; have hXl := obj_lt hX; (try clear hTc0 hTc1 hTf hTl); have hTc0 := obj_at hT 0 _ rfl; have hTc1 := obj_at hT 1 _ rfl; have hTf := obj_fz hT 0; have hTl := obj_lt hT; clear bel_u2; have tok2 : True := trivial)
    | (clear tok2; go_at_call 20; refine (works_any _).mono ?_; rintro e u3 ⟨rfl, hb_u3⟩; replace hb_u3 := ex_below hb_u3; have bel_u3 : Below u2.heap.size u2 u3 := (by (repeat (first | exact Below.refl _ _ | assumption | (refine below_gr ?_ (by (first | omega | (simp only [size_grow, World.size_alloc, size_drewN, size_drew, size_setCell] at *; omega))) _) | (refine below_alloc ?_ (by (first | omega | (simp only [size_grow, World.size_alloc, size_drewN, size_drew, size_setCell] at *; omega))) _) | (refine Below.setCell ?_ (by (first | omega | (simp only [size_grow, World.size_alloc, size_drewN, size_drew, size_setCell] at *; omega))) _) | refine below_drewN ?_ _ | refine below_drew ?_ | (refine below_step ?_ (by assumption) (by (first | omega | (simp only [size_grow, World.size_alloc, size_drewN, size_drew, size_setCell] at *; omega))))))); clear hb_u3; have sz_u3 := bel_u3.size; replace hX := hX.ext bel_u3; replace hT := hT.ext bel_u3; replace hA := hA.ext bel_u3; replace hB := hB.ext bel_u3; replace hY := hY.ext bel_u3; replace hW := below_step hW bel_u3 (by have := hW.size; omega); replace hTX := hTX.ext bel_u3; (try clear hXc0 hXf hXl); have hXc0 := obj_at hX 0 _ rfl; have hXf := obj_fz hX 0; have hXl := obj_lt hX; (try clear hTc0 hTc1 hTf hTl); have hTc0 := obj_at hT 0 _ rfl; have hTc1 := obj_at hT 1 _ rfl; have hTf := obj_fz hT 0; have hTl := obj_lt hT; clear bel_u3; have tok3 : True := trivial))

        go_ret
        exact gives_of rfl hW
      | true =>
        rw [hfx] at HFX
        obtain ⟨R1, ts1, rfl, rfl, hok, hgr, hwd⟩ := fine_ok hf
        obtain ⟨R2, ts2, hr2, ht2, hokx, -, -⟩ := fine_ok hfx
        obtain rfl := zs_inj hr2
        obtain ⟨S1, uu, rfl, rfl, rfl⟩ := tz_snoc ht2.symm
        rw [tz_len] at HF HFX hxl hdi
        rw [tz_len, zs_len, zs_len]
        rw [zs_len] at HF HFX hX hXc0 hT hTc0 hyc
        rw [ht2] at HFX hTX
        have hxl : (ts1 ++ [(S1, uu)]).length = ts1.length + 1 := by simp
        clear hf hfx ht2 hr2 hl9 hd hd9 hts9 hlz
        have om := more_last ts1 (S1, uu)
        have hR5 := hok.h5
        have ht10 := hok.t10
        have htx := hokx.t10
        rw [hxl] at htx
        have hux := hokx.tu (S1, uu) (by simp)
        have hbx := hokx.tb (S1, uu) (by simp)
        simp only at hux hbx
        have hcv := om.cov R1
        have hcs := om.size hok.r6 hbx
        obtain ⟨hd1, hd2⟩ := om.deep hok hokx
        have hd3 := Bm.uni_le hok.hu (deepO R1 ts1)
        have hidl := om.idle hux.1 R1
        have hcl : Bm.afterN R1 (ts1 ++ [(S1, uu)]) [] ≤ 7776 := after_le hok _
        simp only at hcs hd2 hidl
        have C1 := hide (fun w' (h1 : I64 w' A (zs R1)) (h2 : Tks w' B (tz ts1)) => o_cov A R1 c B ts1 d w' h1 h2 hok)
        have C2 := hide (fun w' (h1 : I64 w' A (zs R1)) (h2 : Tks w' X (tz (ts1 ++ [(S1, uu)]))) => o_cov A R1 c X (ts1 ++ [(S1, uu)]) xc w' h1 h2 hokx)
        have C3 := hide (fun w' (h1 : I64 w' A (zs R1)) (h2 : I64 w' Y (zs S1)) => size_api_ok A R1 c Y S1 yc uu w' h1 h2 hyc (ok_one hokx))
        have C4 := hide (fun w' (h1 : I64 w' A (zs R1)) (h2 : Tks w' B (tz ts1)) => o_deep A R1 c B ts1 d w' h1 h2 hok)
        have C5 := hide (fun w' (h1 : I64 w' A (zs R1)) (h2 : Tks w' X (tz (ts1 ++ [(S1, uu)]))) => o_deep A R1 c X (ts1 ++ [(S1, uu)]) xc w' h1 h2 hokx)
        have C6 := hide (fun w' (h1 : I64 w' A (zs R1)) (h2 : Tks w' B (tz ts1)) => o_idle A R1 c B ts1 d w' h1 h2 hok)
        have C7 := hide (fun w' (h1 : I64 w' A (zs R1)) (h2 : Tks w' X (tz (ts1 ++ [(S1, uu)]))) => o_idle A R1 c X (ts1 ++ [(S1, uu)]) xc w' h1 h2 hokx)
        rw [hxl] at C2 C5 C7
        have HST := hide (fun i (hi : i ∈ Bm.idleN R1 ts1 ts1.length) => idle_still om hi)
        have HLI : decide (ts1.length ∈ Bm.idleN R1 (ts1 ++ [(S1, uu)]) (ts1.length + 1)) = (((Bm.afterN R1 (ts1 ++ [(S1, uu)]) [] : Nat) : Int) == ((Bm.afterN R1 ts1 [] : Nat) : Int)) := by
          rw [Bool.eq_iff_iff, decide_eq_true_eq, mem_idle, beq_iff_eq]
          have e : (ts1 ++ [(S1, uu)]).getD ts1.length ([], 0) = (S1, uu) := by rw [List.getD_eq_getElem?_getD, List.getElem?_append_right (Nat.le_refl _), Nat.sub_self]; rfl
          rw [e, hidl]
          constructor
          · rintro ⟨_, h⟩; omega
          · intro h; exact ⟨by omega, by omega⟩
        have hzl := Bm.idleN_le R1 (ts1 ++ [(S1, uu)]) (ts1.length + 1)
        have hhl := Bm.idleN_le R1 ts1 ts1.length
        clear hidl om hok hokx hbx hwd hgr
        generalize Bm.afterN R1 ts1 [] = n at *
        generalize Bm.afterN R1 (ts1 ++ [(S1, uu)]) [] = m at *
        generalize Bm.size S1 = sz at *
        generalize Bm.uni ts1 (deepO R1 ts1) = dn at *
        generalize Bm.uni (ts1 ++ [(S1, uu)]) (deepO R1 (ts1 ++ [(S1, uu)])) = fn at *
        generalize zs (deepO R1 ts1) = l1 at *
        generalize zs (deepO R1 (ts1 ++ [(S1, uu)])) = l2 at *
        generalize Bm.idleN R1 ts1 ts1.length = hl at *
        generalize Bm.idleN R1 (ts1 ++ [(S1, uu)]) (ts1.length + 1) = zl at *
        have C8 := hide (fun P q i w' (h : I64 w' P (zs zl)) => in_any P _ q (i : Nat) w' h (by rw [zs_len]; omega))
        have HHL := hide (zs_len hl)
        have HZL := hide (zs_len zl)
        have g1 : ¬ (m : Int) < (n : Int) := by omega
        have g2 : ¬ (m : Int) - (n : Int) > (sz : Int) := by omega
        have g3 : ¬ (fn : Int) < (dn : Int) := by omega
        have g4 : ¬ (fn : Int) > (dn : Int) + (uu : Int) := by omega
        have g5 : (uu : Int) ≤ 1000 := by omega
        have g6 : (dn : Int) ≤ 10000 := by omega
        have g7 : (m : Int) ≤ 7776 := by omega
        have g8 : (hl.length : Int) ≤ 10 := by omega
        have HB1 := hide (show True from trivial)
        have G0 := hide (And.intro hux (And.intro hcv (And.intro hcs (And.intro hd1 (And.intro hd2 hd3)))))
        clear hux hcv hcs hd1 hd2 hd3 hxl
        have tok0 : True := trivial
        go_upto_region 11 with (first
    | (clear tok0; go_at_call 45; refine (HF.out _ (hA.ext (by (repeat (first | exact Below.refl _ _ | assumption | (refine below_gr ?_ (by (first | omega | (simp only [size_grow, World.size_alloc, size_drewN, size_drew, size_setCell] at *; omega))) _) | (refine below_alloc ?_ (by (first | omega | (simp only [size_grow, World.size_alloc, size_drewN, size_drew, size_setCell] at *; omega))) _) | (refine Below.setCell ?_ (by (first | omega | (simp only [size_grow, World.size_alloc, size_drewN, size_drew, size_setCell] at *; omega))) _) | refine below_drewN ?_ _ | refine below_drew ?_ | (refine below_step ?_ (by assumption) (by (first | omega | (simp only [size_grow, World.size_alloc, size_drewN, size_drew, size_setCell] at *; omega)))))))) (hB.ext (by (repeat (first | exact Below.refl _ _ | assumption | (refine below_gr ?_ (by (first | omega | (simp only [size_grow, World.size_alloc, size_drewN, size_drew, size_setCell] at *; omega))) _) | (refine below_alloc ?_ (by (first | omega | (simp only [size_grow, World.size_alloc, size_drewN, size_drew, size_setCell] at *; omega))) _) | (refine Below.setCell ?_ (by (first | omega | (simp only [size_grow, World.size_alloc, size_drewN, size_drew, size_setCell] at *; omega))) _) | refine below_drewN ?_ _ | refine below_drew ?_ | (refine below_step ?_ (by assumption) (by (first | omega | (simp only [size_grow, World.size_alloc, size_drewN, size_drew, size_setCell] at *; omega))))))))).mono ?_; rintro e u1 ⟨rfl, hb_u1⟩; replace hb_u1 := ex_below hb_u1; have bel_u1 : Below v2.heap.size v2 u1 := (by (repeat (first | exact Below.refl _ _ | assumption | (refine below_gr ?_ (by (first | omega | (simp only [size_grow, World.size_alloc, size_drewN, size_drew, size_setCell] at *; omega))) _) | (refine below_alloc ?_ (by (first | omega | (simp only [size_grow, World.size_alloc, size_drewN, size_drew, size_setCell] at *; omega))) _) | (refine Below.setCell ?_ (by (first | omega | (simp only [size_grow, World.size_alloc, size_drewN, size_drew, size_setCell] at *; omega))) _) | refine below_drewN ?_ _ | refine below_drew ?_ | (refine below_step ?_ (by assumption) (by (first | omega | (simp only [size_grow, World.size_alloc, size_drewN, size_drew, size_setCell] at *; omega))))))); clear hb_u1; have sz_u1 := bel_u1.size; replace hX := hX.ext bel_u1; replace hT := hT.ext bel_u1; replace hA := hA.ext bel_u1; replace hB := hB.ext bel_u1; replace hY := hY.ext bel_u1; replace hW := below_step hW bel_u1 (by have := hW.size; omega); replace hTX := hTX.ext bel_u1; (try clear hXc0 hXf hXl); have hXc0 := obj_at hX 0 _ rfl; have hXf := obj_fz hX 0; have hXl := obj_lt hX; (try clear hTc0 hTc1 hTf hTl); have hTc0 := obj_at hT 0 _ rfl; have hTc1 := obj_at hT 1 _ rfl; have hTf := obj_fz hT 0; have hTl := obj_lt hT; clear bel_u1; have tok1 : True := trivial)
    | (clear tok1; go_at_call 45; refine (HFX.out _ (hA.ext (by (repeat (first | exact Below.refl _ _ | assumption | (refine below_gr ?_ (by (first | omega | (simp only [size_grow, World.size_alloc, size_drewN, size_drew, size_setCell] at *; omega))) _) | (refine below_alloc ?_ (by (first | omega | (simp only [size_grow, World.size_alloc, size_drewN, size_drew, size_setCell] at *; omega))) _) | (refine Below.setCell ?_ (by (first | omega | (simp only [size_grow, World.size_alloc, size_drewN, size_drew, size_setCell] at *; omega))) _) | refine below_drewN ?_ _ | refine below_drew ?_ | (refine below_step ?_ (by assumption) (by (first | omega | (simp only [size_grow, World.size_alloc, size_drewN, size_drew, size_setCell] at *; omega)))))))) (hTX.ext (by (repeat (first | exact Below.refl _ _ | assumption | (refine below_gr ?_ (by (first | omega | (simp only [size_grow, World.size_alloc, size_drewN, size_drew, size_setCell] at *; omega))) _) | (refine below_alloc ?_ (by (first | omega | (simp only [size_grow, World.size_alloc, size_drewN, size_drew, size_setCell] at *; omega))) _) | (refine Below.setCell ?_ (by (first | omega | (simp only [size_grow, World.size_alloc, size_drewN, size_drew, size_setCell] at *; omega))) _) | refine below_drewN ?_ _ | refine below_drew ?_ | (refine below_step ?_ (by assumption) (by (first | omega | (simp only [size_grow, World.size_alloc, size_drewN, size_drew, size_setCell] at *; omega))))))))).mono ?_; rintro e u2 ⟨rfl, hb_u2⟩; replace hb_u2 := ex_below hb_u2; have bel_u2 : Below u1.heap.size u1 u2 := (by (repeat (first | exact Below.refl _ _ | assumption | (refine below_gr ?_ (by (first | omega | (simp only [size_grow, World.size_alloc, size_drewN, size_drew, size_setCell] at *; omega))) _) | (refine below_alloc ?_ (by (first | omega | (simp only [size_grow, World.size_alloc, size_drewN, size_drew, size_setCell] at *; omega))) _) | (refine Below.setCell ?_ (by (first | omega | (simp only [size_grow, World.size_alloc, size_drewN, size_drew, size_setCell] at *; omega))) _) | refine below_drewN ?_ _ | refine below_drew ?_ | (refine below_step ?_ (by assumption) (by (first | omega | (simp only [size_grow, World.size_alloc, size_drewN, size_drew, size_setCell] at *; omega))))))); clear hb_u2; have sz_u2 := bel_u2.size; replace hX := hX.ext bel_u2; replace hT := hT.ext bel_u2; replace hA := hA.ext bel_u2; replace hB := hB.ext bel_u2; replace hY := hY.ext bel_u2; replace hW := below_step hW bel_u2 (by have := hW.size; omega); replace hTX := hTX.ext bel_u2; (try clear hXc0 hXf hXl); have hXc0 := obj_at hX 0 _ rfl; have hXf := obj_fz hX 0; have hXl := obj_lt hX; (try clear hTc0 hTc1 hTf hTl); have hTc0 := obj_at hT 0 _ rfl; have hTc1 := obj_at hT 1 _ rfl; have hTf := obj_fz hT 0; have hTl := obj_lt hT; clear bel_u2; have tok2 : True := trivial)
    | (clear tok2; go_at_call 32; refine (C1.out _ (hA.ext (by (repeat (first | exact Below.refl _ _ | assumption | (refine below_gr ?_ (by (first | omega | (simp only [size_grow, World.size_alloc, size_drewN, size_drew, size_setCell] at *; omega))) _) | (refine below_alloc ?_ (by (first | omega | (simp only [size_grow, World.size_alloc, size_drewN, size_drew, size_setCell] at *; omega))) _) | (refine Below.setCell ?_ (by (first | omega | (simp only [size_grow, World.size_alloc, size_drewN, size_drew, size_setCell] at *; omega))) _) | refine below_drewN ?_ _ | refine below_drew ?_ | (refine below_step ?_ (by assumption) (by (first | omega | (simp only [size_grow, World.size_alloc, size_drewN, size_drew, size_setCell] at *; omega)))))))) (hB.ext (by (repeat (first | exact Below.refl _ _ | assumption | (refine below_gr ?_ (by (first | omega | (simp only [size_grow, World.size_alloc, size_drewN, size_drew, size_setCell] at *; omega))) _) | (refine below_alloc ?_ (by (first | omega | (simp only [size_grow, World.size_alloc, size_drewN, size_drew, size_setCell] at *; omega))) _) | (refine Below.setCell ?_ (by (first | omega | (simp only [size_grow, World.size_alloc, size_drewN, size_drew, size_setCell] at *; omega))) _) | refine below_drewN ?_ _ | refine below_drew ?_ | (refine below_step ?_ (by assumption) (by (first | omega | (simp only [size_grow, World.size_alloc, size_drewN, size_drew, size_setCell] at *; omega))))))))).mono ?_; rintro e u3 ⟨rfl, hb_u3⟩; replace hb_u3 := ex_below hb_u3; have bel_u3 : Below u2.heap.size u2 u3 := (by (repeat (first | exact Below.refl _ _ | assumption | (refine below_gr ?_ (by (first | omega | (simp only [size_grow, World.size_alloc, size_drewN, size_drew, size_setCell] at *; omega))) _) | (refine below_alloc ?_ (by (first | omega | (simp only [size_grow, World.size_alloc, size_drewN, size_drew, size_setCell] at *; omega))) _) | (refine Below.setCell ?_ (by (first | omega | (simp only [size_grow, World.size_alloc, size_drewN, size_drew, size_setCell] at *; omega))) _) | refine below_drewN ?_ _ | refine below_drew ?_ | (refine below_step ?_ (by assumption) (by (first | omega | (simp only [size_grow, World.size_alloc, size_drewN, size_drew, size_setCell] at *; omega))))))); clear hb_u3; have sz_u3 := bel_u3.size; replace hX := hX.ext bel_u3; replace hT := hT.ext bel_u3; replace hA := hA.ext bel_u3; replace hB := hB.ext bel_u3; replace hY := hY.ext bel_u3; replace hW := below_step hW bel_u3 (by have := hW.size; omega); replace hTX := hTX.ext bel_u3; (try clear hXc0 hXf hXl); have hXc0 := obj_at hX 0 _ rfl; have hXf := obj_fz hX 0; have hXl := obj_lt hX; (try clear hTc0 hTc1 hTf hTl); have hTc0 := obj_at hT 0 _ rfl; have hTc1 := obj_at hT 1 _ rfl; have hTf := obj_fz hT 0; have hTl := obj_lt hT; clear bel_u3; have tok3 : True := trivial)
    | (clear tok3; go_at_call 32; refine (C2.out _ (hA.ext (by (repeat (first | exact Below.refl _ _ | assumption | (refine below_gr ?_ (by (first | omega | (simp only [size_grow, World.size_alloc, size_drewN, size_drew, size_setCell] at *; omega))) _) | (refine below_alloc ?_ (by (first | omega | (simp only [size_grow, World.size_alloc, size_drewN, size_drew, size_setCell] at *; omega))) _) | (refine Below.setCell ?_ (by (first | omega | (simp only [size_grow, World.size_alloc, size_drewN, size_drew, size_setCell] at *; omega))) _) | refine below_drewN ?_ _ | refine below_drew ?_ | (refine below_step ?_ (by assumption) (by (first | omega | (simp only [size_grow, World.size_alloc, size_drewN, size_drew, size_setCell] at *; omega)))))))) (hTX.ext (by (repeat (first | exact Below.refl _ _ | assumption | (refine below_gr ?_ (by (first | omega | (simp only [size_grow, World.size_alloc, size_drewN, size_drew, size_setCell] at *; omega))) _) | (refine below_alloc ?_ (by (first | omega | (simp only [size_grow, World.size_alloc, size_drewN, size_drew, size_setCell] at *; omega))) _) | (refine Below.setCell ?_ (by (first | omega | (simp only [size_grow, World.size_alloc, size_drewN, size_drew, size_setCell] at *; omega))) _) | refine below_drewN ?_ _ | refine below_drew ?_ | (refine below_step ?_ (by assumption) (by (first | omega | (simp only [size_grow, World.size_alloc, size_drewN, size_drew, size_setCell] at *; omega))))))))).mono ?_; rintro e u4 ⟨rfl, hb_u4⟩; replace hb_u4 := ex_below hb_u4; have bel_u4 : Below u3.heap.size u3 u4 := (by (repeat (first | exact Below.refl _ _ | assumption | (refine below_gr ?_ (by (first | omega | (simp only [size_grow, World.size_alloc, size_drewN, size_drew, size_setCell] at *; omega))) _) | (refine below_alloc ?_ (by (first | omega | (simp only [size_grow, World.size_alloc, size_drewN, size_drew, size_setCell] at *; omega))) _) | (refine Below.setCell ?_ (by (first | omega | (simp only [size_grow, World.size_alloc, size_drewN, size_drew, size_setCell] at *; omega))) _) | refine below_drewN ?_ _ | refine below_drew ?_ | (refine below_step ?_ (by assumption) (by (first | omega | (simp only [size_grow, World.size_alloc, size_drewN, size_drew, size_setCell] at *; omega))))))); clear hb_u4; have sz_u4 := bel_u4.size; replace hX := hX.ext bel_u4; replace hT := hT.ext bel_u4; replace hA := hA.ext bel_u4; replace hB := hB.ext bel_u4; replace hY := hY.ext bel_u4; replace hW := below_step hW bel_u4 (by have := hW.size; omega); replace hTX := hTX.ext bel_u4; (try clear hXc0 hXf hXl); have hXc0 := obj_at hX 0 _ rfl; have hXf := obj_fz hX 0; have hXl := obj_lt hX; (try clear hTc0 hTc1 hTf hTl); have hTc0 := obj_at hT 0 _ rfl; have hTc1 := obj_at hT 1 _ rfl; have hTf := obj_fz hT 0; have hTl := obj_lt hT; clear bel_u4; have tok4 : True := trivial)
    | (clear tok4; go_at_call 25; refine (C3.out _ (hA.ext (by (repeat (first | exact Below.refl _ _ | assumption | (refine below_gr ?_ (by (first | omega | (simp only [size_grow, World.size_alloc, size_drewN, size_drew, size_setCell] at *; omega))) _) | (refine below_alloc ?_ (by (first | omega | (simp only [size_grow, World.size_alloc, size_drewN, size_drew, size_setCell] at *; omega))) _) | (refine Below.setCell ?_ (by (first | omega | (simp only [size_grow, World.size_alloc, size_drewN, size_drew, size_setCell] at *; omega))) _) | refine below_drewN ?_ _ | refine below_drew ?_ | (refine below_step ?_ (by assumption) (by (first | omega | (simp only [size_grow, World.size_alloc, size_drewN, size_drew, size_setCell] at *; omega)))))))) (hY.ext (by (repeat (first | exact Below.refl _ _ | assumption | (refine below_gr ?_ (by (first | omega | (simp only [size_grow, World.size_alloc, size_drewN, size_drew, size_setCell] at *; omega))) _) | (refine below_alloc ?_ (by (first | omega | (simp only [size_grow, World.size_alloc, size_drewN, size_drew, size_setCell] at *; omega))) _) | (refine Below.setCell ?_ (by (first | omega | (simp only [size_grow, World.size_alloc, size_drewN, size_drew, size_setCell] at *; omega))) _) | refine below_drewN ?_ _ | refine below_drew ?_ | (refine below_step ?_ (by assumption) (by (first | omega | (simp only [size_grow, World.size_alloc, size_drewN, size_drew, size_setCell] at *; omega))))))))).mono ?_; rintro e u5 ⟨rfl, hb_u5⟩; replace hb_u5 := ex_below hb_u5; have bel_u5 : Below u4.heap.size u4 u5 := (by (repeat (first | exact Below.refl _ _ | assumption | (refine below_gr ?_ (by (first | omega | (simp only [size_grow, World.size_alloc, size_drewN, size_drew, size_setCell] at *; omega))) _) | (refine below_alloc ?_ (by (first | omega | (simp only [size_grow, World.size_alloc, size_drewN, size_drew, size_setCell] at *; omega))) _) | (refine Below.setCell ?_ (by (first | omega | (simp only [size_grow, World.size_alloc, size_drewN, size_drew, size_setCell] at *; omega))) _) | refine below_drewN ?_ _ | refine below_drew ?_ | (refine below_step ?_ (by assumption) (by (first | omega | (simp only [size_grow, World.size_alloc, size_drewN, size_drew, size_setCell] at *; omega))))))); clear hb_u5; have sz_u5 := bel_u5.size; replace hX := hX.ext bel_u5; replace hT := hT.ext bel_u5; replace hA := hA.ext bel_u5; replace hB := hB.ext bel_u5; replace hY := hY.ext bel_u5; replace hW := below_step hW bel_u5 (by have := hW.size; omega); replace hTX := hTX.ext bel_u5; (try clear hXc0 hXf hXl); have hXc0 := obj_at hX 0 _ rfl; have hXf := obj_fz hX 0; have hXl := obj_lt hX; (try clear hTc0 hTc1 hTf hTl); have hTc0 := obj_at hT 0 _ rfl; have hTc1 := obj_at hT 1 _ rfl; have hTf := obj_fz hT 0; have hTl := obj_lt hT; clear bel_u5; have tok5 : True := trivial)
    | (clear tok5; go_at_call 36; refine (C4.out _ (hA.ext (by (repeat (first | exact Below.refl _ _ | assumption | (refine below_gr ?_ (by (first | omega | (simp only [size_grow, World.size_alloc, size_drewN, size_drew, size_setCell] at *; omega))) _) | (refine below_alloc ?_ (by (first | omega | (simp only [size_grow, World.size_alloc, size_drewN, size_drew, size_setCell] at *; omega))) _) | (refine Below.setCell ?_ (by (first | omega | (simp only [size_grow, World.size_alloc, size_drewN, size_drew, size_setCell] at *; omega))) _) | refine below_drewN ?_ _ | refine below_drew ?_ | (refine below_step ?_ (by assumption) (by (first | omega | (simp only [size_grow, World.size_alloc, size_drewN, size_drew, size_setCell] at *; omega)))))))) (hB.ext (by (repeat (first | exact Below.refl _ _ | assumption | (refine below_gr ?_ (by (first | omega | (simp only [size_grow, World.size_alloc, size_drewN, size_drew, size_setCell] at *; omega))) _) | (refine below_alloc ?_ (by (first | omega | (simp only [size_grow, World.size_alloc, size_drewN, size_drew, size_setCell] at *; omega))) _) | (refine Below.setCell ?_ (by (first | omega | (simp only [size_grow, World.size_alloc, size_drewN, size_drew, size_setCell] at *; omega))) _) | refine below_drewN ?_ _ | refine below_drew ?_ | (refine below_step ?_ (by assumption) (by (first | omega | (simp only [size_grow, World.size_alloc, size_drewN, size_drew, size_setCell] at *; omega))))))))).mono ?_; rintro e u6 ⟨O4, o4, rfl, hb_u6, hO4⟩; replace hb_u6 := ex_below hb_u6; have bel_u6 : Below u5.heap.size u5 u6 := (by (repeat (first | exact Below.refl _ _ | assumption | (refine below_gr ?_ (by (first | omega | (simp only [size_grow, World.size_alloc, size_drewN, size_drew, size_setCell] at *; omega))) _) | (refine below_alloc ?_ (by (first | omega | (simp only [size_grow, World.size_alloc, size_drewN, size_drew, size_setCell] at *; omega))) _) | (refine Below.setCell ?_ (by (first | omega | (simp only [size_grow, World.size_alloc, size_drewN, size_drew, size_setCell] at *; omega))) _) | refine below_drewN ?_ _ | refine below_drew ?_ | (refine below_step ?_ (by assumption) (by (first | omega | (simp only [size_grow, World.size_alloc, size_drewN, size_drew, size_setCell] at *; omega))))))); clear hb_u6; have sz_u6 := bel_u6.size; replace hX := hX.ext bel_u6; replace hT := hT.ext bel_u6; replace hA := hA.ext bel_u6; replace hB := hB.ext bel_u6; replace hY := hY.ext bel_u6; replace hW := below_step hW bel_u6 (by have := hW.size; omega); replace hTX := hTX.ext bel_u6; (try clear hXc0 hXf hXl); have hXc0 := obj_at hX 0 _ rfl; have hXf := obj_fz hX 0; have hXl := obj_lt hX; (try clear hTc0 hTc1 hTf hTl); have hTc0 := obj_at hT 0 _ rfl; have hTc1 := obj_at hT 1 _ rfl; have hTf := obj_fz hT 0; have hTl := obj_lt hT; clear bel_u6; have tok6 : True := trivial)
    | (clear tok6; go_at_call 36; refine (C5.out _ (hA.ext (by (repeat (first | exact Below.refl _ _ | assumption | (refine below_gr ?_ (by (first | omega | (simp only [size_grow, World.size_alloc, size_drewN, size_drew, size_setCell] at *; omega))) _) | (refine below_alloc ?_ (by (first | omega | (simp only [size_grow, World.size_alloc, size_drewN, size_drew, size_setCell] at *; omega))) _) | (refine Below.setCell ?_ (by (first | omega | (simp only [size_grow, World.size_alloc, size_drewN, size_drew, size_setCell] at *; omega))) _) | refine below_drewN ?_ _ | refine below_drew ?_ | (refine below_step ?_ (by assumption) (by (first | omega | (simp only [size_grow, World.size_alloc, size_drewN, size_drew, size_setCell] at *; omega)))))))) (hTX.ext (by (repeat (first | exact Below.refl _ _ | assumption | (refine below_gr ?_ (by (first | omega | (simp only [size_grow, World.size_alloc, size_drewN, size_drew, size_setCell] at *; omega))) _) | (refine below_alloc ?_ (by (first | omega | (simp only [size_grow, World.size_alloc, size_drewN, size_drew, size_setCell] at *; omega))) _) | (refine Below.setCell ?_ (by (first | omega | (simp only [size_grow, World.size_alloc, size_drewN, size_drew, size_setCell] at *; omega))) _) | refine below_drewN ?_ _ | refine below_drew ?_ | (refine below_step ?_ (by assumption) (by (first | omega | (simp only [size_grow, World.size_alloc, size_drewN, size_drew, size_setCell] at *; omega))))))))).mono ?_; rintro e u7 ⟨O5, o5, rfl, hb_u7, hO5⟩; replace hb_u7 := ex_below hb_u7; have bel_u7 : Below u6.heap.size u6 u7 := (by (repeat (first | exact Below.refl _ _ | assumption | (refine below_gr ?_ (by (first | omega | (simp only [size_grow, World.size_alloc, size_drewN, size_drew, size_setCell] at *; omega))) _) | (refine below_alloc ?_ (by (first | omega | (simp only [size_grow, World.size_alloc, size_drewN, size_drew, size_setCell] at *; omega))) _) | (refine Below.setCell ?_ (by (first | omega | (simp only [size_grow, World.size_alloc, size_drewN, size_drew, size_setCell] at *; omega))) _) | refine below_drewN ?_ _ | refine below_drew ?_ | (refine below_step ?_ (by assumption) (by (first | omega | (simp only [size_grow, World.size_alloc, size_drewN, size_drew, size_setCell] at *; omega))))))); clear hb_u7; have sz_u7 := bel_u7.size; replace hX := hX.ext bel_u7; replace hT := hT.ext bel_u7; replace hA := hA.ext bel_u7; replace hB := hB.ext bel_u7; replace hY := hY.ext bel_u7; replace hW := below_step hW bel_u7 (by have := hW.size; omega); replace hTX := hTX.ext bel_u7; replace hO4 := hO4.ext bel_u7; (try clear hXc0 hXf hXl); have hXc0 := obj_at hX 0 _ rfl; have hXf := obj_fz hX 0; have hXl := obj_lt hX; (try clear hTc0 hTc1 hTf hTl); have hTc0 := obj_at hT 0 _ rfl; have hTc1 := obj_at hT 1 _ rfl; have hTf := obj_fz hT 0; have hTl := obj_lt hT; clear bel_u7; have tok7 : True := trivial)
    | (clear tok7; go_at_call 38; refine (C6.out _ (hA.ext (by (repeat (first | exact Below.refl _ _ | assumption | (refine below_gr ?_ (by (first | omega | (simp only [size_grow, World.size_alloc, size_drewN, size_drew, size_setCell] at *; omega))) _) | (refine below_alloc ?_ (by (first | omega | (simp only [size_grow, World.size_alloc, size_drewN, size_drew, size_setCell] at *; omega))) _) | (refine Below.setCell ?_ (by (first | omega | (simp only [size_grow, World.size_alloc, size_drewN, size_drew, size_setCell] at *; omega))) _) | refine below_drewN ?_ _ | refine below_drew ?_ | (refine below_step ?_ (by assumption) (by (first | omega | (simp only [size_grow, World.size_alloc, size_drewN, size_drew, size_setCell] at *; omega)))))))) (hB.ext (by (repeat (first | exact Below.refl _ _ | assumption | (refine below_gr ?_ (by (first | omega | (simp only [size_grow, World.size_alloc, size_drewN, size_drew, size_setCell] at *; omega))) _) | (refine below_alloc ?_ (by (first | omega | (simp only [size_grow, World.size_alloc, size_drewN, size_drew, size_setCell] at *; omega))) _) | (refine Below.setCell ?_ (by (first | omega | (simp only [size_grow, World.size_alloc, size_drewN, size_drew, size_setCell] at *; omega))) _) | refine below_drewN ?_ _ | refine below_drew ?_ | (refine below_step ?_ (by assumption) (by (first | omega | (simp only [size_grow, World.size_alloc, size_drewN, size_drew, size_setCell] at *; omega))))))))).mono ?_; rintro e u8 ⟨O6, o6, rfl, hb_u8, hO6⟩; replace hb_u8 := ex_below hb_u8; rw [HHL.out]; have bel_u8 : Below u7.heap.size u7 u8 := (by (repeat (first | exact Below.refl _ _ | assumption | (refine below_gr ?_ (by (first | omega | (simp only [size_grow, World.size_alloc, size_drewN, size_drew, size_setCell] at *; omega))) _) | (refine below_alloc ?_ (by (first | omega | (simp only [size_grow, World.size_alloc, size_drewN, size_drew, size_setCell] at *; omega))) _) | (refine Below.setCell ?_ (by (first | omega | (simp only [size_grow, World.size_alloc, size_drewN, size_drew, size_setCell] at *; omega))) _) | refine below_drewN ?_ _ | refine below_drew ?_ | (refine below_step ?_ (by assumption) (by (first | omega | (simp only [size_grow, World.size_alloc, size_drewN, size_drew, size_setCell] at *; omega))))))); clear hb_u8; have sz_u8 := bel_u8.size; replace hX := hX.ext bel_u8; replace hT := hT.ext bel_u8; replace hA := hA.ext bel_u8; replace hB := hB.ext bel_u8; replace hY := hY.ext bel_u8; replace hW := below_step hW bel_u8 (by have := hW.size; omega); replace hTX := hTX.ext bel_u8; replace hO4 := hO4.ext bel_u8; replace hO5 := hO5.ext bel_u8; (try clear hXc0 hXf hXl); have hXc0 := obj_at hX 0 _ rfl; have hXf := obj_fz hX 0; have hXl := obj_lt hX; (try clear hTc0 hTc1 hTf hTl); have hTc0 := obj_at hT 0 _ rfl; have hTc1 := obj_at hT 1 _ rfl; have hTf := obj_fz hT 0; have hTl := obj_lt hT; clear bel_u8; have tok8 : True := trivial)
    | (clear tok8; go_at_call 38; refine (C7.out _ (hA.ext (by (repeat (first | exact Below.refl _ _ | assumption | (refine below_gr ?_ (by (first | omega | (simp only [size_grow, World.size_alloc, size_drewN, size_drew, size_setCell] at *; omega))) _) | (refine below_alloc ?_ (by (first | omega | (simp only [size_grow, World.size_alloc, size_drewN, size_drew, size_setCell] at *; omega))) _) | (refine Below.setCell ?_ (by (first | omega | (simp only [size_grow, World.size_alloc, size_drewN, size_drew, size_setCell] at *; omega))) _) | refine below_drewN ?_ _ | refine below_drew ?_ | (refine below_step ?_ (by assumption) (by (first | omega | (simp only [size_grow, World.size_alloc, size_drewN, size_drew, size_setCell] at *; omega)))))))) (hTX.ext (by (repeat (first | exact Below.refl _ _ | assumption | (refine below_gr ?_ (by (first | omega | (simp only [size_grow, World.size_alloc, size_drewN, size_drew, size_setCell] at *; omega))) _) | (refine below_alloc ?_ (by (first | omega | (simp only [size_grow, World.size_alloc, size_drewN, size_drew, size_setCell] at *; omega))) _) | (refine Below.setCell ?_ (by (first | omega | (simp only [size_grow, World.size_alloc, size_drewN, size_drew, size_setCell] at *; omega))) _) | refine below_drewN ?_ _ | refine below_drew ?_ | (refine below_step ?_ (by assumption) (by (first | omega | (simp only [size_grow, World.size_alloc, size_drewN, size_drew, size_setCell] at *; omega))))))))).mono ?_; rintro e u9 ⟨O7, o7, rfl, hb_u9, hO7⟩; replace hb_u9 := ex_below hb_u9; rw [HZL.out]; have bel_u9 : Below u8.heap.size u8 u9 := (by (repeat (first | exact Below.refl _ _ | assumption | (refine below_gr ?_ (by (first | omega | (simp only [size_grow, World.size_alloc, size_drewN, size_drew, size_setCell] at *; omega))) _) | (refine below_alloc ?_ (by (first | omega | (simp only [size_grow, World.size_alloc, size_drewN, size_drew, size_setCell] at *; omega))) _) | (refine Below.setCell ?_ (by (first | omega | (simp only [size_grow, World.size_alloc, size_drewN, size_drew, size_setCell] at *; omega))) _) | refine below_drewN ?_ _ | refine below_drew ?_ | (refine below_step ?_ (by assumption) (by (first | omega | (simp only [size_grow, World.size_alloc, size_drewN, size_drew, size_setCell] at *; omega))))))); clear hb_u9; have sz_u9 := bel_u9.size; replace hX := hX.ext bel_u9; replace hT := hT.ext bel_u9; replace hA := hA.ext bel_u9; replace hB := hB.ext bel_u9; replace hY := hY.ext bel_u9; replace hW := below_step hW bel_u9 (by have := hW.size; omega); replace hTX := hTX.ext bel_u9; replace hO4 := hO4.ext bel_u9; replace hO5 := hO5.ext bel_u9; replace hO6 := hO6.ext bel_u9; (try clear hXc0 hXf hXl); have hXc0 := obj_at hX 0 _ rfl; have hXf := obj_fz hX 0; have hXl := obj_lt hX; (try clear hTc0 hTc1 hTf hTl); have hTc0 := obj_at hT 0 _ rfl; have hTc1 := obj_at hT 1 _ rfl; have hTf := obj_fz hT 0; have hTl := obj_lt hT; clear bel_u9; have tok9 : True := trivial))

        go_cut [136] from 86 to 135 (fun s wx => s = .bool false ∧ wx = u9)
        case first =>
          as_aux_lemma =>
          go_wp2_with fail
          go_meet
          exact ⟨v_bool (by first | rfl | (simp; omega)), rfl⟩
        case rest =>
        obtain ⟨rfl, hwe⟩ := hcut
        rw [hwe]
        clear hwe G0 g1 g2 g3 g4
        go_wp2
        go_loopw [24] (fun t24 wr => ∃ k : Nat, k ≤ hl.length ∧ t24 = .int .i64 (k : Nat) ∧ Below u9.heap.size u9 wr) (fun i _ => hl.length - (intOf i).toNat)
        case atStart => exact ⟨0, Nat.zero_le _, rfl, Below.refl _ _⟩
        case round =>
          obtain ⟨k, hk, rfl, hb⟩ := hrel
          have hB1 := hB.ext hb
          have hO61 := hO6.ext hb
          have hO71 := hO7.ext hb
          have hA1 := hA.ext hb
          by_cases hlt : k < hl.length
          · have hki : (k : Int) < (hl.length : Int) := by omega
            obtain ⟨ob, oo, rfl, hob⟩ := zsF hO61 (by omega)
            have c9 := zsI hO61 hlt
            have hme := HST.out _ (List.getElem_mem hlt)
            generalize hl[k] = y at *
            have C9 := hide (fun P q w' (h : I64 w' P (zs zl)) => C8.out P q y w' h)
            rw [show ((zs zl).contains ((y : Nat) : Int)) = true by rw [zs_contains]; exact decide_eq_true hme, zs_len] at C9
            clear hme C8 HST HLI
            have tok0 : True := trivial
            go_wp2_with (first
    | (clear tok0; go_at_call 48; refine (C9.out _ _ _ (hO71.ext (by (repeat (first | exact Below.refl _ _ | assumption | (refine below_gr ?_ (by (first | omega | (simp only [size_grow, World.size_alloc, size_drewN, size_drew, size_setCell] at *; omega))) _) | (refine below_alloc ?_ (by (first | omega | (simp only [size_grow, World.size_alloc, size_drewN, size_drew, size_setCell] at *; omega))) _) | (refine Below.setCell ?_ (by (first | omega | (simp only [size_grow, World.size_alloc, size_drewN, size_drew, size_setCell] at *; omega))) _) | refine below_drewN ?_ _ | refine below_drew ?_ | (refine below_step ?_ (by assumption) (by (first | omega | (simp only [size_grow, World.size_alloc, size_drewN, size_drew, size_setCell] at *; omega))))))))).mono ?_; rintro e u1 ⟨rfl, hb_u1⟩; replace hb_u1 := ex_below hb_u1; have bel_u1 : Below wr.heap.size wr u1 := (by (repeat (first | exact Below.refl _ _ | assumption | (refine below_gr ?_ (by (first | omega | (simp only [size_grow, World.size_alloc, size_drewN, size_drew, size_setCell] at *; omega))) _) | (refine below_alloc ?_ (by (first | omega | (simp only [size_grow, World.size_alloc, size_drewN, size_drew, size_setCell] at *; omega))) _) | (refine Below.setCell ?_ (by (first | omega | (simp only [size_grow, World.size_alloc, size_drewN, size_drew, size_setCell] at *; omega))) _) | refine below_drewN ?_ _ | refine below_drew ?_ | (refine below_step ?_ (by assumption) (by (first | omega | (simp only [size_grow, World.size_alloc, size_drewN, size_drew, size_setCell] at *; omega))))))); clear hb_u1; have sz_u1 := bel_u1.size; replace hO71 := hO71.ext bel_u1; replace hb := below_step hb bel_u1 (by have := hb.size; omega); clear bel_u1; have tok1 : True := trivial))

            exact ⟨⟨k + 1, by omega, by go_num, hb⟩, by simp [intOf]; omega⟩
          · have hki : ¬ (k : Int) < (hl.length : Int) := by omega
            have hW1 := below_step hW hb (by have := hW.size; omega)
            have C9 := hide (fun P q w' (h : I64 w' P (zs zl)) => C8.out P q ts1.length w' h)
            rw [zs_contains, HLI, zs_len] at C9
            clear C8 HST HLI hlt
            have htl : (ts1.length : Int) ≤ 10 := by omega
            cases hmn : ((m : Int) == (n : Int))
            all_goals
              rw [hmn] at C9
              have tok0 : True := trivial
              go_wp2_with (first
    | (clear tok0; go_at_call 48; refine (C9.out _ _ _ (hO71.ext (by (repeat (first | exact Below.refl _ _ | assumption | (refine below_gr ?_ (by (first | omega | (simp only [size_grow, World.size_alloc, size_drewN, size_drew, size_setCell] at *; omega))) _) | (refine below_alloc ?_ (by (first | omega | (simp only [size_grow, World.size_alloc, size_drewN, size_drew, size_setCell] at *; omega))) _) | (refine Below.setCell ?_ (by (first | omega | (simp only [size_grow, World.size_alloc, size_drewN, size_drew, size_setCell] at *; omega))) _) | refine below_drewN ?_ _ | refine below_drew ?_ | (refine below_step ?_ (by assumption) (by (first | omega | (simp only [size_grow, World.size_alloc, size_drewN, size_drew, size_setCell] at *; omega))))))))).mono ?_; rintro e u1 ⟨rfl, hb_u1⟩; replace hb_u1 := ex_below hb_u1; have bel_u1 : Below wr.heap.size wr u1 := (by (repeat (first | exact Below.refl _ _ | assumption | (refine below_gr ?_ (by (first | omega | (simp only [size_grow, World.size_alloc, size_drewN, size_drew, size_setCell] at *; omega))) _) | (refine below_alloc ?_ (by (first | omega | (simp only [size_grow, World.size_alloc, size_drewN, size_drew, size_setCell] at *; omega))) _) | (refine Below.setCell ?_ (by (first | omega | (simp only [size_grow, World.size_alloc, size_drewN, size_drew, size_setCell] at *; omega))) _) | refine below_drewN ?_ _ | refine below_drew ?_ | (refine below_step ?_ (by assumption) (by (first | omega | (simp only [size_grow, World.size_alloc, size_drewN, size_drew, size_setCell] at *; omega))))))); clear hb_u1; have sz_u1 := bel_u1.size; replace hO71 := hO71.ext bel_u1; replace hW1 := below_step hW1 bel_u1 (by have := hW1.size; omega); clear bel_u1; have tok1 : True := trivial)
    | (clear tok1; go_at_call 20; refine (works_any _).mono ?_; rintro e u2 ⟨rfl, hb_u2⟩; replace hb_u2 := ex_below hb_u2; have bel_u2 : Below u1.heap.size u1 u2 := (by (repeat (first | exact Below.refl _ _ | assumption | (refine below_gr ?_ (by (first | omega | (simp only [size_grow, World.size_alloc, size_drewN, size_drew, size_setCell] at *; omega))) _) | (refine below_alloc ?_ (by (first | omega | (simp only [size_grow, World.size_alloc, size_drewN, size_drew, size_setCell] at *; omega))) _) | (refine Below.setCell ?_ (by (first | omega | (simp only [size_grow, World.size_alloc, size_drewN, size_drew, size_setCell] at *; omega))) _) | refine below_drewN ?_ _ | refine below_drew ?_ | (refine below_step ?_ (by assumption) (by (first | omega | (simp only [size_grow, World.size_alloc, size_drewN, size_drew, size_setCell] at *; omega))))))); clear hb_u2; have sz_u2 := bel_u2.size; replace hO71 := hO71.ext bel_u2; replace hW1 := below_step hW1 bel_u2 (by have := hW1.size; omega); clear bel_u2; have tok2 : True := trivial))

              go_ret
              exact gives_of rfl hW1

end Go.Proofs.Ytlbkaeoagdbemaa
