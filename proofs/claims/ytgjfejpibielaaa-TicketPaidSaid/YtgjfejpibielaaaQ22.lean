/- Proved here: the nearest code, a part of the proofs about the ticket laws. Conditions: those that each theorem names, no others. -/
import Derived.Laws.EntriesVeiled
import Derived.Test.YtgjfejpibielaaaQ21
import Derived.WalkKit
import Derived.WalkSpells
import Derived.WalkLawsBesides
import Derived.Below
import Derived.Deep.QuietTactic
import Derived.BigQuiet
import Derived.Deep.Light
set_option linter.unusedSimpArgs false
set_option linter.unusedVariables false
namespace Go.Proofs.Ytgjfejpibielaaa
open Go.RowKit Go.Maps Go.Shelf
attribute [local go_sem] Oper.semAt_some World.cell?_setCell_far
theorem fst_fold (n : Nat) (l : List (Nat × Nat)) (a : Nat × Nat) (ha : a.1 < n) (hl : ∀ x, x ∈ l → x.1 < n) : (l.foldl Tt.lessP a).1 < n := by
 induction l generalizing a with
 | nil => exact ha
 | cons x l ih =>
   refine ih _ ?_ (fun y hy => hl y (by simp [hy]))
   unfold Tt.lessP
   split
   · exact hl x (by simp)
   · exact ha
theorem best_fst (L rest : Nat) (hL : 0 < L) (ps : List (Nat × Nat)) (la : Int) (s : Nat) (w : List Nat) : (Tt.bestA L rest ps la s w).1 < L := by
 cases ps with
 | nil => exact hL
 | cons p r =>
   rw [Tt.bestA]
   refine fst_fold L _ _ hL (fun x hx => ?_)
   obtain ⟨c, hc, he⟩ := List.mem_filterMap.1 hx
   split at he
   · cases he; exact List.mem_range.1 hc
   · cases he
theorem best_any (B M : Nat) (L rest : Nat) (A : Option Addr) (K : List Nat) (c : Nat) (S : Option Addr) (T : List Nat) (d : Nat) (must : Value → Prop) (ws : List Nat) (w00 : World) (Wm p1 p2 p3 p4 : Nat) (hwl : ws.length = K.length) (hwL : ∀ x, x ∈ ws → x < L) : ∀ (n p : Nat) (la : Int) (s : Nat) (w : World), K.length - p = n → NrE w B M L rest A K c S T d must ws w00 Wm p1 p2 p3 p4 → p < K.length → -1 ≤ la ∧ la ≤ 5 → s < L →
 Calls Try.prog 89 #[.agg #[.int .i64 (p : Nat), .int .i64 la, .int .i64 (s : Nat)], .pointer (some ⟨p1, 0, none⟩), .pointer (some ⟨p2, 0, none⟩), .pointer (some ⟨p3, 0, none⟩), .pointer (some ⟨p4, 0, none⟩)] w (GivesB w L rest M Wm K T ws must (Tt.bestA L rest ((K.zip T).drop p) la s (ws.drop p))) := by
 intro n
 induction n with
 | zero => intro p la s w h1 h2 h3; omega
 | succ n ih =>
   intro p la s w h1 hE hp hla hs
   have hL6 := hE.mx.ok.2.1
   exact best_step B M L rest A K c S T d must ws w00 Wm p1 p2 p3 p4 hwl hwL p la s w hE hp hla hs (fun x s' w' hx hs' hp1 hE' => ih (p + 1) x s' w' (by omega) hE' hp1 ⟨by omega, by omega⟩ hs')
@[go_sem] theorem field133b (a b : Int) (w : World) : (Instr.field 133 (.agg #[.int .i64 a, .int .i64 b]) 0).run Try.prog w = .ok (.int .i64 a) w := by kernel_rfl
set_option maxRecDepth 100000 in
set_option maxHeartbeats 4000000 in
theorem nearest_any (B M : Nat) (L rest : Nat) (A : Option Addr) (K : List Nat) (c : Nat) (S : Option Addr) (T : List Nat) (d : Nat) (must : Value → Prop) (ws : List Nat) (w : World) (hx : Mx w B M L rest A K c S T d must) (hwl : ws.length = K.length) (hwL : ∀ x, x ∈ ws → x < L) :
 Calls Try.prog 74 #[.pointer (some ⟨B, 0, none⟩), .string (strW ws)] w (GivesM w M (KMap 91 M (goodF L rest K T) must) (.tuple #[.int .i64 ((Tt.bestA L rest (K.zip T) (-1) 0 ws).2 : Nat), .string (strW (Tt.nearA L rest (K.zip T) (-1) 0 ws))])) := by
 have hok := hx.ok
 obtain ⟨hL2, hL6, hn2, hn8, htl, hkL, htL, hrL⟩ := id hok
 have hmm := @run_makeMap Try.prog
 have HTL := hide htl
 have HWL := hide hwl
 have HLW := hide hwL
 have hxl := hx.lts
 obtain ⟨ti, ih, iz, is, ib⟩ := info_parts infoB
 clear hwl hwL htl
 go_enter Try.func74, Try.ntmps74
 go_upto_region 4 with fail
 have hW : Below w.heap.size w (((((w.alloc (.cells #[.pointer (some ⟨B, 0, none⟩)] 83)).alloc (.cells #[.string (strW ws)] 9)).alloc (.map #[] 0)).alloc (.cells #[.map (some (w.heap.size + 1 + 1))] 130)).alloc (.cells #[.func (.func 89) #[] #[.pointer (some ⟨w.heap.size, 0, none⟩), .pointer (some ⟨w.heap.size + 1 + 1 + 1, 0, none⟩), .pointer (some ⟨w.heap.size + 1 + 1 + 1 + 1, 0, none⟩), .pointer (some ⟨w.heap.size + 1, 0, none⟩)]] 131)) := by (repeat (first | exact Below.refl _ _ | assumption | (refine below_gr ?_ (by (first | omega | (simp only [zz] at *; omega))) _) | (refine below_alloc ?_ (by (first | omega | (simp only [zz] at *; omega))) _) | (refine Below.setCell ?_ (by (first | omega | (simp only [zz] at *; omega))) _) | refine below_drewN ?_ _ | refine below_drew ?_ | (refine below_step ?_ (by assumption) (by (first | omega | (simp only [zz] at *; omega))))))
 have h1 : BlkAt (((((w.alloc (.cells #[.pointer (some ⟨B, 0, none⟩)] 83)).alloc (.cells #[.string (strW ws)] 9)).alloc (.map #[] 0)).alloc (.cells #[.map (some (w.heap.size + 1 + 1))] 130)).alloc (.cells #[.func (.func 89) #[] #[.pointer (some ⟨w.heap.size, 0, none⟩), .pointer (some ⟨w.heap.size + 1 + 1 + 1, 0, none⟩), .pointer (some ⟨w.heap.size + 1 + 1 + 1 + 1, 0, none⟩), .pointer (some ⟨w.heap.size + 1, 0, none⟩)]] 131)) w.heap.size #[.pointer (some ⟨B, 0, none⟩)] 83 := (Below.heap_alloc _ _ _ (by simp <;> omega)).trans ((Below.heap_alloc _ _ _ (by simp <;> omega)).trans ((Below.heap_alloc _ _ _ (by simp <;> omega)).trans (heap_a _ _ _)))
 have h4 : BlkAt (((((w.alloc (.cells #[.pointer (some ⟨B, 0, none⟩)] 83)).alloc (.cells #[.string (strW ws)] 9)).alloc (.map #[] 0)).alloc (.cells #[.map (some (w.heap.size + 1 + 1))] 130)).alloc (.cells #[.func (.func 89) #[] #[.pointer (some ⟨w.heap.size, 0, none⟩), .pointer (some ⟨w.heap.size + 1 + 1 + 1, 0, none⟩), .pointer (some ⟨w.heap.size + 1 + 1 + 1 + 1, 0, none⟩), .pointer (some ⟨w.heap.size + 1, 0, none⟩)]] 131)) (w.heap.size + 1) #[.string (strW ws)] 9 := (Below.heap_alloc _ _ _ (by simp <;> omega)).trans ((Below.heap_alloc _ _ _ (by simp <;> omega)).trans ((Below.heap_alloc _ _ _ (by simp)).trans (heap_b _ _ _)))
 have h2 : BlkAt (((((w.alloc (.cells #[.pointer (some ⟨B, 0, none⟩)] 83)).alloc (.cells #[.string (strW ws)] 9)).alloc (.map #[] 0)).alloc (.cells #[.map (some (w.heap.size + 1 + 1))] 130)).alloc (.cells #[.func (.func 89) #[] #[.pointer (some ⟨w.heap.size, 0, none⟩), .pointer (some ⟨w.heap.size + 1 + 1 + 1, 0, none⟩), .pointer (some ⟨w.heap.size + 1 + 1 + 1 + 1, 0, none⟩), .pointer (some ⟨w.heap.size + 1, 0, none⟩)]] 131)) (w.heap.size + 1 + 1 + 1) #[.map (some (w.heap.size + 1 + 1))] 130 := by
  have h := heap_alloc_new (((w.alloc (.cells #[.pointer (some ⟨B, 0, none⟩)] 83)).alloc (.cells #[.string (strW ws)] 9)).alloc (.map #[] 0)) (.cells #[.map (some (w.heap.size + 1 + 1))] 130)
  simp only [World.size_alloc] at h
  exact (Below.heap_alloc _ _ _ (by simp)).trans h
 have h3 : BlkAt (((((w.alloc (.cells #[.pointer (some ⟨B, 0, none⟩)] 83)).alloc (.cells #[.string (strW ws)] 9)).alloc (.map #[] 0)).alloc (.cells #[.map (some (w.heap.size + 1 + 1))] 130)).alloc (.cells #[.func (.func 89) #[] #[.pointer (some ⟨w.heap.size, 0, none⟩), .pointer (some ⟨w.heap.size + 1 + 1 + 1, 0, none⟩), .pointer (some ⟨w.heap.size + 1 + 1 + 1 + 1, 0, none⟩), .pointer (some ⟨w.heap.size + 1, 0, none⟩)]] 131)) (w.heap.size + 1 + 1 + 1 + 1) #[.func (.func 89) #[] #[.pointer (some ⟨w.heap.size, 0, none⟩), .pointer (some ⟨w.heap.size + 1 + 1 + 1, 0, none⟩), .pointer (some ⟨w.heap.size + 1 + 1 + 1 + 1, 0, none⟩), .pointer (some ⟨w.heap.size + 1, 0, none⟩)]] 131 := by
  have h := heap_alloc_new ((((w.alloc (.cells #[.pointer (some ⟨B, 0, none⟩)] 83)).alloc (.cells #[.string (strW ws)] 9)).alloc (.map #[] 0)).alloc (.cells #[.map (some (w.heap.size + 1 + 1))] 130)) (.cells #[.func (.func 89) #[] #[.pointer (some ⟨w.heap.size, 0, none⟩), .pointer (some ⟨w.heap.size + 1 + 1 + 1, 0, none⟩), .pointer (some ⟨w.heap.size + 1 + 1 + 1 + 1, 0, none⟩), .pointer (some ⟨w.heap.size + 1, 0, none⟩)]] 131)
  simp only [World.size_alloc] at h
  exact h
 have hKM : KMap 91 (w.heap.size + 1 + 1) (goodW L rest K T ws) (fun _ => False) (((((w.alloc (.cells #[.pointer (some ⟨B, 0, none⟩)] 83)).alloc (.cells #[.string (strW ws)] 9)).alloc (.map #[] 0)).alloc (.cells #[.map (some (w.heap.size + 1 + 1))] 130)).alloc (.cells #[.func (.func 89) #[] #[.pointer (some ⟨w.heap.size, 0, none⟩), .pointer (some ⟨w.heap.size + 1 + 1 + 1, 0, none⟩), .pointer (some ⟨w.heap.size + 1 + 1 + 1 + 1, 0, none⟩), .pointer (some ⟨w.heap.size + 1, 0, none⟩)]] 131)) := by
  have h := KMap.made ((w.alloc (.cells #[.pointer (some ⟨B, 0, none⟩)] 83)).alloc (.cells #[.string (strW ws)] 9)) 91 (goodW L rest K T ws)
  simp only [World.size_alloc] at h
  exact h.below (by (repeat (first | exact Below.refl _ _ | assumption | refine below_drewN ?_ _ | refine below_drew ?_ | refine below_gr ?_ ?_ _ | refine below_alloc ?_ ?_ _ | refine Below.setCell ?_ ?_ _ | refine below_step ?_ (by assumption) ?_ | omega | (simp only [zz] at *; omega))))
 have hszW : (((((w.alloc (.cells #[.pointer (some ⟨B, 0, none⟩)] 83)).alloc (.cells #[.string (strW ws)] 9)).alloc (.map #[] 0)).alloc (.cells #[.map (some (w.heap.size + 1 + 1))] 130)).alloc (.cells #[.func (.func 89) #[] #[.pointer (some ⟨w.heap.size, 0, none⟩), .pointer (some ⟨w.heap.size + 1 + 1 + 1, 0, none⟩), .pointer (some ⟨w.heap.size + 1 + 1 + 1 + 1, 0, none⟩), .pointer (some ⟨w.heap.size + 1, 0, none⟩)]] 131)).heap.size = w.heap.size + 1 + 1 + 1 + 1 + 1 := by simp
 obtain ⟨W3, hW3⟩ : ∃ v, (((((w.alloc (.cells #[.pointer (some ⟨B, 0, none⟩)] 83)).alloc (.cells #[.string (strW ws)] 9)).alloc (.map #[] 0)).alloc (.cells #[.map (some (w.heap.size + 1 + 1))] 130)).alloc (.cells #[.func (.func 89) #[] #[.pointer (some ⟨w.heap.size, 0, none⟩), .pointer (some ⟨w.heap.size + 1 + 1 + 1, 0, none⟩), .pointer (some ⟨w.heap.size + 1 + 1 + 1 + 1, 0, none⟩), .pointer (some ⟨w.heap.size + 1, 0, none⟩)]] 131)) = v := ⟨_, rfl⟩
 rw [hW3] at hW h1 h2 h3 h4 hKM hszW ⊢
 clear hW3
 obtain ⟨p3, hp3⟩ : ∃ v, w.heap.size + 1 + 1 + 1 + 1 = v := ⟨_, rfl⟩
 obtain ⟨p2, hp2⟩ : ∃ v, w.heap.size + 1 + 1 + 1 = v := ⟨_, rfl⟩
 obtain ⟨Wm, hWm⟩ : ∃ v, w.heap.size + 1 + 1 = v := ⟨_, rfl⟩
 obtain ⟨p4, hp4⟩ : ∃ v, w.heap.size + 1 = v := ⟨_, rfl⟩
 obtain ⟨p1, hp1⟩ : ∃ v, w.heap.size = v := ⟨_, rfl⟩
 have hps : w.heap.size = p1 ∧ p4 = p1 + 1 ∧ Wm = p4 + 1 ∧ p2 = Wm + 1 ∧ p3 = p2 + 1 ∧ W3.heap.size = p3 + 1 := by omega
 rw [hp3, hp2, hp4, hp1] at h3
 rw [hp2, hWm] at h2
 rw [hp4] at h4
 rw [hp1] at h1
 rw [hWm] at hKM
 rw [hp3, hp2, hWm, hp4, hp1]
 have hE : NrE W3 B M L rest A K c S T d must ws w Wm p1 p2 p3 p4 := { b1 := h1, b2 := h2, b3 := h3, b4 := h4, mx := hx.ext hW, wm := hKM, fm := hx.new (by omega), mw := hx.at_, old := fun b hb _ => hW.block b hb, sz := hW.size, nw := by omega, l1 := by omega, l2 := by omega, l3 := by omega, l4 := by omega }
 have hM3 : M < w.heap.size := hxl.2
 clear hp1 hp2 hp3 hp4 hWm hszW h1 h2 h3 h4 hKM hmm
 obtain ⟨e1, e2, e3, e4, e5, e6⟩ := hps
 have hq1 : w.heap.size ≤ p1 := by omega
 have hq2 : p1 < p4 := by omega
 have hq3 : p4 < Wm := by omega
 have hq4 : Wm < p2 := by omega
 have hq5 : p2 < p3 := by omega
 have hq6 : p3 < W3.heap.size := by omega
 have hq7 : W3.heap.size ≤ p3 + 1 := by omega
 clear e1 e2 e3 e4 e5 e6
 obtain ⟨NA, hNA⟩ : ∃ v, Tt.nearA L rest (K.zip T) (-1) 0 ws = v := ⟨_, rfl⟩
 have HNA : Hid ([] ++ Tt.nearA L rest ((K.zip T).drop 0) (-1) 0 (ws.drop 0) = NA) := hide (by simpa using hNA)
 have HB0 := hide (fun (w' : World) (h : NrE w' B M L rest A K c S T d must ws w Wm p1 p2 p3 p4) => best_any B M L rest A K c S T d must ws w Wm p1 p2 p3 p4 HWL.out HLW.out _ 0 (-1) 0 w' rfl h (by omega) (by omega) (by omega))
 rw [List.drop_zero, List.drop_zero] at HB0
 rw [hNA]
 obtain ⟨bq, hbq⟩ : ∃ v, (Tt.bestA L rest (K.zip T) (-1) 0 ws) = v := ⟨_, rfl⟩
 rw [hbq] at HB0 ⊢
 obtain ⟨bq1, bq2⟩ := bq
 have HNQ := hide hNA
 have HBQ := hide hbq
 clear hNA hbq
 dsimp only
 have c3 := obj_at hE.b3 0 _ rfl
 have cl3 := obj_lt hE.b3
 go_cut [8, 9, 14] from 14 to 18 (fun s8 s9 s14 wx => ∃ b8 : Nat, s8 = .pointer (some ⟨b8, 0, none⟩) ∧ s9 = .int .i64 (bq2 : Nat) ∧ BlkAt wx b8 #[.int .i64 0, .int .i64 (-1), .int .i64 0] 91 ∧ W3.heap.size ≤ b8 ∧ GX [M, Wm] W3 wx ∧ (KMap 91 M (goodF L rest K T) must) wx ∧ (KMap 91 Wm (goodW L rest K T ws) (fun _ => False)) wx)
 case first =>
  as_aux_lemma =>
  have hBc := below_drew (Below.refl W3.heap.size W3)
  clear hok hL2 hL6 hn2 hn8 hkL htL hrL HNA HTL HWL HLW hx ti ih iz is ib
  refine wp_region_noPanic ?_
  refine wp_region_held_drew (S := fun w' => w'.cell? ⟨p3, 0, none⟩ = some (.func (.func 89) #[] #[.pointer (some ⟨p1, 0, none⟩), .pointer (some ⟨p2, 0, none⟩), .pointer (some ⟨p3, 0, none⟩), .pointer (some ⟨p4, 0, none⟩)])) (by kernel_rfl) ?_ (fun hHeld => ?_)
  · (try dsimp only)
    (simp (maxDischargeDepth := 9) [*, World.cell?_alloc_some, World.cell?_setCell_far])
  refine wpAnyH_take (i := 1) (v := ?_) rfl (by kernel_rfl) (by kernel_rfl) (by kernel_rfl) (fun _ _ _ h => h) (Or.inl ⟨by rfl, ?_⟩) hHeld ?_
  rotate_left
  · (intro ww hSw; (try dsimp only at hSw); go_simp; try with_reducible rfl)
  (try simp only [Act.put, List.getElem_toArray, List.getElem_cons_zero, List.getElem_cons_succ, List.setIfInBounds_toArray, List.set_cons_zero, List.set_cons_succ])
  refine wpAnyH_ready (rs := [0, 5]) (by kernel_rfl) (by simp) ?_
  refine AllReadyH.cons rfl ?_ ?_
  · intro K' hK
    rw [if_pos (by rfl)]
    go_simp
    go_at_call 62
    refine (start_raw _).mono ?_
    rintro e v0 ⟨rfl, hb0⟩
    replace hb0 := ex_below hb0
    replace hBc := below_step hBc hb0 hBc.size
    have hz0 := hBc.size
    (try have hA5 := hA5.ext hb0)
    go_wp2_with fail
    refine hK.out _ _ (obj_at (hE.b3.ext hBc) 0 _ rfl) (fun hHeld2 => ?_)
    clear hK K' hHeld
    have hHeld := hHeld2
    clear hHeld2
    (try simp only [Act.put, List.getElem_toArray, List.getElem_cons_zero, List.getElem_cons_succ, List.setIfInBounds_toArray, List.set_cons_zero, List.set_cons_succ])
    refine wpAnyH_ready (rs := [2, 5]) (by kernel_rfl) (by simp) ?_
    refine AllReadyH.cons rfl ?_ ?_
    · intro K' hK
      rw [if_pos (by rfl)]
      go_simp
      go_at_call 62
      refine (start_raw _).mono ?_
      rintro e v2 ⟨rfl, hb2⟩
      replace hb2 := ex_below hb2
      replace hBc := below_step hBc hb2 hBc.size
      have hz2 := hBc.size
      (try have hA5 := hA5.ext hb2)
      go_wp2_with fail
      refine hK.out _ _ (obj_at (hE.b3.ext hBc) 0 _ rfl) (fun hHeld2 => ?_)
      clear hK K' hHeld
      have hHeld := hHeld2
      clear hHeld2
      (try simp only [Act.put, List.getElem_toArray, List.getElem_cons_zero, List.getElem_cons_succ, List.setIfInBounds_toArray, List.set_cons_zero, List.set_cons_succ])
      refine wpAnyH_ready (rs := [3, 5]) (by kernel_rfl) (by simp) ?_
      refine AllReadyH.cons rfl ?_ ?_
      · intro K' hK
        rw [if_pos (by rfl)]
        go_simp
        go_at_call 89
        refine (HB0.out _ (hE.ext hBc)).mono ?_
        rintro e v3 ⟨rfl, hg3, hk3, hw3⟩
        have hE3 := NrE.gx (hE.ext hBc) hg3 hk3 hw3
        have hG3 : GX [M, Wm] W3 v3 := ((GX.refl [M, Wm] W3).below hBc (Nat.le_refl _)).trans hg3
        have hz3 := hG3.size
        have hP3 := hE3.b3
        (try have hA5 := hA5.gx hg3 (by simp; omega))
        go_wp2_with fail
        refine hK.out _ _ (obj_at hP3 0 _ rfl) (fun hHeld2 => ?_)
        clear hK K' hHeld
        have hHeld := hHeld2
        clear hHeld2
        (try simp only [Act.put, List.getElem_toArray, List.getElem_cons_zero, List.getElem_cons_succ, List.setIfInBounds_toArray, List.set_cons_zero, List.set_cons_succ])
        refine wpAnyH_take (i := 4) (v := ?_) rfl (by kernel_rfl) (by kernel_rfl) (by kernel_rfl) (fun _ _ _ h => h) (Or.inl ⟨by rfl, ?_⟩) hHeld ?_
        rotate_left
        · (intro ww hSw; (try dsimp only at hSw); go_simp; try with_reducible rfl)
        (try simp only [Act.put, List.getElem_toArray, List.getElem_cons_zero, List.getElem_cons_succ, List.setIfInBounds_toArray, List.set_cons_zero, List.set_cons_succ])
        refine wpAnyH_ready (rs := [5]) (by kernel_rfl) (by simp) ?_
        refine AllReadyH.cons rfl ?_ ?_
        · intro K' hK
          rw [if_pos (by rfl)]
          go_simp
          (refine hK.out _ (v3.alloc (.cells #[.int .i64 0, .int .i64 0, .int .i64 0] 91)) ((World.cell?_alloc_some _ _ _ (by rw [hHeld]; rfl)).trans hHeld) (fun hHeld2 => ?_); have hA5 : BlkAt (v3.alloc (.cells #[.int .i64 0, .int .i64 0, .int .i64 0] 91)) v3.heap.size #[.int .i64 0, .int .i64 0, .int .i64 0] 91 := heap_alloc_new _ _; have hb5 := below_alloc (Below.refl v3.heap.size v3) (Nat.le_refl _) (.cells #[.int .i64 0, .int .i64 0, .int .i64 0] 91); obtain ⟨b8, h8⟩ : ∃ v, v3.heap.size = v := ⟨_, rfl⟩; rw [h8] at hA5 ⊢; have h8le : W3.heap.size ≤ b8 := (by omega); obtain ⟨v5, hv5⟩ : ∃ v, (v3.alloc (.cells #[.int .i64 0, .int .i64 0, .int .i64 0] 91)) = v := ⟨_, rfl⟩; rw [hv5] at hA5 hb5 hHeld2 ⊢; clear hv5; replace hG3 := hG3.below hb5 hG3.size; replace hk3 := hk3.below hb5; replace hw3 := hw3.below hb5; replace hP3 := hP3.ext hb5)
          clear hK K' hHeld
          have hHeld := hHeld2
          clear hHeld2
          (try simp only [Act.put, List.getElem_toArray, List.getElem_cons_zero, List.getElem_cons_succ, List.setIfInBounds_toArray, List.set_cons_zero, List.set_cons_succ])
          refine wpAnyH_ready (rs := [6]) (by kernel_rfl) (by simp) ?_
          refine AllReadyH.cons rfl ?_ ?_
          · intro K' hK
            rw [if_pos (by rfl)]
            have s0 := obj_at hA5 0 _ rfl
            have s1 := obj_at hA5 1 _ rfl
            have s2 := obj_at hA5 2 _ rfl
            have sf := obj_fz hA5 0
            have sf1 := obj_fz hA5 1
            have sf2 := obj_fz hA5 2
            have h83 : b8 ≠ p3 := by omega
            have h38 := h83.symm
            go_simp
            refine hK.out _ _ (by refine obj_at (((hP3.set _ _ ?_).set _ _ ?_).set _ _ ?_) 0 _ rfl <;> exact h38) (fun hHeld2 => ?_)
            clear hK K' hHeld
            have hHeld := hHeld2
            clear hHeld2
            (try simp only [Act.put, List.getElem_toArray, List.getElem_cons_zero, List.getElem_cons_succ, List.setIfInBounds_toArray, List.set_cons_zero, List.set_cons_succ])
            refine wpAnyH_take (i := 7) (v := ?_) rfl (by kernel_rfl) (by kernel_rfl) (by kernel_rfl) (fun _ _ _ h => h) (Or.inl ⟨by rfl, ?_⟩) hHeld ?_
            rotate_left
            · (intro ww hSw; (try dsimp only at hSw); go_simp; try with_reducible rfl)
            (try simp only [Act.put, List.getElem_toArray, List.getElem_cons_zero, List.getElem_cons_succ, List.setIfInBounds_toArray, List.set_cons_zero, List.set_cons_succ])
            refine wpAnyH_done (by kernel_rfl) ?_ _
            refine NoPanic.normal ?_
            go_wp2_with fail
            go_meet
            exact ⟨b8, rfl, rfl, set_obj (set_obj (set_obj hA5 0 _) 1 _) 2 _, h8le, (((hG3.setCell _ _ (fun h => by simp at h; omega)).setCell _ _ (fun h => by simp at h; omega)).setCell _ _ (fun h => by simp at h; omega)), (((hk3.setCell _ (by show M ≠ b8; omega) _).setCell _ (by show M ≠ b8; omega) _).setCell _ (by show M ≠ b8; omega) _), (((hw3.setCell _ (by show Wm ≠ b8; omega) _).setCell _ (by show Wm ≠ b8; omega) _).setCell _ (by show Wm ≠ b8; omega) _)⟩
          exact AllReadyH.nil
        exact AllReadyH.nil
      refine AllReadyH.cons rfl ?_ ?_
      · intro K' hK
        rw [if_pos (by rfl)]
        go_simp
        (refine hK.out _ (v2.alloc (.cells #[.int .i64 0, .int .i64 0, .int .i64 0] 91)) ((World.cell?_alloc_some _ _ _ (by rw [hHeld]; rfl)).trans hHeld) (fun hHeld2 => ?_); have hA5 : BlkAt (v2.alloc (.cells #[.int .i64 0, .int .i64 0, .int .i64 0] 91)) v2.heap.size #[.int .i64 0, .int .i64 0, .int .i64 0] 91 := heap_alloc_new _ _; have hb5 := below_alloc (Below.refl v2.heap.size v2) (Nat.le_refl _) (.cells #[.int .i64 0, .int .i64 0, .int .i64 0] 91); obtain ⟨b8, h8⟩ : ∃ v, v2.heap.size = v := ⟨_, rfl⟩; rw [h8] at hA5 ⊢; have h8le : W3.heap.size ≤ b8 := (by omega); obtain ⟨v5, hv5⟩ : ∃ v, (v2.alloc (.cells #[.int .i64 0, .int .i64 0, .int .i64 0] 91)) = v := ⟨_, rfl⟩; rw [hv5] at hA5 hb5 hHeld2 ⊢; clear hv5; replace hBc := below_step hBc hb5 hBc.size)
        clear hK K' hHeld
        have hHeld := hHeld2
        clear hHeld2
        (try simp only [Act.put, List.getElem_toArray, List.getElem_cons_zero, List.getElem_cons_succ, List.setIfInBounds_toArray, List.set_cons_zero, List.set_cons_succ])
        refine wpAnyH_ready (rs := [3]) (by kernel_rfl) (by simp) ?_
        refine AllReadyH.cons rfl ?_ ?_
        · intro K' hK
          rw [if_pos (by rfl)]
          go_simp
          go_at_call 89
          refine (HB0.out _ (hE.ext hBc)).mono ?_
          rintro e v3 ⟨rfl, hg3, hk3, hw3⟩
          have hE3 := NrE.gx (hE.ext hBc) hg3 hk3 hw3
          have hG3 : GX [M, Wm] W3 v3 := ((GX.refl [M, Wm] W3).below hBc (Nat.le_refl _)).trans hg3
          have hz3 := hG3.size
          have hP3 := hE3.b3
          (try have hA5 := hA5.gx hg3 (by simp; omega))
          go_wp2_with fail
          refine hK.out _ _ (obj_at hP3 0 _ rfl) (fun hHeld2 => ?_)
          clear hK K' hHeld
          have hHeld := hHeld2
          clear hHeld2
          (try simp only [Act.put, List.getElem_toArray, List.getElem_cons_zero, List.getElem_cons_succ, List.setIfInBounds_toArray, List.set_cons_zero, List.set_cons_succ])
          refine wpAnyH_take (i := 4) (v := ?_) rfl (by kernel_rfl) (by kernel_rfl) (by kernel_rfl) (fun _ _ _ h => h) (Or.inl ⟨by rfl, ?_⟩) hHeld ?_
          rotate_left
          · (intro ww hSw; (try dsimp only at hSw); go_simp; try with_reducible rfl)
          (try simp only [Act.put, List.getElem_toArray, List.getElem_cons_zero, List.getElem_cons_succ, List.setIfInBounds_toArray, List.set_cons_zero, List.set_cons_succ])
          refine wpAnyH_ready (rs := [6]) (by kernel_rfl) (by simp) ?_
          refine AllReadyH.cons rfl ?_ ?_
          · intro K' hK
            rw [if_pos (by rfl)]
            have s0 := obj_at hA5 0 _ rfl
            have s1 := obj_at hA5 1 _ rfl
            have s2 := obj_at hA5 2 _ rfl
            have sf := obj_fz hA5 0
            have sf1 := obj_fz hA5 1
            have sf2 := obj_fz hA5 2
            have h83 : b8 ≠ p3 := by omega
            have h38 := h83.symm
            go_simp
            refine hK.out _ _ (by refine obj_at (((hP3.set _ _ ?_).set _ _ ?_).set _ _ ?_) 0 _ rfl <;> exact h38) (fun hHeld2 => ?_)
            clear hK K' hHeld
            have hHeld := hHeld2
            clear hHeld2
            (try simp only [Act.put, List.getElem_toArray, List.getElem_cons_zero, List.getElem_cons_succ, List.setIfInBounds_toArray, List.set_cons_zero, List.set_cons_succ])
            refine wpAnyH_take (i := 7) (v := ?_) rfl (by kernel_rfl) (by kernel_rfl) (by kernel_rfl) (fun _ _ _ h => h) (Or.inl ⟨by rfl, ?_⟩) hHeld ?_
            rotate_left
            · (intro ww hSw; (try dsimp only at hSw); go_simp; try with_reducible rfl)
            (try simp only [Act.put, List.getElem_toArray, List.getElem_cons_zero, List.getElem_cons_succ, List.setIfInBounds_toArray, List.set_cons_zero, List.set_cons_succ])
            refine wpAnyH_done (by kernel_rfl) ?_ _
            refine NoPanic.normal ?_
            go_wp2_with fail
            go_meet
            exact ⟨b8, rfl, rfl, set_obj (set_obj (set_obj hA5 0 _) 1 _) 2 _, h8le, (((hG3.setCell _ _ (fun h => by simp at h; omega)).setCell _ _ (fun h => by simp at h; omega)).setCell _ _ (fun h => by simp at h; omega)), (((hk3.setCell _ (by show M ≠ b8; omega) _).setCell _ (by show M ≠ b8; omega) _).setCell _ (by show M ≠ b8; omega) _), (((hw3.setCell _ (by show Wm ≠ b8; omega) _).setCell _ (by show Wm ≠ b8; omega) _).setCell _ (by show Wm ≠ b8; omega) _)⟩
          exact AllReadyH.nil
        exact AllReadyH.nil
      exact AllReadyH.nil
    refine AllReadyH.cons rfl ?_ ?_
    · intro K' hK
      rw [if_pos (by rfl)]
      go_simp
      (refine hK.out _ (v0.alloc (.cells #[.int .i64 0, .int .i64 0, .int .i64 0] 91)) ((World.cell?_alloc_some _ _ _ (by rw [hHeld]; rfl)).trans hHeld) (fun hHeld2 => ?_); have hA5 : BlkAt (v0.alloc (.cells #[.int .i64 0, .int .i64 0, .int .i64 0] 91)) v0.heap.size #[.int .i64 0, .int .i64 0, .int .i64 0] 91 := heap_alloc_new _ _; have hb5 := below_alloc (Below.refl v0.heap.size v0) (Nat.le_refl _) (.cells #[.int .i64 0, .int .i64 0, .int .i64 0] 91); obtain ⟨b8, h8⟩ : ∃ v, v0.heap.size = v := ⟨_, rfl⟩; rw [h8] at hA5 ⊢; have h8le : W3.heap.size ≤ b8 := (by omega); obtain ⟨v5, hv5⟩ : ∃ v, (v0.alloc (.cells #[.int .i64 0, .int .i64 0, .int .i64 0] 91)) = v := ⟨_, rfl⟩; rw [hv5] at hA5 hb5 hHeld2 ⊢; clear hv5; replace hBc := below_step hBc hb5 hBc.size)
      clear hK K' hHeld
      have hHeld := hHeld2
      clear hHeld2
      (try simp only [Act.put, List.getElem_toArray, List.getElem_cons_zero, List.getElem_cons_succ, List.setIfInBounds_toArray, List.set_cons_zero, List.set_cons_succ])
      refine wpAnyH_ready (rs := [2]) (by kernel_rfl) (by simp) ?_
      refine AllReadyH.cons rfl ?_ ?_
      · intro K' hK
        rw [if_pos (by rfl)]
        go_simp
        go_at_call 62
        refine (start_raw _).mono ?_
        rintro e v2 ⟨rfl, hb2⟩
        replace hb2 := ex_below hb2
        replace hBc := below_step hBc hb2 hBc.size
        have hz2 := hBc.size
        (try have hA5 := hA5.ext hb2)
        go_wp2_with fail
        refine hK.out _ _ (obj_at (hE.b3.ext hBc) 0 _ rfl) (fun hHeld2 => ?_)
        clear hK K' hHeld
        have hHeld := hHeld2
        clear hHeld2
        (try simp only [Act.put, List.getElem_toArray, List.getElem_cons_zero, List.getElem_cons_succ, List.setIfInBounds_toArray, List.set_cons_zero, List.set_cons_succ])
        refine wpAnyH_ready (rs := [3]) (by kernel_rfl) (by simp) ?_
        refine AllReadyH.cons rfl ?_ ?_
        · intro K' hK
          rw [if_pos (by rfl)]
          go_simp
          go_at_call 89
          refine (HB0.out _ (hE.ext hBc)).mono ?_
          rintro e v3 ⟨rfl, hg3, hk3, hw3⟩
          have hE3 := NrE.gx (hE.ext hBc) hg3 hk3 hw3
          have hG3 : GX [M, Wm] W3 v3 := ((GX.refl [M, Wm] W3).below hBc (Nat.le_refl _)).trans hg3
          have hz3 := hG3.size
          have hP3 := hE3.b3
          (try have hA5 := hA5.gx hg3 (by simp; omega))
          go_wp2_with fail
          refine hK.out _ _ (obj_at hP3 0 _ rfl) (fun hHeld2 => ?_)
          clear hK K' hHeld
          have hHeld := hHeld2
          clear hHeld2
          (try simp only [Act.put, List.getElem_toArray, List.getElem_cons_zero, List.getElem_cons_succ, List.setIfInBounds_toArray, List.set_cons_zero, List.set_cons_succ])
          refine wpAnyH_take (i := 4) (v := ?_) rfl (by kernel_rfl) (by kernel_rfl) (by kernel_rfl) (fun _ _ _ h => h) (Or.inl ⟨by rfl, ?_⟩) hHeld ?_
          rotate_left
          · (intro ww hSw; (try dsimp only at hSw); go_simp; try with_reducible rfl)
          (try simp only [Act.put, List.getElem_toArray, List.getElem_cons_zero, List.getElem_cons_succ, List.setIfInBounds_toArray, List.set_cons_zero, List.set_cons_succ])
          refine wpAnyH_ready (rs := [6]) (by kernel_rfl) (by simp) ?_
          refine AllReadyH.cons rfl ?_ ?_
          · intro K' hK
            rw [if_pos (by rfl)]
            have s0 := obj_at hA5 0 _ rfl
            have s1 := obj_at hA5 1 _ rfl
            have s2 := obj_at hA5 2 _ rfl
            have sf := obj_fz hA5 0
            have sf1 := obj_fz hA5 1
            have sf2 := obj_fz hA5 2
            have h83 : b8 ≠ p3 := by omega
            have h38 := h83.symm
            go_simp
            refine hK.out _ _ (by refine obj_at (((hP3.set _ _ ?_).set _ _ ?_).set _ _ ?_) 0 _ rfl <;> exact h38) (fun hHeld2 => ?_)
            clear hK K' hHeld
            have hHeld := hHeld2
            clear hHeld2
            (try simp only [Act.put, List.getElem_toArray, List.getElem_cons_zero, List.getElem_cons_succ, List.setIfInBounds_toArray, List.set_cons_zero, List.set_cons_succ])
            refine wpAnyH_take (i := 7) (v := ?_) rfl (by kernel_rfl) (by kernel_rfl) (by kernel_rfl) (fun _ _ _ h => h) (Or.inl ⟨by rfl, ?_⟩) hHeld ?_
            rotate_left
            · (intro ww hSw; (try dsimp only at hSw); go_simp; try with_reducible rfl)
            (try simp only [Act.put, List.getElem_toArray, List.getElem_cons_zero, List.getElem_cons_succ, List.setIfInBounds_toArray, List.set_cons_zero, List.set_cons_succ])
            refine wpAnyH_done (by kernel_rfl) ?_ _
            refine NoPanic.normal ?_
            go_wp2_with fail
            go_meet
            exact ⟨b8, rfl, rfl, set_obj (set_obj (set_obj hA5 0 _) 1 _) 2 _, h8le, (((hG3.setCell _ _ (fun h => by simp at h; omega)).setCell _ _ (fun h => by simp at h; omega)).setCell _ _ (fun h => by simp at h; omega)), (((hk3.setCell _ (by show M ≠ b8; omega) _).setCell _ (by show M ≠ b8; omega) _).setCell _ (by show M ≠ b8; omega) _), (((hw3.setCell _ (by show Wm ≠ b8; omega) _).setCell _ (by show Wm ≠ b8; omega) _).setCell _ (by show Wm ≠ b8; omega) _)⟩
          exact AllReadyH.nil
        exact AllReadyH.nil
      exact AllReadyH.nil
    exact AllReadyH.nil
  refine AllReadyH.cons rfl ?_ ?_
  · intro K' hK
    rw [if_pos (by rfl)]
    go_simp
    (refine hK.out _ (W3.drew.alloc (.cells #[.int .i64 0, .int .i64 0, .int .i64 0] 91)) ((World.cell?_alloc_some _ _ _ (by rw [hHeld]; rfl)).trans hHeld) (fun hHeld2 => ?_); have hA5 : BlkAt (W3.drew.alloc (.cells #[.int .i64 0, .int .i64 0, .int .i64 0] 91)) W3.drew.heap.size #[.int .i64 0, .int .i64 0, .int .i64 0] 91 := heap_alloc_new _ _; have hb5 := below_alloc (Below.refl W3.drew.heap.size W3.drew) (Nat.le_refl _) (.cells #[.int .i64 0, .int .i64 0, .int .i64 0] 91); simp only [size_drew] at hA5 hb5; obtain ⟨b8, h8⟩ : ∃ v, W3.heap.size = v := ⟨_, rfl⟩; rw [h8] at hA5 ⊢; have h8le : W3.heap.size ≤ b8 := (by omega); obtain ⟨v5, hv5⟩ : ∃ v, (W3.drew.alloc (.cells #[.int .i64 0, .int .i64 0, .int .i64 0] 91)) = v := ⟨_, rfl⟩; rw [hv5] at hA5 hb5 hHeld2 ⊢; clear hv5; replace hBc := below_step hBc hb5 hBc.size)
    clear hK K' hHeld
    have hHeld := hHeld2
    clear hHeld2
    (try simp only [Act.put, List.getElem_toArray, List.getElem_cons_zero, List.getElem_cons_succ, List.setIfInBounds_toArray, List.set_cons_zero, List.set_cons_succ])
    refine wpAnyH_ready (rs := [0]) (by kernel_rfl) (by simp) ?_
    refine AllReadyH.cons rfl ?_ ?_
    · intro K' hK
      rw [if_pos (by rfl)]
      go_simp
      go_at_call 62
      refine (start_raw _).mono ?_
      rintro e v0 ⟨rfl, hb0⟩
      replace hb0 := ex_below hb0
      replace hBc := below_step hBc hb0 hBc.size
      have hz0 := hBc.size
      (try have hA5 := hA5.ext hb0)
      go_wp2_with fail
      refine hK.out _ _ (obj_at (hE.b3.ext hBc) 0 _ rfl) (fun hHeld2 => ?_)
      clear hK K' hHeld
      have hHeld := hHeld2
      clear hHeld2
      (try simp only [Act.put, List.getElem_toArray, List.getElem_cons_zero, List.getElem_cons_succ, List.setIfInBounds_toArray, List.set_cons_zero, List.set_cons_succ])
      refine wpAnyH_ready (rs := [2]) (by kernel_rfl) (by simp) ?_
      refine AllReadyH.cons rfl ?_ ?_
      · intro K' hK
        rw [if_pos (by rfl)]
        go_simp
        go_at_call 62
        refine (start_raw _).mono ?_
        rintro e v2 ⟨rfl, hb2⟩
        replace hb2 := ex_below hb2
        replace hBc := below_step hBc hb2 hBc.size
        have hz2 := hBc.size
        (try have hA5 := hA5.ext hb2)
        go_wp2_with fail
        refine hK.out _ _ (obj_at (hE.b3.ext hBc) 0 _ rfl) (fun hHeld2 => ?_)
        clear hK K' hHeld
        have hHeld := hHeld2
        clear hHeld2
        (try simp only [Act.put, List.getElem_toArray, List.getElem_cons_zero, List.getElem_cons_succ, List.setIfInBounds_toArray, List.set_cons_zero, List.set_cons_succ])
        refine wpAnyH_ready (rs := [3]) (by kernel_rfl) (by simp) ?_
        refine AllReadyH.cons rfl ?_ ?_
        · intro K' hK
          rw [if_pos (by rfl)]
          go_simp
          go_at_call 89
          refine (HB0.out _ (hE.ext hBc)).mono ?_
          rintro e v3 ⟨rfl, hg3, hk3, hw3⟩
          have hE3 := NrE.gx (hE.ext hBc) hg3 hk3 hw3
          have hG3 : GX [M, Wm] W3 v3 := ((GX.refl [M, Wm] W3).below hBc (Nat.le_refl _)).trans hg3
          have hz3 := hG3.size
          have hP3 := hE3.b3
          (try have hA5 := hA5.gx hg3 (by simp; omega))
          go_wp2_with fail
          refine hK.out _ _ (obj_at hP3 0 _ rfl) (fun hHeld2 => ?_)
          clear hK K' hHeld
          have hHeld := hHeld2
          clear hHeld2
          (try simp only [Act.put, List.getElem_toArray, List.getElem_cons_zero, List.getElem_cons_succ, List.setIfInBounds_toArray, List.set_cons_zero, List.set_cons_succ])
          refine wpAnyH_take (i := 4) (v := ?_) rfl (by kernel_rfl) (by kernel_rfl) (by kernel_rfl) (fun _ _ _ h => h) (Or.inl ⟨by rfl, ?_⟩) hHeld ?_
          rotate_left
          · (intro ww hSw; (try dsimp only at hSw); go_simp; try with_reducible rfl)
          (try simp only [Act.put, List.getElem_toArray, List.getElem_cons_zero, List.getElem_cons_succ, List.setIfInBounds_toArray, List.set_cons_zero, List.set_cons_succ])
          refine wpAnyH_ready (rs := [6]) (by kernel_rfl) (by simp) ?_
          refine AllReadyH.cons rfl ?_ ?_
          · intro K' hK
            rw [if_pos (by rfl)]
            have s0 := obj_at hA5 0 _ rfl
            have s1 := obj_at hA5 1 _ rfl
            have s2 := obj_at hA5 2 _ rfl
            have sf := obj_fz hA5 0
            have sf1 := obj_fz hA5 1
            have sf2 := obj_fz hA5 2
            have h83 : b8 ≠ p3 := by omega
            have h38 := h83.symm
            go_simp
            refine hK.out _ _ (by refine obj_at (((hP3.set _ _ ?_).set _ _ ?_).set _ _ ?_) 0 _ rfl <;> exact h38) (fun hHeld2 => ?_)
            clear hK K' hHeld
            have hHeld := hHeld2
            clear hHeld2
            (try simp only [Act.put, List.getElem_toArray, List.getElem_cons_zero, List.getElem_cons_succ, List.setIfInBounds_toArray, List.set_cons_zero, List.set_cons_succ])
            refine wpAnyH_take (i := 7) (v := ?_) rfl (by kernel_rfl) (by kernel_rfl) (by kernel_rfl) (fun _ _ _ h => h) (Or.inl ⟨by rfl, ?_⟩) hHeld ?_
            rotate_left
            · (intro ww hSw; (try dsimp only at hSw); go_simp; try with_reducible rfl)
            (try simp only [Act.put, List.getElem_toArray, List.getElem_cons_zero, List.getElem_cons_succ, List.setIfInBounds_toArray, List.set_cons_zero, List.set_cons_succ])
            refine wpAnyH_done (by kernel_rfl) ?_ _
            refine NoPanic.normal ?_
            go_wp2_with fail
            go_meet
            exact ⟨b8, rfl, rfl, set_obj (set_obj (set_obj hA5 0 _) 1 _) 2 _, h8le, (((hG3.setCell _ _ (fun h => by simp at h; omega)).setCell _ _ (fun h => by simp at h; omega)).setCell _ _ (fun h => by simp at h; omega)), (((hk3.setCell _ (by show M ≠ b8; omega) _).setCell _ (by show M ≠ b8; omega) _).setCell _ (by show M ≠ b8; omega) _), (((hw3.setCell _ (by show Wm ≠ b8; omega) _).setCell _ (by show Wm ≠ b8; omega) _).setCell _ (by show Wm ≠ b8; omega) _)⟩
          exact AllReadyH.nil
        exact AllReadyH.nil
      exact AllReadyH.nil
    exact AllReadyH.nil
  exact AllReadyH.nil
 case rest =>
  obtain ⟨b8, rfl, rfl, hb8, h8le, hGc, hkc, hkw⟩ := hcut
  obtain ⟨Wc, hWc⟩ : ∃ v, v = wc := ⟨_, rfl⟩
  rw [← hWc] at hb8 hGc hkc hkw ⊢
  clear hWc
  have hEc := hE.gx hGc hkc hkw
  have m0 := obj_at hEc.b1 0 _ rfl
  have hmb := hEc.mx.at_.1
  have m1 := obj_at hmb 1 _ rfl
  have ml := obj_lt hmb
  have ml1 := obj_lt hEc.b1
  have hb8l := obj_lt hb8
  have hzc := hGc.size
  go_wp2
  go_loopw [10, 24] (fun v i wr => ∃ (k : Nat) (la : Int) (s : Nat) (pre : List Nat), k ≤ K.length ∧ i = .int .i64 (k : Nat) ∧ (-1 ≤ la ∧ la ≤ 5) ∧ s < L ∧ pre.length = k ∧ Hid (∀ x, x ∈ pre → x < L) ∧ Hid (pre ++ Tt.nearA L rest ((K.zip T).drop k) la s (ws.drop k) = NA) ∧ wr.ownsRow Wc.heap.size 5 1 v k (pre.map byteC) ∧ BlkAt wr b8 #[.int .i64 (k : Nat), .int .i64 la, .int .i64 (s : Nat)] 91 ∧ GX [M, Wm] W3 wr ∧ (KMap 91 M (goodF L rest K T) must) wr ∧ (KMap 91 Wm (goodW L rest K T ws) (fun _ => False)) wr ∧ Wc.heap.size ≤ wr.heap.size) (fun _ i _ => K.length - (intOf i).toNat)
  case atStart => exact ⟨0, -1, 0, [], Nat.zero_le _, rfl, by omega, by omega, rfl, hide (fun x h => by cases h), HNA, World.ownsRow_nil _ _ _ _, hb8, hGc, hkc, hkw, Nat.le_refl _⟩
  case round =>
   clear hkc hkw hEc m0 hmb m1 ml ml1 hb8
   obtain ⟨k, la, s, pre, hkK, rfl, hla, hs, hpl, HPL, HEQ, hO, hB8, hG, hkc, hkw, hWr⟩ := hrel
   have hEr := hE.gx hG hkc hkw
   have r1 := obj_at hEr.b1 0 _ rfl
   have r3 := obj_at hEr.b3 0 _ rfl
   have rl3 := obj_lt hEr.b3
   have y0 := obj_at hB8 0 _ rfl
   have y1 := obj_at hB8 1 _ rfl
   have y2 := obj_at hB8 2 _ rfl
   have yl := obj_lt hB8
   have hzr := hG.size
   obtain ⟨A9, c9, rfl⟩ := own_form hO
   by_cases hlt : k < K.length
   · have hki : (k : Int) < (K.length : Int) := by omega
     have htp : k < T.length := by rw [HTL.out]; exact hlt
     have hwp : k < ws.length := by rw [HWL.out]; exact hlt
     have hcx := best_fst L rest (by omega) ((K.zip T).drop k) la s (ws.drop k)
     have hzd := Tt.zip_drop hlt htp
     have hdw : ws.drop k = ws[k] :: ws.drop (k + 1) := List.drop_eq_getElem_cons hwp
     have hst : Tt.nearA L rest ((K.zip T).drop k) la s (ws.drop k) = (Tt.bestA L rest ((K.zip T).drop k) la s (ws.drop k)).1 :: Tt.nearA L rest ((K.zip T).drop (k + 1)) ((Tt.bestA L rest ((K.zip T).drop k) la s (ws.drop k)).1 : Nat) ((s + K[k] * (Tt.bestA L rest ((K.zip T).drop k) la s (ws.drop k)).1) % L) (ws.drop (k + 1)) := by
      rw [hzd, hdw, Tt.nearA]
      rfl
     have HST := hide hst
     have HBK := hide (fun (w' : World) (h : NrE w' B M L rest A K c S T d must ws w Wm p1 p2 p3 p4) => best_any B M L rest A K c S T d must ws w Wm p1 p2 p3 p4 HWL.out HLW.out _ k la s w' rfl h hlt hla hs)
     have HKP := hide (fun (cc : Nat) (w' : World) (h : MachAt w' B M L rest A K c S T d) (hc : cc < L) => next_any B M L rest A K c S T d k la s cc w' h hok hlt hla hs hc htp)
     clear hzd hdw hst
     unfold stV stC at HKP
     obtain ⟨bb, hbb⟩ : ∃ v, (Tt.bestA L rest ((K.zip T).drop k) la s (ws.drop k)) = v := ⟨_, rfl⟩
     rw [hbb] at hcx HST HBK
     have hB1 := bb.1
     obtain ⟨cx, hcxe⟩ : ∃ v, bb.1 = v := ⟨_, rfl⟩
     obtain ⟨ex, hexe⟩ : ∃ v, bb.2 = v := ⟨_, rfl⟩
     unfold GivesB at HBK
     rw [hcxe] at hcx HST HBK
     rw [hexe] at HBK
     clear hbb hcxe hexe hB1
     have hcw : IntKind.u8.wrap (97 + (cx : Int)) = (cx : Int) + 97 := u8_letter cx (by omega)
     generalize K[k] = kp at *
     generalize T[k] = tp at *
     have hkw5 : IntKind.i64.wrap ((k : Int) + 1) = ((k + 1 : Nat) : Int) := by rw [IntKind.wrap_i64]; omega
     go_wp2_with (first
 | (go_at_call 89; refine (HBK.out _ hEr).mono ?_; rintro e w2 ⟨rfl, hg2, hk2, hw2⟩; have hz2 := hg2.size; have hO2 := own_gx hO hg2 (fun r e => by have := hO.lt r e; simp; omega); have hB2 := hB8.gx hg2 (by simp; omega))
 | (at_builtin; refine wpList_app _ rfl (.tmp 29) (.tmp 34) 62 rfl Wc.heap.size 5 ti _ 1 1 und62 ih iz is ib rfl (by decide) _ k _ rfl ((hO2.alloc _).alloc _) (some ⟨w2.heap.size + 1, 0, none⟩) 1 1 [byteC cx] rfl (by have h := rd_new1 (w2.alloc (.cells #[.int .i64 (cx : Nat), .int .i64 (ex : Nat)] 133)) (byteC cx) 5; rwa [World.size_alloc] at h) (by simp [Value.oneCell', byteC]) (by unfold maxLen; omega) (by omega) (by simp; omega) ?_; intro A6 c6 u6 hown6 hgr6
    have hrow : ∀ r, (Value.slice A9 k c9).ownBlock = some r → Wc.heap.size ≤ r ∧ r < w2.heap.size := fun r e => ⟨(hO.lt r e).1, by have := (hO.lt r e).2; omega⟩
    have hba : Below w2.heap.size w2 ((w2.alloc (.cells #[.int .i64 (cx : Nat), .int .i64 (ex : Nat)] 133)).alloc (.cells #[byteC cx] 5)) := below_alloc (below_alloc (Below.refl _ _) (Nat.le_refl _) _) (by simp) _
    have hG2 := hG.trans hg2
    have hG6 : GX [M, Wm] W3 u6 := (hG2.below hba hG2.size).grown hgr6 (fun r e hlt => by have := hrow r e; omega)
    have kc6 : (KMap 91 M (goodF L rest K T) must) u6 := (hk2.below hba).kept hgr6 (fun e => by have := hrow M e.symm; omega)
    have kw6 : (KMap 91 Wm (goodW L rest K T ws) (fun _ => False)) u6 := (hw2.below hba).kept hgr6 (fun e => by have := hrow Wm e.symm; omega)
    have hE6 := hE.gx hG6 kc6 kw6
    have hB6 : BlkAt u6 b8 #[.int .i64 (k : Nat), .int .i64 la, .int .i64 (s : Nat)] 91 := (hgr6.block b8 (by simp; omega) (fun e => by have := hrow b8 e.symm; omega)).trans (hB2.ext hba)
    have hX6 : BlkAt u6 w2.heap.size #[.int .i64 (cx : Nat), .int .i64 (ex : Nat)] 133 := (hgr6.block w2.heap.size (by simp; omega) (fun e => by have := hrow _ e.symm; omega)).trans ((Below.heap_alloc _ _ _ (by simp)).trans (heap_alloc_new w2 _))
    have g1 := obj_at hE6.b1 0 _ rfl
    have g2 := obj_at hB6 0 _ rfl
    have g3 := obj_at hB6 1 _ rfl
    have g4 := obj_at hB6 2 _ rfl
    have g5 := obj_at hX6 0 _ rfl
    have hz6 := hgr6.size; simp only [World.size_alloc] at hz6)
 | (go_at_call 63; refine (HKP.out cx _ hE6.mx.at_ hcx).mono ?_; rintro e u7 ⟨rfl, hb7⟩; replace hb7 := ex_below hb7; have hz7 := hb7.size; have hB7 := hB6.ext hb7; have z0 := obj_at hB7 0 _ rfl; have z1 := obj_at hB7 1 _ rfl; have z2 := obj_at hB7 2 _ rfl; have zf := obj_fz hB7 0; have zf1 := obj_fz hB7 1; have zf2 := obj_fz hB7 2; have zl := obj_lt hB7)
      | fail)
     have hgs : GX [b8] u7 (((u7.setCell ⟨b8, 0, none⟩ (.int .i64 ((k + 1 : Nat) : Int))).setCell ⟨b8, 1, none⟩ (.int .i64 (cx : Nat))).setCell ⟨b8, 2, none⟩ (.int .i64 (((s + kp * cx) % L : Nat) : Int))) := (((GX.refl _ _).setCell _ _ (fun _ => by simp)).setCell _ _ (fun _ => by simp)).setCell _ _ (fun _ => by simp)
     have hG7 := ((((hG6.below hb7 hG6.size).setCell ⟨b8, 0, none⟩ (.int .i64 ((k + 1 : Nat) : Int)) (fun h => by simp at h; omega)).setCell ⟨b8, 1, none⟩ (.int .i64 (cx : Nat)) (fun h => by simp at h; omega)).setCell ⟨b8, 2, none⟩ (.int .i64 (((s + kp * cx) % L : Nat) : Int)) (fun h => by simp at h; omega))
     refine ⟨⟨k + 1, ((cx : Nat) : Int), (s + kp * cx) % L, pre ++ [cx], by omega, by go_num, by omega, Nat.mod_lt _ (by omega), by simp [hpl], hide ?_, hide ?_, ?_, set_obj (set_obj (set_obj hB7 0 _) 1 _) 2 _, hG7, ?_, ?_, by simp; omega⟩, by simp [intOf]; omega⟩
     · intro x hx2
       rcases List.mem_append.1 hx2 with h | h
       · exact HPL.out x h
       · rw [List.mem_singleton.1 h]; exact hcx
     · rw [List.append_assoc, List.singleton_append, ← HST.out]
       exact HEQ.out
     · have h := own_gx (own_ext hown6 hb7) hgs (fun r e => by have := (hown6.lt r e).1; simp; omega)
       rw [List.map_append]
       exact h
     · exact ((((kc6.below hb7).setCell _ (by show M ≠ b8; omega) _).setCell _ (by show M ≠ b8; omega) _).setCell _ (by show M ≠ b8; omega) _)
     · exact ((((kw6.below hb7).setCell _ (by show Wm ≠ b8; omega) _).setCell _ (by show Wm ≠ b8; omega) _).setCell _ (by show Wm ≠ b8; omega) _)
   · have hkn : k = K.length := by omega
     have hki : ¬ ((k : Int) < (K.length : Int)) := by omega
     have hback := back_bytes (W := wr.drew) (A := A9) (c := c9) (l := pre) (by rw [hpl]; exact (rd_own hO (by decide)).ext (below_drew (Below.refl _ _))) (fun x hx => by have := HPL.out x hx; omega) (fun h => by rw [h] at hpl; simp at hpl; omega)
     rw [hpl] at hback
     have hpN : pre = NA := by
      have h := HEQ.out
      rw [hkn, List.drop_eq_nil_of_le (by rw [List.length_zip]; have := HTL.out; omega)] at h
      simpa [Tt.nearA] using h
     rw [hpN] at hback
     subst hkn
     clear hpN HPL HEQ
     go_upto_region 12 with fail
     go_region_held3 (fun w' => (convert 62 9 (.slice A9 K.length c9)).run Try.prog w' = .ok (.string (strW NA)) w') (exact hback) (fail)
     go_wp2
     go_ret2
     exact ⟨by (first | rfl | (rw [HNQ.out, HBQ.out]; rfl) | (rw [HNQ.out]; rfl) | (rw [HBQ.out]; rfl)), ((GX.refl [M] w).below hW (Nat.le_refl _)).back hG (fun y hy hlt => by simp at hy ⊢; omega) |>.drew |>.one, hkc.below (below_drew (Below.refl _ _))⟩
end Go.Proofs.Ytgjfejpibielaaa
