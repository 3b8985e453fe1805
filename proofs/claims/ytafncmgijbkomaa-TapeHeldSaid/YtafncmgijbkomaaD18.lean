/- Proved here: the law TapeHeld, a part of the proofs about the tape laws. Conditions: those that each theorem names, no others. -/
import Derived.Test.YtafncmgijbkomaaP30
import Derived.WalkKit
import Derived.WalkSpells
import Derived.WalkLawsBesides
import Derived.Below
import Derived.Deep.QuietTactic
import Derived.BigQuiet
import Derived.Deep.Light
import Derived.Test.YtafncmgijbkomaaE10
import Derived.Test.YtafncmgijbkomaaE9
import Derived.Test.YtafncmgijbkomaaD17
import Derived.Test.YtafncmgijbkomaaD11
import Derived.Deep.RegionHeld3
import Derived.Deep.RegionLaw
import Derived.Deep.DeepCutAuto
import Derived.Deep.CutBlock

set_option linter.unusedSimpArgs false
set_option linter.unusedVariables false
namespace Go.Proofs.Ytafncmgijbkomaa
open Go.RowKit Go.Maps Go.Lib
theorem let_in {W : Nat} (h1 : 1 ≤ W) (xs : List Int) : ∀ x, x ∈ lettersI W xs → 0 ≤ x ∧ x < (W : Int) := fun x hx => by
  obtain ⟨y, _, rfl⟩ := List.mem_map.1 hx
  exact ⟨Int.emod_nonneg y (by omega), Int.emod_lt_of_pos y (by omega)⟩
theorem own_setSide {W : World} {B n c : Nat} {e : TypeId} {A : Option Addr} {xs : List Value} {b : Nat} {o : Obj} (hO : W.ownsRow B e 1 (.slice A n c) n xs) (hF : Side B W (.slice A n c) b o) (k : Nat) (u : Value) : (W.setCell ⟨b, k, none⟩ u).ownsRow B e 1 (.slice A n c) n xs := by
  have hg : W.grownBy (W.setCell ⟨b, k, none⟩ u) (some b) := grown_setO (World.grownBy.refl W (some b))
  refine hO.kept hg ?_
  cases ho : (Value.slice A n c).ownBlock with
  | none => exact .inl rfl
  | some g => exact .inr (fun e => hF.2.2.2 g ho (Option.some.inj e).symm)

set_option maxRecDepth 100000 in
set_option maxHeartbeats 16000000 in
theorem held_law (v : Nat) (hv8 : v < 256) (P : Option Addr) (ys : List Int) (d : Nat) (w : World) (hPb : NL .u8 255 w P ys) (Q : Option Addr) (zs : List Int) (e : Nat) (hQb : NL .u32 4294967295 w Q zs) (w0 w1 w2 d0 d1 : Nat) (h08 : w0 < 256) (h18 : w1 < 256) (h28 : w2 < 256) (hd08 : d0 < 256) (hd18 : d1 < 256) : Calls Try.prog 10 #[.int .u8 (v : Nat), .slice P ys.length d, .slice Q zs.length e, .agg #[.int .u8 (w0 : Nat), .int .u8 (w1 : Nat), .int .u8 (w2 : Nat)], .agg #[.int .u8 (d0 : Nat), .int .u8 (d1 : Nat)]] w (Gives w (.bool true)) := by
  have tok0 : True := trivial
  by_cases k1 : 20 < ys.length
  · have k1i : (20 : Int) < (ys.length : Nat) := by omega
    go_enter Try.func10, Try.ntmps10
    go_wp2_with (first
    | (clear tok0; go_at_call 18; refine (works_any _).mono ?_; rintro e u1 ⟨rfl, hb1⟩; replace hb1 := ex_below hb1; have bel1 : Below w.heap.size w u1 := (by (repeat (first | exact Below.refl _ _ | assumption | refine below_drewN ?_ _ | refine below_drew ?_ | refine below_gr ?_ ?_ _ | refine below_alloc ?_ ?_ _ | refine Below.setCell ?_ ?_ _ | refine below_step ?_ (by assumption) ?_ | omega | (simp only [zz] at *; omega)))); clear hb1; have sz1 := bel1.size; have hW := bel1; clear bel1; have tok1 : True := trivial))
    go_ret
    exact gives_of rfl hW
  have k1i : ¬ (20 : Int) < (ys.length : Nat) := by omega
  by_cases k2 : zs.length < 1
  · have k2i : ((zs.length : Nat) : Int) < 1 := by omega
    go_enter Try.func10, Try.ntmps10
    go_wp2_with (first
    | (clear tok0; go_at_call 18; refine (works_any _).mono ?_; rintro e u1 ⟨rfl, hb1⟩; replace hb1 := ex_below hb1; have bel1 : Below w.heap.size w u1 := (by (repeat (first | exact Below.refl _ _ | assumption | refine below_drewN ?_ _ | refine below_drew ?_ | refine below_gr ?_ ?_ _ | refine below_alloc ?_ ?_ _ | refine Below.setCell ?_ ?_ _ | refine below_step ?_ (by assumption) ?_ | omega | (simp only [zz] at *; omega)))); clear hb1; have sz1 := bel1.size; have hW := bel1; clear bel1; have tok1 : True := trivial))
    go_ret
    exact gives_of rfl hW
  have k2i : ¬ ((zs.length : Nat) : Int) < 1 := by omega
  by_cases k3 : 3 < zs.length
  · have k3i : (3 : Int) < (zs.length : Nat) := by omega
    go_enter Try.func10, Try.ntmps10
    go_wp2_with (first
    | (clear tok0; go_at_call 18; refine (works_any _).mono ?_; rintro e u1 ⟨rfl, hb1⟩; replace hb1 := ex_below hb1; have bel1 : Below w.heap.size w u1 := (by (repeat (first | exact Below.refl _ _ | assumption | refine below_drewN ?_ _ | refine below_drew ?_ | refine below_gr ?_ ?_ _ | refine below_alloc ?_ ?_ _ | refine Below.setCell ?_ ?_ _ | refine below_step ?_ (by assumption) ?_ | omega | (simp only [zz] at *; omega)))); clear hb1; have sz1 := bel1.size; have hW := bel1; clear bel1; have tok1 : True := trivial))
    go_ret
    exact gives_of rfl hW
  have k3i : ¬ (3 : Int) < (zs.length : Nat) := by omega
  obtain ⟨i0, ih, iz, is, ib⟩ := info_parts infoS
  obtain ⟨W, hWv, hW1, hW2⟩ : ∃ W : Int, 1 + (v : Int) % 5 = W ∧ 1 ≤ W ∧ W ≤ 5 := ⟨_, rfl, by omega, by omega⟩
  have hW0 : W ≠ 0 := by omega
  have hWe : ((W.toNat : Nat) : Int) = W := by omega
  have HL := hide (fun w' (hP : NL .u8 255 w' P ys) => letters_any W.toNat (by omega) (by omega) P ys d w' hP (by omega))
  rw [hWe] at HL
  have hnx : ∀ x, x ∈ lt (unlt (lettersI W.toNat ys)) → 0 ≤ x ∧ x < W := by
    have h := let_in (W := W.toNat) (by omega) ys
    rw [hWe] at h
    rw [lt_unlt (fun x hx => by have := h x hx; omega)]
    exact h
  have hnz : (unlt (lettersI W.toNat ys)).size = ys.length := by rw [unlt_size]; simp [lettersI]
  generalize unlt (lettersI W.toNat ys) = nt at *
  have hn20 : nt.size ≤ 20 := by omega
  replace hnz := hide hnz
  replace hWe := hide hWe
  obtain ⟨b, hwb, hb, hwin, -⟩ := win_of hW1 hW2 w0
  obtain ⟨b1, hwb1, hb1, hwin1, -⟩ := win_of hW1 hW2 w1
  obtain ⟨b2, hwb2, hb2, hwin2, -⟩ := win_of hW1 hW2 w2
  obtain ⟨m1, hm1, hm1l⟩ : ∃ n : Nat, (d0 : Int) % 20 = (n : Nat) ∧ n < 20 := ⟨d0 % 20, by omega, by omega⟩
  obtain ⟨m2, hm2, hm2l⟩ : ∃ n : Nat, (d1 : Int) % 20 = (n : Nat) ∧ n < 20 := ⟨d1 % 20, by omega, by omega⟩
  have HR1 := hide (raw_win hW1 hW2 h18 hwb1)
  have HR2 := hide (raw_win hW1 hW2 h28 hwb2)
  have HR3 := hide (raw_num hd08 hm1)
  have HR4 := hide (raw_num hd18 hm2)
  go_enter Try.func10, Try.ntmps10
  go_upto_region 3 with fail
  have hbw : Below w.heap.size w ((w.alloc (.cells #[.int .u8 (w0 : Nat), .int .u8 (w1 : Nat), .int .u8 (w2 : Nat)] 65)).alloc (.cells #[.int .u8 (d0 : Nat), .int .u8 (d1 : Nat)] 66)) := by (repeat (first | exact Below.refl _ _ | assumption | (refine below_gr ?_ (by (first | omega | (simp only [zz] at *; omega))) _) | (refine below_alloc ?_ (by (first | omega | (simp only [zz] at *; omega))) _) | (refine Below.setCell ?_ (by (first | omega | (simp only [zz] at *; omega))) _) | refine below_drewN ?_ _ | refine below_drew ?_ | (refine below_step ?_ (by assumption) (by (first | omega | (simp only [zz] at *; omega))))))
  have hG : Obj3 ((w.alloc (.cells #[.int .u8 (w0 : Nat), .int .u8 (w1 : Nat), .int .u8 (w2 : Nat)] 65)).alloc (.cells #[.int .u8 (d0 : Nat), .int .u8 (d1 : Nat)] 66)) w.heap.size 65 (.int .u8 (w0 : Nat)) (.int .u8 (w1 : Nat)) (.int .u8 (w2 : Nat)) := (Obj3.new w _ _ _ _).below (below_alloc (Below.refl _ _) (Nat.le_refl _) _)
  have hN : ObjV ((w.alloc (.cells #[.int .u8 (w0 : Nat), .int .u8 (w1 : Nat), .int .u8 (w2 : Nat)] 65)).alloc (.cells #[.int .u8 (d0 : Nat), .int .u8 (d1 : Nat)] 66)) (w.heap.size + 1) 66 (.int .u8 (d0 : Nat)) (.int .u8 (d1 : Nat)) := by
    have h := ObjV.new (w.alloc (.cells #[.int .u8 (w0 : Nat), .int .u8 (w1 : Nat), .int .u8 (w2 : Nat)] 65)) 66 (.int .u8 (d0 : Nat)) (.int .u8 (d1 : Nat))
    rwa [World.size_alloc] at h
  obtain ⟨u, hu⟩ : ∃ u, ((w.alloc (.cells #[.int .u8 (w0 : Nat), .int .u8 (w1 : Nat), .int .u8 (w2 : Nat)] 65)).alloc (.cells #[.int .u8 (d0 : Nat), .int .u8 (d1 : Nat)] 66)) = u := ⟨_, rfl⟩
  rw [hu] at hbw hG hN ⊢
  clear hu
  replace hPb := hPb.ext hbw
  replace hQb := hQb.ext hbw
  go_wp2_with (first
    | (clear tok0; go_at_call 44; refine (HL.out _ (hPb.ext (by (repeat (first | exact Below.refl _ _ | assumption | refine below_drewN ?_ _ | refine below_drew ?_ | refine below_gr ?_ ?_ _ | refine below_alloc ?_ ?_ _ | refine Below.setCell ?_ ?_ _ | refine below_step ?_ (by assumption) ?_ | omega | (simp only [zz] at *; omega)))))).mono ?_; rintro e u1 ⟨rfl, hb1⟩; replace hb1 := ex_below hb1; have bob1 : Below (u.alloc (.cells #[.int .i64 W, .slice none 0 0] 24)).heap.size (u.alloc (.cells #[.int .i64 W, .slice none 0 0] 24)) u1 := (by (repeat (first | exact Below.refl _ _ | assumption | refine below_drewN ?_ _ | refine below_drew ?_ | refine below_gr ?_ ?_ _ | refine below_alloc ?_ ?_ _ | refine Below.setCell ?_ ?_ _ | refine below_step ?_ (by assumption) ?_ | omega | (simp only [zz] at *; omega)))); have hB := (ObjV.new u 24 (.int .i64 W) (.slice none 0 0)).below bob1; have bel1 : Below u.heap.size u u1 := (by (repeat (first | exact Below.refl _ _ | assumption | refine below_drewN ?_ _ | refine below_drew ?_ | refine below_gr ?_ ?_ _ | refine below_alloc ?_ ?_ _ | refine Below.setCell ?_ ?_ _ | refine below_step ?_ (by assumption) ?_ | omega | (simp only [zz] at *; omega)))); clear bob1; clear hb1; have sz1 := bel1.size; (try clear hBc0 hBc1 hBlt); have hBc0 := hB.c0; have hBc1 := hB.c1; have hBlt := hB.lt; have hU := bel1; clear bel1; have tok1 : True := trivial))
  go_loopw [13] (fun i wr => ∃ (k : Nat) (rs : List ByteArray) (AO : Option Addr) (cO : Nat), k ≤ zs.length ∧ i = .int .i64 (k : Nat) ∧ rs.length = k ∧ Hid (∀ t, t ∈ rs → t.size ≤ 8 ∧ (lt t).Sublist (lt nt)) ∧ Side u.heap.size wr (.slice AO k cO) u.heap.size (.cells #[.int .i64 W, .slice AO k cO] 24 (0, 0)) ∧ wr.ownsRow u.heap.size 9 1 (.slice AO k cO) k (rs.map Value.string) ∧ Below u.heap.size u wr) (fun i _ => zs.length - (intOf i).toNat)
  case atStart => exact ⟨0, [], none, 0, Nat.zero_le _, rfl, rfl, hide (by simp), ⟨Nat.le_refl _, hB.lt, hB, fun g hg => by cases hg⟩, World.ownsRow_nil _ _ _ _, hU⟩
  case round =>
    obtain ⟨k, rs, AO, cO, hk, rfl, hrl, HR, hs_B, hO, hP0⟩ := hrel
    clear hBc0 hBc1 hBlt hB hU
    by_cases hkz : k < zs.length
    · have hkzi : (k : Int) < (zs.length : Nat) := by omega
      have hk0 : (0 : Int) ≤ (k : Int) := by omega
      obtain ⟨⟨zb, zo, rfl, hzb, _, cz⟩, hxr⟩ := hQb k zs[k] (by simp [hkz])
      generalize zs[k] = x at *
      go_upto_region 8 with fail
      refine wp_region_noPanic ?_
      refine wp_region_held_drew (S := fun w' => Below u.heap.size u w') (by kernel_rfl) ?_ (fun _ => ?_)
      · exact below_drew hP0
      have hP : Below u.heap.size u wr.drew := below_drew hP0
      have hZ : u.heap.size ≤ wr.drew.heap.size := hP0.size
      replace hs_B := hs_B.below (below_drew (Below.refl _ _))
      replace hO := ownsRow_grows hO (below_drew (Below.refl _ _))
      obtain ⟨W0, hW0⟩ : ∃ W0, wr.drew = W0 := ⟨_, rfl⟩
      rw [hW0] at hP hZ hs_B hO ⊢
      clear hW0
      refine wpAnyH_take (i := 0) (v := ?_) rfl (by kernel_rfl) (by kernel_rfl) (by kernel_rfl) (fun _ _ _ h => h) (Or.inl ⟨by rfl, ?_⟩) hP ?_
      rotate_left
      · (intro ww hSw; go_simp; try with_reducible rfl)
      (try simp only [Act.put, List.getElem_toArray, List.getElem_cons_zero, List.getElem_cons_succ, List.setIfInBounds_toArray, List.set_cons_zero, List.set_cons_succ])
      refine wpAnyH_take (i := 2) (v := ?_) rfl (by kernel_rfl) (by kernel_rfl) (by kernel_rfl) (fun _ _ _ h => h) (Or.inl ⟨by rfl, ?_⟩) hP ?_
      rotate_left
      · (intro ww hSw; go_simp; try with_reducible rfl)
      (try simp only [Act.put, List.getElem_toArray, List.getElem_cons_zero, List.getElem_cons_succ, List.setIfInBounds_toArray, List.set_cons_zero, List.set_cons_succ])
      refine wpAnyH_take (i := 3) (v := ?_) rfl (by kernel_rfl) (by kernel_rfl) (by kernel_rfl) (fun _ _ _ h => h) (Or.inl ⟨by rfl, ?_⟩) hP ?_
      rotate_left
      · (intro ww hSw; go_simp; try with_reducible rfl)
      (try simp only [Act.put, List.getElem_toArray, List.getElem_cons_zero, List.getElem_cons_succ, List.setIfInBounds_toArray, List.set_cons_zero, List.set_cons_succ])
      refine wpAnyH_take (i := 4) (v := ?_) rfl (by kernel_rfl) (by kernel_rfl) (by kernel_rfl) (fun _ _ _ h => h) (Or.inl ⟨by rfl, ?_⟩) hP ?_
      rotate_left
      · (intro ww hSw; go_simp; try with_reducible rfl)
      (try simp only [Act.put, List.getElem_toArray, List.getElem_cons_zero, List.getElem_cons_succ, List.setIfInBounds_toArray, List.set_cons_zero, List.set_cons_succ])
      refine wpAnyH_take (i := 5) (v := ?_) rfl (by kernel_rfl) (by kernel_rfl) (by kernel_rfl) (fun _ _ _ h => h) (Or.inl ⟨by rfl, ?_⟩) hP ?_
      rotate_left
      · (intro ww hSw; go_simp; try with_reducible rfl)
      (try simp only [Act.put, List.getElem_toArray, List.getElem_cons_zero, List.getElem_cons_succ, List.setIfInBounds_toArray, List.set_cons_zero, List.set_cons_succ])
      refine wpAnyH_take (i := 6) (v := ?_) rfl (by kernel_rfl) (by kernel_rfl) (by kernel_rfl) (fun _ _ _ h => h) (Or.inl ⟨by rfl, ?_⟩) hP ?_
      rotate_left
      · (intro ww hSw; have g0 := (hSw.cell (p := ⟨zb, zo + k, none⟩) hzb).trans cz; go_simp; try with_reducible rfl)
      (try simp only [Act.put, List.getElem_toArray, List.getElem_cons_zero, List.getElem_cons_succ, List.setIfInBounds_toArray, List.set_cons_zero, List.set_cons_succ])
      refine wpAnyH_ready (rs := [1, 7]) (by kernel_rfl) (by simp) ?_
      refine AllReadyH.cons rfl ?_ ?_
      · intro K' hK
        rw [if_pos (by rfl)]
        have c1 := obj_at hs_B.2.2.1 1 _ rfl
        go_simp
        refine hK.out _ _ hP (fun _ => ?_)
        clear hK K'
        (try simp only [Act.put, List.getElem_toArray, List.getElem_cons_zero, List.getElem_cons_succ, List.setIfInBounds_toArray, List.set_cons_zero, List.set_cons_succ])
        refine wpAnyH_ready (rs := [7]) (by kernel_rfl) (by simp) ?_
        refine AllReadyH.cons rfl ?_ ?_
        · intro K' hK
          rw [if_pos (by rfl)]
          go_simp
          go_at_call 46
          refine (left_any nt (by omega) _ hxr _).mono ?_
          rintro e W2 ⟨r, rfl, hbq, hr8, hrs⟩
          replace hbq := hbq.below
          (try dsimp only)
          replace hs_B := hs_B.below hbq
          replace hO := ownsRow_grows hO hbq
          have hP2 := below_step hP hbq hZ
          have hZ2 := Nat.le_trans hZ hbq.size
          refine hK.out _ _ hP2 (fun _ => ?_)
          clear hK K'
          (try simp only [Act.put, List.getElem_toArray, List.getElem_cons_zero, List.getElem_cons_succ, List.setIfInBounds_toArray, List.set_cons_zero, List.set_cons_succ])
          clear hP hZ hbq
          have hP := hP2
          have hZ := hZ2
          clear hP2 hZ2
          refine wpAnyH_ready (rs := [8]) (by kernel_rfl) (by simp) ?_
          refine AllReadyH.cons rfl ?_ ?_
          · intro K' hK
            rw [if_pos (by rfl)]
            go_simp
            have hP2 := below_alloc hP hZ (.cells #[.string r] 9)
            refine hK.out _ _ hP2 (fun _ => ?_)
            clear hK K'
            (try simp only [Act.put, List.getElem_toArray, List.getElem_cons_zero, List.getElem_cons_succ, List.setIfInBounds_toArray, List.set_cons_zero, List.set_cons_succ])
            replace hs_B := hs_B.alloc (.cells #[.string r] 9)
            have hs_L := Side.fresh hZ hO #[.string r] 9
            replace hO := hO.alloc (.cells #[.string r] 9)
            replace hZ : u.heap.size ≤ (W2.alloc (.cells #[.string r] 9)).heap.size := by rw [World.size_alloc]; omega
            clear hP
            have hP := hP2
            clear hP2
            obtain ⟨W3, hWe⟩ : ∃ W3, (W2.alloc (.cells #[.string r] 9)) = W3 := ⟨_, rfl⟩
            rw [hWe] at hP hZ hO hs_B hs_L ⊢
            clear hWe
            refine wpAnyH_ready (rs := [9]) (by kernel_rfl) (by simp) ?_
            refine AllReadyH.cons rfl ?_ ?_
            · intro K' hK
              refine step_appN W3 rfl (.tmp 60) (.tmp 67) 22 rfl u.heap.size 9 i0 _ 1 16 und22 ih iz is ib rfl (by decide) _ (k) (rs.map Value.string) rfl hO (some ⟨W2.heap.size, 0, none⟩) (1) 1 ([.string r]) rfl (hs_L.rd) (by simp [Value.oneCell']) (by unfold maxLen; omega) (by omega) hZ ?_
              intro A3 c3 W4 hO2 hg2 hf2
              have hP2 := gb_below hP hg2 hZ (fun g hg => (hO.lt g hg).1)
              have hZ2 := Nat.le_trans hZ hg2.size
              refine hK.out _ _ hP2 (fun _ => ?_)
              clear hK K'
              (try simp only [Act.put, List.getElem_toArray, List.getElem_cons_zero, List.getElem_cons_succ, List.setIfInBounds_toArray, List.set_cons_zero, List.set_cons_succ])
              replace hs_B := hs_B.grown hg2 hf2
              replace hs_L := hs_L.grown hg2 hf2
              clear hO hP hZ hg2 hf2
              have hO := hO2
              have hP := hP2
              have hZ := hZ2
              clear hO2 hP2 hZ2
              refine wpAnyH_take (i := 10) (v := ?_) rfl (by kernel_rfl) (by kernel_rfl) (by kernel_rfl) (fun _ _ _ h => h) (Or.inl ⟨by rfl, ?_⟩) hP ?_
              rotate_left
              · (intro ww hSw; go_simp; try with_reducible rfl)
              (try simp only [Act.put, List.getElem_toArray, List.getElem_cons_zero, List.getElem_cons_succ, List.setIfInBounds_toArray, List.set_cons_zero, List.set_cons_succ])
              refine wpAnyH_ready (rs := [11]) (by kernel_rfl) (by simp) ?_
              refine AllReadyH.cons rfl ?_ ?_
              · intro K' hK
                rw [if_pos (by rfl)]
                have c1 := obj_at hs_B.2.2.1 1 _ rfl
                have f1 := obj_fz hs_B.2.2.1 1
                go_simp
                refine hK.out _ _ (Below.setCell (p := ⟨u.heap.size, 1, none⟩) hP hs_B.1 _) (fun _ => ?_)
                clear hK K'
                (try simp only [Act.put, List.getElem_toArray, List.getElem_cons_zero, List.getElem_cons_succ, List.setIfInBounds_toArray, List.set_cons_zero, List.set_cons_succ])
                refine wpAnyH_done (by kernel_rfl) ?_ _
                refine NoPanic.normal ?_
                have hO4 := hO
                rw [show rs.map Value.string ++ [.string r] = (rs ++ [r]).map Value.string by simp] at hO4
                have hsB2 := hs_B.set 1 (.slice A3 (k + 1) c3)
                have hO5 := own_setSide hO4 hs_B 1 (.slice A3 (k + 1) c3)
                have hP2 : Below u.heap.size u _ := Below.setCell (p := ⟨u.heap.size, 1, none⟩) hP hs_B.1 (.slice A3 (k + 1) c3)
                go_wp2
                refine ⟨⟨k + 1, rs ++ [r], A3, c3, by omega, by go_num, by rw [List.length_append, hrl]; rfl, hide (fun t ht => ?_), hsB2, hO5, hP2⟩, by simp [intOf]; omega⟩
                rcases List.mem_append.1 ht with h | h
                · exact HR.out t h
                · rw [List.mem_singleton.1 h]; exact ⟨hr8, hrs⟩
              exact AllReadyH.nil
            exact AllReadyH.nil
          exact AllReadyH.nil
        exact AllReadyH.nil
      refine AllReadyH.cons rfl ?_ ?_
      · intro K' hK
        rw [if_pos (by rfl)]
        go_simp
        go_at_call 46
        refine (left_any nt (by omega) _ hxr _).mono ?_
        rintro e W6 ⟨r, rfl, hbq, hr8, hrs⟩
        replace hbq := hbq.below
        (try dsimp only)
        replace hs_B := hs_B.below hbq
        replace hO := ownsRow_grows hO hbq
        have hP2 := below_step hP hbq hZ
        have hZ2 := Nat.le_trans hZ hbq.size
        refine hK.out _ _ hP2 (fun _ => ?_)
        clear hK K'
        (try simp only [Act.put, List.getElem_toArray, List.getElem_cons_zero, List.getElem_cons_succ, List.setIfInBounds_toArray, List.set_cons_zero, List.set_cons_succ])
        clear hP hZ hbq
        have hP := hP2
        have hZ := hZ2
        clear hP2 hZ2
        refine wpAnyH_ready (rs := [1, 8]) (by kernel_rfl) (by simp) ?_
        refine AllReadyH.cons rfl ?_ ?_
        · intro K' hK
          rw [if_pos (by rfl)]
          have c1 := obj_at hs_B.2.2.1 1 _ rfl
          go_simp
          refine hK.out _ _ hP (fun _ => ?_)
          clear hK K'
          (try simp only [Act.put, List.getElem_toArray, List.getElem_cons_zero, List.getElem_cons_succ, List.setIfInBounds_toArray, List.set_cons_zero, List.set_cons_succ])
          refine wpAnyH_ready (rs := [8]) (by kernel_rfl) (by simp) ?_
          refine AllReadyH.cons rfl ?_ ?_
          · intro K' hK
            rw [if_pos (by rfl)]
            go_simp
            have hP2 := below_alloc hP hZ (.cells #[.string r] 9)
            refine hK.out _ _ hP2 (fun _ => ?_)
            clear hK K'
            (try simp only [Act.put, List.getElem_toArray, List.getElem_cons_zero, List.getElem_cons_succ, List.setIfInBounds_toArray, List.set_cons_zero, List.set_cons_succ])
            replace hs_B := hs_B.alloc (.cells #[.string r] 9)
            have hs_L := Side.fresh hZ hO #[.string r] 9
            replace hO := hO.alloc (.cells #[.string r] 9)
            replace hZ : u.heap.size ≤ (W6.alloc (.cells #[.string r] 9)).heap.size := by rw [World.size_alloc]; omega
            clear hP
            have hP := hP2
            clear hP2
            obtain ⟨W8, hWe⟩ : ∃ W8, (W6.alloc (.cells #[.string r] 9)) = W8 := ⟨_, rfl⟩
            rw [hWe] at hP hZ hO hs_B hs_L ⊢
            clear hWe
            refine wpAnyH_ready (rs := [9]) (by kernel_rfl) (by simp) ?_
            refine AllReadyH.cons rfl ?_ ?_
            · intro K' hK
              refine step_appN W8 rfl (.tmp 60) (.tmp 67) 22 rfl u.heap.size 9 i0 _ 1 16 und22 ih iz is ib rfl (by decide) _ (k) (rs.map Value.string) rfl hO (some ⟨W6.heap.size, 0, none⟩) (1) 1 ([.string r]) rfl (hs_L.rd) (by simp [Value.oneCell']) (by unfold maxLen; omega) (by omega) hZ ?_
              intro A3 c3 W9 hO2 hg2 hf2
              have hP2 := gb_below hP hg2 hZ (fun g hg => (hO.lt g hg).1)
              have hZ2 := Nat.le_trans hZ hg2.size
              refine hK.out _ _ hP2 (fun _ => ?_)
              clear hK K'
              (try simp only [Act.put, List.getElem_toArray, List.getElem_cons_zero, List.getElem_cons_succ, List.setIfInBounds_toArray, List.set_cons_zero, List.set_cons_succ])
              replace hs_B := hs_B.grown hg2 hf2
              replace hs_L := hs_L.grown hg2 hf2
              clear hO hP hZ hg2 hf2
              have hO := hO2
              have hP := hP2
              have hZ := hZ2
              clear hO2 hP2 hZ2
              refine wpAnyH_take (i := 10) (v := ?_) rfl (by kernel_rfl) (by kernel_rfl) (by kernel_rfl) (fun _ _ _ h => h) (Or.inl ⟨by rfl, ?_⟩) hP ?_
              rotate_left
              · (intro ww hSw; go_simp; try with_reducible rfl)
              (try simp only [Act.put, List.getElem_toArray, List.getElem_cons_zero, List.getElem_cons_succ, List.setIfInBounds_toArray, List.set_cons_zero, List.set_cons_succ])
              refine wpAnyH_ready (rs := [11]) (by kernel_rfl) (by simp) ?_
              refine AllReadyH.cons rfl ?_ ?_
              · intro K' hK
                rw [if_pos (by rfl)]
                have c1 := obj_at hs_B.2.2.1 1 _ rfl
                have f1 := obj_fz hs_B.2.2.1 1
                go_simp
                refine hK.out _ _ (Below.setCell (p := ⟨u.heap.size, 1, none⟩) hP hs_B.1 _) (fun _ => ?_)
                clear hK K'
                (try simp only [Act.put, List.getElem_toArray, List.getElem_cons_zero, List.getElem_cons_succ, List.setIfInBounds_toArray, List.set_cons_zero, List.set_cons_succ])
                refine wpAnyH_done (by kernel_rfl) ?_ _
                refine NoPanic.normal ?_
                have hO4 := hO
                rw [show rs.map Value.string ++ [.string r] = (rs ++ [r]).map Value.string by simp] at hO4
                have hsB2 := hs_B.set 1 (.slice A3 (k + 1) c3)
                have hO5 := own_setSide hO4 hs_B 1 (.slice A3 (k + 1) c3)
                have hP2 : Below u.heap.size u _ := Below.setCell (p := ⟨u.heap.size, 1, none⟩) hP hs_B.1 (.slice A3 (k + 1) c3)
                go_wp2
                refine ⟨⟨k + 1, rs ++ [r], A3, c3, by omega, by go_num, by rw [List.length_append, hrl]; rfl, hide (fun t ht => ?_), hsB2, hO5, hP2⟩, by simp [intOf]; omega⟩
                rcases List.mem_append.1 ht with h | h
                · exact HR.out t h
                · rw [List.mem_singleton.1 h]; exact ⟨hr8, hrs⟩
              exact AllReadyH.nil
            exact AllReadyH.nil
          exact AllReadyH.nil
        refine AllReadyH.cons rfl ?_ ?_
        · intro K' hK
          rw [if_pos (by rfl)]
          go_simp
          have hP2 := below_alloc hP hZ (.cells #[.string r] 9)
          refine hK.out _ _ hP2 (fun _ => ?_)
          clear hK K'
          (try simp only [Act.put, List.getElem_toArray, List.getElem_cons_zero, List.getElem_cons_succ, List.setIfInBounds_toArray, List.set_cons_zero, List.set_cons_succ])
          replace hs_B := hs_B.alloc (.cells #[.string r] 9)
          have hs_L := Side.fresh hZ hO #[.string r] 9
          replace hO := hO.alloc (.cells #[.string r] 9)
          replace hZ : u.heap.size ≤ (W6.alloc (.cells #[.string r] 9)).heap.size := by rw [World.size_alloc]; omega
          clear hP
          have hP := hP2
          clear hP2
          obtain ⟨W11, hWe⟩ : ∃ W11, (W6.alloc (.cells #[.string r] 9)) = W11 := ⟨_, rfl⟩
          rw [hWe] at hP hZ hO hs_B hs_L ⊢
          clear hWe
          refine wpAnyH_ready (rs := [1]) (by kernel_rfl) (by simp) ?_
          refine AllReadyH.cons rfl ?_ ?_
          · intro K' hK
            rw [if_pos (by rfl)]
            have c1 := obj_at hs_B.2.2.1 1 _ rfl
            go_simp
            refine hK.out _ _ hP (fun _ => ?_)
            clear hK K'
            (try simp only [Act.put, List.getElem_toArray, List.getElem_cons_zero, List.getElem_cons_succ, List.setIfInBounds_toArray, List.set_cons_zero, List.set_cons_succ])
            refine wpAnyH_ready (rs := [9]) (by kernel_rfl) (by simp) ?_
            refine AllReadyH.cons rfl ?_ ?_
            · intro K' hK
              refine step_appN W11 rfl (.tmp 60) (.tmp 67) 22 rfl u.heap.size 9 i0 _ 1 16 und22 ih iz is ib rfl (by decide) _ (k) (rs.map Value.string) rfl hO (some ⟨W6.heap.size, 0, none⟩) (1) 1 ([.string r]) rfl (hs_L.rd) (by simp [Value.oneCell']) (by unfold maxLen; omega) (by omega) hZ ?_
              intro A3 c3 W13 hO2 hg2 hf2
              have hP2 := gb_below hP hg2 hZ (fun g hg => (hO.lt g hg).1)
              have hZ2 := Nat.le_trans hZ hg2.size
              refine hK.out _ _ hP2 (fun _ => ?_)
              clear hK K'
              (try simp only [Act.put, List.getElem_toArray, List.getElem_cons_zero, List.getElem_cons_succ, List.setIfInBounds_toArray, List.set_cons_zero, List.set_cons_succ])
              replace hs_B := hs_B.grown hg2 hf2
              replace hs_L := hs_L.grown hg2 hf2
              clear hO hP hZ hg2 hf2
              have hO := hO2
              have hP := hP2
              have hZ := hZ2
              clear hO2 hP2 hZ2
              refine wpAnyH_take (i := 10) (v := ?_) rfl (by kernel_rfl) (by kernel_rfl) (by kernel_rfl) (fun _ _ _ h => h) (Or.inl ⟨by rfl, ?_⟩) hP ?_
              rotate_left
              · (intro ww hSw; go_simp; try with_reducible rfl)
              (try simp only [Act.put, List.getElem_toArray, List.getElem_cons_zero, List.getElem_cons_succ, List.setIfInBounds_toArray, List.set_cons_zero, List.set_cons_succ])
              refine wpAnyH_ready (rs := [11]) (by kernel_rfl) (by simp) ?_
              refine AllReadyH.cons rfl ?_ ?_
              · intro K' hK
                rw [if_pos (by rfl)]
                have c1 := obj_at hs_B.2.2.1 1 _ rfl
                have f1 := obj_fz hs_B.2.2.1 1
                go_simp
                refine hK.out _ _ (Below.setCell (p := ⟨u.heap.size, 1, none⟩) hP hs_B.1 _) (fun _ => ?_)
                clear hK K'
                (try simp only [Act.put, List.getElem_toArray, List.getElem_cons_zero, List.getElem_cons_succ, List.setIfInBounds_toArray, List.set_cons_zero, List.set_cons_succ])
                refine wpAnyH_done (by kernel_rfl) ?_ _
                refine NoPanic.normal ?_
                have hO4 := hO
                rw [show rs.map Value.string ++ [.string r] = (rs ++ [r]).map Value.string by simp] at hO4
                have hsB2 := hs_B.set 1 (.slice A3 (k + 1) c3)
                have hO5 := own_setSide hO4 hs_B 1 (.slice A3 (k + 1) c3)
                have hP2 : Below u.heap.size u _ := Below.setCell (p := ⟨u.heap.size, 1, none⟩) hP hs_B.1 (.slice A3 (k + 1) c3)
                go_wp2
                refine ⟨⟨k + 1, rs ++ [r], A3, c3, by omega, by go_num, by rw [List.length_append, hrl]; rfl, hide (fun t ht => ?_), hsB2, hO5, hP2⟩, by simp [intOf]; omega⟩
                rcases List.mem_append.1 ht with h | h
                · exact HR.out t h
                · rw [List.mem_singleton.1 h]; exact ⟨hr8, hrs⟩
              exact AllReadyH.nil
            exact AllReadyH.nil
          exact AllReadyH.nil
        exact AllReadyH.nil
      exact AllReadyH.nil
    · have hkzi : ¬ (k : Int) < (zs.length : Nat) := by omega
      have hY : ObjV wr u.heap.size 24 (.int .i64 W) (.slice AO k cO) := hs_B.2.2.1
      have hV := own_strs hO
      obtain ⟨hc, hm⟩ := held_chk (W := W) (ts := rs) (s := nt) hW1 hW2 (by omega) (by omega) hnx HR.out
      have hW : Below w.heap.size w wr := below_step hbw hP0 hbw.size
      replace hG := hG.below hP0
      replace hN := hN.below hP0
      subst hrl
      clear hs_B hO hP0 hbw HR hPb hQb HL i0 ih iz is ib hnx
      have hGc0 := hG.c0
      have hGc1 := hG.c1
      have hGc2 := hG.c2
      have hGlt := hG.lt
      have hNc0 := hN.c0
      have hNc1 := hN.c1
      have hNlt := hN.lt
      have hYc0 := hY.c0
      have hYc1 := hY.c1
      have hYlt := hY.lt
      have hsz := (chk_val hc).2.2.2.2.2.2.1
      have hl : rs.length ≤ 1000 := by omega
      obtain ⟨f, cc, e3, p1, p2, kk, jj, bf, E1, E2, hfn, E3, E4, H5, E5, hp1, hp2, E6, E7, E8, HZ⟩ := held_plain hc hn20 hm hwin hwin1 hwin2 hm1l hm2l
      have HH := hide (fun w' (hV : Strs w' AO rs) => Has_any W AO rs cO w' hV hl hsz nt (by omega))
      have HF := hide (fun w' (hV : Strs w' AO rs) => Fewest_any W AO rs cO w' hV hl hsz)
      have HWR := hide (fun w' (hV : Strs w' AO rs) => Wrong_any W AO rs cO w' hV hl hsz (nt.size : Nat))
      have HC := hide (fun w' (hV : Strs w' AO rs) => Count_any W AO rs cO w' hV hl hsz (nt.size : Nat))
      have HP := hide (fun w' (hV : Strs w' AO rs) => Pulls_any W AO rs cO w' hV hl hsz b hb (nt.size : Nat))
      have HK1 := hide (fun w' (hV : Strs w' AO rs) => Kind_any W AO rs cO w' hV hl hsz b1 (1 + (m1 : Nat)) b2 (1 + (m2 : Nat)) hb1 hb2 (nt.size : Nat))
      have HK2 := hide (fun w' (hV : Strs w' AO rs) => Kind_any W AO rs cO w' hV hl hsz b2 (1 + (m2 : Nat)) b1 (1 + (m1 : Nat)) hb2 hb1 (nt.size : Nat))
      have HMN := hide (fun w' => rMany_any nt b w' (by omega) hb)
      have HBF := hide (fun w' => rBefore_any nt b1 (1 + m1) b2 (1 + m2) w' (by omega) hb1 hb2 (by omega) (by omega) (by omega) (by omega))
      rw [E1] at HH
      rw [E2] at HF
      rw [E3] at HWR
      rw [E4] at HC
      rw [E5] at HP
      rw [E6] at HK1
      rw [E7] at HK2
      rw [E8] at HBF
      rw [show ((1 + m1 : Nat) : Int) = 1 + (m1 : Nat) by omega, show ((1 + m2 : Nat) : Int) = 1 + (m2 : Nat) by omega] at HBF
      unfold boolE at HH
      unfold tup2V at HF HC HK1 HK2
      unfold rngE at HP
      unfold GivesIntsL at HWR
      simp only [List.length_nil] at HWR
      have hmy := Tm.manyS_le ((b : Int) - 97) (lt nt)
      rw [lt_len] at hmy
      clear E1 E2 E3 E4 E5 E6 E7 E8
      replace hc := hide hc
      replace hm := hide hm
      replace HZ := hide HZ
      replace H5 := hide H5
      generalize Tm.manyS ((b : Int) - 97) (lt nt) = mn at *
      have hfd : decide (nt.size < f) = false := decide_eq_false (by omega)
      have hp1d : decide (((mn : Nat) : Int) < p1) = false := decide_eq_false (by omega)
      have hp2d : decide (p2 < ((mn : Nat) : Int)) = false := decide_eq_false (by omega)
      go_upto_region 15 with (first
          | (clear tok1; go_at_call 19; refine (HH.out _ (hV.ext (by (repeat (first | exact Below.refl _ _ | assumption | refine below_drewN ?_ _ | refine below_drew ?_ | refine below_gr ?_ ?_ _ | refine below_alloc ?_ ?_ _ | refine Below.setCell ?_ ?_ _ | refine below_step ?_ (by assumption) ?_ | omega | (simp only [zz] at *; omega)))))).mono ?_; rintro e u2 ⟨rfl, hb2⟩; replace hb2 := ex_below hb2; have bel2 : Below wr.heap.size wr u2 := (by (repeat (first | exact Below.refl _ _ | assumption | refine below_drewN ?_ _ | refine below_drew ?_ | refine below_gr ?_ ?_ _ | refine below_alloc ?_ ?_ _ | refine Below.setCell ?_ ?_ _ | refine below_step ?_ (by assumption) ?_ | omega | (simp only [zz] at *; omega)))); clear hb2; have sz2 := bel2.size; replace hG := hG.below bel2; replace hN := hN.below bel2; replace hY := hY.below bel2; replace hV := hV.ext bel2; replace hW := below_step hW bel2 (by have := hW.size; omega); (try clear hGc0 hGc1 hGc2 hGlt); have hGc0 := hG.c0; have hGc1 := hG.c1; have hGc2 := hG.c2; have hGlt := hG.lt; (try clear hNc0 hNc1 hNlt); have hNc0 := hN.c0; have hNc1 := hN.c1; have hNlt := hN.lt; (try clear hYc0 hYc1 hYlt); have hYc0 := hY.c0; have hYc1 := hY.c1; have hYlt := hY.lt; clear bel2; have tok2 : True := trivial)
          | (clear tok2; go_at_call 23; refine (HF.out _ (hV.ext (by (repeat (first | exact Below.refl _ _ | assumption | refine below_drewN ?_ _ | refine below_drew ?_ | refine below_gr ?_ ?_ _ | refine below_alloc ?_ ?_ _ | refine Below.setCell ?_ ?_ _ | refine below_step ?_ (by assumption) ?_ | omega | (simp only [zz] at *; omega)))))).mono ?_; rintro e u3 ⟨rfl, hb3⟩; replace hb3 := ex_below hb3; have bel3 : Below u2.heap.size u2 u3 := (by (repeat (first | exact Below.refl _ _ | assumption | refine below_drewN ?_ _ | refine below_drew ?_ | refine below_gr ?_ ?_ _ | refine below_alloc ?_ ?_ _ | refine Below.setCell ?_ ?_ _ | refine below_step ?_ (by assumption) ?_ | omega | (simp only [zz] at *; omega)))); clear hb3; have sz3 := bel3.size; replace hG := hG.below bel3; replace hN := hN.below bel3; replace hY := hY.below bel3; replace hV := hV.ext bel3; replace hW := below_step hW bel3 (by have := hW.size; omega); (try clear hGc0 hGc1 hGc2 hGlt); have hGc0 := hG.c0; have hGc1 := hG.c1; have hGc2 := hG.c2; have hGlt := hG.lt; (try clear hNc0 hNc1 hNlt); have hNc0 := hN.c0; have hNc1 := hN.c1; have hNlt := hN.lt; (try clear hYc0 hYc1 hYlt); have hYc0 := hY.c0; have hYc1 := hY.c1; have hYlt := hY.lt; clear bel3; have tok3 : True := trivial)
          | (clear tok3; go_at_call 37; refine (HWR.out _ (hV.ext (by (repeat (first | exact Below.refl _ _ | assumption | refine below_drewN ?_ _ | refine below_drew ?_ | refine below_gr ?_ ?_ _ | refine below_alloc ?_ ?_ _ | refine Below.setCell ?_ ?_ _ | refine below_step ?_ (by assumption) ?_ | omega | (simp only [zz] at *; omega)))))).mono ?_; rintro e u4 ⟨AW, cW, rfl, hb4, -⟩; replace hb4 := ex_below hb4; have bel4 : Below u3.heap.size u3 u4 := (by (repeat (first | exact Below.refl _ _ | assumption | refine below_drewN ?_ _ | refine below_drew ?_ | refine below_gr ?_ ?_ _ | refine below_alloc ?_ ?_ _ | refine Below.setCell ?_ ?_ _ | refine below_step ?_ (by assumption) ?_ | omega | (simp only [zz] at *; omega)))); clear hb4; have sz4 := bel4.size; replace hG := hG.below bel4; replace hN := hN.below bel4; replace hY := hY.below bel4; replace hV := hV.ext bel4; replace hW := below_step hW bel4 (by have := hW.size; omega); (try clear hGc0 hGc1 hGc2 hGlt); have hGc0 := hG.c0; have hGc1 := hG.c1; have hGc2 := hG.c2; have hGlt := hG.lt; (try clear hNc0 hNc1 hNlt); have hNc0 := hN.c0; have hNc1 := hN.c1; have hNlt := hN.lt; (try clear hYc0 hYc1 hYlt); have hYc0 := hY.c0; have hYc1 := hY.c1; have hYlt := hY.lt; clear bel4; have tok4 : True := trivial)
          | (clear tok4; go_at_call 30; refine (HC.out _ (hV.ext (by (repeat (first | exact Below.refl _ _ | assumption | refine below_drewN ?_ _ | refine below_drew ?_ | refine below_gr ?_ ?_ _ | refine below_alloc ?_ ?_ _ | refine Below.setCell ?_ ?_ _ | refine below_step ?_ (by assumption) ?_ | omega | (simp only [zz] at *; omega)))))).mono ?_; rintro e u5 ⟨rfl, hb5⟩; replace hb5 := ex_below hb5; have bel5 : Below u4.heap.size u4 u5 := (by (repeat (first | exact Below.refl _ _ | assumption | refine below_drewN ?_ _ | refine below_drew ?_ | refine below_gr ?_ ?_ _ | refine below_alloc ?_ ?_ _ | refine Below.setCell ?_ ?_ _ | refine below_step ?_ (by assumption) ?_ | omega | (simp only [zz] at *; omega)))); clear hb5; have sz5 := bel5.size; replace hG := hG.below bel5; replace hN := hN.below bel5; replace hY := hY.below bel5; replace hV := hV.ext bel5; replace hW := below_step hW bel5 (by have := hW.size; omega); (try clear hGc0 hGc1 hGc2 hGlt); have hGc0 := hG.c0; have hGc1 := hG.c1; have hGc2 := hG.c2; have hGlt := hG.lt; (try clear hNc0 hNc1 hNlt); have hNc0 := hN.c0; have hNc1 := hN.c1; have hNlt := hN.lt; (try clear hYc0 hYc1 hYlt); have hYc0 := hY.c0; have hYc1 := hY.c1; have hYlt := hY.lt; clear bel5; have tok5 : True := trivial))
      go_cut [133] from 120 to 132 (fun s wx => s = .bool false ∧ wx = u5)
      case first =>
        as_aux_lemma =>
        rcases H5.out with ⟨rfl, h6⟩ | rfl
        · have hk4d : decide (cc < 1) = false := decide_eq_false (by omega)
          go_wp2_with fail
          go_meet
          exact ⟨rfl, rfl⟩
        · go_wp2_with fail
          go_meet
          exact ⟨rfl, rfl⟩
      case rest =>
        obtain ⟨hs0, hwe⟩ := hcut
        subst hs0
        rw [hwe]
        clear hwe
        go_upto_region 19 with (first
            | (clear tok5; go_at_call 35; refine (HP.out _ (hV.ext (by (repeat (first | exact Below.refl _ _ | assumption | refine below_drewN ?_ _ | refine below_drew ?_ | refine below_gr ?_ ?_ _ | refine below_alloc ?_ ?_ _ | refine Below.setCell ?_ ?_ _ | refine below_step ?_ (by assumption) ?_ | omega | (simp only [zz] at *; omega)))))).mono ?_; rintro e u6 ⟨rfl, hb6⟩; replace hb6 := ex_below hb6; have bel6 : Below u5.heap.size u5 u6 := (by (repeat (first | exact Below.refl _ _ | assumption | refine below_drewN ?_ _ | refine below_drew ?_ | refine below_gr ?_ ?_ _ | refine below_alloc ?_ ?_ _ | refine Below.setCell ?_ ?_ _ | refine below_step ?_ (by assumption) ?_ | omega | (simp only [zz] at *; omega)))); clear hb6; have sz6 := bel6.size; replace hG := hG.below bel6; replace hN := hN.below bel6; replace hY := hY.below bel6; replace hV := hV.ext bel6; replace hW := below_step hW bel6 (by have := hW.size; omega); (try clear hGc0 hGc1 hGc2 hGlt); have hGc0 := hG.c0; have hGc1 := hG.c1; have hGc2 := hG.c2; have hGlt := hG.lt; (try clear hNc0 hNc1 hNlt); have hNc0 := hN.c0; have hNc1 := hN.c1; have hNlt := hN.lt; (try clear hYc0 hYc1 hYlt); have hYc0 := hY.c0; have hYc1 := hY.c1; have hYlt := hY.lt; clear bel6; have tok6 : True := trivial))
        (try simp only [hwb])
        have hp : ObjV (u6.alloc (.cells #[.int .i64 p1, .int .i64 p2] 47)) u6.heap.size 47 (.int .i64 p1) (.int .i64 p2) := ObjV.new _ _ _ _
        have belq : Below u6.heap.size u6 (u6.alloc (.cells #[.int .i64 p1, .int .i64 p2] 47)) := below_alloc (Below.refl _ _) (Nat.le_refl _) _
        obtain ⟨uq, huq⟩ : ∃ uq, (u6.alloc (.cells #[.int .i64 p1, .int .i64 p2] 47)) = uq := ⟨_, rfl⟩
        rw [huq] at hp belq ⊢
        clear huq
        have szuq := belq.size
        replace hG := hG.below belq
        (try clear hGc0 hGc1 hGc2 hGlt)
        have hGc0 := hG.c0
        have hGc1 := hG.c1
        have hGc2 := hG.c2
        have hGlt := hG.lt
        replace hN := hN.below belq
        (try clear hNc0 hNc1 hNlt)
        have hNc0 := hN.c0
        have hNc1 := hN.c1
        have hNlt := hN.lt
        replace hY := hY.below belq
        (try clear hYc0 hYc1 hYlt)
        have hYc0 := hY.c0
        have hYc1 := hY.c1
        have hYlt := hY.lt
        replace hV := hV.ext belq
        replace hW := below_step hW belq (by have := hW.size; omega)
        clear belq
        have hpc0 := hp.c0
        have hpc1 := hp.c1
        have hplt := hp.lt
        refine wp_region_grow (by kernel_rfl) (by kernel_rfl) ?_
        repeat (go_big_quiet_step ((go_at_call 47; exact Gives.quiet (HMN.out _))))
        refine wpQuiet_nil ?_
        intro v0 hbv
        replace hbv := ex_below hbv
        have szv0 := hbv.size
        replace hG := hG.below hbv
        (try clear hGc0 hGc1 hGc2 hGlt)
        have hGc0 := hG.c0
        have hGc1 := hG.c1
        have hGc2 := hG.c2
        have hGlt := hG.lt
        replace hN := hN.below hbv
        (try clear hNc0 hNc1 hNlt)
        have hNc0 := hN.c0
        have hNc1 := hN.c1
        have hNlt := hN.lt
        replace hY := hY.below hbv
        (try clear hYc0 hYc1 hYlt)
        have hYc0 := hY.c0
        have hYc1 := hY.c1
        have hYlt := hY.lt
        replace hV := hV.ext hbv
        replace hW := below_step hW hbv (by have := hW.size; omega)
        replace hp := hp.below hbv
        (try clear hpc0 hpc1 hplt)
        have hpc0 := hp.c0
        have hpc1 := hp.c1
        have hplt := hp.lt
        clear hbv
        go_upto_region 21 with fail
        (try simp only [hwb])
        go_cut [24] from 168 to 181 (fun sx wx => ∃ blk : Nat, sx = .pointer (some ⟨blk, 0, none⟩) ∧ ObjV wx blk 54 (.int .u8 (b1 : Nat)) (.int .i64 (1 + (m1 : Nat))) ∧ v0.heap.size ≤ blk ∧ Below v0.heap.size v0 wx)
        case first =>
          as_aux_lemma =>
          refine wp_region_noPanic ?_
          refine wp_region_held_drew (S := fun w' => Below v0.heap.size v0 w') (by kernel_rfl) ?_ (fun _ => ?_)
          · exact below_drew (Below.refl _ _)
          have hP : Below v0.heap.size v0 v0.drew := below_drew (Below.refl _ _)
          have hZ : v0.heap.size ≤ v0.drew.heap.size := Nat.le_refl _
          obtain ⟨W0, hW0⟩ : ∃ W0, v0.drew = W0 := ⟨_, rfl⟩
          rw [hW0] at hP hZ ⊢
          clear hW0
          refine wpAnyH_take (i := 0) (v := ?_) rfl (by kernel_rfl) (by kernel_rfl) (by kernel_rfl) (fun _ _ _ h => h) (Or.inl ⟨by rfl, ?_⟩) hP ?_
          rotate_left
          · (intro ww hSw; go_simp; try with_reducible rfl)
          (try simp only [Act.put, List.getElem_toArray, List.getElem_cons_zero, List.getElem_cons_succ, List.setIfInBounds_toArray, List.set_cons_zero, List.set_cons_succ])
          refine wpAnyH_take (i := 1) (v := ?_) rfl (by kernel_rfl) (by kernel_rfl) (by kernel_rfl) (fun _ _ _ h => h) (Or.inl ⟨by rfl, ?_⟩) hP ?_
          rotate_left
          · (intro ww hSw; have g1 := (hSw.cell (p := ⟨w.heap.size, 1, none⟩) hGlt).trans hGc1; go_simp; try with_reducible rfl)
          (try simp only [Act.put, List.getElem_toArray, List.getElem_cons_zero, List.getElem_cons_succ, List.setIfInBounds_toArray, List.set_cons_zero, List.set_cons_succ])
          refine wpAnyH_take (i := 2) (v := ?_) rfl (by kernel_rfl) (by kernel_rfl) (by kernel_rfl) (fun _ _ _ h => h) (Or.inl ⟨by rfl, ?_⟩) hP ?_
          rotate_left
          · (intro ww hSw; go_simp; try with_reducible rfl)
          (try simp only [Act.put, List.getElem_toArray, List.getElem_cons_zero, List.getElem_cons_succ, List.setIfInBounds_toArray, List.set_cons_zero, List.set_cons_succ])
          refine wpAnyH_take (i := 3) (v := ?_) rfl (by kernel_rfl) (by kernel_rfl) (by kernel_rfl) (fun _ _ _ h => h) (Or.inl ⟨by rfl, ?_⟩) hP ?_
          rotate_left
          · (intro ww hSw; go_simp; try with_reducible rfl)
          (try simp only [Act.put, List.getElem_toArray, List.getElem_cons_zero, List.getElem_cons_succ, List.setIfInBounds_toArray, List.set_cons_zero, List.set_cons_succ])
          refine wpAnyH_take (i := 4) (v := ?_) rfl (by kernel_rfl) (by kernel_rfl) (by kernel_rfl) (fun _ _ _ h => h) (Or.inl ⟨by rfl, ?_⟩) hP ?_
          rotate_left
          · (intro ww hSw; have g0 := (hSw.cell (p := ⟨u.heap.size, 0, none⟩) hYlt).trans hYc0; go_simp; try with_reducible rfl)
          (try simp only [Act.put, List.getElem_toArray, List.getElem_cons_zero, List.getElem_cons_succ, List.setIfInBounds_toArray, List.set_cons_zero, List.set_cons_succ])
          refine wpAnyH_take (i := 5) (v := ?_) rfl (by kernel_rfl) (by kernel_rfl) (by kernel_rfl) (fun _ _ _ h => h) (Or.inl ⟨by rfl, ?_⟩) hP ?_
          rotate_left
          · (intro ww hSw; go_simp; try with_reducible rfl)
          (try simp only [Act.put, List.getElem_toArray, List.getElem_cons_zero, List.getElem_cons_succ, List.setIfInBounds_toArray, List.set_cons_zero, List.set_cons_succ])
          refine wpAnyH_take (i := 6) (v := ?_) rfl (by kernel_rfl) (by kernel_rfl) (by kernel_rfl) (fun _ _ _ h => h) (Or.inl ⟨by rfl, ?_⟩) hP ?_
          rotate_left
          · (intro ww hSw; go_simp; try with_reducible rfl)
          (try simp only [Act.put, List.getElem_toArray, List.getElem_cons_zero, List.getElem_cons_succ, List.setIfInBounds_toArray, List.set_cons_zero, List.set_cons_succ])
          refine wpAnyH_take (i := 7) (v := ?_) rfl (by kernel_rfl) (by kernel_rfl) (by kernel_rfl) (fun _ _ _ h => h) (Or.inl ⟨by rfl, ?_⟩) hP ?_
          rotate_left
          · (intro ww hSw; go_simp; try with_reducible rfl)
          (try simp only [Act.put, List.getElem_toArray, List.getElem_cons_zero, List.getElem_cons_succ, List.setIfInBounds_toArray, List.set_cons_zero, List.set_cons_succ])
          refine wpAnyH_take (i := 8) (v := ?_) rfl (by kernel_rfl) (by kernel_rfl) (by kernel_rfl) (fun _ _ _ h => h) (Or.inl ⟨by rfl, ?_⟩) hP ?_
          rotate_left
          · (intro ww hSw; go_simp; try with_reducible rfl)
          (try simp only [Act.put, List.getElem_toArray, List.getElem_cons_zero, List.getElem_cons_succ, List.setIfInBounds_toArray, List.set_cons_zero, List.set_cons_succ])
          refine wpAnyH_take (i := 9) (v := ?_) rfl (by kernel_rfl) (by kernel_rfl) (by kernel_rfl) (fun _ _ _ h => h) (Or.inl ⟨by rfl, ?_⟩) hP ?_
          rotate_left
          · (intro ww hSw; have g2 := (hSw.cell (p := ⟨w.heap.size + 1, 0, none⟩) hNlt).trans hNc0; go_simp; try with_reducible rfl)
          (try simp only [Act.put, List.getElem_toArray, List.getElem_cons_zero, List.getElem_cons_succ, List.setIfInBounds_toArray, List.set_cons_zero, List.set_cons_succ])
          refine wpAnyH_take (i := 10) (v := ?_) rfl (by kernel_rfl) (by kernel_rfl) (by kernel_rfl) (fun _ _ _ h => h) (Or.inl ⟨by rfl, ?_⟩) hP ?_
          rotate_left
          · (intro ww hSw; go_simp; try with_reducible rfl)
          (try simp only [Act.put, List.getElem_toArray, List.getElem_cons_zero, List.getElem_cons_succ, List.setIfInBounds_toArray, List.set_cons_zero, List.set_cons_succ])
          refine wpAnyH_take (i := 11) (v := ?_) rfl (by kernel_rfl) (by kernel_rfl) (by kernel_rfl) (fun _ _ _ h => h) (Or.inl ⟨by rfl, ?_⟩) hP ?_
          rotate_left
          · (intro ww hSw; go_simp; try with_reducible rfl)
          (try simp only [Act.put, List.getElem_toArray, List.getElem_cons_zero, List.getElem_cons_succ, List.setIfInBounds_toArray, List.set_cons_zero, List.set_cons_succ])
          refine wpAnyH_take (i := 12) (v := ?_) rfl (by kernel_rfl) (by kernel_rfl) (by kernel_rfl) (fun _ _ _ h => h) (Or.inl ⟨by rfl, ?_⟩) hP ?_
          rotate_left
          · (intro ww hSw; go_simp; try with_reducible rfl)
          (try simp only [Act.put, List.getElem_toArray, List.getElem_cons_zero, List.getElem_cons_succ, List.setIfInBounds_toArray, List.set_cons_zero, List.set_cons_succ])
          refine wpAnyH_ready (rs := [13, 14]) (by kernel_rfl) (by simp) ?_
          refine AllReadyH.cons rfl ?_ ?_
          · intro K' hK
            rw [if_pos (by rfl)]
            go_simp
            go_at_call 48
            refine (nthM _ _ _).mono ?_
            rintro e W1 ⟨rfl, hbq⟩
            replace hbq := ex_below hbq
            (try dsimp only)
            have hP2 := below_step hP hbq hZ
            have hZ2 := Nat.le_trans hZ hbq.size
            refine hK.out _ _ hP2 (fun _ => ?_)
            clear hK K'
            (try simp only [Act.put, List.getElem_toArray, List.getElem_cons_zero, List.getElem_cons_succ, List.setIfInBounds_toArray, List.set_cons_zero, List.set_cons_succ])
            clear hP hZ hbq
            have hP := hP2
            have hZ := hZ2
            clear hP2 hZ2
            refine wpAnyH_ready (rs := [14]) (by kernel_rfl) (by simp) ?_
            refine AllReadyH.cons rfl ?_ ?_
            · intro K' hK
              rw [if_pos (by rfl)]
              go_simp
              have hP2 := below_alloc hP hZ (.cells #[.int .u8 0, .int .i64 0] 54)
              refine hK.out _ _ hP2 (fun _ => ?_)
              clear hK K'
              (try simp only [Act.put, List.getElem_toArray, List.getElem_cons_zero, List.getElem_cons_succ, List.setIfInBounds_toArray, List.set_cons_zero, List.set_cons_succ])
              have hs_B := Side.fresh0 (W := W1) hZ #[.int .u8 0, .int .i64 0] 54
              replace hZ : v0.heap.size ≤ (W1.alloc (.cells #[.int .u8 0, .int .i64 0] 54)).heap.size := by rw [World.size_alloc]; omega
              clear hP
              have hP := hP2
              clear hP2
              obtain ⟨W2, hWe⟩ : ∃ W2, (W1.alloc (.cells #[.int .u8 0, .int .i64 0] 54)) = W2 := ⟨_, rfl⟩
              rw [hWe] at hP hZ hs_B ⊢
              clear hWe
              refine wpAnyH_ready (rs := [15]) (by kernel_rfl) (by simp) ?_
              refine AllReadyH.cons rfl ?_ ?_
              · intro K' hK
                rw [if_pos (by rfl)]
                have c0 := obj_at hs_B.2.2.1 0 _ rfl
                have c1 := obj_at hs_B.2.2.1 1 _ rfl
                have f0 := obj_fz hs_B.2.2.1 0
                have f1 := obj_fz hs_B.2.2.1 1
                go_simp
                refine hK.out _ _ (Below.setCell (p := ⟨W1.heap.size, 1, none⟩) (Below.setCell (p := ⟨W1.heap.size, 0, none⟩) hP hs_B.1 _) hs_B.1 _) (fun _ => ?_)
                clear hK K'
                (try simp only [Act.put, List.getElem_toArray, List.getElem_cons_zero, List.getElem_cons_succ, List.setIfInBounds_toArray, List.set_cons_zero, List.set_cons_succ])
                refine wpAnyH_done (by kernel_rfl) ?_ _
                refine NoPanic.normal ?_
                go_wp2_with fail
                go_meet
                simp only [HR1.out, HR2.out, HR3.out, HR4.out]
                exact ⟨_, rfl, set_two hs_B.2.2.1, hs_B.1, Below.setCell (Below.setCell hP hs_B.1 _) hs_B.1 _⟩
              exact AllReadyH.nil
            exact AllReadyH.nil
          refine AllReadyH.cons rfl ?_ ?_
          · intro K' hK
            rw [if_pos (by rfl)]
            go_simp
            have hP2 := below_alloc hP hZ (.cells #[.int .u8 0, .int .i64 0] 54)
            refine hK.out _ _ hP2 (fun _ => ?_)
            clear hK K'
            (try simp only [Act.put, List.getElem_toArray, List.getElem_cons_zero, List.getElem_cons_succ, List.setIfInBounds_toArray, List.set_cons_zero, List.set_cons_succ])
            have hs_B := Side.fresh0 (W := W0) hZ #[.int .u8 0, .int .i64 0] 54
            replace hZ : v0.heap.size ≤ (W0.alloc (.cells #[.int .u8 0, .int .i64 0] 54)).heap.size := by rw [World.size_alloc]; omega
            clear hP
            have hP := hP2
            clear hP2
            obtain ⟨W4, hWe⟩ : ∃ W4, (W0.alloc (.cells #[.int .u8 0, .int .i64 0] 54)) = W4 := ⟨_, rfl⟩
            rw [hWe] at hP hZ hs_B ⊢
            clear hWe
            refine wpAnyH_ready (rs := [13]) (by kernel_rfl) (by simp) ?_
            refine AllReadyH.cons rfl ?_ ?_
            · intro K' hK
              rw [if_pos (by rfl)]
              go_simp
              go_at_call 48
              refine (nthM _ _ _).mono ?_
              rintro e W5 ⟨rfl, hbq⟩
              replace hbq := ex_below hbq
              (try dsimp only)
              replace hs_B := hs_B.below hbq
              have hP2 := below_step hP hbq hZ
              have hZ2 := Nat.le_trans hZ hbq.size
              refine hK.out _ _ hP2 (fun _ => ?_)
              clear hK K'
              (try simp only [Act.put, List.getElem_toArray, List.getElem_cons_zero, List.getElem_cons_succ, List.setIfInBounds_toArray, List.set_cons_zero, List.set_cons_succ])
              clear hP hZ hbq
              have hP := hP2
              have hZ := hZ2
              clear hP2 hZ2
              refine wpAnyH_ready (rs := [15]) (by kernel_rfl) (by simp) ?_
              refine AllReadyH.cons rfl ?_ ?_
              · intro K' hK
                rw [if_pos (by rfl)]
                have c0 := obj_at hs_B.2.2.1 0 _ rfl
                have c1 := obj_at hs_B.2.2.1 1 _ rfl
                have f0 := obj_fz hs_B.2.2.1 0
                have f1 := obj_fz hs_B.2.2.1 1
                go_simp
                refine hK.out _ _ (Below.setCell (p := ⟨W0.heap.size, 1, none⟩) (Below.setCell (p := ⟨W0.heap.size, 0, none⟩) hP hs_B.1 _) hs_B.1 _) (fun _ => ?_)
                clear hK K'
                (try simp only [Act.put, List.getElem_toArray, List.getElem_cons_zero, List.getElem_cons_succ, List.setIfInBounds_toArray, List.set_cons_zero, List.set_cons_succ])
                refine wpAnyH_done (by kernel_rfl) ?_ _
                refine NoPanic.normal ?_
                go_wp2_with fail
                go_meet
                simp only [HR1.out, HR2.out, HR3.out, HR4.out]
                exact ⟨_, rfl, set_two hs_B.2.2.1, hs_B.1, Below.setCell (Below.setCell hP hs_B.1 _) hs_B.1 _⟩
              exact AllReadyH.nil
            exact AllReadyH.nil
          exact AllReadyH.nil
        case rest =>
          obtain ⟨bi, rfl, hI, hbi, hb4⟩ := hcut
          obtain ⟨we, rfl⟩ : ∃ we : World, we = wc := ⟨_, rfl⟩
          have szwe := hb4.size
          replace hG := hG.below hb4
          (try clear hGc0 hGc1 hGc2 hGlt)
          have hGc0 := hG.c0
          have hGc1 := hG.c1
          have hGc2 := hG.c2
          have hGlt := hG.lt
          replace hN := hN.below hb4
          (try clear hNc0 hNc1 hNlt)
          have hNc0 := hN.c0
          have hNc1 := hN.c1
          have hNlt := hN.lt
          replace hY := hY.below hb4
          (try clear hYc0 hYc1 hYlt)
          have hYc0 := hY.c0
          have hYc1 := hY.c1
          have hYlt := hY.lt
          replace hV := hV.ext hb4
          replace hW := below_step hW hb4 (by have := hW.size; omega)
          replace hp := hp.below hb4
          (try clear hpc0 hpc1 hplt)
          have hpc0 := hp.c0
          have hpc1 := hp.c1
          have hplt := hp.lt
          clear hb4
          have hIc0 := hI.c0
          have hIc1 := hI.c1
          have hIlt := hI.lt
          go_upto_region 22 with fail
          (try simp only [hwb])
          go_cut [25] from 182 to 195 (fun sx wx => ∃ blk : Nat, sx = .pointer (some ⟨blk, 0, none⟩) ∧ ObjV wx blk 54 (.int .u8 (b2 : Nat)) (.int .i64 (1 + (m2 : Nat))) ∧ we.heap.size ≤ blk ∧ Below we.heap.size we wx)
          case first =>
            as_aux_lemma =>
            refine wp_region_noPanic ?_
            refine wp_region_held_drew (S := fun w' => Below we.heap.size we w') (by kernel_rfl) ?_ (fun _ => ?_)
            · exact below_drew (Below.refl _ _)
            have hP : Below we.heap.size we we.drew := below_drew (Below.refl _ _)
            have hZ : we.heap.size ≤ we.drew.heap.size := Nat.le_refl _
            obtain ⟨W0, hW0⟩ : ∃ W0, we.drew = W0 := ⟨_, rfl⟩
            rw [hW0] at hP hZ ⊢
            clear hW0
            refine wpAnyH_take (i := 0) (v := ?_) rfl (by kernel_rfl) (by kernel_rfl) (by kernel_rfl) (fun _ _ _ h => h) (Or.inl ⟨by rfl, ?_⟩) hP ?_
            rotate_left
            · (intro ww hSw; go_simp; try with_reducible rfl)
            (try simp only [Act.put, List.getElem_toArray, List.getElem_cons_zero, List.getElem_cons_succ, List.setIfInBounds_toArray, List.set_cons_zero, List.set_cons_succ])
            refine wpAnyH_take (i := 1) (v := ?_) rfl (by kernel_rfl) (by kernel_rfl) (by kernel_rfl) (fun _ _ _ h => h) (Or.inl ⟨by rfl, ?_⟩) hP ?_
            rotate_left
            · (intro ww hSw; have g1 := (hSw.cell (p := ⟨w.heap.size, 2, none⟩) hGlt).trans hGc2; go_simp; try with_reducible rfl)
            (try simp only [Act.put, List.getElem_toArray, List.getElem_cons_zero, List.getElem_cons_succ, List.setIfInBounds_toArray, List.set_cons_zero, List.set_cons_succ])
            refine wpAnyH_take (i := 2) (v := ?_) rfl (by kernel_rfl) (by kernel_rfl) (by kernel_rfl) (fun _ _ _ h => h) (Or.inl ⟨by rfl, ?_⟩) hP ?_
            rotate_left
            · (intro ww hSw; go_simp; try with_reducible rfl)
            (try simp only [Act.put, List.getElem_toArray, List.getElem_cons_zero, List.getElem_cons_succ, List.setIfInBounds_toArray, List.set_cons_zero, List.set_cons_succ])
            refine wpAnyH_take (i := 3) (v := ?_) rfl (by kernel_rfl) (by kernel_rfl) (by kernel_rfl) (fun _ _ _ h => h) (Or.inl ⟨by rfl, ?_⟩) hP ?_
            rotate_left
            · (intro ww hSw; go_simp; try with_reducible rfl)
            (try simp only [Act.put, List.getElem_toArray, List.getElem_cons_zero, List.getElem_cons_succ, List.setIfInBounds_toArray, List.set_cons_zero, List.set_cons_succ])
            refine wpAnyH_take (i := 4) (v := ?_) rfl (by kernel_rfl) (by kernel_rfl) (by kernel_rfl) (fun _ _ _ h => h) (Or.inl ⟨by rfl, ?_⟩) hP ?_
            rotate_left
            · (intro ww hSw; have g0 := (hSw.cell (p := ⟨u.heap.size, 0, none⟩) hYlt).trans hYc0; go_simp; try with_reducible rfl)
            (try simp only [Act.put, List.getElem_toArray, List.getElem_cons_zero, List.getElem_cons_succ, List.setIfInBounds_toArray, List.set_cons_zero, List.set_cons_succ])
            refine wpAnyH_take (i := 5) (v := ?_) rfl (by kernel_rfl) (by kernel_rfl) (by kernel_rfl) (fun _ _ _ h => h) (Or.inl ⟨by rfl, ?_⟩) hP ?_
            rotate_left
            · (intro ww hSw; go_simp; try with_reducible rfl)
            (try simp only [Act.put, List.getElem_toArray, List.getElem_cons_zero, List.getElem_cons_succ, List.setIfInBounds_toArray, List.set_cons_zero, List.set_cons_succ])
            refine wpAnyH_take (i := 6) (v := ?_) rfl (by kernel_rfl) (by kernel_rfl) (by kernel_rfl) (fun _ _ _ h => h) (Or.inl ⟨by rfl, ?_⟩) hP ?_
            rotate_left
            · (intro ww hSw; go_simp; try with_reducible rfl)
            (try simp only [Act.put, List.getElem_toArray, List.getElem_cons_zero, List.getElem_cons_succ, List.setIfInBounds_toArray, List.set_cons_zero, List.set_cons_succ])
            refine wpAnyH_take (i := 7) (v := ?_) rfl (by kernel_rfl) (by kernel_rfl) (by kernel_rfl) (fun _ _ _ h => h) (Or.inl ⟨by rfl, ?_⟩) hP ?_
            rotate_left
            · (intro ww hSw; go_simp; try with_reducible rfl)
            (try simp only [Act.put, List.getElem_toArray, List.getElem_cons_zero, List.getElem_cons_succ, List.setIfInBounds_toArray, List.set_cons_zero, List.set_cons_succ])
            refine wpAnyH_take (i := 8) (v := ?_) rfl (by kernel_rfl) (by kernel_rfl) (by kernel_rfl) (fun _ _ _ h => h) (Or.inl ⟨by rfl, ?_⟩) hP ?_
            rotate_left
            · (intro ww hSw; go_simp; try with_reducible rfl)
            (try simp only [Act.put, List.getElem_toArray, List.getElem_cons_zero, List.getElem_cons_succ, List.setIfInBounds_toArray, List.set_cons_zero, List.set_cons_succ])
            refine wpAnyH_take (i := 9) (v := ?_) rfl (by kernel_rfl) (by kernel_rfl) (by kernel_rfl) (fun _ _ _ h => h) (Or.inl ⟨by rfl, ?_⟩) hP ?_
            rotate_left
            · (intro ww hSw; have g2 := (hSw.cell (p := ⟨w.heap.size + 1, 1, none⟩) hNlt).trans hNc1; go_simp; try with_reducible rfl)
            (try simp only [Act.put, List.getElem_toArray, List.getElem_cons_zero, List.getElem_cons_succ, List.setIfInBounds_toArray, List.set_cons_zero, List.set_cons_succ])
            refine wpAnyH_take (i := 10) (v := ?_) rfl (by kernel_rfl) (by kernel_rfl) (by kernel_rfl) (fun _ _ _ h => h) (Or.inl ⟨by rfl, ?_⟩) hP ?_
            rotate_left
            · (intro ww hSw; go_simp; try with_reducible rfl)
            (try simp only [Act.put, List.getElem_toArray, List.getElem_cons_zero, List.getElem_cons_succ, List.setIfInBounds_toArray, List.set_cons_zero, List.set_cons_succ])
            refine wpAnyH_take (i := 11) (v := ?_) rfl (by kernel_rfl) (by kernel_rfl) (by kernel_rfl) (fun _ _ _ h => h) (Or.inl ⟨by rfl, ?_⟩) hP ?_
            rotate_left
            · (intro ww hSw; go_simp; try with_reducible rfl)
            (try simp only [Act.put, List.getElem_toArray, List.getElem_cons_zero, List.getElem_cons_succ, List.setIfInBounds_toArray, List.set_cons_zero, List.set_cons_succ])
            refine wpAnyH_take (i := 12) (v := ?_) rfl (by kernel_rfl) (by kernel_rfl) (by kernel_rfl) (fun _ _ _ h => h) (Or.inl ⟨by rfl, ?_⟩) hP ?_
            rotate_left
            · (intro ww hSw; go_simp; try with_reducible rfl)
            (try simp only [Act.put, List.getElem_toArray, List.getElem_cons_zero, List.getElem_cons_succ, List.setIfInBounds_toArray, List.set_cons_zero, List.set_cons_succ])
            refine wpAnyH_ready (rs := [13, 14]) (by kernel_rfl) (by simp) ?_
            refine AllReadyH.cons rfl ?_ ?_
            · intro K' hK
              rw [if_pos (by rfl)]
              go_simp
              go_at_call 48
              refine (nthM _ _ _).mono ?_
              rintro e W1 ⟨rfl, hbq⟩
              replace hbq := ex_below hbq
              (try dsimp only)
              have hP2 := below_step hP hbq hZ
              have hZ2 := Nat.le_trans hZ hbq.size
              refine hK.out _ _ hP2 (fun _ => ?_)
              clear hK K'
              (try simp only [Act.put, List.getElem_toArray, List.getElem_cons_zero, List.getElem_cons_succ, List.setIfInBounds_toArray, List.set_cons_zero, List.set_cons_succ])
              clear hP hZ hbq
              have hP := hP2
              have hZ := hZ2
              clear hP2 hZ2
              refine wpAnyH_ready (rs := [14]) (by kernel_rfl) (by simp) ?_
              refine AllReadyH.cons rfl ?_ ?_
              · intro K' hK
                rw [if_pos (by rfl)]
                go_simp
                have hP2 := below_alloc hP hZ (.cells #[.int .u8 0, .int .i64 0] 54)
                refine hK.out _ _ hP2 (fun _ => ?_)
                clear hK K'
                (try simp only [Act.put, List.getElem_toArray, List.getElem_cons_zero, List.getElem_cons_succ, List.setIfInBounds_toArray, List.set_cons_zero, List.set_cons_succ])
                have hs_B := Side.fresh0 (W := W1) hZ #[.int .u8 0, .int .i64 0] 54
                replace hZ : we.heap.size ≤ (W1.alloc (.cells #[.int .u8 0, .int .i64 0] 54)).heap.size := by rw [World.size_alloc]; omega
                clear hP
                have hP := hP2
                clear hP2
                obtain ⟨W2, hWe⟩ : ∃ W2, (W1.alloc (.cells #[.int .u8 0, .int .i64 0] 54)) = W2 := ⟨_, rfl⟩
                rw [hWe] at hP hZ hs_B ⊢
                clear hWe
                refine wpAnyH_ready (rs := [15]) (by kernel_rfl) (by simp) ?_
                refine AllReadyH.cons rfl ?_ ?_
                · intro K' hK
                  rw [if_pos (by rfl)]
                  have c0 := obj_at hs_B.2.2.1 0 _ rfl
                  have c1 := obj_at hs_B.2.2.1 1 _ rfl
                  have f0 := obj_fz hs_B.2.2.1 0
                  have f1 := obj_fz hs_B.2.2.1 1
                  go_simp
                  refine hK.out _ _ (Below.setCell (p := ⟨W1.heap.size, 1, none⟩) (Below.setCell (p := ⟨W1.heap.size, 0, none⟩) hP hs_B.1 _) hs_B.1 _) (fun _ => ?_)
                  clear hK K'
                  (try simp only [Act.put, List.getElem_toArray, List.getElem_cons_zero, List.getElem_cons_succ, List.setIfInBounds_toArray, List.set_cons_zero, List.set_cons_succ])
                  refine wpAnyH_done (by kernel_rfl) ?_ _
                  refine NoPanic.normal ?_
                  go_wp2_with fail
                  go_meet
                  simp only [HR1.out, HR2.out, HR3.out, HR4.out]
                  exact ⟨_, rfl, set_two hs_B.2.2.1, hs_B.1, Below.setCell (Below.setCell hP hs_B.1 _) hs_B.1 _⟩
                exact AllReadyH.nil
              exact AllReadyH.nil
            refine AllReadyH.cons rfl ?_ ?_
            · intro K' hK
              rw [if_pos (by rfl)]
              go_simp
              have hP2 := below_alloc hP hZ (.cells #[.int .u8 0, .int .i64 0] 54)
              refine hK.out _ _ hP2 (fun _ => ?_)
              clear hK K'
              (try simp only [Act.put, List.getElem_toArray, List.getElem_cons_zero, List.getElem_cons_succ, List.setIfInBounds_toArray, List.set_cons_zero, List.set_cons_succ])
              have hs_B := Side.fresh0 (W := W0) hZ #[.int .u8 0, .int .i64 0] 54
              replace hZ : we.heap.size ≤ (W0.alloc (.cells #[.int .u8 0, .int .i64 0] 54)).heap.size := by rw [World.size_alloc]; omega
              clear hP
              have hP := hP2
              clear hP2
              obtain ⟨W4, hWe⟩ : ∃ W4, (W0.alloc (.cells #[.int .u8 0, .int .i64 0] 54)) = W4 := ⟨_, rfl⟩
              rw [hWe] at hP hZ hs_B ⊢
              clear hWe
              refine wpAnyH_ready (rs := [13]) (by kernel_rfl) (by simp) ?_
              refine AllReadyH.cons rfl ?_ ?_
              · intro K' hK
                rw [if_pos (by rfl)]
                go_simp
                go_at_call 48
                refine (nthM _ _ _).mono ?_
                rintro e W5 ⟨rfl, hbq⟩
                replace hbq := ex_below hbq
                (try dsimp only)
                replace hs_B := hs_B.below hbq
                have hP2 := below_step hP hbq hZ
                have hZ2 := Nat.le_trans hZ hbq.size
                refine hK.out _ _ hP2 (fun _ => ?_)
                clear hK K'
                (try simp only [Act.put, List.getElem_toArray, List.getElem_cons_zero, List.getElem_cons_succ, List.setIfInBounds_toArray, List.set_cons_zero, List.set_cons_succ])
                clear hP hZ hbq
                have hP := hP2
                have hZ := hZ2
                clear hP2 hZ2
                refine wpAnyH_ready (rs := [15]) (by kernel_rfl) (by simp) ?_
                refine AllReadyH.cons rfl ?_ ?_
                · intro K' hK
                  rw [if_pos (by rfl)]
                  have c0 := obj_at hs_B.2.2.1 0 _ rfl
                  have c1 := obj_at hs_B.2.2.1 1 _ rfl
                  have f0 := obj_fz hs_B.2.2.1 0
                  have f1 := obj_fz hs_B.2.2.1 1
                  go_simp
                  refine hK.out _ _ (Below.setCell (p := ⟨W0.heap.size, 1, none⟩) (Below.setCell (p := ⟨W0.heap.size, 0, none⟩) hP hs_B.1 _) hs_B.1 _) (fun _ => ?_)
                  clear hK K'
                  (try simp only [Act.put, List.getElem_toArray, List.getElem_cons_zero, List.getElem_cons_succ, List.setIfInBounds_toArray, List.set_cons_zero, List.set_cons_succ])
                  refine wpAnyH_done (by kernel_rfl) ?_ _
                  refine NoPanic.normal ?_
                  go_wp2_with fail
                  go_meet
                  simp only [HR1.out, HR2.out, HR3.out, HR4.out]
                  exact ⟨_, rfl, set_two hs_B.2.2.1, hs_B.1, Below.setCell (Below.setCell hP hs_B.1 _) hs_B.1 _⟩
                exact AllReadyH.nil
              exact AllReadyH.nil
            exact AllReadyH.nil
          case rest =>
            obtain ⟨bj, rfl, hJ, hbj, hb5⟩ := hcut
            obtain ⟨wf, rfl⟩ : ∃ wf : World, wf = wc := ⟨_, rfl⟩
            have szwf := hb5.size
            replace hG := hG.below hb5
            (try clear hGc0 hGc1 hGc2 hGlt)
            have hGc0 := hG.c0
            have hGc1 := hG.c1
            have hGc2 := hG.c2
            have hGlt := hG.lt
            replace hN := hN.below hb5
            (try clear hNc0 hNc1 hNlt)
            have hNc0 := hN.c0
            have hNc1 := hN.c1
            have hNlt := hN.lt
            replace hY := hY.below hb5
            (try clear hYc0 hYc1 hYlt)
            have hYc0 := hY.c0
            have hYc1 := hY.c1
            have hYlt := hY.lt
            replace hV := hV.ext hb5
            replace hW := below_step hW hb5 (by have := hW.size; omega)
            replace hp := hp.below hb5
            (try clear hpc0 hpc1 hplt)
            have hpc0 := hp.c0
            have hpc1 := hp.c1
            have hplt := hp.lt
            replace hI := hI.below hb5
            (try clear hIc0 hIc1 hIlt)
            have hIc0 := hI.c0
            have hIc1 := hI.c1
            have hIlt := hI.lt
            clear hb5
            have hJc0 := hJ.c0
            have hJc1 := hJ.c1
            have hJlt := hJ.lt
            go_upto_region 25 with (first
                | (clear tok6; go_at_call 40; refine (HK1.out _ (hV.ext (by (repeat (first | exact Below.refl _ _ | assumption | refine below_drewN ?_ _ | refine below_drew ?_ | refine below_gr ?_ ?_ _ | refine below_alloc ?_ ?_ _ | refine Below.setCell ?_ ?_ _ | refine below_step ?_ (by assumption) ?_ | omega | (simp only [zz] at *; omega)))))).mono ?_; rintro e u7 ⟨rfl, hb7⟩; replace hb7 := ex_below hb7; have bel7 : Below wf.heap.size wf u7 := (by (repeat (first | exact Below.refl _ _ | assumption | refine below_drewN ?_ _ | refine below_drew ?_ | refine below_gr ?_ ?_ _ | refine below_alloc ?_ ?_ _ | refine Below.setCell ?_ ?_ _ | refine below_step ?_ (by assumption) ?_ | omega | (simp only [zz] at *; omega)))); clear hb7; have sz7 := bel7.size; replace hG := hG.below bel7; replace hN := hN.below bel7; replace hY := hY.below bel7; replace hV := hV.ext bel7; replace hW := below_step hW bel7 (by have := hW.size; omega); replace hp := hp.below bel7; replace hI := hI.below bel7; replace hJ := hJ.below bel7; (try clear hGc0 hGc1 hGc2 hGlt); have hGc0 := hG.c0; have hGc1 := hG.c1; have hGc2 := hG.c2; have hGlt := hG.lt; (try clear hNc0 hNc1 hNlt); have hNc0 := hN.c0; have hNc1 := hN.c1; have hNlt := hN.lt; (try clear hYc0 hYc1 hYlt); have hYc0 := hY.c0; have hYc1 := hY.c1; have hYlt := hY.lt; (try clear hpc0 hpc1 hplt); have hpc0 := hp.c0; have hpc1 := hp.c1; have hplt := hp.lt; (try clear hIc0 hIc1 hIlt); have hIc0 := hI.c0; have hIc1 := hI.c1; have hIlt := hI.lt; (try clear hJc0 hJc1 hJlt); have hJc0 := hJ.c0; have hJc1 := hJ.c1; have hJlt := hJ.lt; clear bel7; have tok7 : True := trivial)
                | (clear tok7; go_at_call 40; refine (HK2.out _ (hV.ext (by (repeat (first | exact Below.refl _ _ | assumption | refine below_drewN ?_ _ | refine below_drew ?_ | refine below_gr ?_ ?_ _ | refine below_alloc ?_ ?_ _ | refine Below.setCell ?_ ?_ _ | refine below_step ?_ (by assumption) ?_ | omega | (simp only [zz] at *; omega)))))).mono ?_; rintro e u8 ⟨rfl, hb8⟩; replace hb8 := ex_below hb8; have bel8 : Below u7.heap.size u7 u8 := (by (repeat (first | exact Below.refl _ _ | assumption | refine below_drewN ?_ _ | refine below_drew ?_ | refine below_gr ?_ ?_ _ | refine below_alloc ?_ ?_ _ | refine Below.setCell ?_ ?_ _ | refine below_step ?_ (by assumption) ?_ | omega | (simp only [zz] at *; omega)))); clear hb8; have sz8 := bel8.size; replace hG := hG.below bel8; replace hN := hN.below bel8; replace hY := hY.below bel8; replace hV := hV.ext bel8; replace hW := below_step hW bel8 (by have := hW.size; omega); replace hp := hp.below bel8; replace hI := hI.below bel8; replace hJ := hJ.below bel8; (try clear hGc0 hGc1 hGc2 hGlt); have hGc0 := hG.c0; have hGc1 := hG.c1; have hGc2 := hG.c2; have hGlt := hG.lt; (try clear hNc0 hNc1 hNlt); have hNc0 := hN.c0; have hNc1 := hN.c1; have hNlt := hN.lt; (try clear hYc0 hYc1 hYlt); have hYc0 := hY.c0; have hYc1 := hY.c1; have hYlt := hY.lt; (try clear hpc0 hpc1 hplt); have hpc0 := hp.c0; have hpc1 := hp.c1; have hplt := hp.lt; (try clear hIc0 hIc1 hIlt); have hIc0 := hI.c0; have hIc1 := hI.c1; have hIlt := hI.lt; (try clear hJc0 hJc1 hJlt); have hJc0 := hJ.c0; have hJc1 := hJ.c1; have hJlt := hJ.lt; clear bel8; have tok8 : True := trivial))
            rcases HZ.out with ⟨rfl, rfl⟩ | rfl | ⟨rfl, rfl, rfl⟩
            · go_wp2_with (first
                    | (clear tok8; go_at_call 49; refine (HBF.out _).mono ?_; rintro e u9 ⟨rfl, hb9⟩; replace hb9 := ex_below hb9; have bel9 : Below u8.heap.size u8 u9 := (by (repeat (first | exact Below.refl _ _ | assumption | refine below_drewN ?_ _ | refine below_drew ?_ | refine below_gr ?_ ?_ _ | refine below_alloc ?_ ?_ _ | refine Below.setCell ?_ ?_ _ | refine below_step ?_ (by assumption) ?_ | omega | (simp only [zz] at *; omega)))); clear hb9; have sz9 := bel9.size; replace hG := hG.below bel9; replace hN := hN.below bel9; replace hY := hY.below bel9; replace hV := hV.ext bel9; replace hW := below_step hW bel9 (by have := hW.size; omega); replace hp := hp.below bel9; replace hI := hI.below bel9; replace hJ := hJ.below bel9; (try clear hGc0 hGc1 hGc2 hGlt); have hGc0 := hG.c0; have hGc1 := hG.c1; have hGc2 := hG.c2; have hGlt := hG.lt; (try clear hNc0 hNc1 hNlt); have hNc0 := hN.c0; have hNc1 := hN.c1; have hNlt := hN.lt; (try clear hYc0 hYc1 hYlt); have hYc0 := hY.c0; have hYc1 := hY.c1; have hYlt := hY.lt; (try clear hpc0 hpc1 hplt); have hpc0 := hp.c0; have hpc1 := hp.c1; have hplt := hp.lt; (try clear hIc0 hIc1 hIlt); have hIc0 := hI.c0; have hIc1 := hI.c1; have hIlt := hI.lt; (try clear hJc0 hJc1 hJlt); have hJc0 := hJ.c0; have hJc1 := hJ.c1; have hJlt := hJ.lt; clear bel9; have tok9 : True := trivial)
                    | (clear tok9; go_at_call 18; refine (works_any _).mono ?_; rintro e u10 ⟨rfl, hb10⟩; replace hb10 := ex_below hb10; have bel10 : Below u9.heap.size u9 u10 := (by (repeat (first | exact Below.refl _ _ | assumption | refine below_drewN ?_ _ | refine below_drew ?_ | refine below_gr ?_ ?_ _ | refine below_alloc ?_ ?_ _ | refine Below.setCell ?_ ?_ _ | refine below_step ?_ (by assumption) ?_ | omega | (simp only [zz] at *; omega)))); clear hb10; have sz10 := bel10.size; replace hG := hG.below bel10; replace hN := hN.below bel10; replace hY := hY.below bel10; replace hV := hV.ext bel10; replace hW := below_step hW bel10 (by have := hW.size; omega); replace hp := hp.below bel10; replace hI := hI.below bel10; replace hJ := hJ.below bel10; (try clear hGc0 hGc1 hGc2 hGlt); have hGc0 := hG.c0; have hGc1 := hG.c1; have hGc2 := hG.c2; have hGlt := hG.lt; (try clear hNc0 hNc1 hNlt); have hNc0 := hN.c0; have hNc1 := hN.c1; have hNlt := hN.lt; (try clear hYc0 hYc1 hYlt); have hYc0 := hY.c0; have hYc1 := hY.c1; have hYlt := hY.lt; (try clear hpc0 hpc1 hplt); have hpc0 := hp.c0; have hpc1 := hp.c1; have hplt := hp.lt; (try clear hIc0 hIc1 hIlt); have hIc0 := hI.c0; have hIc1 := hI.c1; have hIlt := hI.lt; (try clear hJc0 hJc1 hJlt); have hJc0 := hJ.c0; have hJc1 := hJ.c1; have hJlt := hJ.lt; clear bel10; have tok10 : True := trivial))
              go_ret
              exact gives_of rfl hW
            · go_wp2_with (first
                    | (clear tok8; go_at_call 49; refine (HBF.out _).mono ?_; rintro e u9 ⟨rfl, hb9⟩; replace hb9 := ex_below hb9; have bel9 : Below u8.heap.size u8 u9 := (by (repeat (first | exact Below.refl _ _ | assumption | refine below_drewN ?_ _ | refine below_drew ?_ | refine below_gr ?_ ?_ _ | refine below_alloc ?_ ?_ _ | refine Below.setCell ?_ ?_ _ | refine below_step ?_ (by assumption) ?_ | omega | (simp only [zz] at *; omega)))); clear hb9; have sz9 := bel9.size; replace hG := hG.below bel9; replace hN := hN.below bel9; replace hY := hY.below bel9; replace hV := hV.ext bel9; replace hW := below_step hW bel9 (by have := hW.size; omega); replace hp := hp.below bel9; replace hI := hI.below bel9; replace hJ := hJ.below bel9; (try clear hGc0 hGc1 hGc2 hGlt); have hGc0 := hG.c0; have hGc1 := hG.c1; have hGc2 := hG.c2; have hGlt := hG.lt; (try clear hNc0 hNc1 hNlt); have hNc0 := hN.c0; have hNc1 := hN.c1; have hNlt := hN.lt; (try clear hYc0 hYc1 hYlt); have hYc0 := hY.c0; have hYc1 := hY.c1; have hYlt := hY.lt; (try clear hpc0 hpc1 hplt); have hpc0 := hp.c0; have hpc1 := hp.c1; have hplt := hp.lt; (try clear hIc0 hIc1 hIlt); have hIc0 := hI.c0; have hIc1 := hI.c1; have hIlt := hI.lt; (try clear hJc0 hJc1 hJlt); have hJc0 := hJ.c0; have hJc1 := hJ.c1; have hJlt := hJ.lt; clear bel9; have tok9 : True := trivial)
                    | (clear tok9; go_at_call 18; refine (works_any _).mono ?_; rintro e u10 ⟨rfl, hb10⟩; replace hb10 := ex_below hb10; have bel10 : Below u9.heap.size u9 u10 := (by (repeat (first | exact Below.refl _ _ | assumption | refine below_drewN ?_ _ | refine below_drew ?_ | refine below_gr ?_ ?_ _ | refine below_alloc ?_ ?_ _ | refine Below.setCell ?_ ?_ _ | refine below_step ?_ (by assumption) ?_ | omega | (simp only [zz] at *; omega)))); clear hb10; have sz10 := bel10.size; replace hG := hG.below bel10; replace hN := hN.below bel10; replace hY := hY.below bel10; replace hV := hV.ext bel10; replace hW := below_step hW bel10 (by have := hW.size; omega); replace hp := hp.below bel10; replace hI := hI.below bel10; replace hJ := hJ.below bel10; (try clear hGc0 hGc1 hGc2 hGlt); have hGc0 := hG.c0; have hGc1 := hG.c1; have hGc2 := hG.c2; have hGlt := hG.lt; (try clear hNc0 hNc1 hNlt); have hNc0 := hN.c0; have hNc1 := hN.c1; have hNlt := hN.lt; (try clear hYc0 hYc1 hYlt); have hYc0 := hY.c0; have hYc1 := hY.c1; have hYlt := hY.lt; (try clear hpc0 hpc1 hplt); have hpc0 := hp.c0; have hpc1 := hp.c1; have hplt := hp.lt; (try clear hIc0 hIc1 hIlt); have hIc0 := hI.c0; have hIc1 := hI.c1; have hIlt := hI.lt; (try clear hJc0 hJc1 hJlt); have hJc0 := hJ.c0; have hJc1 := hJ.c1; have hJlt := hJ.lt; clear bel10; have tok10 : True := trivial))
              go_ret
              exact gives_of rfl hW
            · go_wp2_with (first
                    | (clear tok8; go_at_call 49; refine (HBF.out _).mono ?_; rintro e u9 ⟨rfl, hb9⟩; replace hb9 := ex_below hb9; have bel9 : Below u8.heap.size u8 u9 := (by (repeat (first | exact Below.refl _ _ | assumption | refine below_drewN ?_ _ | refine below_drew ?_ | refine below_gr ?_ ?_ _ | refine below_alloc ?_ ?_ _ | refine Below.setCell ?_ ?_ _ | refine below_step ?_ (by assumption) ?_ | omega | (simp only [zz] at *; omega)))); clear hb9; have sz9 := bel9.size; replace hG := hG.below bel9; replace hN := hN.below bel9; replace hY := hY.below bel9; replace hV := hV.ext bel9; replace hW := below_step hW bel9 (by have := hW.size; omega); replace hp := hp.below bel9; replace hI := hI.below bel9; replace hJ := hJ.below bel9; (try clear hGc0 hGc1 hGc2 hGlt); have hGc0 := hG.c0; have hGc1 := hG.c1; have hGc2 := hG.c2; have hGlt := hG.lt; (try clear hNc0 hNc1 hNlt); have hNc0 := hN.c0; have hNc1 := hN.c1; have hNlt := hN.lt; (try clear hYc0 hYc1 hYlt); have hYc0 := hY.c0; have hYc1 := hY.c1; have hYlt := hY.lt; (try clear hpc0 hpc1 hplt); have hpc0 := hp.c0; have hpc1 := hp.c1; have hplt := hp.lt; (try clear hIc0 hIc1 hIlt); have hIc0 := hI.c0; have hIc1 := hI.c1; have hIlt := hI.lt; (try clear hJc0 hJc1 hJlt); have hJc0 := hJ.c0; have hJc1 := hJ.c1; have hJlt := hJ.lt; clear bel9; have tok9 : True := trivial)
                    | (clear tok9; go_at_call 18; refine (works_any _).mono ?_; rintro e u10 ⟨rfl, hb10⟩; replace hb10 := ex_below hb10; have bel10 : Below u9.heap.size u9 u10 := (by (repeat (first | exact Below.refl _ _ | assumption | refine below_drewN ?_ _ | refine below_drew ?_ | refine below_gr ?_ ?_ _ | refine below_alloc ?_ ?_ _ | refine Below.setCell ?_ ?_ _ | refine below_step ?_ (by assumption) ?_ | omega | (simp only [zz] at *; omega)))); clear hb10; have sz10 := bel10.size; replace hG := hG.below bel10; replace hN := hN.below bel10; replace hY := hY.below bel10; replace hV := hV.ext bel10; replace hW := below_step hW bel10 (by have := hW.size; omega); replace hp := hp.below bel10; replace hI := hI.below bel10; replace hJ := hJ.below bel10; (try clear hGc0 hGc1 hGc2 hGlt); have hGc0 := hG.c0; have hGc1 := hG.c1; have hGc2 := hG.c2; have hGlt := hG.lt; (try clear hNc0 hNc1 hNlt); have hNc0 := hN.c0; have hNc1 := hN.c1; have hNlt := hN.lt; (try clear hYc0 hYc1 hYlt); have hYc0 := hY.c0; have hYc1 := hY.c1; have hYlt := hY.lt; (try clear hpc0 hpc1 hplt); have hpc0 := hp.c0; have hpc1 := hp.c1; have hplt := hp.lt; (try clear hIc0 hIc1 hIlt); have hIc0 := hI.c0; have hIc1 := hI.c1; have hIlt := hI.lt; (try clear hJc0 hJc1 hJlt); have hJc0 := hJ.c0; have hJc1 := hJ.c1; have hJlt := hJ.lt; clear bel10; have tok10 : True := trivial))
              go_ret
              exact gives_of rfl hW
end Go.Proofs.Ytafncmgijbkomaa
