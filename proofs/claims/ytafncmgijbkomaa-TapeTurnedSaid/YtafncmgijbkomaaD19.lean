/- Proved here: the law TapeTurned, a part of the proofs about the tape laws. Conditions: those that each theorem names, no others. -/
import Derived.Test.YtafncmgijbkomaaP30
import Derived.WalkKit
import Derived.WalkSpells
import Derived.WalkLawsBesides
import Derived.Below
import Derived.Deep.QuietTactic
import Derived.BigQuiet
import Derived.Deep.Light
import Derived.Test.YtafncmgijbkomaaE13
import Derived.Deep.RegionHeld3
import Derived.Deep.RegionLaw
import Derived.Deep.DeepCutAuto
import Derived.Deep.CutBlock

set_option linter.unusedSimpArgs false
set_option linter.unusedVariables false
namespace Go.Proofs.Ytafncmgijbkomaa
open Go.RowKit Go.Maps Go.Lib
/-- a variable of four cells -/
def Obj4 (W : World) (B : Nat) (t : TypeId) (a b c d : Value) : Prop := W.heap[B]? = some (.cells #[a, b, c, d] t (0, 0))
theorem Obj4.lt {W : World} {B : Nat} {t : TypeId} {a b c d : Value} (h : Obj4 W B t a b c d) : B < W.heap.size := (Array.getElem?_eq_some_iff.1 (show W.heap[B]? = _ from h)).1
theorem Obj4.c0 {W : World} {B : Nat} {t : TypeId} {a b c d : Value} (h : Obj4 W B t a b c d) : W.cell? ⟨B, 0, none⟩ = some a := by simp [World.cell?, show W.heap[B]? = _ from h]
theorem Obj4.c1 {W : World} {B : Nat} {t : TypeId} {a b c d : Value} (h : Obj4 W B t a b c d) : W.cell? ⟨B, 1, none⟩ = some b := by simp [World.cell?, show W.heap[B]? = _ from h]
theorem Obj4.c2 {W : World} {B : Nat} {t : TypeId} {a b c d : Value} (h : Obj4 W B t a b c d) : W.cell? ⟨B, 2, none⟩ = some c := by simp [World.cell?, show W.heap[B]? = _ from h]
theorem Obj4.c3 {W : World} {B : Nat} {t : TypeId} {a b c d : Value} (h : Obj4 W B t a b c d) : W.cell? ⟨B, 3, none⟩ = some d := by simp [World.cell?, show W.heap[B]? = _ from h]
theorem Obj4.below {W W' : World} {B : Nat} {t : TypeId} {a b c d : Value} (h : Obj4 W B t a b c d) (hb : Below W.heap.size W W') : Obj4 W' B t a b c d := (hb.block B h.lt).trans h
/-- both sets of tapes, while a loop fills them -/
def Two (u wr : World) (p q : Nat) (W : Int) (A1 A2 : Option Addr) (k c1 c2 : Nat) (xs ys : List Value) : Prop :=
  Side u.heap.size wr (.slice A1 k c1) p (.cells #[.int .i64 W, .slice A1 k c1] 24 (0, 0)) ∧ Side u.heap.size wr (.slice A1 k c1) q (.cells #[.int .i64 W, .slice A2 k c2] 24 (0, 0)) ∧
  Side u.heap.size wr (.slice A2 k c2) p (.cells #[.int .i64 W, .slice A1 k c1] 24 (0, 0)) ∧ Side u.heap.size wr (.slice A2 k c2) q (.cells #[.int .i64 W, .slice A2 k c2] 24 (0, 0)) ∧
  wr.ownsRow u.heap.size 9 1 (.slice A1 k c1) k xs ∧ wr.ownsRow u.heap.size 9 1 (.slice A2 k c2) k ys ∧ Apart (.slice A1 k c1) (.slice A2 k c2) ∧ Below u.heap.size u wr
theorem Two.ext {u wr w' : World} {p q : Nat} {W : Int} {A1 A2 : Option Addr} {k c1 c2 : Nat} {xs ys : List Value} (h : Two u wr p q W A1 A2 k c1 c2 xs ys) (hb : Below wr.heap.size wr w') : Two u w' p q W A1 A2 k c1 c2 xs ys :=
  ⟨h.1.below hb, h.2.1.below hb, h.2.2.1.below hb, h.2.2.2.1.below hb, ownsRow_grows h.2.2.2.2.1 hb, ownsRow_grows h.2.2.2.2.2.1 hb, h.2.2.2.2.2.2.1, below_step h.2.2.2.2.2.2.2 hb h.2.2.2.2.2.2.2.size⟩
theorem Two.start {u w : World} {p q : Nat} {W : Int} (hp : u.heap.size ≤ p) (hq : u.heap.size ≤ q) (h1 : w.heap[p]? = some (.cells #[.int .i64 W, .slice none 0 0] 24 (0, 0))) (h2 : w.heap[q]? = some (.cells #[.int .i64 W, .slice none 0 0] 24 (0, 0))) (hb : Below u.heap.size u w) : Two u w p q W none none 0 0 0 [] [] := by
  have l1 := (Array.getElem?_eq_some_iff.1 h1).1
  have l2 := (Array.getElem?_eq_some_iff.1 h2).1
  exact ⟨⟨hp, l1, h1, fun g e => by cases e⟩, ⟨hq, l2, h2, fun g e => by cases e⟩, ⟨hp, l1, h1, fun g e => by cases e⟩, ⟨hq, l2, h2, fun g e => by cases e⟩, World.ownsRow_nil _ _ _ _, World.ownsRow_nil _ _ _ _, Apart.none _ _, hb⟩
set_option maxRecDepth 100000 in
set_option maxHeartbeats 16000000 in
theorem turned_law (W : Int) (A : Option Addr) (ts : List ByteArray) (c : Nat) (w : World) (hA : Strs w A ts) (hl9 : ts.length ≤ 9223372036854775807) (hs9 : ∀ s, s ∈ ts → s.size ≤ 9223372036854775807) (l w0 w1 : Nat) (hl8 : l < 256) (h08 : w0 < 256) (h18 : w1 < 256) : Calls Try.prog 13 #[.agg #[.int .i64 W, .slice A ts.length c], .int .u8 (l : Nat), .agg #[.int .u8 (w0 : Nat), .int .u8 (w1 : Nat)]] w (Gives w (.bool true)) := by
  have tok0 : True := trivial
  have HFI := hide (fun w' (hA : Strs w' A ts) => fine_any W A ts c w' hA hl9 hs9)
  go_enter Try.func13, Try.ntmps13
  go_upto_region 1 with fail
  have hbw : Below w.heap.size w ((w.alloc (.cells #[.int .i64 W, .slice A ts.length c] 24)).alloc (.cells #[.int .u8 (w0 : Nat), .int .u8 (w1 : Nat)] 66)) := by (repeat (first | exact Below.refl _ _ | assumption | (refine below_gr ?_ (by (first | omega | (simp only [zz] at *; omega))) _) | (refine below_alloc ?_ (by (first | omega | (simp only [zz] at *; omega))) _) | (refine Below.setCell ?_ (by (first | omega | (simp only [zz] at *; omega))) _) | refine below_drewN ?_ _ | refine below_drew ?_ | (refine below_step ?_ (by assumption) (by (first | omega | (simp only [zz] at *; omega))))))
  have hX : ObjV ((w.alloc (.cells #[.int .i64 W, .slice A ts.length c] 24)).alloc (.cells #[.int .u8 (w0 : Nat), .int .u8 (w1 : Nat)] 66)) w.heap.size 24 (.int .i64 W) (.slice A ts.length c) := (ObjV.new w _ _ _).below (below_alloc (Below.refl _ _) (Nat.le_refl _) _)
  have hN : ObjV ((w.alloc (.cells #[.int .i64 W, .slice A ts.length c] 24)).alloc (.cells #[.int .u8 (w0 : Nat), .int .u8 (w1 : Nat)] 66)) (w.heap.size + 1) 66 (.int .u8 (w0 : Nat)) (.int .u8 (w1 : Nat)) := by
    have h := ObjV.new (w.alloc (.cells #[.int .i64 W, .slice A ts.length c] 24)) 66 (.int .u8 (w0 : Nat)) (.int .u8 (w1 : Nat))
    rwa [World.size_alloc] at h
  obtain ⟨wa, hwa⟩ : ∃ wa, ((w.alloc (.cells #[.int .i64 W, .slice A ts.length c] 24)).alloc (.cells #[.int .u8 (w0 : Nat), .int .u8 (w1 : Nat)] 66)) = wa := ⟨_, rfl⟩
  rw [hwa] at hbw hX hN ⊢
  clear hwa
  replace hA := hA.ext hbw
  have hW : Below w.heap.size w wa := hbw
  have hXc0 := hX.c0
  have hXc1 := hX.c1
  have hXlt := hX.lt
  have hNc0 := hN.c0
  have hNc1 := hN.c1
  have hNlt := hN.lt
  cases hf : fineB W ts with
  | false =>
    rw [hf] at HFI
    go_wp2_with (first
    | (clear tok0; go_at_call 42; refine (HFI.out _ (hA.ext (by (repeat (first | exact Below.refl _ _ | assumption | refine below_drewN ?_ _ | refine below_drew ?_ | refine below_gr ?_ ?_ _ | refine below_alloc ?_ ?_ _ | refine Below.setCell ?_ ?_ _ | refine below_step ?_ (by assumption) ?_ | omega | (simp only [zz] at *; omega)))))).mono ?_; rintro e u1 ⟨rfl, hb1⟩; replace hb1 := ex_below hb1; have bel1 : Below wa.heap.size wa u1 := (by (repeat (first | exact Below.refl _ _ | assumption | refine below_drewN ?_ _ | refine below_drew ?_ | refine below_gr ?_ ?_ _ | refine below_alloc ?_ ?_ _ | refine Below.setCell ?_ ?_ _ | refine below_step ?_ (by assumption) ?_ | omega | (simp only [zz] at *; omega)))); clear hb1; have sz1 := bel1.size; replace hA := hA.ext bel1; replace hX := hX.below bel1; replace hN := hN.below bel1; replace hW := below_step hW bel1 (by have := hW.size; omega); (try clear hXc0 hXc1 hXlt); have hXc0 := hX.c0; have hXc1 := hX.c1; have hXlt := hX.lt; (try clear hNc0 hNc1 hNlt); have hNc0 := hN.c0; have hNc1 := hN.c1; have hNlt := hN.lt; clear bel1; have tok1 : True := trivial)
    | (clear tok1; go_at_call 18; refine (works_any _).mono ?_; rintro e u2 ⟨rfl, hb2⟩; replace hb2 := ex_below hb2; have bel2 : Below u1.heap.size u1 u2 := (by (repeat (first | exact Below.refl _ _ | assumption | refine below_drewN ?_ _ | refine below_drew ?_ | refine below_gr ?_ ?_ _ | refine below_alloc ?_ ?_ _ | refine Below.setCell ?_ ?_ _ | refine below_step ?_ (by assumption) ?_ | omega | (simp only [zz] at *; omega)))); clear hb2; have sz2 := bel2.size; replace hA := hA.ext bel2; replace hX := hX.below bel2; replace hN := hN.below bel2; replace hW := below_step hW bel2 (by have := hW.size; omega); (try clear hXc0 hXc1 hXlt); have hXc0 := hX.c0; have hXc1 := hX.c1; have hXlt := hX.lt; (try clear hNc0 hNc1 hNlt); have hNc0 := hN.c0; have hNc1 := hN.c1; have hNlt := hN.lt; clear bel2; have tok2 : True := trivial))
    go_ret
    exact gives_of rfl hW
  | true =>
    rw [hf] at HFI
    obtain ⟨hl, hsz⟩ := fine_len hf
    have hc := fine_chk hf
    obtain ⟨hW1, hW2, h0, h3, hsm, hfi, -, hlo⟩ := chk_val hc
    have hW0 : W ≠ 0 := by omega
    obtain ⟨n, hxn, hn⟩ : ∃ n : Nat, (l : Int) % 21 = (n : Nat) ∧ n ≤ 20 := ⟨l % 21, by omega, by omega⟩
    obtain ⟨b1, hwb1, hb1, hwin1, hb1e⟩ := win_of hW1 hW2 w0
    obtain ⟨b2, hwb2, hb2, hwin2, hb2e⟩ := win_of hW1 hW2 w1
    have HR1 := hide (raw_win hW1 hW2 h08 hwb1)
    have HR2 := hide (raw_win hW1 hW2 h18 hwb2)
    have HE1 := hide hb1e
    have HE2 := hide hb2e
    clear hb1e hb2e
    go_upto_region 3 with (first
    | (clear tok0; go_at_call 42; refine (HFI.out _ (hA.ext (by (repeat (first | exact Below.refl _ _ | assumption | refine below_drewN ?_ _ | refine below_drew ?_ | refine below_gr ?_ ?_ _ | refine below_alloc ?_ ?_ _ | refine Below.setCell ?_ ?_ _ | refine below_step ?_ (by assumption) ?_ | omega | (simp only [zz] at *; omega)))))).mono ?_; rintro e u1 ⟨rfl, hb1⟩; replace hb1 := ex_below hb1; have bel1 : Below wa.heap.size wa u1 := (by (repeat (first | exact Below.refl _ _ | assumption | refine below_drewN ?_ _ | refine below_drew ?_ | refine below_gr ?_ ?_ _ | refine below_alloc ?_ ?_ _ | refine Below.setCell ?_ ?_ _ | refine below_step ?_ (by assumption) ?_ | omega | (simp only [zz] at *; omega)))); clear hb1; have sz1 := bel1.size; replace hA := hA.ext bel1; replace hX := hX.below bel1; replace hN := hN.below bel1; replace hW := below_step hW bel1 (by have := hW.size; omega); (try clear hXc0 hXc1 hXlt); have hXc0 := hX.c0; have hXc1 := hX.c1; have hXlt := hX.lt; (try clear hNc0 hNc1 hNlt); have hNc0 := hN.c0; have hNc1 := hN.c1; have hNlt := hN.lt; clear bel1; have tok1 : True := trivial))
    go_cut [7, 8] from 36 to 55 (fun sx sy wx => sx = .int .u8 (b1 : Nat) ∧ sy = .int .u8 (b2 : Nat) ∧ Below u1.heap.size u1 wx)
    case first =>
      as_aux_lemma =>
      refine wp_region_grow (by kernel_rfl) (by kernel_rfl) ?_
      repeat (go_big_quiet_step (fail))
      refine wpQuiet_nil ?_
      intro u hbv
      replace hbv := ex_below hbv
      go_wp2
      go_meet
      refine ⟨?_, ?_, hbv⟩
      · first | (rw [hwb1]; done) | (rw [HR1.out]; done) | rw [HE1.out]
      · first | (rw [hwb2]; done) | (rw [HR2.out]; done) | rw [HE2.out]
    case rest =>
    obtain ⟨rfl, rfl, hbv⟩ := hcut
    obtain ⟨u, rfl⟩ : ∃ u : World, u = wc := ⟨_, rfl⟩
    have szu := hbv.size
    replace hA := hA.ext hbv
    replace hX := hX.below hbv
    (try clear hXc0 hXc1 hXlt)
    have hXc0 := hX.c0
    have hXc1 := hX.c1
    have hXlt := hX.lt
    replace hN := hN.below hbv
    (try clear hNc0 hNc1 hNlt)
    have hNc0 := hN.c0
    have hNc1 := hN.c1
    have hNlt := hN.lt
    replace hW := below_step hW hbv (by have := hW.size; omega)
    clear hbv
    go_upto_region 4 with fail
    have hP0 := Below.refl u.heap.size u
    have hO_N : u.ownsRow u.heap.size 9 1 (.slice none 0 0) 0 [] := World.ownsRow_nil _ _ _ _
    go_cut [9, 10] from 56 to 61 (fun sx sy wx => ∃ p q : Nat, sx = .pointer (some ⟨p, 0, none⟩) ∧ sy = .pointer (some ⟨q, 0, none⟩) ∧ wx.heap[p]? = some (.cells #[.int .i64 W, .slice none 0 0] 24 (0, 0)) ∧ wx.heap[q]? = some (.cells #[.int .i64 W, .slice none 0 0] 24 (0, 0)) ∧ p ≠ q ∧ u.heap.size ≤ p ∧ u.heap.size ≤ q ∧ Below u.heap.size u wx)
    case first =>
      as_aux_lemma =>
      refine wp_region_noPanic ?_
      refine wp_region_F [] (fun w' => Below u.heap.size u w') (fun w' => True) (by kernel_rfl) ?_
      have hP : Below u.heap.size u u.drew := below_drew hP0
      have hZ : u.heap.size ≤ u.drew.heap.size := hP0.size
      replace hO_N := ownsRow_grows hO_N (below_drew (Below.refl _ _))
      obtain ⟨W0, hW0⟩ : ∃ W0, u.drew = W0 := ⟨_, rfl⟩
      rw [hW0] at hP hZ hO_N ⊢
      clear hW0
      refine wpAnyF_take0 (i := 0) (v := ?_) rfl rfl (by kernel_rfl) (by kernel_rfl) (by kernel_rfl) (fun _ _ _ h => h) (Or.inl ⟨by rfl, ?_⟩) hP (fun _ => trivial) ?_
      rotate_left
      · (intro ww hSw; go_simp; try with_reducible rfl)
      (try simp only [Act.put, List.getElem_toArray, List.getElem_cons_zero, List.getElem_cons_succ, List.setIfInBounds_toArray, List.set_cons_zero, List.set_cons_succ])
      refine wpAnyF_take0 (i := 1) (v := ?_) rfl rfl (by kernel_rfl) (by kernel_rfl) (by kernel_rfl) (fun _ _ _ h => h) (Or.inl ⟨by rfl, ?_⟩) hP (fun _ => trivial) ?_
      rotate_left
      · (intro ww hSw; have g0 := (hSw.cell (p := ⟨w.heap.size, 0, none⟩) hXlt).trans hXc0; go_simp; try with_reducible rfl)
      (try simp only [Act.put, List.getElem_toArray, List.getElem_cons_zero, List.getElem_cons_succ, List.setIfInBounds_toArray, List.set_cons_zero, List.set_cons_succ])
      refine wpAnyF_take0 (i := 2) (v := ?_) rfl rfl (by kernel_rfl) (by kernel_rfl) (by kernel_rfl) (fun _ _ _ h => h) (Or.inl ⟨by rfl, ?_⟩) hP (fun _ => trivial) ?_
      rotate_left
      · (intro ww hSw; go_simp; try with_reducible rfl)
      (try simp only [Act.put, List.getElem_toArray, List.getElem_cons_zero, List.getElem_cons_succ, List.setIfInBounds_toArray, List.set_cons_zero, List.set_cons_succ])
      refine wpAnyF_take0 (i := 3) (v := ?_) rfl rfl (by kernel_rfl) (by kernel_rfl) (by kernel_rfl) (fun _ _ _ h => h) (Or.inl ⟨by rfl, ?_⟩) hP (fun _ => trivial) ?_
      rotate_left
      · (intro ww hSw; go_simp; try with_reducible rfl)
      (try simp only [Act.put, List.getElem_toArray, List.getElem_cons_zero, List.getElem_cons_succ, List.setIfInBounds_toArray, List.set_cons_zero, List.set_cons_succ])
      refine wpAnyF_take0 (i := 4) (v := ?_) rfl rfl (by kernel_rfl) (by kernel_rfl) (by kernel_rfl) (fun _ _ _ h => h) (Or.inl ⟨by rfl, ?_⟩) hP (fun _ => trivial) ?_
      rotate_left
      · (intro ww hSw; have g0 := (hSw.cell (p := ⟨w.heap.size, 0, none⟩) hXlt).trans hXc0; go_simp; try with_reducible rfl)
      (try simp only [Act.put, List.getElem_toArray, List.getElem_cons_zero, List.getElem_cons_succ, List.setIfInBounds_toArray, List.set_cons_zero, List.set_cons_succ])
      refine wpAnyF_take0 (i := 5) (v := ?_) rfl rfl (by kernel_rfl) (by kernel_rfl) (by kernel_rfl) (fun _ _ _ h => h) (Or.inl ⟨by rfl, ?_⟩) hP (fun _ => trivial) ?_
      rotate_left
      · (intro ww hSw; go_simp; try with_reducible rfl)
      (try simp only [Act.put, List.getElem_toArray, List.getElem_cons_zero, List.getElem_cons_succ, List.setIfInBounds_toArray, List.set_cons_zero, List.set_cons_succ])
      refine wpAnyF_ready (rs := [6, 7]) (by kernel_rfl) (by simp) ?_
      refine AllReadyF.cons rfl ?_ ?_
      · intro K' hK
        rw [if_pos (by rfl)]
        go_simp
        have hP2 := below_alloc hP hZ (.cells #[.int .i64 0, .slice none 0 0] 24)
        have hs_N_B := Side.fresh hZ hO_N #[.int .i64 0, .slice none 0 0] 24
        replace hO_N := hO_N.alloc (.cells #[.int .i64 0, .slice none 0 0] 24)
        refine hK.out _ _ hP2 (fun _ => trivial) (fun _ => ?_)
        clear hK K'
        (try simp only [Act.put, List.getElem_toArray, List.getElem_cons_zero, List.getElem_cons_succ, List.setIfInBounds_toArray, List.set_cons_zero, List.set_cons_succ])
        replace hZ : u.heap.size ≤ (W0.alloc (.cells #[.int .i64 0, .slice none 0 0] 24)).heap.size := by rw [World.size_alloc]; omega
        clear hP
        have hP := hP2
        clear hP2
        obtain ⟨W1, hWe⟩ : ∃ W1, (W0.alloc (.cells #[.int .i64 0, .slice none 0 0] 24)) = W1 := ⟨_, rfl⟩
        rw [hWe] at hP hZ hO_N hs_N_B ⊢
        clear hWe
        refine wpAnyF_ready (rs := [7]) (by kernel_rfl) (by simp) ?_
        refine AllReadyF.cons rfl ?_ ?_
        · intro K' hK
          rw [if_pos (by rfl)]
          go_simp
          have hP2 := below_alloc hP hZ (.cells #[.int .i64 0, .slice none 0 0] 24)
          have hne_B_C : W0.heap.size ≠ W1.heap.size := Nat.ne_of_lt hs_N_B.2.1
          replace hs_N_B := hs_N_B.alloc (.cells #[.int .i64 0, .slice none 0 0] 24)
          have hs_N_C := Side.fresh hZ hO_N #[.int .i64 0, .slice none 0 0] 24
          replace hO_N := hO_N.alloc (.cells #[.int .i64 0, .slice none 0 0] 24)
          refine hK.out _ _ hP2 (fun _ => trivial) (fun _ => ?_)
          clear hK K'
          (try simp only [Act.put, List.getElem_toArray, List.getElem_cons_zero, List.getElem_cons_succ, List.setIfInBounds_toArray, List.set_cons_zero, List.set_cons_succ])
          replace hZ : u.heap.size ≤ (W1.alloc (.cells #[.int .i64 0, .slice none 0 0] 24)).heap.size := by rw [World.size_alloc]; omega
          clear hP
          have hP := hP2
          clear hP2
          obtain ⟨W2, hWe⟩ : ∃ W2, (W1.alloc (.cells #[.int .i64 0, .slice none 0 0] 24)) = W2 := ⟨_, rfl⟩
          rw [hWe] at hP hZ hO_N hs_N_B hs_N_C ⊢
          clear hWe
          refine wpAnyF_ready (rs := [8]) (by kernel_rfl) (by simp) ?_
          refine AllReadyF.cons rfl ?_ ?_
          · intro K' hK
            rw [if_pos (by rfl)]
            have c0 := obj_at hs_N_B.2.2.1 0 _ rfl
            have c1 := obj_at hs_N_B.2.2.1 1 _ rfl
            have f0 := obj_fz hs_N_B.2.2.1 0
            have f1 := obj_fz hs_N_B.2.2.1 1
            go_simp
            clear c0 f0 c1 f1
            replace hP := Below.setCell (p := ⟨W0.heap.size, 0, none⟩) hP hs_N_B.1 (.int .i64 W)
            replace hO_N := own_setFar hO_N hs_N_B.2.2.2 0 (.int .i64 W)
            replace hs_N_C := hs_N_C.set_ne (by first | exact hne_C_B | exact (Ne.symm hne_B_C) | omega) 0 (.int .i64 W)
            replace hs_N_B := hs_N_B.set 0 (.int .i64 W)
            replace hP := Below.setCell (p := ⟨W0.heap.size, 1, none⟩) hP hs_N_B.1 (.slice none 0 0)
            replace hO_N := own_setFar hO_N hs_N_B.2.2.2 1 (.slice none 0 0)
            replace hs_N_C := hs_N_C.set_ne (by first | exact hne_C_B | exact (Ne.symm hne_B_C) | omega) 1 (.slice none 0 0)
            replace hs_N_B := hs_N_B.set 1 (.slice none 0 0)
            refine hK.out _ _ hP (fun _ => trivial) (fun _ => ?_)
            clear hK K'
            (try simp only [Act.put, List.getElem_toArray, List.getElem_cons_zero, List.getElem_cons_succ, List.setIfInBounds_toArray, List.set_cons_zero, List.set_cons_succ])
            replace hZ : u.heap.size ≤ ((W2.setCell ⟨W0.heap.size, 0, none⟩ (.int .i64 W)).setCell ⟨W0.heap.size, 1, none⟩ (.slice none 0 0)).heap.size := by simp only [size_setCell]; exact hZ
            obtain ⟨W3, hWe⟩ : ∃ W3, ((W2.setCell ⟨W0.heap.size, 0, none⟩ (.int .i64 W)).setCell ⟨W0.heap.size, 1, none⟩ (.slice none 0 0)) = W3 := ⟨_, rfl⟩
            rw [hWe] at hP hZ hO_N hs_N_B hs_N_C ⊢
            clear hWe
            refine wpAnyF_ready (rs := [9]) (by kernel_rfl) (by simp) ?_
            refine AllReadyF.cons rfl ?_ ?_
            · intro K' hK
              rw [if_pos (by rfl)]
              have c0 := obj_at hs_N_C.2.2.1 0 _ rfl
              have c1 := obj_at hs_N_C.2.2.1 1 _ rfl
              have f0 := obj_fz hs_N_C.2.2.1 0
              have f1 := obj_fz hs_N_C.2.2.1 1
              go_simp
              clear c0 f0 c1 f1
              replace hP := Below.setCell (p := ⟨W1.heap.size, 0, none⟩) hP hs_N_C.1 (.int .i64 W)
              replace hO_N := own_setFar hO_N hs_N_C.2.2.2 0 (.int .i64 W)
              replace hs_N_B := hs_N_B.set_ne (by first | exact hne_B_C | exact (Ne.symm hne_C_B) | omega) 0 (.int .i64 W)
              replace hs_N_C := hs_N_C.set 0 (.int .i64 W)
              replace hP := Below.setCell (p := ⟨W1.heap.size, 1, none⟩) hP hs_N_C.1 (.slice none 0 0)
              replace hO_N := own_setFar hO_N hs_N_C.2.2.2 1 (.slice none 0 0)
              replace hs_N_B := hs_N_B.set_ne (by first | exact hne_B_C | exact (Ne.symm hne_C_B) | omega) 1 (.slice none 0 0)
              replace hs_N_C := hs_N_C.set 1 (.slice none 0 0)
              refine hK.out _ _ hP (fun _ => trivial) (fun _ => ?_)
              clear hK K'
              (try simp only [Act.put, List.getElem_toArray, List.getElem_cons_zero, List.getElem_cons_succ, List.setIfInBounds_toArray, List.set_cons_zero, List.set_cons_succ])
              replace hZ : u.heap.size ≤ ((W3.setCell ⟨W1.heap.size, 0, none⟩ (.int .i64 W)).setCell ⟨W1.heap.size, 1, none⟩ (.slice none 0 0)).heap.size := by simp only [size_setCell]; exact hZ
              obtain ⟨W4, hWe⟩ : ∃ W4, ((W3.setCell ⟨W1.heap.size, 0, none⟩ (.int .i64 W)).setCell ⟨W1.heap.size, 1, none⟩ (.slice none 0 0)) = W4 := ⟨_, rfl⟩
              rw [hWe] at hP hZ hO_N hs_N_B hs_N_C ⊢
              clear hWe
              refine wpAnyF_done (by kernel_rfl) ?_ _
              refine NoPanic.normal ?_
              go_wp2_with fail
              go_meet
              exact ⟨_, _, rfl, rfl, hs_N_B.2.2.1, hs_N_C.2.2.1, by first | exact hne_B_C | exact (Ne.symm hne_C_B), hs_N_B.1, hs_N_C.1, hP⟩
            exact AllReadyF.nil
          exact AllReadyF.nil
        exact AllReadyF.nil
      refine AllReadyF.cons rfl ?_ ?_
      · intro K' hK
        rw [if_pos (by rfl)]
        go_simp
        have hP2 := below_alloc hP hZ (.cells #[.int .i64 0, .slice none 0 0] 24)
        have hs_N_C := Side.fresh hZ hO_N #[.int .i64 0, .slice none 0 0] 24
        replace hO_N := hO_N.alloc (.cells #[.int .i64 0, .slice none 0 0] 24)
        refine hK.out _ _ hP2 (fun _ => trivial) (fun _ => ?_)
        clear hK K'
        (try simp only [Act.put, List.getElem_toArray, List.getElem_cons_zero, List.getElem_cons_succ, List.setIfInBounds_toArray, List.set_cons_zero, List.set_cons_succ])
        replace hZ : u.heap.size ≤ (W0.alloc (.cells #[.int .i64 0, .slice none 0 0] 24)).heap.size := by rw [World.size_alloc]; omega
        clear hP
        have hP := hP2
        clear hP2
        obtain ⟨W5, hWe⟩ : ∃ W5, (W0.alloc (.cells #[.int .i64 0, .slice none 0 0] 24)) = W5 := ⟨_, rfl⟩
        rw [hWe] at hP hZ hO_N hs_N_C ⊢
        clear hWe
        refine wpAnyF_ready (rs := [6]) (by kernel_rfl) (by simp) ?_
        refine AllReadyF.cons rfl ?_ ?_
        · intro K' hK
          rw [if_pos (by rfl)]
          go_simp
          have hP2 := below_alloc hP hZ (.cells #[.int .i64 0, .slice none 0 0] 24)
          have hne_C_B : W0.heap.size ≠ W5.heap.size := Nat.ne_of_lt hs_N_C.2.1
          replace hs_N_C := hs_N_C.alloc (.cells #[.int .i64 0, .slice none 0 0] 24)
          have hs_N_B := Side.fresh hZ hO_N #[.int .i64 0, .slice none 0 0] 24
          replace hO_N := hO_N.alloc (.cells #[.int .i64 0, .slice none 0 0] 24)
          refine hK.out _ _ hP2 (fun _ => trivial) (fun _ => ?_)
          clear hK K'
          (try simp only [Act.put, List.getElem_toArray, List.getElem_cons_zero, List.getElem_cons_succ, List.setIfInBounds_toArray, List.set_cons_zero, List.set_cons_succ])
          replace hZ : u.heap.size ≤ (W5.alloc (.cells #[.int .i64 0, .slice none 0 0] 24)).heap.size := by rw [World.size_alloc]; omega
          clear hP
          have hP := hP2
          clear hP2
          obtain ⟨W6, hWe⟩ : ∃ W6, (W5.alloc (.cells #[.int .i64 0, .slice none 0 0] 24)) = W6 := ⟨_, rfl⟩
          rw [hWe] at hP hZ hO_N hs_N_C hs_N_B ⊢
          clear hWe
          refine wpAnyF_ready (rs := [8]) (by kernel_rfl) (by simp) ?_
          refine AllReadyF.cons rfl ?_ ?_
          · intro K' hK
            rw [if_pos (by rfl)]
            have c0 := obj_at hs_N_B.2.2.1 0 _ rfl
            have c1 := obj_at hs_N_B.2.2.1 1 _ rfl
            have f0 := obj_fz hs_N_B.2.2.1 0
            have f1 := obj_fz hs_N_B.2.2.1 1
            go_simp
            clear c0 f0 c1 f1
            replace hP := Below.setCell (p := ⟨W5.heap.size, 0, none⟩) hP hs_N_B.1 (.int .i64 W)
            replace hO_N := own_setFar hO_N hs_N_B.2.2.2 0 (.int .i64 W)
            replace hs_N_C := hs_N_C.set_ne (by first | exact hne_C_B | exact (Ne.symm hne_B_C) | omega) 0 (.int .i64 W)
            replace hs_N_B := hs_N_B.set 0 (.int .i64 W)
            replace hP := Below.setCell (p := ⟨W5.heap.size, 1, none⟩) hP hs_N_B.1 (.slice none 0 0)
            replace hO_N := own_setFar hO_N hs_N_B.2.2.2 1 (.slice none 0 0)
            replace hs_N_C := hs_N_C.set_ne (by first | exact hne_C_B | exact (Ne.symm hne_B_C) | omega) 1 (.slice none 0 0)
            replace hs_N_B := hs_N_B.set 1 (.slice none 0 0)
            refine hK.out _ _ hP (fun _ => trivial) (fun _ => ?_)
            clear hK K'
            (try simp only [Act.put, List.getElem_toArray, List.getElem_cons_zero, List.getElem_cons_succ, List.setIfInBounds_toArray, List.set_cons_zero, List.set_cons_succ])
            replace hZ : u.heap.size ≤ ((W6.setCell ⟨W5.heap.size, 0, none⟩ (.int .i64 W)).setCell ⟨W5.heap.size, 1, none⟩ (.slice none 0 0)).heap.size := by simp only [size_setCell]; exact hZ
            obtain ⟨W7, hWe⟩ : ∃ W7, ((W6.setCell ⟨W5.heap.size, 0, none⟩ (.int .i64 W)).setCell ⟨W5.heap.size, 1, none⟩ (.slice none 0 0)) = W7 := ⟨_, rfl⟩
            rw [hWe] at hP hZ hO_N hs_N_C hs_N_B ⊢
            clear hWe
            refine wpAnyF_ready (rs := [9]) (by kernel_rfl) (by simp) ?_
            refine AllReadyF.cons rfl ?_ ?_
            · intro K' hK
              rw [if_pos (by rfl)]
              have c0 := obj_at hs_N_C.2.2.1 0 _ rfl
              have c1 := obj_at hs_N_C.2.2.1 1 _ rfl
              have f0 := obj_fz hs_N_C.2.2.1 0
              have f1 := obj_fz hs_N_C.2.2.1 1
              go_simp
              clear c0 f0 c1 f1
              replace hP := Below.setCell (p := ⟨W0.heap.size, 0, none⟩) hP hs_N_C.1 (.int .i64 W)
              replace hO_N := own_setFar hO_N hs_N_C.2.2.2 0 (.int .i64 W)
              replace hs_N_B := hs_N_B.set_ne (by first | exact hne_B_C | exact (Ne.symm hne_C_B) | omega) 0 (.int .i64 W)
              replace hs_N_C := hs_N_C.set 0 (.int .i64 W)
              replace hP := Below.setCell (p := ⟨W0.heap.size, 1, none⟩) hP hs_N_C.1 (.slice none 0 0)
              replace hO_N := own_setFar hO_N hs_N_C.2.2.2 1 (.slice none 0 0)
              replace hs_N_B := hs_N_B.set_ne (by first | exact hne_B_C | exact (Ne.symm hne_C_B) | omega) 1 (.slice none 0 0)
              replace hs_N_C := hs_N_C.set 1 (.slice none 0 0)
              refine hK.out _ _ hP (fun _ => trivial) (fun _ => ?_)
              clear hK K'
              (try simp only [Act.put, List.getElem_toArray, List.getElem_cons_zero, List.getElem_cons_succ, List.setIfInBounds_toArray, List.set_cons_zero, List.set_cons_succ])
              replace hZ : u.heap.size ≤ ((W7.setCell ⟨W0.heap.size, 0, none⟩ (.int .i64 W)).setCell ⟨W0.heap.size, 1, none⟩ (.slice none 0 0)).heap.size := by simp only [size_setCell]; exact hZ
              obtain ⟨W8, hWe⟩ : ∃ W8, ((W7.setCell ⟨W0.heap.size, 0, none⟩ (.int .i64 W)).setCell ⟨W0.heap.size, 1, none⟩ (.slice none 0 0)) = W8 := ⟨_, rfl⟩
              rw [hWe] at hP hZ hO_N hs_N_C hs_N_B ⊢
              clear hWe
              refine wpAnyF_done (by kernel_rfl) ?_ _
              refine NoPanic.normal ?_
              go_wp2_with fail
              go_meet
              exact ⟨_, _, rfl, rfl, hs_N_B.2.2.1, hs_N_C.2.2.1, by first | exact hne_B_C | exact (Ne.symm hne_C_B), hs_N_B.1, hs_N_C.1, hP⟩
            exact AllReadyF.nil
          exact AllReadyF.nil
        exact AllReadyF.nil
      exact AllReadyF.nil
    case rest =>
    obtain ⟨p, q, rfl, rfl, hpb, hqb, hpq, hpu, hqu, hb4⟩ := hcut
    have hTW := Two.start hpu hqu hpb hqb hb4
    clear hpb hqb hb4 hP0 hO_N
    obtain ⟨a1, ha1, ha1l⟩ := win_nat hW2 hwin1
    obtain ⟨a2, ha2, ha2l⟩ := win_nat hW2 hwin2
    replace ha1 := hide ha1
    replace ha2 := hide ha2
    obtain ⟨vv, rfl⟩ : ∃ v : World, v = wc := ⟨_, rfl⟩
    go_wp2
    go_loopw [11, 12, 13, 14, 15] (fun i _ _ _ _ wr => ∃ (k : Nat) (A1 A2 : Option Addr) (c1 c2 : Nat), k ≤ ts.length ∧ i = .int .i64 (k : Nat) ∧ Two u wr p q W A1 A2 k c1 c2 (((ts.take k).map revB).map Value.string) (((ts.take k).map (swpB (a1 : Int) (a2 : Int))).map Value.string)) (fun i _ _ _ _ _ => ts.length - (intOf i).toNat)
    case atStart => exact ⟨0, none, none, 0, 0, Nat.zero_le _, rfl, hTW⟩
    case round =>
      obtain ⟨k, A1, A2, c1, c2, hk, rfl, hTW⟩ := hrel
      have hPu := hTW.2.2.2.2.2.2.2
      by_cases hkl : k < ts.length
      · have hkli : (k : Int) < (ts.length : Nat) := by omega
        have hk0 : (0 : Int) ≤ (k : Int) := by omega
        obtain ⟨tb, toff, rfl, htb, _, ct⟩ := hA k ts[k] (by simp [hkl])
        have ht8 := hsm k hkl
        have htl : ∀ x, x ∈ lt ts[k] → 0 ≤ x ∧ x < W := fun x hx => by
          have := hlo (lt ts[k]) (List.mem_map.2 ⟨_, List.getElem_mem hkl, rfl⟩) x hx
          omega
        have HT1 : Hid ((ts.take (k + 1)).map revB = (ts.take k).map revB ++ [revB ts[k]]) := hide (by rw [take_snoc _ _ hkl, List.map_append]; rfl)
        have HT2 : Hid ((ts.take (k + 1)).map (swpB (a1 : Int) (a2 : Int)) = (ts.take k).map (swpB (a1 : Int) (a2 : Int)) ++ [swpB (a1 : Int) (a2 : Int) ts[k]]) := hide (by rw [take_snoc _ _ hkl, List.map_append]; rfl)
        generalize ts[k] = t at *
        have xt := (hPu.cell (p := ⟨tb, toff + k, none⟩) htb).trans ct
        have x0 := (hPu.cell (p := ⟨w.heap.size, 0, none⟩) hXlt).trans hXc0
        have x1 := (hPu.cell (p := ⟨w.heap.size, 1, none⟩) hXlt).trans hXc1
        have hzu := hPu.size
        have xl : w.heap.size < wr.heap.size := by omega
        obtain ⟨wo, rfl⟩ : ∃ wo : World, wo = wr := ⟨_, rfl⟩
        go_wp2
        go_loopw [12, 13, 14, 15] (fun a b kk _ wx => ∃ (j : Nat) (r y : ByteArray), j ≤ t.size ∧ a = .string r ∧ b = .string y ∧ kk = .int .i64 (j : Nat) ∧ r.size = j ∧ y.size = j ∧ Hid (r = unlt ((lt t).take j).reverse) ∧ Hid (y = unlt (((lt t).take j).map (Tm.swapL (a1 : Int) (a2 : Int)))) ∧ Below wo.heap.size wo wx) (fun _ _ kk _ _ => t.size - (intOf kk).toNat)
        case atStart => exact ⟨0, ⟨#[]⟩, ⟨#[]⟩, Nat.zero_le _, rfl, rfl, rfl, rfl, rfl, hide rfl, hide rfl, Below.refl _ _⟩
        case round =>
          obtain ⟨j, r, x, hj, rfl, rfl, rfl, hrz, hxz, HR, HX, hb⟩ := hrel
          have y0 := (hb.cell (p := ⟨w.heap.size, 0, none⟩) xl).trans x0
          have y1 := (hb.cell (p := ⟨w.heap.size, 1, none⟩) xl).trans x1
          have yt := (hb.cell (p := ⟨tb, toff + k, none⟩) (show tb < wo.heap.size by omega)).trans xt
          by_cases hjl : j < t.size
          · have hjli : (j : Int) < (t.size : Nat) := by omega
            have hj0 : (0 : Int) ≤ (j : Int) := by omega
            have hjg := lt_get t j hjl
            obtain ⟨y, hy, hy5⟩ : ∃ y : Nat, (lt t)[j]'(by rw [lt_len]; exact hjl) = (y : Nat) ∧ y < 5 := by
              have := htl _ (List.getElem_mem (l := lt t) (n := j) (by rw [lt_len]; exact hjl))
              exact ⟨((lt t)[j]'(by rw [lt_len]; exact hjl)).toNat, by omega, by omega⟩
            have hyq : (lt t)[j]? = some ((y : Nat) : Int) := by rw [List.getElem?_eq_getElem (by rw [lt_len]; exact hjl), hy]
            have hty : t[j].toNat = 97 + y := by omega
            have HRS := hide (rev_step hyq)
            have HSS := hide (swp_step (a := (a1 : Int)) (b := (a2 : Int)) hyq)
            rw [← HR.out] at HRS
            rw [← HX.out] at HSS
            clear hjg hy hyq HR HX
            have hc1 := back_bytes (W := wr.alloc (.cells #[.int .u8 (97 + (y : Int))] 5)) (A := some ⟨wr.heap.size, 0, none⟩) (c := 1) (l := [((y : Nat) : Int)]) (by
              have := rd_new1 wr (.int .u8 (97 + (y : Int))) 5
              rw [show (97 : Int) + (y : Int) = (y : Int) + 97 by omega] at this ⊢
              exact this) (by simp; omega) (by simp)
            simp only [List.length_cons, List.length_nil, Nat.zero_add] at hc1
            have hz1 : (unlt [((y : Nat) : Int)]).size = 1 := unlt_size _
            have hcat1 : ¬ 9223372036854775807 < (unlt [((y : Nat) : Int)]).size + r.size := by omega
            have hs1 : Hid ((unlt [((y : Nat) : Int)] ++ r).size = j + 1) := hide (by rw [ByteArray.size_append]; omega)
            clear hz1
            cases he1 : (97 + (y : Int) == ((b1 : Nat) : Int)) with
            | true =>
              have hye : Tm.swapL (a1 : Int) (a2 : Int) (y : Nat) = (a2 : Nat) := (by have h := of_decide_eq_true (show decide (97 + (y : Int) = ((b1 : Nat) : Int)) = true from he1); rw [ha1.out] at h; unfold Tm.swapL; rw [if_pos (by omega)])
              have hc2 := back_bytes (W := (wr.alloc (.cells #[.int .u8 (97 + (y : Int))] 5)).alloc (.cells #[.int .u8 (((b2 : Nat) : Int))] 5)) (A := some ⟨wr.heap.size + 1, 0, none⟩) (c := 1) (l := [((a2 : Nat) : Int)]) (by
                have := rd_new1 (wr.alloc (.cells #[.int .u8 (97 + (y : Int))] 5)) (.int .u8 (((b2 : Nat) : Int))) 5
                rw [World.size_alloc] at this
                rw [show (((b2 : Nat) : Int) : Int) = ((a2 : Nat) : Int) + 97 from (by rw [ha2.out]; omega)] at this ⊢
                exact this) (by simp; omega) (by simp)
              simp only [List.length_cons, List.length_nil, Nat.zero_add] at hc2
              have hz2 : (unlt [((a2 : Nat) : Int)]).size = 1 := unlt_size _
              have hcat2 : ¬ 9223372036854775807 < x.size + (unlt [((a2 : Nat) : Int)]).size := by omega
              have hs2 : Hid ((x ++ unlt [((a2 : Nat) : Int)]).size = j + 1) := hide (by rw [ByteArray.size_append]; omega)
              have HS2 : Hid (unlt (((lt t).take (j + 1)).map (Tm.swapL (a1 : Int) (a2 : Int))) = x ++ unlt [((a2 : Nat) : Int)]) := hide (by rw [HSS.out, hye])
              clear HSS hz2
              go_wp2
              exact ⟨⟨j + 1, _, _, by omega, rfl, rfl, by go_num, hs1.out, hs2.out, hide HRS.out.symm, hide HS2.out.symm, below_alloc (below_alloc hb hb.size _) (by rw [World.size_alloc]; have := hb.size; omega) _⟩, by simp [intOf]; omega⟩
            | false =>
              have hn1 : ¬ ((y : Nat) : Int) = (a1 : Nat) := (by have h := of_decide_eq_false (show decide (97 + (y : Int) = ((b1 : Nat) : Int)) = false from he1); rw [ha1.out] at h; omega)
              cases he2 : (97 + (y : Int) == ((b2 : Nat) : Int)) with
              | true =>
                have hye : Tm.swapL (a1 : Int) (a2 : Int) (y : Nat) = (a1 : Nat) := (by have h := of_decide_eq_true (show decide (97 + (y : Int) = ((b2 : Nat) : Int)) = true from he2); rw [ha2.out] at h; unfold Tm.swapL; rw [if_neg hn1, if_pos (by omega)])
                clear hn1
                have hc2 := back_bytes (W := (wr.alloc (.cells #[.int .u8 (97 + (y : Int))] 5)).alloc (.cells #[.int .u8 (((b1 : Nat) : Int))] 5)) (A := some ⟨wr.heap.size + 1, 0, none⟩) (c := 1) (l := [((a1 : Nat) : Int)]) (by
                  have := rd_new1 (wr.alloc (.cells #[.int .u8 (97 + (y : Int))] 5)) (.int .u8 (((b1 : Nat) : Int))) 5
                  rw [World.size_alloc] at this
                  rw [show (((b1 : Nat) : Int) : Int) = ((a1 : Nat) : Int) + 97 from (by rw [ha1.out]; omega)] at this ⊢
                  exact this) (by simp; omega) (by simp)
                simp only [List.length_cons, List.length_nil, Nat.zero_add] at hc2
                have hz2 : (unlt [((a1 : Nat) : Int)]).size = 1 := unlt_size _
                have hcat2 : ¬ 9223372036854775807 < x.size + (unlt [((a1 : Nat) : Int)]).size := by omega
                have hs2 : Hid ((x ++ unlt [((a1 : Nat) : Int)]).size = j + 1) := hide (by rw [ByteArray.size_append]; omega)
                have HS2 : Hid (unlt (((lt t).take (j + 1)).map (Tm.swapL (a1 : Int) (a2 : Int))) = x ++ unlt [((a1 : Nat) : Int)]) := hide (by rw [HSS.out, hye])
                clear HSS hz2
                go_wp2
                exact ⟨⟨j + 1, _, _, by omega, rfl, rfl, by go_num, hs1.out, hs2.out, hide HRS.out.symm, hide HS2.out.symm, below_alloc (below_alloc hb hb.size _) (by rw [World.size_alloc]; have := hb.size; omega) _⟩, by simp [intOf]; omega⟩
              | false =>
                have hye : Tm.swapL (a1 : Int) (a2 : Int) (y : Nat) = (y : Nat) := (by have h := of_decide_eq_false (show decide (97 + (y : Int) = ((b2 : Nat) : Int)) = false from he2); rw [ha2.out] at h; unfold Tm.swapL; rw [if_neg hn1, if_neg (by omega)])
                clear hn1
                have hc2 := back_bytes (W := (wr.alloc (.cells #[.int .u8 (97 + (y : Int))] 5)).alloc (.cells #[.int .u8 (97 + (y : Int))] 5)) (A := some ⟨wr.heap.size + 1, 0, none⟩) (c := 1) (l := [((y : Nat) : Int)]) (by
                  have := rd_new1 (wr.alloc (.cells #[.int .u8 (97 + (y : Int))] 5)) (.int .u8 (97 + (y : Int))) 5
                  rw [World.size_alloc] at this
                  rw [show (97 + (y : Int) : Int) = ((y : Nat) : Int) + 97 from (by omega)] at this ⊢
                  exact this) (by simp; omega) (by simp)
                simp only [List.length_cons, List.length_nil, Nat.zero_add] at hc2
                have hz2 : (unlt [((y : Nat) : Int)]).size = 1 := unlt_size _
                have hcat2 : ¬ 9223372036854775807 < x.size + (unlt [((y : Nat) : Int)]).size := by omega
                have hs2 : Hid ((x ++ unlt [((y : Nat) : Int)]).size = j + 1) := hide (by rw [ByteArray.size_append]; omega)
                have HS2 : Hid (unlt (((lt t).take (j + 1)).map (Tm.swapL (a1 : Int) (a2 : Int))) = x ++ unlt [((y : Nat) : Int)]) := hide (by rw [HSS.out, hye])
                clear HSS hz2
                go_wp2
                exact ⟨⟨j + 1, _, _, by omega, rfl, rfl, by go_num, hs1.out, hs2.out, hide HRS.out.symm, hide HS2.out.symm, below_alloc (below_alloc hb hb.size _) (by rw [World.size_alloc]; have := hb.size; omega) _⟩, by simp [intOf]; omega⟩
          · have hjt : j = t.size := by omega
            have hjli : ¬ (j : Int) < (t.size : Nat) := by omega
            have HR2 : Hid (r = revB t) := hide (by have h := HR.out; rwa [hjt, List.take_of_length_le (by rw [lt_len]; exact Nat.le_refl _)] at h)
            have HX2 : Hid (x = swpB (a1 : Int) (a2 : Int) t) := hide (by have h := HX.out; rwa [hjt, List.take_of_length_le (by rw [lt_len]; exact Nat.le_refl _)] at h)
            have HE1 : Hid (((ts.take (k + 1)).map revB).map Value.string = ((ts.take k).map revB).map Value.string ++ [.string r]) := hide (by rw [HT1.out, List.map_append, HR2.out]; rfl)
            have HE2 : Hid (((ts.take (k + 1)).map (swpB (a1 : Int) (a2 : Int))).map Value.string = ((ts.take k).map (swpB (a1 : Int) (a2 : Int))).map Value.string ++ [.string x]) := hide (by rw [HT2.out, List.map_append, HX2.out]; rfl)
            go_upto_region 19 with fail
            obtain ⟨hs_1_P, hs_1_Q, hs_2_P, hs_2_Q, hO_1, hO_2, hap_1_2, hP0⟩ := hTW.ext hb
            clear HR HX HR2 HX2 HT1 HT2 hTW hb htl hPu
            obtain ⟨i0, ih, iz, is, ib⟩ := info_parts infoS
            refine wp_region_noPanic ?_
            refine wp_region_F [11, 13] (fun w' => Below u.heap.size u w') (fun w' => w'.heap[p]? = some (.cells #[.int .i64 W, .slice A1 k c1] 24 (0, 0)) ∧ w'.heap[q]? = some (.cells #[.int .i64 W, .slice A2 k c2] 24 (0, 0))) (by kernel_rfl) ?_
            have hP : Below u.heap.size u wr.drew := below_drew hP0
            have hZ : u.heap.size ≤ wr.drew.heap.size := hP0.size
            replace hO_1 := ownsRow_grows hO_1 (below_drew (Below.refl _ _))
            replace hs_1_P := hs_1_P.below (below_drew (Below.refl _ _))
            replace hs_1_Q := hs_1_Q.below (below_drew (Below.refl _ _))
            replace hO_2 := ownsRow_grows hO_2 (below_drew (Below.refl _ _))
            replace hs_2_P := hs_2_P.below (below_drew (Below.refl _ _))
            replace hs_2_Q := hs_2_Q.below (below_drew (Below.refl _ _))
            obtain ⟨W0, hW0⟩ : ∃ W0, wr.drew = W0 := ⟨_, rfl⟩
            rw [hW0] at hP hZ hO_1 hO_2 hs_1_P hs_1_Q hs_2_P hs_2_Q ⊢
            clear hW0
            refine wpAnyF_take0 (i := 0) (v := ?_) rfl rfl (by kernel_rfl) (by kernel_rfl) (by kernel_rfl) (fun _ _ _ h => h) (Or.inl ⟨by rfl, ?_⟩) hP (fun _ => ⟨hs_1_P.2.2.1, hs_1_Q.2.2.1⟩) ?_
            rotate_left
            · (intro ww hSw; go_simp; try with_reducible rfl)
            (try simp only [Act.put, List.getElem_toArray, List.getElem_cons_zero, List.getElem_cons_succ, List.setIfInBounds_toArray, List.set_cons_zero, List.set_cons_succ])
            refine wpAnyF_take1 (i := 1) (v := ?_) rfl rfl (by kernel_rfl) (by kernel_rfl) (by kernel_rfl) (by kernel_rfl) (fun _ _ _ h => h) (Or.inl ⟨by rfl, ?_⟩) hP (by kernel_rfl) (⟨hs_1_P.2.2.1, hs_1_Q.2.2.1⟩) ?_
            rotate_left
            · (intro ww hSw; have g0 := obj_at hSw.2.1 1 _ rfl; go_simp; try with_reducible rfl)
            (try simp only [Act.put, List.getElem_toArray, List.getElem_cons_zero, List.getElem_cons_succ, List.setIfInBounds_toArray, List.set_cons_zero, List.set_cons_succ])
            refine wpAnyF_take0 (i := 2) (v := ?_) rfl rfl (by kernel_rfl) (by kernel_rfl) (by kernel_rfl) (fun _ _ _ h => h) (Or.inl ⟨by rfl, ?_⟩) hP (fun _ => ⟨hs_1_P.2.2.1, hs_1_Q.2.2.1⟩) ?_
            rotate_left
            · (intro ww hSw; go_simp; try with_reducible rfl)
            (try simp only [Act.put, List.getElem_toArray, List.getElem_cons_zero, List.getElem_cons_succ, List.setIfInBounds_toArray, List.set_cons_zero, List.set_cons_succ])
            refine wpAnyF_take0 (i := 5) (v := ?_) rfl rfl (by kernel_rfl) (by kernel_rfl) (by kernel_rfl) (fun _ _ _ h => h) (Or.inl ⟨by rfl, ?_⟩) hP (fun _ => ⟨hs_1_P.2.2.1, hs_1_Q.2.2.1⟩) ?_
            rotate_left
            · (intro ww hSw; go_simp; try with_reducible rfl)
            (try simp only [Act.put, List.getElem_toArray, List.getElem_cons_zero, List.getElem_cons_succ, List.setIfInBounds_toArray, List.set_cons_zero, List.set_cons_succ])
            refine wpAnyF_take0 (i := 7) (v := ?_) rfl rfl (by kernel_rfl) (by kernel_rfl) (by kernel_rfl) (fun _ _ _ h => h) (Or.inl ⟨by rfl, ?_⟩) hP (fun _ => ⟨hs_1_P.2.2.1, hs_1_Q.2.2.1⟩) ?_
            rotate_left
            · (intro ww hSw; go_simp; try with_reducible rfl)
            (try simp only [Act.put, List.getElem_toArray, List.getElem_cons_zero, List.getElem_cons_succ, List.setIfInBounds_toArray, List.set_cons_zero, List.set_cons_succ])
            refine wpAnyF_ready (rs := [3, 6, 8]) (by kernel_rfl) (by simp) ?_
            refine AllReadyF.cons rfl ?_ ?_
            · intro K' hK
              rw [if_pos (by rfl)]
              go_simp
              have hP2 := below_alloc hP hZ (.cells #[.string r] 9)
              replace hs_1_P := hs_1_P.alloc (.cells #[.string r] 9)
              replace hs_1_Q := hs_1_Q.alloc (.cells #[.string r] 9)
              have hs_1_L := Side.fresh hZ hO_1 #[.string r] 9
              replace hO_1 := hO_1.alloc (.cells #[.string r] 9)
              replace hs_2_P := hs_2_P.alloc (.cells #[.string r] 9)
              replace hs_2_Q := hs_2_Q.alloc (.cells #[.string r] 9)
              have hs_2_L := Side.fresh hZ hO_2 #[.string r] 9
              replace hO_2 := hO_2.alloc (.cells #[.string r] 9)
              refine hK.out _ _ hP2 (fun _ => ⟨hs_1_P.2.2.1, hs_1_Q.2.2.1⟩) (fun _ => ?_)
              clear hK K'
              (try simp only [Act.put, List.getElem_toArray, List.getElem_cons_zero, List.getElem_cons_succ, List.setIfInBounds_toArray, List.set_cons_zero, List.set_cons_succ])
              replace hZ : u.heap.size ≤ (W0.alloc (.cells #[.string r] 9)).heap.size := by rw [World.size_alloc]; omega
              clear hP
              have hP := hP2
              clear hP2
              obtain ⟨W1, hWe⟩ : ∃ W1, (W0.alloc (.cells #[.string r] 9)) = W1 := ⟨_, rfl⟩
              rw [hWe] at hP hZ hO_1 hO_2 hs_1_P hs_1_Q hs_1_L hs_2_P hs_2_Q hs_2_L ⊢
              clear hWe
              refine wpAnyF_ready (rs := [4, 6, 8]) (by kernel_rfl) (by simp) ?_
              refine AllReadyF.cons rfl ?_ ?_
              · intro K' hK
                refine step_appN W1 rfl (.tmp 105) (.tmp 107) 22 rfl u.heap.size 9 i0 _ 1 16 und22 ih iz is ib rfl (by decide) _ (k) (((ts.take k).map revB).map Value.string) rfl hO_1 (some ⟨W0.heap.size, 0, none⟩) (1) 1 ([.string r]) rfl (hs_1_L.rd) (by simp [Value.oneCell']) (by unfold maxLen; omega) (by omega) hZ ?_
                intro A3 c3 W2 hO2 hg2 hf2
                have hP2 := gb_below hP hg2 hZ (fun g hg => (hO_1.lt g hg).1)
                have hZ2 := Nat.le_trans hZ hg2.size
                replace hs_2_P := hs_2_P.other hs_1_P.2.2.2 hg2
                replace hs_2_Q := hs_2_Q.other hs_1_Q.2.2.2 hg2
                replace hs_2_L := hs_2_L.other hs_1_L.2.2.2 hg2
                have hO_22 := own_other hO_2 hg2 ((hap_1_2).symm)
                have hap2 := Apart.grown (W := W1) (W' := W2) (hap_1_2) hO_2 hf2
                clear hap_1_2
                have hap_1_2 := hap2
                clear hap2
                replace hO_2 := hO_22
                clear hO_22
                replace hs_1_P := hs_1_P.grown hg2 hf2
                replace hs_1_Q := hs_1_Q.grown hg2 hf2
                replace hs_1_L := hs_1_L.grown hg2 hf2
                clear hO_1
                have hO_1 := hO2
                clear hO2
                refine hK.out _ _ hP2 (fun _ => ⟨hs_1_P.2.2.1, hs_1_Q.2.2.1⟩) (fun _ => ?_)
                clear hK K'
                (try simp only [Act.put, List.getElem_toArray, List.getElem_cons_zero, List.getElem_cons_succ, List.setIfInBounds_toArray, List.set_cons_zero, List.set_cons_succ])
                clear hP hZ hg2 hf2
                have hP := hP2
                have hZ := hZ2
                clear hP2 hZ2
                refine wpAnyF_take0 (i := 10) (v := ?_) rfl rfl (by kernel_rfl) (by kernel_rfl) (by kernel_rfl) (fun _ _ _ h => h) (Or.inl ⟨by rfl, ?_⟩) hP (fun _ => ⟨hs_1_P.2.2.1, hs_1_Q.2.2.1⟩) ?_
                rotate_left
                · (intro ww hSw; go_simp; try with_reducible rfl)
                (try simp only [Act.put, List.getElem_toArray, List.getElem_cons_zero, List.getElem_cons_succ, List.setIfInBounds_toArray, List.set_cons_zero, List.set_cons_succ])
                refine wpAnyF_ready (rs := [6, 8]) (by kernel_rfl) (by simp) ?_
                refine AllReadyF.cons rfl ?_ ?_
                · intro K' hK
                  rw [if_pos (by rfl)]
                  have c0 := obj_at hs_2_Q.2.2.1 1 _ rfl
                  go_simp
                  clear c0
                  refine hK.out _ _ hP (fun _ => ⟨hs_1_P.2.2.1, hs_1_Q.2.2.1⟩) (fun _ => ?_)
                  clear hK K'
                  (try simp only [Act.put, List.getElem_toArray, List.getElem_cons_zero, List.getElem_cons_succ, List.setIfInBounds_toArray, List.set_cons_zero, List.set_cons_succ])
                  refine wpAnyF_ready (rs := [8]) (by kernel_rfl) (by simp) ?_
                  refine AllReadyF.cons rfl ?_ ?_
                  · intro K' hK
                    rw [if_pos (by rfl)]
                    go_simp
                    have hP2 := below_alloc hP hZ (.cells #[.string x] 9)
                    replace hs_1_P := hs_1_P.alloc (.cells #[.string x] 9)
                    replace hs_1_Q := hs_1_Q.alloc (.cells #[.string x] 9)
                    replace hs_1_L := hs_1_L.alloc (.cells #[.string x] 9)
                    have hs_1_M := Side.fresh hZ hO_1 #[.string x] 9
                    replace hO_1 := hO_1.alloc (.cells #[.string x] 9)
                    replace hs_2_P := hs_2_P.alloc (.cells #[.string x] 9)
                    replace hs_2_Q := hs_2_Q.alloc (.cells #[.string x] 9)
                    replace hs_2_L := hs_2_L.alloc (.cells #[.string x] 9)
                    have hs_2_M := Side.fresh hZ hO_2 #[.string x] 9
                    replace hO_2 := hO_2.alloc (.cells #[.string x] 9)
                    refine hK.out _ _ hP2 (fun _ => ⟨hs_1_P.2.2.1, hs_1_Q.2.2.1⟩) (fun _ => ?_)
                    clear hK K'
                    (try simp only [Act.put, List.getElem_toArray, List.getElem_cons_zero, List.getElem_cons_succ, List.setIfInBounds_toArray, List.set_cons_zero, List.set_cons_succ])
                    replace hZ : u.heap.size ≤ (W2.alloc (.cells #[.string x] 9)).heap.size := by rw [World.size_alloc]; omega
                    clear hP
                    have hP := hP2
                    clear hP2
                    obtain ⟨W4, hWe⟩ : ∃ W4, (W2.alloc (.cells #[.string x] 9)) = W4 := ⟨_, rfl⟩
                    rw [hWe] at hP hZ hO_1 hO_2 hs_1_P hs_1_Q hs_1_L hs_1_M hs_2_P hs_2_Q hs_2_L hs_2_M ⊢
                    clear hWe
                    refine wpAnyF_ready (rs := [9]) (by kernel_rfl) (by simp) ?_
                    refine AllReadyF.cons rfl ?_ ?_
                    · intro K' hK
                      refine step_appN W4 rfl (.tmp 110) (.tmp 112) 22 rfl u.heap.size 9 i0 _ 1 16 und22 ih iz is ib rfl (by decide) _ (k) (((ts.take k).map (swpB (a1 : Int) (a2 : Int))).map Value.string) rfl hO_2 (some ⟨W2.heap.size, 0, none⟩) (1) 1 ([.string x]) rfl (hs_2_M.rd) (by simp [Value.oneCell']) (by unfold maxLen; omega) (by omega) hZ ?_
                      intro A4 c4 W5 hO2 hg2 hf2
                      have hP2 := gb_below hP hg2 hZ (fun g hg => (hO_2.lt g hg).1)
                      have hZ2 := Nat.le_trans hZ hg2.size
                      replace hs_1_P := hs_1_P.other hs_2_P.2.2.2 hg2
                      replace hs_1_Q := hs_1_Q.other hs_2_Q.2.2.2 hg2
                      replace hs_1_L := hs_1_L.other hs_2_L.2.2.2 hg2
                      replace hs_1_M := hs_1_M.other hs_2_M.2.2.2 hg2
                      have hO_12 := own_other hO_1 hg2 ((hap_1_2.symm).symm)
                      have hap2 := Apart.grown (W := W4) (W' := W5) (hap_1_2.symm) hO_1 hf2
                      clear hap_1_2
                      have hap_1_2 := hap2.symm
                      clear hap2
                      replace hO_1 := hO_12
                      clear hO_12
                      replace hs_2_P := hs_2_P.grown hg2 hf2
                      replace hs_2_Q := hs_2_Q.grown hg2 hf2
                      replace hs_2_L := hs_2_L.grown hg2 hf2
                      replace hs_2_M := hs_2_M.grown hg2 hf2
                      clear hO_2
                      have hO_2 := hO2
                      clear hO2
                      refine hK.out _ _ hP2 (fun _ => ⟨hs_1_P.2.2.1, hs_1_Q.2.2.1⟩) (fun _ => ?_)
                      clear hK K'
                      (try simp only [Act.put, List.getElem_toArray, List.getElem_cons_zero, List.getElem_cons_succ, List.setIfInBounds_toArray, List.set_cons_zero, List.set_cons_succ])
                      clear hP hZ hg2 hf2
                      have hP := hP2
                      have hZ := hZ2
                      clear hP2 hZ2
                      refine wpAnyF_ready (rs := [11]) (by kernel_rfl) (by simp) ?_
                      refine AllReadyF.cons rfl ?_ ?_
                      · intro K' hK
                        rw [if_pos (by rfl)]
                        have c1 := obj_at hs_1_P.2.2.1 1 _ rfl
                        have f1 := obj_fz hs_1_P.2.2.1 1
                        go_simp
                        clear c1 f1
                        clear hs_1_L hs_2_L
                        clear hs_1_M hs_2_M
                        replace hP := Below.setCell (p := ⟨p, 1, none⟩) hP hs_1_P.1 (.slice A3 (k + 1) c3)
                        replace hO_1 := own_setFar hO_1 hs_1_P.2.2.2 1 (.slice A3 (k + 1) c3)
                        replace hs_1_Q := hs_1_Q.set_ne (by first | exact hpq | exact (Ne.symm hpq)) 1 (.slice A3 (k + 1) c3)
                        replace hs_1_P := hs_1_P.set 1 (.slice A3 (k + 1) c3)
                        replace hO_2 := own_setFar hO_2 hs_2_P.2.2.2 1 (.slice A3 (k + 1) c3)
                        replace hs_2_Q := hs_2_Q.set_ne (by first | exact hpq | exact (Ne.symm hpq)) 1 (.slice A3 (k + 1) c3)
                        replace hs_2_P := hs_2_P.set 1 (.slice A3 (k + 1) c3)
                        refine hK.out _ _ hP (fun h => nomatch (show false = true from h)) (fun _ => ?_)
                        clear hK K'
                        (try simp only [Act.put, List.getElem_toArray, List.getElem_cons_zero, List.getElem_cons_succ, List.setIfInBounds_toArray, List.set_cons_zero, List.set_cons_succ])
                        replace hZ : u.heap.size ≤ (W5.setCell ⟨p, 1, none⟩ (.slice A3 (k + 1) c3)).heap.size := by simp only [size_setCell]; exact hZ
                        obtain ⟨W6, hWe⟩ : ∃ W6, (W5.setCell ⟨p, 1, none⟩ (.slice A3 (k + 1) c3)) = W6 := ⟨_, rfl⟩
                        rw [hWe] at hP hZ hO_1 hO_2 hs_1_P hs_1_Q hs_2_P hs_2_Q ⊢
                        clear hWe
                        refine wpAnyF_take0 (i := 12) (v := ?_) rfl rfl (by kernel_rfl) (by kernel_rfl) (by kernel_rfl) (fun _ _ _ h => h) (Or.inl ⟨by rfl, ?_⟩) hP (fun h => nomatch (show false = true from h)) ?_
                        rotate_left
                        · (intro ww hSw; go_simp; try with_reducible rfl)
                        (try simp only [Act.put, List.getElem_toArray, List.getElem_cons_zero, List.getElem_cons_succ, List.setIfInBounds_toArray, List.set_cons_zero, List.set_cons_succ])
                        refine wpAnyF_ready (rs := [13]) (by kernel_rfl) (by simp) ?_
                        refine AllReadyF.cons rfl ?_ ?_
                        · intro K' hK
                          rw [if_pos (by rfl)]
                          have c1 := obj_at hs_1_Q.2.2.1 1 _ rfl
                          have f1 := obj_fz hs_1_Q.2.2.1 1
                          go_simp
                          clear c1 f1
                          replace hP := Below.setCell (p := ⟨q, 1, none⟩) hP hs_1_Q.1 (.slice A4 (k + 1) c4)
                          replace hO_1 := own_setFar hO_1 hs_1_Q.2.2.2 1 (.slice A4 (k + 1) c4)
                          replace hs_1_P := hs_1_P.set_ne (by first | exact hpq | exact (Ne.symm hpq)) 1 (.slice A4 (k + 1) c4)
                          replace hs_1_Q := hs_1_Q.set 1 (.slice A4 (k + 1) c4)
                          replace hO_2 := own_setFar hO_2 hs_2_Q.2.2.2 1 (.slice A4 (k + 1) c4)
                          replace hs_2_P := hs_2_P.set_ne (by first | exact hpq | exact (Ne.symm hpq)) 1 (.slice A4 (k + 1) c4)
                          replace hs_2_Q := hs_2_Q.set 1 (.slice A4 (k + 1) c4)
                          refine hK.out _ _ hP (fun h => nomatch (show false = true from h)) (fun _ => ?_)
                          clear hK K'
                          (try simp only [Act.put, List.getElem_toArray, List.getElem_cons_zero, List.getElem_cons_succ, List.setIfInBounds_toArray, List.set_cons_zero, List.set_cons_succ])
                          replace hZ : u.heap.size ≤ (W6.setCell ⟨q, 1, none⟩ (.slice A4 (k + 1) c4)).heap.size := by simp only [size_setCell]; exact hZ
                          obtain ⟨W7, hWe⟩ : ∃ W7, (W6.setCell ⟨q, 1, none⟩ (.slice A4 (k + 1) c4)) = W7 := ⟨_, rfl⟩
                          rw [hWe] at hP hZ hO_1 hO_2 hs_1_P hs_1_Q hs_2_P hs_2_Q ⊢
                          clear hWe
                          refine wpAnyF_done (by kernel_rfl) ?_ _
                          refine NoPanic.normal ?_
                          rw [← HE1.out] at hO_1
                          rw [← HE2.out] at hO_2
                          go_wp2
                          exact ⟨⟨k + 1, A3, A4, c3, c4, by omega, by go_num, ⟨hs_1_P, hs_1_Q, hs_2_P, hs_2_Q, hO_1, hO_2, hap_1_2, hP⟩⟩, by simp [intOf]; omega⟩
                        exact AllReadyF.nil
                      exact AllReadyF.nil
                    exact AllReadyF.nil
                  exact AllReadyF.nil
                refine AllReadyF.cons rfl ?_ ?_
                · intro K' hK
                  rw [if_pos (by rfl)]
                  go_simp
                  have hP2 := below_alloc hP hZ (.cells #[.string x] 9)
                  replace hs_1_P := hs_1_P.alloc (.cells #[.string x] 9)
                  replace hs_1_Q := hs_1_Q.alloc (.cells #[.string x] 9)
                  replace hs_1_L := hs_1_L.alloc (.cells #[.string x] 9)
                  have hs_1_M := Side.fresh hZ hO_1 #[.string x] 9
                  replace hO_1 := hO_1.alloc (.cells #[.string x] 9)
                  replace hs_2_P := hs_2_P.alloc (.cells #[.string x] 9)
                  replace hs_2_Q := hs_2_Q.alloc (.cells #[.string x] 9)
                  replace hs_2_L := hs_2_L.alloc (.cells #[.string x] 9)
                  have hs_2_M := Side.fresh hZ hO_2 #[.string x] 9
                  replace hO_2 := hO_2.alloc (.cells #[.string x] 9)
                  refine hK.out _ _ hP2 (fun _ => ⟨hs_1_P.2.2.1, hs_1_Q.2.2.1⟩) (fun _ => ?_)
                  clear hK K'
                  (try simp only [Act.put, List.getElem_toArray, List.getElem_cons_zero, List.getElem_cons_succ, List.setIfInBounds_toArray, List.set_cons_zero, List.set_cons_succ])
                  replace hZ : u.heap.size ≤ (W2.alloc (.cells #[.string x] 9)).heap.size := by rw [World.size_alloc]; omega
                  clear hP
                  have hP := hP2
                  clear hP2
                  obtain ⟨W8, hWe⟩ : ∃ W8, (W2.alloc (.cells #[.string x] 9)) = W8 := ⟨_, rfl⟩
                  rw [hWe] at hP hZ hO_1 hO_2 hs_1_P hs_1_Q hs_1_L hs_1_M hs_2_P hs_2_Q hs_2_L hs_2_M ⊢
                  clear hWe
                  refine wpAnyF_ready (rs := [6]) (by kernel_rfl) (by simp) ?_
                  refine AllReadyF.cons rfl ?_ ?_
                  · intro K' hK
                    rw [if_pos (by rfl)]
                    have c0 := obj_at hs_2_Q.2.2.1 1 _ rfl
                    go_simp
                    clear c0
                    refine hK.out _ _ hP (fun _ => ⟨hs_1_P.2.2.1, hs_1_Q.2.2.1⟩) (fun _ => ?_)
                    clear hK K'
                    (try simp only [Act.put, List.getElem_toArray, List.getElem_cons_zero, List.getElem_cons_succ, List.setIfInBounds_toArray, List.set_cons_zero, List.set_cons_succ])
                    refine wpAnyF_ready (rs := [9]) (by kernel_rfl) (by simp) ?_
                    refine AllReadyF.cons rfl ?_ ?_
                    · intro K' hK
                      refine step_appN W8 rfl (.tmp 110) (.tmp 112) 22 rfl u.heap.size 9 i0 _ 1 16 und22 ih iz is ib rfl (by decide) _ (k) (((ts.take k).map (swpB (a1 : Int) (a2 : Int))).map Value.string) rfl hO_2 (some ⟨W2.heap.size, 0, none⟩) (1) 1 ([.string x]) rfl (hs_2_M.rd) (by simp [Value.oneCell']) (by unfold maxLen; omega) (by omega) hZ ?_
                      intro A4 c4 W10 hO2 hg2 hf2
                      have hP2 := gb_below hP hg2 hZ (fun g hg => (hO_2.lt g hg).1)
                      have hZ2 := Nat.le_trans hZ hg2.size
                      replace hs_1_P := hs_1_P.other hs_2_P.2.2.2 hg2
                      replace hs_1_Q := hs_1_Q.other hs_2_Q.2.2.2 hg2
                      replace hs_1_L := hs_1_L.other hs_2_L.2.2.2 hg2
                      replace hs_1_M := hs_1_M.other hs_2_M.2.2.2 hg2
                      have hO_12 := own_other hO_1 hg2 ((hap_1_2.symm).symm)
                      have hap2 := Apart.grown (W := W8) (W' := W10) (hap_1_2.symm) hO_1 hf2
                      clear hap_1_2
                      have hap_1_2 := hap2.symm
                      clear hap2
                      replace hO_1 := hO_12
                      clear hO_12
                      replace hs_2_P := hs_2_P.grown hg2 hf2
                      replace hs_2_Q := hs_2_Q.grown hg2 hf2
                      replace hs_2_L := hs_2_L.grown hg2 hf2
                      replace hs_2_M := hs_2_M.grown hg2 hf2
                      clear hO_2
                      have hO_2 := hO2
                      clear hO2
                      refine hK.out _ _ hP2 (fun _ => ⟨hs_1_P.2.2.1, hs_1_Q.2.2.1⟩) (fun _ => ?_)
                      clear hK K'
                      (try simp only [Act.put, List.getElem_toArray, List.getElem_cons_zero, List.getElem_cons_succ, List.setIfInBounds_toArray, List.set_cons_zero, List.set_cons_succ])
                      clear hP hZ hg2 hf2
                      have hP := hP2
                      have hZ := hZ2
                      clear hP2 hZ2
                      refine wpAnyF_ready (rs := [11]) (by kernel_rfl) (by simp) ?_
                      refine AllReadyF.cons rfl ?_ ?_
                      · intro K' hK
                        rw [if_pos (by rfl)]
                        have c1 := obj_at hs_1_P.2.2.1 1 _ rfl
                        have f1 := obj_fz hs_1_P.2.2.1 1
                        go_simp
                        clear c1 f1
                        clear hs_1_L hs_2_L
                        clear hs_1_M hs_2_M
                        replace hP := Below.setCell (p := ⟨p, 1, none⟩) hP hs_1_P.1 (.slice A3 (k + 1) c3)
                        replace hO_1 := own_setFar hO_1 hs_1_P.2.2.2 1 (.slice A3 (k + 1) c3)
                        replace hs_1_Q := hs_1_Q.set_ne (by first | exact hpq | exact (Ne.symm hpq)) 1 (.slice A3 (k + 1) c3)
                        replace hs_1_P := hs_1_P.set 1 (.slice A3 (k + 1) c3)
                        replace hO_2 := own_setFar hO_2 hs_2_P.2.2.2 1 (.slice A3 (k + 1) c3)
                        replace hs_2_Q := hs_2_Q.set_ne (by first | exact hpq | exact (Ne.symm hpq)) 1 (.slice A3 (k + 1) c3)
                        replace hs_2_P := hs_2_P.set 1 (.slice A3 (k + 1) c3)
                        refine hK.out _ _ hP (fun h => nomatch (show false = true from h)) (fun _ => ?_)
                        clear hK K'
                        (try simp only [Act.put, List.getElem_toArray, List.getElem_cons_zero, List.getElem_cons_succ, List.setIfInBounds_toArray, List.set_cons_zero, List.set_cons_succ])
                        replace hZ : u.heap.size ≤ (W10.setCell ⟨p, 1, none⟩ (.slice A3 (k + 1) c3)).heap.size := by simp only [size_setCell]; exact hZ
                        obtain ⟨W11, hWe⟩ : ∃ W11, (W10.setCell ⟨p, 1, none⟩ (.slice A3 (k + 1) c3)) = W11 := ⟨_, rfl⟩
                        rw [hWe] at hP hZ hO_1 hO_2 hs_1_P hs_1_Q hs_2_P hs_2_Q ⊢
                        clear hWe
                        refine wpAnyF_take0 (i := 12) (v := ?_) rfl rfl (by kernel_rfl) (by kernel_rfl) (by kernel_rfl) (fun _ _ _ h => h) (Or.inl ⟨by rfl, ?_⟩) hP (fun h => nomatch (show false = true from h)) ?_
                        rotate_left
                        · (intro ww hSw; go_simp; try with_reducible rfl)
                        (try simp only [Act.put, List.getElem_toArray, List.getElem_cons_zero, List.getElem_cons_succ, List.setIfInBounds_toArray, List.set_cons_zero, List.set_cons_succ])
                        refine wpAnyF_ready (rs := [13]) (by kernel_rfl) (by simp) ?_
                        refine AllReadyF.cons rfl ?_ ?_
                        · intro K' hK
                          rw [if_pos (by rfl)]
                          have c1 := obj_at hs_1_Q.2.2.1 1 _ rfl
                          have f1 := obj_fz hs_1_Q.2.2.1 1
                          go_simp
                          clear c1 f1
                          replace hP := Below.setCell (p := ⟨q, 1, none⟩) hP hs_1_Q.1 (.slice A4 (k + 1) c4)
                          replace hO_1 := own_setFar hO_1 hs_1_Q.2.2.2 1 (.slice A4 (k + 1) c4)
                          replace hs_1_P := hs_1_P.set_ne (by first | exact hpq | exact (Ne.symm hpq)) 1 (.slice A4 (k + 1) c4)
                          replace hs_1_Q := hs_1_Q.set 1 (.slice A4 (k + 1) c4)
                          replace hO_2 := own_setFar hO_2 hs_2_Q.2.2.2 1 (.slice A4 (k + 1) c4)
                          replace hs_2_P := hs_2_P.set_ne (by first | exact hpq | exact (Ne.symm hpq)) 1 (.slice A4 (k + 1) c4)
                          replace hs_2_Q := hs_2_Q.set 1 (.slice A4 (k + 1) c4)
                          refine hK.out _ _ hP (fun h => nomatch (show false = true from h)) (fun _ => ?_)
                          clear hK K'
                          (try simp only [Act.put, List.getElem_toArray, List.getElem_cons_zero, List.getElem_cons_succ, List.setIfInBounds_toArray, List.set_cons_zero, List.set_cons_succ])
                          replace hZ : u.heap.size ≤ (W11.setCell ⟨q, 1, none⟩ (.slice A4 (k + 1) c4)).heap.size := by simp only [size_setCell]; exact hZ
                          obtain ⟨W12, hWe⟩ : ∃ W12, (W11.setCell ⟨q, 1, none⟩ (.slice A4 (k + 1) c4)) = W12 := ⟨_, rfl⟩
                          rw [hWe] at hP hZ hO_1 hO_2 hs_1_P hs_1_Q hs_2_P hs_2_Q ⊢
                          clear hWe
                          refine wpAnyF_done (by kernel_rfl) ?_ _
                          refine NoPanic.normal ?_
                          rw [← HE1.out] at hO_1
                          rw [← HE2.out] at hO_2
                          go_wp2
                          exact ⟨⟨k + 1, A3, A4, c3, c4, by omega, by go_num, ⟨hs_1_P, hs_1_Q, hs_2_P, hs_2_Q, hO_1, hO_2, hap_1_2, hP⟩⟩, by simp [intOf]; omega⟩
                        exact AllReadyF.nil
                      exact AllReadyF.nil
                    exact AllReadyF.nil
                  exact AllReadyF.nil
                exact AllReadyF.nil
              refine AllReadyF.cons rfl ?_ ?_
              · intro K' hK
                rw [if_pos (by rfl)]
                have c0 := obj_at hs_2_Q.2.2.1 1 _ rfl
                go_simp
                clear c0
                refine hK.out _ _ hP (fun _ => ⟨hs_1_P.2.2.1, hs_1_Q.2.2.1⟩) (fun _ => ?_)
                clear hK K'
                (try simp only [Act.put, List.getElem_toArray, List.getElem_cons_zero, List.getElem_cons_succ, List.setIfInBounds_toArray, List.set_cons_zero, List.set_cons_succ])
                refine wpAnyF_ready (rs := [4, 8]) (by kernel_rfl) (by simp) ?_
                refine AllReadyF.cons rfl ?_ ?_
                · intro K' hK
                  refine step_appN W1 rfl (.tmp 105) (.tmp 107) 22 rfl u.heap.size 9 i0 _ 1 16 und22 ih iz is ib rfl (by decide) _ (k) (((ts.take k).map revB).map Value.string) rfl hO_1 (some ⟨W0.heap.size, 0, none⟩) (1) 1 ([.string r]) rfl (hs_1_L.rd) (by simp [Value.oneCell']) (by unfold maxLen; omega) (by omega) hZ ?_
                  intro A3 c3 W14 hO2 hg2 hf2
                  have hP2 := gb_below hP hg2 hZ (fun g hg => (hO_1.lt g hg).1)
                  have hZ2 := Nat.le_trans hZ hg2.size
                  replace hs_2_P := hs_2_P.other hs_1_P.2.2.2 hg2
                  replace hs_2_Q := hs_2_Q.other hs_1_Q.2.2.2 hg2
                  replace hs_2_L := hs_2_L.other hs_1_L.2.2.2 hg2
                  have hO_22 := own_other hO_2 hg2 ((hap_1_2).symm)
                  have hap2 := Apart.grown (W := W1) (W' := W14) (hap_1_2) hO_2 hf2
                  clear hap_1_2
                  have hap_1_2 := hap2
                  clear hap2
                  replace hO_2 := hO_22
                  clear hO_22
                  replace hs_1_P := hs_1_P.grown hg2 hf2
                  replace hs_1_Q := hs_1_Q.grown hg2 hf2
                  replace hs_1_L := hs_1_L.grown hg2 hf2
                  clear hO_1
                  have hO_1 := hO2
                  clear hO2
                  refine hK.out _ _ hP2 (fun _ => ⟨hs_1_P.2.2.1, hs_1_Q.2.2.1⟩) (fun _ => ?_)
                  clear hK K'
                  (try simp only [Act.put, List.getElem_toArray, List.getElem_cons_zero, List.getElem_cons_succ, List.setIfInBounds_toArray, List.set_cons_zero, List.set_cons_succ])
                  clear hP hZ hg2 hf2
                  have hP := hP2
                  have hZ := hZ2
                  clear hP2 hZ2
                  refine wpAnyF_take0 (i := 10) (v := ?_) rfl rfl (by kernel_rfl) (by kernel_rfl) (by kernel_rfl) (fun _ _ _ h => h) (Or.inl ⟨by rfl, ?_⟩) hP (fun _ => ⟨hs_1_P.2.2.1, hs_1_Q.2.2.1⟩) ?_
                  rotate_left
                  · (intro ww hSw; go_simp; try with_reducible rfl)
                  (try simp only [Act.put, List.getElem_toArray, List.getElem_cons_zero, List.getElem_cons_succ, List.setIfInBounds_toArray, List.set_cons_zero, List.set_cons_succ])
                  refine wpAnyF_ready (rs := [8]) (by kernel_rfl) (by simp) ?_
                  refine AllReadyF.cons rfl ?_ ?_
                  · intro K' hK
                    rw [if_pos (by rfl)]
                    go_simp
                    have hP2 := below_alloc hP hZ (.cells #[.string x] 9)
                    replace hs_1_P := hs_1_P.alloc (.cells #[.string x] 9)
                    replace hs_1_Q := hs_1_Q.alloc (.cells #[.string x] 9)
                    replace hs_1_L := hs_1_L.alloc (.cells #[.string x] 9)
                    have hs_1_M := Side.fresh hZ hO_1 #[.string x] 9
                    replace hO_1 := hO_1.alloc (.cells #[.string x] 9)
                    replace hs_2_P := hs_2_P.alloc (.cells #[.string x] 9)
                    replace hs_2_Q := hs_2_Q.alloc (.cells #[.string x] 9)
                    replace hs_2_L := hs_2_L.alloc (.cells #[.string x] 9)
                    have hs_2_M := Side.fresh hZ hO_2 #[.string x] 9
                    replace hO_2 := hO_2.alloc (.cells #[.string x] 9)
                    refine hK.out _ _ hP2 (fun _ => ⟨hs_1_P.2.2.1, hs_1_Q.2.2.1⟩) (fun _ => ?_)
                    clear hK K'
                    (try simp only [Act.put, List.getElem_toArray, List.getElem_cons_zero, List.getElem_cons_succ, List.setIfInBounds_toArray, List.set_cons_zero, List.set_cons_succ])
                    replace hZ : u.heap.size ≤ (W14.alloc (.cells #[.string x] 9)).heap.size := by rw [World.size_alloc]; omega
                    clear hP
                    have hP := hP2
                    clear hP2
                    obtain ⟨W15, hWe⟩ : ∃ W15, (W14.alloc (.cells #[.string x] 9)) = W15 := ⟨_, rfl⟩
                    rw [hWe] at hP hZ hO_1 hO_2 hs_1_P hs_1_Q hs_1_L hs_1_M hs_2_P hs_2_Q hs_2_L hs_2_M ⊢
                    clear hWe
                    refine wpAnyF_ready (rs := [9]) (by kernel_rfl) (by simp) ?_
                    refine AllReadyF.cons rfl ?_ ?_
                    · intro K' hK
                      refine step_appN W15 rfl (.tmp 110) (.tmp 112) 22 rfl u.heap.size 9 i0 _ 1 16 und22 ih iz is ib rfl (by decide) _ (k) (((ts.take k).map (swpB (a1 : Int) (a2 : Int))).map Value.string) rfl hO_2 (some ⟨W14.heap.size, 0, none⟩) (1) 1 ([.string x]) rfl (hs_2_M.rd) (by simp [Value.oneCell']) (by unfold maxLen; omega) (by omega) hZ ?_
                      intro A4 c4 W16 hO2 hg2 hf2
                      have hP2 := gb_below hP hg2 hZ (fun g hg => (hO_2.lt g hg).1)
                      have hZ2 := Nat.le_trans hZ hg2.size
                      replace hs_1_P := hs_1_P.other hs_2_P.2.2.2 hg2
                      replace hs_1_Q := hs_1_Q.other hs_2_Q.2.2.2 hg2
                      replace hs_1_L := hs_1_L.other hs_2_L.2.2.2 hg2
                      replace hs_1_M := hs_1_M.other hs_2_M.2.2.2 hg2
                      have hO_12 := own_other hO_1 hg2 ((hap_1_2.symm).symm)
                      have hap2 := Apart.grown (W := W15) (W' := W16) (hap_1_2.symm) hO_1 hf2
                      clear hap_1_2
                      have hap_1_2 := hap2.symm
                      clear hap2
                      replace hO_1 := hO_12
                      clear hO_12
                      replace hs_2_P := hs_2_P.grown hg2 hf2
                      replace hs_2_Q := hs_2_Q.grown hg2 hf2
                      replace hs_2_L := hs_2_L.grown hg2 hf2
                      replace hs_2_M := hs_2_M.grown hg2 hf2
                      clear hO_2
                      have hO_2 := hO2
                      clear hO2
                      refine hK.out _ _ hP2 (fun _ => ⟨hs_1_P.2.2.1, hs_1_Q.2.2.1⟩) (fun _ => ?_)
                      clear hK K'
                      (try simp only [Act.put, List.getElem_toArray, List.getElem_cons_zero, List.getElem_cons_succ, List.setIfInBounds_toArray, List.set_cons_zero, List.set_cons_succ])
                      clear hP hZ hg2 hf2
                      have hP := hP2
                      have hZ := hZ2
                      clear hP2 hZ2
                      refine wpAnyF_ready (rs := [11]) (by kernel_rfl) (by simp) ?_
                      refine AllReadyF.cons rfl ?_ ?_
                      · intro K' hK
                        rw [if_pos (by rfl)]
                        have c1 := obj_at hs_1_P.2.2.1 1 _ rfl
                        have f1 := obj_fz hs_1_P.2.2.1 1
                        go_simp
                        clear c1 f1
                        clear hs_1_L hs_2_L
                        clear hs_1_M hs_2_M
                        replace hP := Below.setCell (p := ⟨p, 1, none⟩) hP hs_1_P.1 (.slice A3 (k + 1) c3)
                        replace hO_1 := own_setFar hO_1 hs_1_P.2.2.2 1 (.slice A3 (k + 1) c3)
                        replace hs_1_Q := hs_1_Q.set_ne (by first | exact hpq | exact (Ne.symm hpq)) 1 (.slice A3 (k + 1) c3)
                        replace hs_1_P := hs_1_P.set 1 (.slice A3 (k + 1) c3)
                        replace hO_2 := own_setFar hO_2 hs_2_P.2.2.2 1 (.slice A3 (k + 1) c3)
                        replace hs_2_Q := hs_2_Q.set_ne (by first | exact hpq | exact (Ne.symm hpq)) 1 (.slice A3 (k + 1) c3)
                        replace hs_2_P := hs_2_P.set 1 (.slice A3 (k + 1) c3)
                        refine hK.out _ _ hP (fun h => nomatch (show false = true from h)) (fun _ => ?_)
                        clear hK K'
                        (try simp only [Act.put, List.getElem_toArray, List.getElem_cons_zero, List.getElem_cons_succ, List.setIfInBounds_toArray, List.set_cons_zero, List.set_cons_succ])
                        replace hZ : u.heap.size ≤ (W16.setCell ⟨p, 1, none⟩ (.slice A3 (k + 1) c3)).heap.size := by simp only [size_setCell]; exact hZ
                        obtain ⟨W17, hWe⟩ : ∃ W17, (W16.setCell ⟨p, 1, none⟩ (.slice A3 (k + 1) c3)) = W17 := ⟨_, rfl⟩
                        rw [hWe] at hP hZ hO_1 hO_2 hs_1_P hs_1_Q hs_2_P hs_2_Q ⊢
                        clear hWe
                        refine wpAnyF_take0 (i := 12) (v := ?_) rfl rfl (by kernel_rfl) (by kernel_rfl) (by kernel_rfl) (fun _ _ _ h => h) (Or.inl ⟨by rfl, ?_⟩) hP (fun h => nomatch (show false = true from h)) ?_
                        rotate_left
                        · (intro ww hSw; go_simp; try with_reducible rfl)
                        (try simp only [Act.put, List.getElem_toArray, List.getElem_cons_zero, List.getElem_cons_succ, List.setIfInBounds_toArray, List.set_cons_zero, List.set_cons_succ])
                        refine wpAnyF_ready (rs := [13]) (by kernel_rfl) (by simp) ?_
                        refine AllReadyF.cons rfl ?_ ?_
                        · intro K' hK
                          rw [if_pos (by rfl)]
                          have c1 := obj_at hs_1_Q.2.2.1 1 _ rfl
                          have f1 := obj_fz hs_1_Q.2.2.1 1
                          go_simp
                          clear c1 f1
                          replace hP := Below.setCell (p := ⟨q, 1, none⟩) hP hs_1_Q.1 (.slice A4 (k + 1) c4)
                          replace hO_1 := own_setFar hO_1 hs_1_Q.2.2.2 1 (.slice A4 (k + 1) c4)
                          replace hs_1_P := hs_1_P.set_ne (by first | exact hpq | exact (Ne.symm hpq)) 1 (.slice A4 (k + 1) c4)
                          replace hs_1_Q := hs_1_Q.set 1 (.slice A4 (k + 1) c4)
                          replace hO_2 := own_setFar hO_2 hs_2_Q.2.2.2 1 (.slice A4 (k + 1) c4)
                          replace hs_2_P := hs_2_P.set_ne (by first | exact hpq | exact (Ne.symm hpq)) 1 (.slice A4 (k + 1) c4)
                          replace hs_2_Q := hs_2_Q.set 1 (.slice A4 (k + 1) c4)
                          refine hK.out _ _ hP (fun h => nomatch (show false = true from h)) (fun _ => ?_)
                          clear hK K'
                          (try simp only [Act.put, List.getElem_toArray, List.getElem_cons_zero, List.getElem_cons_succ, List.setIfInBounds_toArray, List.set_cons_zero, List.set_cons_succ])
                          replace hZ : u.heap.size ≤ (W17.setCell ⟨q, 1, none⟩ (.slice A4 (k + 1) c4)).heap.size := by simp only [size_setCell]; exact hZ
                          obtain ⟨W18, hWe⟩ : ∃ W18, (W17.setCell ⟨q, 1, none⟩ (.slice A4 (k + 1) c4)) = W18 := ⟨_, rfl⟩
                          rw [hWe] at hP hZ hO_1 hO_2 hs_1_P hs_1_Q hs_2_P hs_2_Q ⊢
                          clear hWe
                          refine wpAnyF_done (by kernel_rfl) ?_ _
                          refine NoPanic.normal ?_
                          rw [← HE1.out] at hO_1
                          rw [← HE2.out] at hO_2
                          go_wp2
                          exact ⟨⟨k + 1, A3, A4, c3, c4, by omega, by go_num, ⟨hs_1_P, hs_1_Q, hs_2_P, hs_2_Q, hO_1, hO_2, hap_1_2, hP⟩⟩, by simp [intOf]; omega⟩
                        exact AllReadyF.nil
                      exact AllReadyF.nil
                    exact AllReadyF.nil
                  exact AllReadyF.nil
                refine AllReadyF.cons rfl ?_ ?_
                · intro K' hK
                  rw [if_pos (by rfl)]
                  go_simp
                  have hP2 := below_alloc hP hZ (.cells #[.string x] 9)
                  replace hs_1_P := hs_1_P.alloc (.cells #[.string x] 9)
                  replace hs_1_Q := hs_1_Q.alloc (.cells #[.string x] 9)
                  replace hs_1_L := hs_1_L.alloc (.cells #[.string x] 9)
                  have hs_1_M := Side.fresh hZ hO_1 #[.string x] 9
                  replace hO_1 := hO_1.alloc (.cells #[.string x] 9)
                  replace hs_2_P := hs_2_P.alloc (.cells #[.string x] 9)
                  replace hs_2_Q := hs_2_Q.alloc (.cells #[.string x] 9)
                  replace hs_2_L := hs_2_L.alloc (.cells #[.string x] 9)
                  have hs_2_M := Side.fresh hZ hO_2 #[.string x] 9
                  replace hO_2 := hO_2.alloc (.cells #[.string x] 9)
                  refine hK.out _ _ hP2 (fun _ => ⟨hs_1_P.2.2.1, hs_1_Q.2.2.1⟩) (fun _ => ?_)
                  clear hK K'
                  (try simp only [Act.put, List.getElem_toArray, List.getElem_cons_zero, List.getElem_cons_succ, List.setIfInBounds_toArray, List.set_cons_zero, List.set_cons_succ])
                  replace hZ : u.heap.size ≤ (W1.alloc (.cells #[.string x] 9)).heap.size := by rw [World.size_alloc]; omega
                  clear hP
                  have hP := hP2
                  clear hP2
                  obtain ⟨W19, hWe⟩ : ∃ W19, (W1.alloc (.cells #[.string x] 9)) = W19 := ⟨_, rfl⟩
                  rw [hWe] at hP hZ hO_1 hO_2 hs_1_P hs_1_Q hs_1_L hs_1_M hs_2_P hs_2_Q hs_2_L hs_2_M ⊢
                  clear hWe
                  refine wpAnyF_ready (rs := [4]) (by kernel_rfl) (by simp) ?_
                  refine AllReadyF.cons rfl ?_ ?_
                  · intro K' hK
                    refine step_appN W19 rfl (.tmp 105) (.tmp 107) 22 rfl u.heap.size 9 i0 _ 1 16 und22 ih iz is ib rfl (by decide) _ (k) (((ts.take k).map revB).map Value.string) rfl hO_1 (some ⟨W0.heap.size, 0, none⟩) (1) 1 ([.string r]) rfl (hs_1_L.rd) (by simp [Value.oneCell']) (by unfold maxLen; omega) (by omega) hZ ?_
                    intro A3 c3 W20 hO2 hg2 hf2
                    have hP2 := gb_below hP hg2 hZ (fun g hg => (hO_1.lt g hg).1)
                    have hZ2 := Nat.le_trans hZ hg2.size
                    replace hs_2_P := hs_2_P.other hs_1_P.2.2.2 hg2
                    replace hs_2_Q := hs_2_Q.other hs_1_Q.2.2.2 hg2
                    replace hs_2_L := hs_2_L.other hs_1_L.2.2.2 hg2
                    replace hs_2_M := hs_2_M.other hs_1_M.2.2.2 hg2
                    have hO_22 := own_other hO_2 hg2 ((hap_1_2).symm)
                    have hap2 := Apart.grown (W := W19) (W' := W20) (hap_1_2) hO_2 hf2
                    clear hap_1_2
                    have hap_1_2 := hap2
                    clear hap2
                    replace hO_2 := hO_22
                    clear hO_22
                    replace hs_1_P := hs_1_P.grown hg2 hf2
                    replace hs_1_Q := hs_1_Q.grown hg2 hf2
                    replace hs_1_L := hs_1_L.grown hg2 hf2
                    replace hs_1_M := hs_1_M.grown hg2 hf2
                    clear hO_1
                    have hO_1 := hO2
                    clear hO2
                    refine hK.out _ _ hP2 (fun _ => ⟨hs_1_P.2.2.1, hs_1_Q.2.2.1⟩) (fun _ => ?_)
                    clear hK K'
                    (try simp only [Act.put, List.getElem_toArray, List.getElem_cons_zero, List.getElem_cons_succ, List.setIfInBounds_toArray, List.set_cons_zero, List.set_cons_succ])
                    clear hP hZ hg2 hf2
                    have hP := hP2
                    have hZ := hZ2
                    clear hP2 hZ2
                    refine wpAnyF_take0 (i := 10) (v := ?_) rfl rfl (by kernel_rfl) (by kernel_rfl) (by kernel_rfl) (fun _ _ _ h => h) (Or.inl ⟨by rfl, ?_⟩) hP (fun _ => ⟨hs_1_P.2.2.1, hs_1_Q.2.2.1⟩) ?_
                    rotate_left
                    · (intro ww hSw; go_simp; try with_reducible rfl)
                    (try simp only [Act.put, List.getElem_toArray, List.getElem_cons_zero, List.getElem_cons_succ, List.setIfInBounds_toArray, List.set_cons_zero, List.set_cons_succ])
                    refine wpAnyF_ready (rs := [9]) (by kernel_rfl) (by simp) ?_
                    refine AllReadyF.cons rfl ?_ ?_
                    · intro K' hK
                      refine step_appN W20 rfl (.tmp 110) (.tmp 112) 22 rfl u.heap.size 9 i0 _ 1 16 und22 ih iz is ib rfl (by decide) _ (k) (((ts.take k).map (swpB (a1 : Int) (a2 : Int))).map Value.string) rfl hO_2 (some ⟨W1.heap.size, 0, none⟩) (1) 1 ([.string x]) rfl (hs_2_M.rd) (by simp [Value.oneCell']) (by unfold maxLen; omega) (by omega) hZ ?_
                      intro A4 c4 W21 hO2 hg2 hf2
                      have hP2 := gb_below hP hg2 hZ (fun g hg => (hO_2.lt g hg).1)
                      have hZ2 := Nat.le_trans hZ hg2.size
                      replace hs_1_P := hs_1_P.other hs_2_P.2.2.2 hg2
                      replace hs_1_Q := hs_1_Q.other hs_2_Q.2.2.2 hg2
                      replace hs_1_L := hs_1_L.other hs_2_L.2.2.2 hg2
                      replace hs_1_M := hs_1_M.other hs_2_M.2.2.2 hg2
                      have hO_12 := own_other hO_1 hg2 ((hap_1_2.symm).symm)
                      have hap2 := Apart.grown (W := W20) (W' := W21) (hap_1_2.symm) hO_1 hf2
                      clear hap_1_2
                      have hap_1_2 := hap2.symm
                      clear hap2
                      replace hO_1 := hO_12
                      clear hO_12
                      replace hs_2_P := hs_2_P.grown hg2 hf2
                      replace hs_2_Q := hs_2_Q.grown hg2 hf2
                      replace hs_2_L := hs_2_L.grown hg2 hf2
                      replace hs_2_M := hs_2_M.grown hg2 hf2
                      clear hO_2
                      have hO_2 := hO2
                      clear hO2
                      refine hK.out _ _ hP2 (fun _ => ⟨hs_1_P.2.2.1, hs_1_Q.2.2.1⟩) (fun _ => ?_)
                      clear hK K'
                      (try simp only [Act.put, List.getElem_toArray, List.getElem_cons_zero, List.getElem_cons_succ, List.setIfInBounds_toArray, List.set_cons_zero, List.set_cons_succ])
                      clear hP hZ hg2 hf2
                      have hP := hP2
                      have hZ := hZ2
                      clear hP2 hZ2
                      refine wpAnyF_ready (rs := [11]) (by kernel_rfl) (by simp) ?_
                      refine AllReadyF.cons rfl ?_ ?_
                      · intro K' hK
                        rw [if_pos (by rfl)]
                        have c1 := obj_at hs_1_P.2.2.1 1 _ rfl
                        have f1 := obj_fz hs_1_P.2.2.1 1
                        go_simp
                        clear c1 f1
                        clear hs_1_L hs_2_L
                        clear hs_1_M hs_2_M
                        replace hP := Below.setCell (p := ⟨p, 1, none⟩) hP hs_1_P.1 (.slice A3 (k + 1) c3)
                        replace hO_1 := own_setFar hO_1 hs_1_P.2.2.2 1 (.slice A3 (k + 1) c3)
                        replace hs_1_Q := hs_1_Q.set_ne (by first | exact hpq | exact (Ne.symm hpq)) 1 (.slice A3 (k + 1) c3)
                        replace hs_1_P := hs_1_P.set 1 (.slice A3 (k + 1) c3)
                        replace hO_2 := own_setFar hO_2 hs_2_P.2.2.2 1 (.slice A3 (k + 1) c3)
                        replace hs_2_Q := hs_2_Q.set_ne (by first | exact hpq | exact (Ne.symm hpq)) 1 (.slice A3 (k + 1) c3)
                        replace hs_2_P := hs_2_P.set 1 (.slice A3 (k + 1) c3)
                        refine hK.out _ _ hP (fun h => nomatch (show false = true from h)) (fun _ => ?_)
                        clear hK K'
                        (try simp only [Act.put, List.getElem_toArray, List.getElem_cons_zero, List.getElem_cons_succ, List.setIfInBounds_toArray, List.set_cons_zero, List.set_cons_succ])
                        replace hZ : u.heap.size ≤ (W21.setCell ⟨p, 1, none⟩ (.slice A3 (k + 1) c3)).heap.size := by simp only [size_setCell]; exact hZ
                        obtain ⟨W22, hWe⟩ : ∃ W22, (W21.setCell ⟨p, 1, none⟩ (.slice A3 (k + 1) c3)) = W22 := ⟨_, rfl⟩
                        rw [hWe] at hP hZ hO_1 hO_2 hs_1_P hs_1_Q hs_2_P hs_2_Q ⊢
                        clear hWe
                        refine wpAnyF_take0 (i := 12) (v := ?_) rfl rfl (by kernel_rfl) (by kernel_rfl) (by kernel_rfl) (fun _ _ _ h => h) (Or.inl ⟨by rfl, ?_⟩) hP (fun h => nomatch (show false = true from h)) ?_
                        rotate_left
                        · (intro ww hSw; go_simp; try with_reducible rfl)
                        (try simp only [Act.put, List.getElem_toArray, List.getElem_cons_zero, List.getElem_cons_succ, List.setIfInBounds_toArray, List.set_cons_zero, List.set_cons_succ])
                        refine wpAnyF_ready (rs := [13]) (by kernel_rfl) (by simp) ?_
                        refine AllReadyF.cons rfl ?_ ?_
                        · intro K' hK
                          rw [if_pos (by rfl)]
                          have c1 := obj_at hs_1_Q.2.2.1 1 _ rfl
                          have f1 := obj_fz hs_1_Q.2.2.1 1
                          go_simp
                          clear c1 f1
                          replace hP := Below.setCell (p := ⟨q, 1, none⟩) hP hs_1_Q.1 (.slice A4 (k + 1) c4)
                          replace hO_1 := own_setFar hO_1 hs_1_Q.2.2.2 1 (.slice A4 (k + 1) c4)
                          replace hs_1_P := hs_1_P.set_ne (by first | exact hpq | exact (Ne.symm hpq)) 1 (.slice A4 (k + 1) c4)
                          replace hs_1_Q := hs_1_Q.set 1 (.slice A4 (k + 1) c4)
                          replace hO_2 := own_setFar hO_2 hs_2_Q.2.2.2 1 (.slice A4 (k + 1) c4)
                          replace hs_2_P := hs_2_P.set_ne (by first | exact hpq | exact (Ne.symm hpq)) 1 (.slice A4 (k + 1) c4)
                          replace hs_2_Q := hs_2_Q.set 1 (.slice A4 (k + 1) c4)
                          refine hK.out _ _ hP (fun h => nomatch (show false = true from h)) (fun _ => ?_)
                          clear hK K'
                          (try simp only [Act.put, List.getElem_toArray, List.getElem_cons_zero, List.getElem_cons_succ, List.setIfInBounds_toArray, List.set_cons_zero, List.set_cons_succ])
                          replace hZ : u.heap.size ≤ (W22.setCell ⟨q, 1, none⟩ (.slice A4 (k + 1) c4)).heap.size := by simp only [size_setCell]; exact hZ
                          obtain ⟨W23, hWe⟩ : ∃ W23, (W22.setCell ⟨q, 1, none⟩ (.slice A4 (k + 1) c4)) = W23 := ⟨_, rfl⟩
                          rw [hWe] at hP hZ hO_1 hO_2 hs_1_P hs_1_Q hs_2_P hs_2_Q ⊢
                          clear hWe
                          refine wpAnyF_done (by kernel_rfl) ?_ _
                          refine NoPanic.normal ?_
                          rw [← HE1.out] at hO_1
                          rw [← HE2.out] at hO_2
                          go_wp2
                          exact ⟨⟨k + 1, A3, A4, c3, c4, by omega, by go_num, ⟨hs_1_P, hs_1_Q, hs_2_P, hs_2_Q, hO_1, hO_2, hap_1_2, hP⟩⟩, by simp [intOf]; omega⟩
                        exact AllReadyF.nil
                      exact AllReadyF.nil
                    exact AllReadyF.nil
                  exact AllReadyF.nil
                exact AllReadyF.nil
              refine AllReadyF.cons rfl ?_ ?_
              · intro K' hK
                rw [if_pos (by rfl)]
                go_simp
                have hP2 := below_alloc hP hZ (.cells #[.string x] 9)
                replace hs_1_P := hs_1_P.alloc (.cells #[.string x] 9)
                replace hs_1_Q := hs_1_Q.alloc (.cells #[.string x] 9)
                replace hs_1_L := hs_1_L.alloc (.cells #[.string x] 9)
                have hs_1_M := Side.fresh hZ hO_1 #[.string x] 9
                replace hO_1 := hO_1.alloc (.cells #[.string x] 9)
                replace hs_2_P := hs_2_P.alloc (.cells #[.string x] 9)
                replace hs_2_Q := hs_2_Q.alloc (.cells #[.string x] 9)
                replace hs_2_L := hs_2_L.alloc (.cells #[.string x] 9)
                have hs_2_M := Side.fresh hZ hO_2 #[.string x] 9
                replace hO_2 := hO_2.alloc (.cells #[.string x] 9)
                refine hK.out _ _ hP2 (fun _ => ⟨hs_1_P.2.2.1, hs_1_Q.2.2.1⟩) (fun _ => ?_)
                clear hK K'
                (try simp only [Act.put, List.getElem_toArray, List.getElem_cons_zero, List.getElem_cons_succ, List.setIfInBounds_toArray, List.set_cons_zero, List.set_cons_succ])
                replace hZ : u.heap.size ≤ (W1.alloc (.cells #[.string x] 9)).heap.size := by rw [World.size_alloc]; omega
                clear hP
                have hP := hP2
                clear hP2
                obtain ⟨W24, hWe⟩ : ∃ W24, (W1.alloc (.cells #[.string x] 9)) = W24 := ⟨_, rfl⟩
                rw [hWe] at hP hZ hO_1 hO_2 hs_1_P hs_1_Q hs_1_L hs_1_M hs_2_P hs_2_Q hs_2_L hs_2_M ⊢
                clear hWe
                refine wpAnyF_ready (rs := [4, 6]) (by kernel_rfl) (by simp) ?_
                refine AllReadyF.cons rfl ?_ ?_
                · intro K' hK
                  refine step_appN W24 rfl (.tmp 105) (.tmp 107) 22 rfl u.heap.size 9 i0 _ 1 16 und22 ih iz is ib rfl (by decide) _ (k) (((ts.take k).map revB).map Value.string) rfl hO_1 (some ⟨W0.heap.size, 0, none⟩) (1) 1 ([.string r]) rfl (hs_1_L.rd) (by simp [Value.oneCell']) (by unfold maxLen; omega) (by omega) hZ ?_
                  intro A3 c3 W25 hO2 hg2 hf2
                  have hP2 := gb_below hP hg2 hZ (fun g hg => (hO_1.lt g hg).1)
                  have hZ2 := Nat.le_trans hZ hg2.size
                  replace hs_2_P := hs_2_P.other hs_1_P.2.2.2 hg2
                  replace hs_2_Q := hs_2_Q.other hs_1_Q.2.2.2 hg2
                  replace hs_2_L := hs_2_L.other hs_1_L.2.2.2 hg2
                  replace hs_2_M := hs_2_M.other hs_1_M.2.2.2 hg2
                  have hO_22 := own_other hO_2 hg2 ((hap_1_2).symm)
                  have hap2 := Apart.grown (W := W24) (W' := W25) (hap_1_2) hO_2 hf2
                  clear hap_1_2
                  have hap_1_2 := hap2
                  clear hap2
                  replace hO_2 := hO_22
                  clear hO_22
                  replace hs_1_P := hs_1_P.grown hg2 hf2
                  replace hs_1_Q := hs_1_Q.grown hg2 hf2
                  replace hs_1_L := hs_1_L.grown hg2 hf2
                  replace hs_1_M := hs_1_M.grown hg2 hf2
                  clear hO_1
                  have hO_1 := hO2
                  clear hO2
                  refine hK.out _ _ hP2 (fun _ => ⟨hs_1_P.2.2.1, hs_1_Q.2.2.1⟩) (fun _ => ?_)
                  clear hK K'
                  (try simp only [Act.put, List.getElem_toArray, List.getElem_cons_zero, List.getElem_cons_succ, List.setIfInBounds_toArray, List.set_cons_zero, List.set_cons_succ])
                  clear hP hZ hg2 hf2
                  have hP := hP2
                  have hZ := hZ2
                  clear hP2 hZ2
                  refine wpAnyF_take0 (i := 10) (v := ?_) rfl rfl (by kernel_rfl) (by kernel_rfl) (by kernel_rfl) (fun _ _ _ h => h) (Or.inl ⟨by rfl, ?_⟩) hP (fun _ => ⟨hs_1_P.2.2.1, hs_1_Q.2.2.1⟩) ?_
                  rotate_left
                  · (intro ww hSw; go_simp; try with_reducible rfl)
                  (try simp only [Act.put, List.getElem_toArray, List.getElem_cons_zero, List.getElem_cons_succ, List.setIfInBounds_toArray, List.set_cons_zero, List.set_cons_succ])
                  refine wpAnyF_ready (rs := [6]) (by kernel_rfl) (by simp) ?_
                  refine AllReadyF.cons rfl ?_ ?_
                  · intro K' hK
                    rw [if_pos (by rfl)]
                    have c0 := obj_at hs_2_Q.2.2.1 1 _ rfl
                    go_simp
                    clear c0
                    refine hK.out _ _ hP (fun _ => ⟨hs_1_P.2.2.1, hs_1_Q.2.2.1⟩) (fun _ => ?_)
                    clear hK K'
                    (try simp only [Act.put, List.getElem_toArray, List.getElem_cons_zero, List.getElem_cons_succ, List.setIfInBounds_toArray, List.set_cons_zero, List.set_cons_succ])
                    refine wpAnyF_ready (rs := [9]) (by kernel_rfl) (by simp) ?_
                    refine AllReadyF.cons rfl ?_ ?_
                    · intro K' hK
                      refine step_appN W25 rfl (.tmp 110) (.tmp 112) 22 rfl u.heap.size 9 i0 _ 1 16 und22 ih iz is ib rfl (by decide) _ (k) (((ts.take k).map (swpB (a1 : Int) (a2 : Int))).map Value.string) rfl hO_2 (some ⟨W1.heap.size, 0, none⟩) (1) 1 ([.string x]) rfl (hs_2_M.rd) (by simp [Value.oneCell']) (by unfold maxLen; omega) (by omega) hZ ?_
                      intro A4 c4 W27 hO2 hg2 hf2
                      have hP2 := gb_below hP hg2 hZ (fun g hg => (hO_2.lt g hg).1)
                      have hZ2 := Nat.le_trans hZ hg2.size
                      replace hs_1_P := hs_1_P.other hs_2_P.2.2.2 hg2
                      replace hs_1_Q := hs_1_Q.other hs_2_Q.2.2.2 hg2
                      replace hs_1_L := hs_1_L.other hs_2_L.2.2.2 hg2
                      replace hs_1_M := hs_1_M.other hs_2_M.2.2.2 hg2
                      have hO_12 := own_other hO_1 hg2 ((hap_1_2.symm).symm)
                      have hap2 := Apart.grown (W := W25) (W' := W27) (hap_1_2.symm) hO_1 hf2
                      clear hap_1_2
                      have hap_1_2 := hap2.symm
                      clear hap2
                      replace hO_1 := hO_12
                      clear hO_12
                      replace hs_2_P := hs_2_P.grown hg2 hf2
                      replace hs_2_Q := hs_2_Q.grown hg2 hf2
                      replace hs_2_L := hs_2_L.grown hg2 hf2
                      replace hs_2_M := hs_2_M.grown hg2 hf2
                      clear hO_2
                      have hO_2 := hO2
                      clear hO2
                      refine hK.out _ _ hP2 (fun _ => ⟨hs_1_P.2.2.1, hs_1_Q.2.2.1⟩) (fun _ => ?_)
                      clear hK K'
                      (try simp only [Act.put, List.getElem_toArray, List.getElem_cons_zero, List.getElem_cons_succ, List.setIfInBounds_toArray, List.set_cons_zero, List.set_cons_succ])
                      clear hP hZ hg2 hf2
                      have hP := hP2
                      have hZ := hZ2
                      clear hP2 hZ2
                      refine wpAnyF_ready (rs := [11]) (by kernel_rfl) (by simp) ?_
                      refine AllReadyF.cons rfl ?_ ?_
                      · intro K' hK
                        rw [if_pos (by rfl)]
                        have c1 := obj_at hs_1_P.2.2.1 1 _ rfl
                        have f1 := obj_fz hs_1_P.2.2.1 1
                        go_simp
                        clear c1 f1
                        clear hs_1_L hs_2_L
                        clear hs_1_M hs_2_M
                        replace hP := Below.setCell (p := ⟨p, 1, none⟩) hP hs_1_P.1 (.slice A3 (k + 1) c3)
                        replace hO_1 := own_setFar hO_1 hs_1_P.2.2.2 1 (.slice A3 (k + 1) c3)
                        replace hs_1_Q := hs_1_Q.set_ne (by first | exact hpq | exact (Ne.symm hpq)) 1 (.slice A3 (k + 1) c3)
                        replace hs_1_P := hs_1_P.set 1 (.slice A3 (k + 1) c3)
                        replace hO_2 := own_setFar hO_2 hs_2_P.2.2.2 1 (.slice A3 (k + 1) c3)
                        replace hs_2_Q := hs_2_Q.set_ne (by first | exact hpq | exact (Ne.symm hpq)) 1 (.slice A3 (k + 1) c3)
                        replace hs_2_P := hs_2_P.set 1 (.slice A3 (k + 1) c3)
                        refine hK.out _ _ hP (fun h => nomatch (show false = true from h)) (fun _ => ?_)
                        clear hK K'
                        (try simp only [Act.put, List.getElem_toArray, List.getElem_cons_zero, List.getElem_cons_succ, List.setIfInBounds_toArray, List.set_cons_zero, List.set_cons_succ])
                        replace hZ : u.heap.size ≤ (W27.setCell ⟨p, 1, none⟩ (.slice A3 (k + 1) c3)).heap.size := by simp only [size_setCell]; exact hZ
                        obtain ⟨W28, hWe⟩ : ∃ W28, (W27.setCell ⟨p, 1, none⟩ (.slice A3 (k + 1) c3)) = W28 := ⟨_, rfl⟩
                        rw [hWe] at hP hZ hO_1 hO_2 hs_1_P hs_1_Q hs_2_P hs_2_Q ⊢
                        clear hWe
                        refine wpAnyF_take0 (i := 12) (v := ?_) rfl rfl (by kernel_rfl) (by kernel_rfl) (by kernel_rfl) (fun _ _ _ h => h) (Or.inl ⟨by rfl, ?_⟩) hP (fun h => nomatch (show false = true from h)) ?_
                        rotate_left
                        · (intro ww hSw; go_simp; try with_reducible rfl)
                        (try simp only [Act.put, List.getElem_toArray, List.getElem_cons_zero, List.getElem_cons_succ, List.setIfInBounds_toArray, List.set_cons_zero, List.set_cons_succ])
                        refine wpAnyF_ready (rs := [13]) (by kernel_rfl) (by simp) ?_
                        refine AllReadyF.cons rfl ?_ ?_
                        · intro K' hK
                          rw [if_pos (by rfl)]
                          have c1 := obj_at hs_1_Q.2.2.1 1 _ rfl
                          have f1 := obj_fz hs_1_Q.2.2.1 1
                          go_simp
                          clear c1 f1
                          replace hP := Below.setCell (p := ⟨q, 1, none⟩) hP hs_1_Q.1 (.slice A4 (k + 1) c4)
                          replace hO_1 := own_setFar hO_1 hs_1_Q.2.2.2 1 (.slice A4 (k + 1) c4)
                          replace hs_1_P := hs_1_P.set_ne (by first | exact hpq | exact (Ne.symm hpq)) 1 (.slice A4 (k + 1) c4)
                          replace hs_1_Q := hs_1_Q.set 1 (.slice A4 (k + 1) c4)
                          replace hO_2 := own_setFar hO_2 hs_2_Q.2.2.2 1 (.slice A4 (k + 1) c4)
                          replace hs_2_P := hs_2_P.set_ne (by first | exact hpq | exact (Ne.symm hpq)) 1 (.slice A4 (k + 1) c4)
                          replace hs_2_Q := hs_2_Q.set 1 (.slice A4 (k + 1) c4)
                          refine hK.out _ _ hP (fun h => nomatch (show false = true from h)) (fun _ => ?_)
                          clear hK K'
                          (try simp only [Act.put, List.getElem_toArray, List.getElem_cons_zero, List.getElem_cons_succ, List.setIfInBounds_toArray, List.set_cons_zero, List.set_cons_succ])
                          replace hZ : u.heap.size ≤ (W28.setCell ⟨q, 1, none⟩ (.slice A4 (k + 1) c4)).heap.size := by simp only [size_setCell]; exact hZ
                          obtain ⟨W29, hWe⟩ : ∃ W29, (W28.setCell ⟨q, 1, none⟩ (.slice A4 (k + 1) c4)) = W29 := ⟨_, rfl⟩
                          rw [hWe] at hP hZ hO_1 hO_2 hs_1_P hs_1_Q hs_2_P hs_2_Q ⊢
                          clear hWe
                          refine wpAnyF_done (by kernel_rfl) ?_ _
                          refine NoPanic.normal ?_
                          rw [← HE1.out] at hO_1
                          rw [← HE2.out] at hO_2
                          go_wp2
                          exact ⟨⟨k + 1, A3, A4, c3, c4, by omega, by go_num, ⟨hs_1_P, hs_1_Q, hs_2_P, hs_2_Q, hO_1, hO_2, hap_1_2, hP⟩⟩, by simp [intOf]; omega⟩
                        exact AllReadyF.nil
                      exact AllReadyF.nil
                    exact AllReadyF.nil
                  exact AllReadyF.nil
                refine AllReadyF.cons rfl ?_ ?_
                · intro K' hK
                  rw [if_pos (by rfl)]
                  have c0 := obj_at hs_2_Q.2.2.1 1 _ rfl
                  go_simp
                  clear c0
                  refine hK.out _ _ hP (fun _ => ⟨hs_1_P.2.2.1, hs_1_Q.2.2.1⟩) (fun _ => ?_)
                  clear hK K'
                  (try simp only [Act.put, List.getElem_toArray, List.getElem_cons_zero, List.getElem_cons_succ, List.setIfInBounds_toArray, List.set_cons_zero, List.set_cons_succ])
                  refine wpAnyF_ready (rs := [4]) (by kernel_rfl) (by simp) ?_
                  refine AllReadyF.cons rfl ?_ ?_
                  · intro K' hK
                    refine step_appN W24 rfl (.tmp 105) (.tmp 107) 22 rfl u.heap.size 9 i0 _ 1 16 und22 ih iz is ib rfl (by decide) _ (k) (((ts.take k).map revB).map Value.string) rfl hO_1 (some ⟨W0.heap.size, 0, none⟩) (1) 1 ([.string r]) rfl (hs_1_L.rd) (by simp [Value.oneCell']) (by unfold maxLen; omega) (by omega) hZ ?_
                    intro A3 c3 W31 hO2 hg2 hf2
                    have hP2 := gb_below hP hg2 hZ (fun g hg => (hO_1.lt g hg).1)
                    have hZ2 := Nat.le_trans hZ hg2.size
                    replace hs_2_P := hs_2_P.other hs_1_P.2.2.2 hg2
                    replace hs_2_Q := hs_2_Q.other hs_1_Q.2.2.2 hg2
                    replace hs_2_L := hs_2_L.other hs_1_L.2.2.2 hg2
                    replace hs_2_M := hs_2_M.other hs_1_M.2.2.2 hg2
                    have hO_22 := own_other hO_2 hg2 ((hap_1_2).symm)
                    have hap2 := Apart.grown (W := W24) (W' := W31) (hap_1_2) hO_2 hf2
                    clear hap_1_2
                    have hap_1_2 := hap2
                    clear hap2
                    replace hO_2 := hO_22
                    clear hO_22
                    replace hs_1_P := hs_1_P.grown hg2 hf2
                    replace hs_1_Q := hs_1_Q.grown hg2 hf2
                    replace hs_1_L := hs_1_L.grown hg2 hf2
                    replace hs_1_M := hs_1_M.grown hg2 hf2
                    clear hO_1
                    have hO_1 := hO2
                    clear hO2
                    refine hK.out _ _ hP2 (fun _ => ⟨hs_1_P.2.2.1, hs_1_Q.2.2.1⟩) (fun _ => ?_)
                    clear hK K'
                    (try simp only [Act.put, List.getElem_toArray, List.getElem_cons_zero, List.getElem_cons_succ, List.setIfInBounds_toArray, List.set_cons_zero, List.set_cons_succ])
                    clear hP hZ hg2 hf2
                    have hP := hP2
                    have hZ := hZ2
                    clear hP2 hZ2
                    refine wpAnyF_take0 (i := 10) (v := ?_) rfl rfl (by kernel_rfl) (by kernel_rfl) (by kernel_rfl) (fun _ _ _ h => h) (Or.inl ⟨by rfl, ?_⟩) hP (fun _ => ⟨hs_1_P.2.2.1, hs_1_Q.2.2.1⟩) ?_
                    rotate_left
                    · (intro ww hSw; go_simp; try with_reducible rfl)
                    (try simp only [Act.put, List.getElem_toArray, List.getElem_cons_zero, List.getElem_cons_succ, List.setIfInBounds_toArray, List.set_cons_zero, List.set_cons_succ])
                    refine wpAnyF_ready (rs := [9]) (by kernel_rfl) (by simp) ?_
                    refine AllReadyF.cons rfl ?_ ?_
                    · intro K' hK
                      refine step_appN W31 rfl (.tmp 110) (.tmp 112) 22 rfl u.heap.size 9 i0 _ 1 16 und22 ih iz is ib rfl (by decide) _ (k) (((ts.take k).map (swpB (a1 : Int) (a2 : Int))).map Value.string) rfl hO_2 (some ⟨W1.heap.size, 0, none⟩) (1) 1 ([.string x]) rfl (hs_2_M.rd) (by simp [Value.oneCell']) (by unfold maxLen; omega) (by omega) hZ ?_
                      intro A4 c4 W32 hO2 hg2 hf2
                      have hP2 := gb_below hP hg2 hZ (fun g hg => (hO_2.lt g hg).1)
                      have hZ2 := Nat.le_trans hZ hg2.size
                      replace hs_1_P := hs_1_P.other hs_2_P.2.2.2 hg2
                      replace hs_1_Q := hs_1_Q.other hs_2_Q.2.2.2 hg2
                      replace hs_1_L := hs_1_L.other hs_2_L.2.2.2 hg2
                      replace hs_1_M := hs_1_M.other hs_2_M.2.2.2 hg2
                      have hO_12 := own_other hO_1 hg2 ((hap_1_2.symm).symm)
                      have hap2 := Apart.grown (W := W31) (W' := W32) (hap_1_2.symm) hO_1 hf2
                      clear hap_1_2
                      have hap_1_2 := hap2.symm
                      clear hap2
                      replace hO_1 := hO_12
                      clear hO_12
                      replace hs_2_P := hs_2_P.grown hg2 hf2
                      replace hs_2_Q := hs_2_Q.grown hg2 hf2
                      replace hs_2_L := hs_2_L.grown hg2 hf2
                      replace hs_2_M := hs_2_M.grown hg2 hf2
                      clear hO_2
                      have hO_2 := hO2
                      clear hO2
                      refine hK.out _ _ hP2 (fun _ => ⟨hs_1_P.2.2.1, hs_1_Q.2.2.1⟩) (fun _ => ?_)
                      clear hK K'
                      (try simp only [Act.put, List.getElem_toArray, List.getElem_cons_zero, List.getElem_cons_succ, List.setIfInBounds_toArray, List.set_cons_zero, List.set_cons_succ])
                      clear hP hZ hg2 hf2
                      have hP := hP2
                      have hZ := hZ2
                      clear hP2 hZ2
                      refine wpAnyF_ready (rs := [11]) (by kernel_rfl) (by simp) ?_
                      refine AllReadyF.cons rfl ?_ ?_
                      · intro K' hK
                        rw [if_pos (by rfl)]
                        have c1 := obj_at hs_1_P.2.2.1 1 _ rfl
                        have f1 := obj_fz hs_1_P.2.2.1 1
                        go_simp
                        clear c1 f1
                        clear hs_1_L hs_2_L
                        clear hs_1_M hs_2_M
                        replace hP := Below.setCell (p := ⟨p, 1, none⟩) hP hs_1_P.1 (.slice A3 (k + 1) c3)
                        replace hO_1 := own_setFar hO_1 hs_1_P.2.2.2 1 (.slice A3 (k + 1) c3)
                        replace hs_1_Q := hs_1_Q.set_ne (by first | exact hpq | exact (Ne.symm hpq)) 1 (.slice A3 (k + 1) c3)
                        replace hs_1_P := hs_1_P.set 1 (.slice A3 (k + 1) c3)
                        replace hO_2 := own_setFar hO_2 hs_2_P.2.2.2 1 (.slice A3 (k + 1) c3)
                        replace hs_2_Q := hs_2_Q.set_ne (by first | exact hpq | exact (Ne.symm hpq)) 1 (.slice A3 (k + 1) c3)
                        replace hs_2_P := hs_2_P.set 1 (.slice A3 (k + 1) c3)
                        refine hK.out _ _ hP (fun h => nomatch (show false = true from h)) (fun _ => ?_)
                        clear hK K'
                        (try simp only [Act.put, List.getElem_toArray, List.getElem_cons_zero, List.getElem_cons_succ, List.setIfInBounds_toArray, List.set_cons_zero, List.set_cons_succ])
                        replace hZ : u.heap.size ≤ (W32.setCell ⟨p, 1, none⟩ (.slice A3 (k + 1) c3)).heap.size := by simp only [size_setCell]; exact hZ
                        obtain ⟨W33, hWe⟩ : ∃ W33, (W32.setCell ⟨p, 1, none⟩ (.slice A3 (k + 1) c3)) = W33 := ⟨_, rfl⟩
                        rw [hWe] at hP hZ hO_1 hO_2 hs_1_P hs_1_Q hs_2_P hs_2_Q ⊢
                        clear hWe
                        refine wpAnyF_take0 (i := 12) (v := ?_) rfl rfl (by kernel_rfl) (by kernel_rfl) (by kernel_rfl) (fun _ _ _ h => h) (Or.inl ⟨by rfl, ?_⟩) hP (fun h => nomatch (show false = true from h)) ?_
                        rotate_left
                        · (intro ww hSw; go_simp; try with_reducible rfl)
                        (try simp only [Act.put, List.getElem_toArray, List.getElem_cons_zero, List.getElem_cons_succ, List.setIfInBounds_toArray, List.set_cons_zero, List.set_cons_succ])
                        refine wpAnyF_ready (rs := [13]) (by kernel_rfl) (by simp) ?_
                        refine AllReadyF.cons rfl ?_ ?_
                        · intro K' hK
                          rw [if_pos (by rfl)]
                          have c1 := obj_at hs_1_Q.2.2.1 1 _ rfl
                          have f1 := obj_fz hs_1_Q.2.2.1 1
                          go_simp
                          clear c1 f1
                          replace hP := Below.setCell (p := ⟨q, 1, none⟩) hP hs_1_Q.1 (.slice A4 (k + 1) c4)
                          replace hO_1 := own_setFar hO_1 hs_1_Q.2.2.2 1 (.slice A4 (k + 1) c4)
                          replace hs_1_P := hs_1_P.set_ne (by first | exact hpq | exact (Ne.symm hpq)) 1 (.slice A4 (k + 1) c4)
                          replace hs_1_Q := hs_1_Q.set 1 (.slice A4 (k + 1) c4)
                          replace hO_2 := own_setFar hO_2 hs_2_Q.2.2.2 1 (.slice A4 (k + 1) c4)
                          replace hs_2_P := hs_2_P.set_ne (by first | exact hpq | exact (Ne.symm hpq)) 1 (.slice A4 (k + 1) c4)
                          replace hs_2_Q := hs_2_Q.set 1 (.slice A4 (k + 1) c4)
                          refine hK.out _ _ hP (fun h => nomatch (show false = true from h)) (fun _ => ?_)
                          clear hK K'
                          (try simp only [Act.put, List.getElem_toArray, List.getElem_cons_zero, List.getElem_cons_succ, List.setIfInBounds_toArray, List.set_cons_zero, List.set_cons_succ])
                          replace hZ : u.heap.size ≤ (W33.setCell ⟨q, 1, none⟩ (.slice A4 (k + 1) c4)).heap.size := by simp only [size_setCell]; exact hZ
                          obtain ⟨W34, hWe⟩ : ∃ W34, (W33.setCell ⟨q, 1, none⟩ (.slice A4 (k + 1) c4)) = W34 := ⟨_, rfl⟩
                          rw [hWe] at hP hZ hO_1 hO_2 hs_1_P hs_1_Q hs_2_P hs_2_Q ⊢
                          clear hWe
                          refine wpAnyF_done (by kernel_rfl) ?_ _
                          refine NoPanic.normal ?_
                          rw [← HE1.out] at hO_1
                          rw [← HE2.out] at hO_2
                          go_wp2
                          exact ⟨⟨k + 1, A3, A4, c3, c4, by omega, by go_num, ⟨hs_1_P, hs_1_Q, hs_2_P, hs_2_Q, hO_1, hO_2, hap_1_2, hP⟩⟩, by simp [intOf]; omega⟩
                        exact AllReadyF.nil
                      exact AllReadyF.nil
                    exact AllReadyF.nil
                  exact AllReadyF.nil
                exact AllReadyF.nil
              exact AllReadyF.nil
            refine AllReadyF.cons rfl ?_ ?_
            · intro K' hK
              rw [if_pos (by rfl)]
              have c0 := obj_at hs_2_Q.2.2.1 1 _ rfl
              go_simp
              clear c0
              refine hK.out _ _ hP (fun _ => ⟨hs_1_P.2.2.1, hs_1_Q.2.2.1⟩) (fun _ => ?_)
              clear hK K'
              (try simp only [Act.put, List.getElem_toArray, List.getElem_cons_zero, List.getElem_cons_succ, List.setIfInBounds_toArray, List.set_cons_zero, List.set_cons_succ])
              refine wpAnyF_ready (rs := [3, 8]) (by kernel_rfl) (by simp) ?_
              refine AllReadyF.cons rfl ?_ ?_
              · intro K' hK
                rw [if_pos (by rfl)]
                go_simp
                have hP2 := below_alloc hP hZ (.cells #[.string r] 9)
                replace hs_1_P := hs_1_P.alloc (.cells #[.string r] 9)
                replace hs_1_Q := hs_1_Q.alloc (.cells #[.string r] 9)
                have hs_1_L := Side.fresh hZ hO_1 #[.string r] 9
                replace hO_1 := hO_1.alloc (.cells #[.string r] 9)
                replace hs_2_P := hs_2_P.alloc (.cells #[.string r] 9)
                replace hs_2_Q := hs_2_Q.alloc (.cells #[.string r] 9)
                have hs_2_L := Side.fresh hZ hO_2 #[.string r] 9
                replace hO_2 := hO_2.alloc (.cells #[.string r] 9)
                refine hK.out _ _ hP2 (fun _ => ⟨hs_1_P.2.2.1, hs_1_Q.2.2.1⟩) (fun _ => ?_)
                clear hK K'
                (try simp only [Act.put, List.getElem_toArray, List.getElem_cons_zero, List.getElem_cons_succ, List.setIfInBounds_toArray, List.set_cons_zero, List.set_cons_succ])
                replace hZ : u.heap.size ≤ (W0.alloc (.cells #[.string r] 9)).heap.size := by rw [World.size_alloc]; omega
                clear hP
                have hP := hP2
                clear hP2
                obtain ⟨W36, hWe⟩ : ∃ W36, (W0.alloc (.cells #[.string r] 9)) = W36 := ⟨_, rfl⟩
                rw [hWe] at hP hZ hO_1 hO_2 hs_1_P hs_1_Q hs_1_L hs_2_P hs_2_Q hs_2_L ⊢
                clear hWe
                refine wpAnyF_ready (rs := [4, 8]) (by kernel_rfl) (by simp) ?_
                refine AllReadyF.cons rfl ?_ ?_
                · intro K' hK
                  refine step_appN W36 rfl (.tmp 105) (.tmp 107) 22 rfl u.heap.size 9 i0 _ 1 16 und22 ih iz is ib rfl (by decide) _ (k) (((ts.take k).map revB).map Value.string) rfl hO_1 (some ⟨W0.heap.size, 0, none⟩) (1) 1 ([.string r]) rfl (hs_1_L.rd) (by simp [Value.oneCell']) (by unfold maxLen; omega) (by omega) hZ ?_
                  intro A3 c3 W37 hO2 hg2 hf2
                  have hP2 := gb_below hP hg2 hZ (fun g hg => (hO_1.lt g hg).1)
                  have hZ2 := Nat.le_trans hZ hg2.size
                  replace hs_2_P := hs_2_P.other hs_1_P.2.2.2 hg2
                  replace hs_2_Q := hs_2_Q.other hs_1_Q.2.2.2 hg2
                  replace hs_2_L := hs_2_L.other hs_1_L.2.2.2 hg2
                  have hO_22 := own_other hO_2 hg2 ((hap_1_2).symm)
                  have hap2 := Apart.grown (W := W36) (W' := W37) (hap_1_2) hO_2 hf2
                  clear hap_1_2
                  have hap_1_2 := hap2
                  clear hap2
                  replace hO_2 := hO_22
                  clear hO_22
                  replace hs_1_P := hs_1_P.grown hg2 hf2
                  replace hs_1_Q := hs_1_Q.grown hg2 hf2
                  replace hs_1_L := hs_1_L.grown hg2 hf2
                  clear hO_1
                  have hO_1 := hO2
                  clear hO2
                  refine hK.out _ _ hP2 (fun _ => ⟨hs_1_P.2.2.1, hs_1_Q.2.2.1⟩) (fun _ => ?_)
                  clear hK K'
                  (try simp only [Act.put, List.getElem_toArray, List.getElem_cons_zero, List.getElem_cons_succ, List.setIfInBounds_toArray, List.set_cons_zero, List.set_cons_succ])
                  clear hP hZ hg2 hf2
                  have hP := hP2
                  have hZ := hZ2
                  clear hP2 hZ2
                  refine wpAnyF_take0 (i := 10) (v := ?_) rfl rfl (by kernel_rfl) (by kernel_rfl) (by kernel_rfl) (fun _ _ _ h => h) (Or.inl ⟨by rfl, ?_⟩) hP (fun _ => ⟨hs_1_P.2.2.1, hs_1_Q.2.2.1⟩) ?_
                  rotate_left
                  · (intro ww hSw; go_simp; try with_reducible rfl)
                  (try simp only [Act.put, List.getElem_toArray, List.getElem_cons_zero, List.getElem_cons_succ, List.setIfInBounds_toArray, List.set_cons_zero, List.set_cons_succ])
                  refine wpAnyF_ready (rs := [8]) (by kernel_rfl) (by simp) ?_
                  refine AllReadyF.cons rfl ?_ ?_
                  · intro K' hK
                    rw [if_pos (by rfl)]
                    go_simp
                    have hP2 := below_alloc hP hZ (.cells #[.string x] 9)
                    replace hs_1_P := hs_1_P.alloc (.cells #[.string x] 9)
                    replace hs_1_Q := hs_1_Q.alloc (.cells #[.string x] 9)
                    replace hs_1_L := hs_1_L.alloc (.cells #[.string x] 9)
                    have hs_1_M := Side.fresh hZ hO_1 #[.string x] 9
                    replace hO_1 := hO_1.alloc (.cells #[.string x] 9)
                    replace hs_2_P := hs_2_P.alloc (.cells #[.string x] 9)
                    replace hs_2_Q := hs_2_Q.alloc (.cells #[.string x] 9)
                    replace hs_2_L := hs_2_L.alloc (.cells #[.string x] 9)
                    have hs_2_M := Side.fresh hZ hO_2 #[.string x] 9
                    replace hO_2 := hO_2.alloc (.cells #[.string x] 9)
                    refine hK.out _ _ hP2 (fun _ => ⟨hs_1_P.2.2.1, hs_1_Q.2.2.1⟩) (fun _ => ?_)
                    clear hK K'
                    (try simp only [Act.put, List.getElem_toArray, List.getElem_cons_zero, List.getElem_cons_succ, List.setIfInBounds_toArray, List.set_cons_zero, List.set_cons_succ])
                    replace hZ : u.heap.size ≤ (W37.alloc (.cells #[.string x] 9)).heap.size := by rw [World.size_alloc]; omega
                    clear hP
                    have hP := hP2
                    clear hP2
                    obtain ⟨W38, hWe⟩ : ∃ W38, (W37.alloc (.cells #[.string x] 9)) = W38 := ⟨_, rfl⟩
                    rw [hWe] at hP hZ hO_1 hO_2 hs_1_P hs_1_Q hs_1_L hs_1_M hs_2_P hs_2_Q hs_2_L hs_2_M ⊢
                    clear hWe
                    refine wpAnyF_ready (rs := [9]) (by kernel_rfl) (by simp) ?_
                    refine AllReadyF.cons rfl ?_ ?_
                    · intro K' hK
                      refine step_appN W38 rfl (.tmp 110) (.tmp 112) 22 rfl u.heap.size 9 i0 _ 1 16 und22 ih iz is ib rfl (by decide) _ (k) (((ts.take k).map (swpB (a1 : Int) (a2 : Int))).map Value.string) rfl hO_2 (some ⟨W37.heap.size, 0, none⟩) (1) 1 ([.string x]) rfl (hs_2_M.rd) (by simp [Value.oneCell']) (by unfold maxLen; omega) (by omega) hZ ?_
                      intro A4 c4 W39 hO2 hg2 hf2
                      have hP2 := gb_below hP hg2 hZ (fun g hg => (hO_2.lt g hg).1)
                      have hZ2 := Nat.le_trans hZ hg2.size
                      replace hs_1_P := hs_1_P.other hs_2_P.2.2.2 hg2
                      replace hs_1_Q := hs_1_Q.other hs_2_Q.2.2.2 hg2
                      replace hs_1_L := hs_1_L.other hs_2_L.2.2.2 hg2
                      replace hs_1_M := hs_1_M.other hs_2_M.2.2.2 hg2
                      have hO_12 := own_other hO_1 hg2 ((hap_1_2.symm).symm)
                      have hap2 := Apart.grown (W := W38) (W' := W39) (hap_1_2.symm) hO_1 hf2
                      clear hap_1_2
                      have hap_1_2 := hap2.symm
                      clear hap2
                      replace hO_1 := hO_12
                      clear hO_12
                      replace hs_2_P := hs_2_P.grown hg2 hf2
                      replace hs_2_Q := hs_2_Q.grown hg2 hf2
                      replace hs_2_L := hs_2_L.grown hg2 hf2
                      replace hs_2_M := hs_2_M.grown hg2 hf2
                      clear hO_2
                      have hO_2 := hO2
                      clear hO2
                      refine hK.out _ _ hP2 (fun _ => ⟨hs_1_P.2.2.1, hs_1_Q.2.2.1⟩) (fun _ => ?_)
                      clear hK K'
                      (try simp only [Act.put, List.getElem_toArray, List.getElem_cons_zero, List.getElem_cons_succ, List.setIfInBounds_toArray, List.set_cons_zero, List.set_cons_succ])
                      clear hP hZ hg2 hf2
                      have hP := hP2
                      have hZ := hZ2
                      clear hP2 hZ2
                      refine wpAnyF_ready (rs := [11]) (by kernel_rfl) (by simp) ?_
                      refine AllReadyF.cons rfl ?_ ?_
                      · intro K' hK
                        rw [if_pos (by rfl)]
                        have c1 := obj_at hs_1_P.2.2.1 1 _ rfl
                        have f1 := obj_fz hs_1_P.2.2.1 1
                        go_simp
                        clear c1 f1
                        clear hs_1_L hs_2_L
                        clear hs_1_M hs_2_M
                        replace hP := Below.setCell (p := ⟨p, 1, none⟩) hP hs_1_P.1 (.slice A3 (k + 1) c3)
                        replace hO_1 := own_setFar hO_1 hs_1_P.2.2.2 1 (.slice A3 (k + 1) c3)
                        replace hs_1_Q := hs_1_Q.set_ne (by first | exact hpq | exact (Ne.symm hpq)) 1 (.slice A3 (k + 1) c3)
                        replace hs_1_P := hs_1_P.set 1 (.slice A3 (k + 1) c3)
                        replace hO_2 := own_setFar hO_2 hs_2_P.2.2.2 1 (.slice A3 (k + 1) c3)
                        replace hs_2_Q := hs_2_Q.set_ne (by first | exact hpq | exact (Ne.symm hpq)) 1 (.slice A3 (k + 1) c3)
                        replace hs_2_P := hs_2_P.set 1 (.slice A3 (k + 1) c3)
                        refine hK.out _ _ hP (fun h => nomatch (show false = true from h)) (fun _ => ?_)
                        clear hK K'
                        (try simp only [Act.put, List.getElem_toArray, List.getElem_cons_zero, List.getElem_cons_succ, List.setIfInBounds_toArray, List.set_cons_zero, List.set_cons_succ])
                        replace hZ : u.heap.size ≤ (W39.setCell ⟨p, 1, none⟩ (.slice A3 (k + 1) c3)).heap.size := by simp only [size_setCell]; exact hZ
                        obtain ⟨W40, hWe⟩ : ∃ W40, (W39.setCell ⟨p, 1, none⟩ (.slice A3 (k + 1) c3)) = W40 := ⟨_, rfl⟩
                        rw [hWe] at hP hZ hO_1 hO_2 hs_1_P hs_1_Q hs_2_P hs_2_Q ⊢
                        clear hWe
                        refine wpAnyF_take0 (i := 12) (v := ?_) rfl rfl (by kernel_rfl) (by kernel_rfl) (by kernel_rfl) (fun _ _ _ h => h) (Or.inl ⟨by rfl, ?_⟩) hP (fun h => nomatch (show false = true from h)) ?_
                        rotate_left
                        · (intro ww hSw; go_simp; try with_reducible rfl)
                        (try simp only [Act.put, List.getElem_toArray, List.getElem_cons_zero, List.getElem_cons_succ, List.setIfInBounds_toArray, List.set_cons_zero, List.set_cons_succ])
                        refine wpAnyF_ready (rs := [13]) (by kernel_rfl) (by simp) ?_
                        refine AllReadyF.cons rfl ?_ ?_
                        · intro K' hK
                          rw [if_pos (by rfl)]
                          have c1 := obj_at hs_1_Q.2.2.1 1 _ rfl
                          have f1 := obj_fz hs_1_Q.2.2.1 1
                          go_simp
                          clear c1 f1
                          replace hP := Below.setCell (p := ⟨q, 1, none⟩) hP hs_1_Q.1 (.slice A4 (k + 1) c4)
                          replace hO_1 := own_setFar hO_1 hs_1_Q.2.2.2 1 (.slice A4 (k + 1) c4)
                          replace hs_1_P := hs_1_P.set_ne (by first | exact hpq | exact (Ne.symm hpq)) 1 (.slice A4 (k + 1) c4)
                          replace hs_1_Q := hs_1_Q.set 1 (.slice A4 (k + 1) c4)
                          replace hO_2 := own_setFar hO_2 hs_2_Q.2.2.2 1 (.slice A4 (k + 1) c4)
                          replace hs_2_P := hs_2_P.set_ne (by first | exact hpq | exact (Ne.symm hpq)) 1 (.slice A4 (k + 1) c4)
                          replace hs_2_Q := hs_2_Q.set 1 (.slice A4 (k + 1) c4)
                          refine hK.out _ _ hP (fun h => nomatch (show false = true from h)) (fun _ => ?_)
                          clear hK K'
                          (try simp only [Act.put, List.getElem_toArray, List.getElem_cons_zero, List.getElem_cons_succ, List.setIfInBounds_toArray, List.set_cons_zero, List.set_cons_succ])
                          replace hZ : u.heap.size ≤ (W40.setCell ⟨q, 1, none⟩ (.slice A4 (k + 1) c4)).heap.size := by simp only [size_setCell]; exact hZ
                          obtain ⟨W41, hWe⟩ : ∃ W41, (W40.setCell ⟨q, 1, none⟩ (.slice A4 (k + 1) c4)) = W41 := ⟨_, rfl⟩
                          rw [hWe] at hP hZ hO_1 hO_2 hs_1_P hs_1_Q hs_2_P hs_2_Q ⊢
                          clear hWe
                          refine wpAnyF_done (by kernel_rfl) ?_ _
                          refine NoPanic.normal ?_
                          rw [← HE1.out] at hO_1
                          rw [← HE2.out] at hO_2
                          go_wp2
                          exact ⟨⟨k + 1, A3, A4, c3, c4, by omega, by go_num, ⟨hs_1_P, hs_1_Q, hs_2_P, hs_2_Q, hO_1, hO_2, hap_1_2, hP⟩⟩, by simp [intOf]; omega⟩
                        exact AllReadyF.nil
                      exact AllReadyF.nil
                    exact AllReadyF.nil
                  exact AllReadyF.nil
                refine AllReadyF.cons rfl ?_ ?_
                · intro K' hK
                  rw [if_pos (by rfl)]
                  go_simp
                  have hP2 := below_alloc hP hZ (.cells #[.string x] 9)
                  replace hs_1_P := hs_1_P.alloc (.cells #[.string x] 9)
                  replace hs_1_Q := hs_1_Q.alloc (.cells #[.string x] 9)
                  replace hs_1_L := hs_1_L.alloc (.cells #[.string x] 9)
                  have hs_1_M := Side.fresh hZ hO_1 #[.string x] 9
                  replace hO_1 := hO_1.alloc (.cells #[.string x] 9)
                  replace hs_2_P := hs_2_P.alloc (.cells #[.string x] 9)
                  replace hs_2_Q := hs_2_Q.alloc (.cells #[.string x] 9)
                  replace hs_2_L := hs_2_L.alloc (.cells #[.string x] 9)
                  have hs_2_M := Side.fresh hZ hO_2 #[.string x] 9
                  replace hO_2 := hO_2.alloc (.cells #[.string x] 9)
                  refine hK.out _ _ hP2 (fun _ => ⟨hs_1_P.2.2.1, hs_1_Q.2.2.1⟩) (fun _ => ?_)
                  clear hK K'
                  (try simp only [Act.put, List.getElem_toArray, List.getElem_cons_zero, List.getElem_cons_succ, List.setIfInBounds_toArray, List.set_cons_zero, List.set_cons_succ])
                  replace hZ : u.heap.size ≤ (W36.alloc (.cells #[.string x] 9)).heap.size := by rw [World.size_alloc]; omega
                  clear hP
                  have hP := hP2
                  clear hP2
                  obtain ⟨W42, hWe⟩ : ∃ W42, (W36.alloc (.cells #[.string x] 9)) = W42 := ⟨_, rfl⟩
                  rw [hWe] at hP hZ hO_1 hO_2 hs_1_P hs_1_Q hs_1_L hs_1_M hs_2_P hs_2_Q hs_2_L hs_2_M ⊢
                  clear hWe
                  refine wpAnyF_ready (rs := [4]) (by kernel_rfl) (by simp) ?_
                  refine AllReadyF.cons rfl ?_ ?_
                  · intro K' hK
                    refine step_appN W42 rfl (.tmp 105) (.tmp 107) 22 rfl u.heap.size 9 i0 _ 1 16 und22 ih iz is ib rfl (by decide) _ (k) (((ts.take k).map revB).map Value.string) rfl hO_1 (some ⟨W0.heap.size, 0, none⟩) (1) 1 ([.string r]) rfl (hs_1_L.rd) (by simp [Value.oneCell']) (by unfold maxLen; omega) (by omega) hZ ?_
                    intro A3 c3 W43 hO2 hg2 hf2
                    have hP2 := gb_below hP hg2 hZ (fun g hg => (hO_1.lt g hg).1)
                    have hZ2 := Nat.le_trans hZ hg2.size
                    replace hs_2_P := hs_2_P.other hs_1_P.2.2.2 hg2
                    replace hs_2_Q := hs_2_Q.other hs_1_Q.2.2.2 hg2
                    replace hs_2_L := hs_2_L.other hs_1_L.2.2.2 hg2
                    replace hs_2_M := hs_2_M.other hs_1_M.2.2.2 hg2
                    have hO_22 := own_other hO_2 hg2 ((hap_1_2).symm)
                    have hap2 := Apart.grown (W := W42) (W' := W43) (hap_1_2) hO_2 hf2
                    clear hap_1_2
                    have hap_1_2 := hap2
                    clear hap2
                    replace hO_2 := hO_22
                    clear hO_22
                    replace hs_1_P := hs_1_P.grown hg2 hf2
                    replace hs_1_Q := hs_1_Q.grown hg2 hf2
                    replace hs_1_L := hs_1_L.grown hg2 hf2
                    replace hs_1_M := hs_1_M.grown hg2 hf2
                    clear hO_1
                    have hO_1 := hO2
                    clear hO2
                    refine hK.out _ _ hP2 (fun _ => ⟨hs_1_P.2.2.1, hs_1_Q.2.2.1⟩) (fun _ => ?_)
                    clear hK K'
                    (try simp only [Act.put, List.getElem_toArray, List.getElem_cons_zero, List.getElem_cons_succ, List.setIfInBounds_toArray, List.set_cons_zero, List.set_cons_succ])
                    clear hP hZ hg2 hf2
                    have hP := hP2
                    have hZ := hZ2
                    clear hP2 hZ2
                    refine wpAnyF_take0 (i := 10) (v := ?_) rfl rfl (by kernel_rfl) (by kernel_rfl) (by kernel_rfl) (fun _ _ _ h => h) (Or.inl ⟨by rfl, ?_⟩) hP (fun _ => ⟨hs_1_P.2.2.1, hs_1_Q.2.2.1⟩) ?_
                    rotate_left
                    · (intro ww hSw; go_simp; try with_reducible rfl)
                    (try simp only [Act.put, List.getElem_toArray, List.getElem_cons_zero, List.getElem_cons_succ, List.setIfInBounds_toArray, List.set_cons_zero, List.set_cons_succ])
                    refine wpAnyF_ready (rs := [9]) (by kernel_rfl) (by simp) ?_
                    refine AllReadyF.cons rfl ?_ ?_
                    · intro K' hK
                      refine step_appN W43 rfl (.tmp 110) (.tmp 112) 22 rfl u.heap.size 9 i0 _ 1 16 und22 ih iz is ib rfl (by decide) _ (k) (((ts.take k).map (swpB (a1 : Int) (a2 : Int))).map Value.string) rfl hO_2 (some ⟨W36.heap.size, 0, none⟩) (1) 1 ([.string x]) rfl (hs_2_M.rd) (by simp [Value.oneCell']) (by unfold maxLen; omega) (by omega) hZ ?_
                      intro A4 c4 W44 hO2 hg2 hf2
                      have hP2 := gb_below hP hg2 hZ (fun g hg => (hO_2.lt g hg).1)
                      have hZ2 := Nat.le_trans hZ hg2.size
                      replace hs_1_P := hs_1_P.other hs_2_P.2.2.2 hg2
                      replace hs_1_Q := hs_1_Q.other hs_2_Q.2.2.2 hg2
                      replace hs_1_L := hs_1_L.other hs_2_L.2.2.2 hg2
                      replace hs_1_M := hs_1_M.other hs_2_M.2.2.2 hg2
                      have hO_12 := own_other hO_1 hg2 ((hap_1_2.symm).symm)
                      have hap2 := Apart.grown (W := W43) (W' := W44) (hap_1_2.symm) hO_1 hf2
                      clear hap_1_2
                      have hap_1_2 := hap2.symm
                      clear hap2
                      replace hO_1 := hO_12
                      clear hO_12
                      replace hs_2_P := hs_2_P.grown hg2 hf2
                      replace hs_2_Q := hs_2_Q.grown hg2 hf2
                      replace hs_2_L := hs_2_L.grown hg2 hf2
                      replace hs_2_M := hs_2_M.grown hg2 hf2
                      clear hO_2
                      have hO_2 := hO2
                      clear hO2
                      refine hK.out _ _ hP2 (fun _ => ⟨hs_1_P.2.2.1, hs_1_Q.2.2.1⟩) (fun _ => ?_)
                      clear hK K'
                      (try simp only [Act.put, List.getElem_toArray, List.getElem_cons_zero, List.getElem_cons_succ, List.setIfInBounds_toArray, List.set_cons_zero, List.set_cons_succ])
                      clear hP hZ hg2 hf2
                      have hP := hP2
                      have hZ := hZ2
                      clear hP2 hZ2
                      refine wpAnyF_ready (rs := [11]) (by kernel_rfl) (by simp) ?_
                      refine AllReadyF.cons rfl ?_ ?_
                      · intro K' hK
                        rw [if_pos (by rfl)]
                        have c1 := obj_at hs_1_P.2.2.1 1 _ rfl
                        have f1 := obj_fz hs_1_P.2.2.1 1
                        go_simp
                        clear c1 f1
                        clear hs_1_L hs_2_L
                        clear hs_1_M hs_2_M
                        replace hP := Below.setCell (p := ⟨p, 1, none⟩) hP hs_1_P.1 (.slice A3 (k + 1) c3)
                        replace hO_1 := own_setFar hO_1 hs_1_P.2.2.2 1 (.slice A3 (k + 1) c3)
                        replace hs_1_Q := hs_1_Q.set_ne (by first | exact hpq | exact (Ne.symm hpq)) 1 (.slice A3 (k + 1) c3)
                        replace hs_1_P := hs_1_P.set 1 (.slice A3 (k + 1) c3)
                        replace hO_2 := own_setFar hO_2 hs_2_P.2.2.2 1 (.slice A3 (k + 1) c3)
                        replace hs_2_Q := hs_2_Q.set_ne (by first | exact hpq | exact (Ne.symm hpq)) 1 (.slice A3 (k + 1) c3)
                        replace hs_2_P := hs_2_P.set 1 (.slice A3 (k + 1) c3)
                        refine hK.out _ _ hP (fun h => nomatch (show false = true from h)) (fun _ => ?_)
                        clear hK K'
                        (try simp only [Act.put, List.getElem_toArray, List.getElem_cons_zero, List.getElem_cons_succ, List.setIfInBounds_toArray, List.set_cons_zero, List.set_cons_succ])
                        replace hZ : u.heap.size ≤ (W44.setCell ⟨p, 1, none⟩ (.slice A3 (k + 1) c3)).heap.size := by simp only [size_setCell]; exact hZ
                        obtain ⟨W45, hWe⟩ : ∃ W45, (W44.setCell ⟨p, 1, none⟩ (.slice A3 (k + 1) c3)) = W45 := ⟨_, rfl⟩
                        rw [hWe] at hP hZ hO_1 hO_2 hs_1_P hs_1_Q hs_2_P hs_2_Q ⊢
                        clear hWe
                        refine wpAnyF_take0 (i := 12) (v := ?_) rfl rfl (by kernel_rfl) (by kernel_rfl) (by kernel_rfl) (fun _ _ _ h => h) (Or.inl ⟨by rfl, ?_⟩) hP (fun h => nomatch (show false = true from h)) ?_
                        rotate_left
                        · (intro ww hSw; go_simp; try with_reducible rfl)
                        (try simp only [Act.put, List.getElem_toArray, List.getElem_cons_zero, List.getElem_cons_succ, List.setIfInBounds_toArray, List.set_cons_zero, List.set_cons_succ])
                        refine wpAnyF_ready (rs := [13]) (by kernel_rfl) (by simp) ?_
                        refine AllReadyF.cons rfl ?_ ?_
                        · intro K' hK
                          rw [if_pos (by rfl)]
                          have c1 := obj_at hs_1_Q.2.2.1 1 _ rfl
                          have f1 := obj_fz hs_1_Q.2.2.1 1
                          go_simp
                          clear c1 f1
                          replace hP := Below.setCell (p := ⟨q, 1, none⟩) hP hs_1_Q.1 (.slice A4 (k + 1) c4)
                          replace hO_1 := own_setFar hO_1 hs_1_Q.2.2.2 1 (.slice A4 (k + 1) c4)
                          replace hs_1_P := hs_1_P.set_ne (by first | exact hpq | exact (Ne.symm hpq)) 1 (.slice A4 (k + 1) c4)
                          replace hs_1_Q := hs_1_Q.set 1 (.slice A4 (k + 1) c4)
                          replace hO_2 := own_setFar hO_2 hs_2_Q.2.2.2 1 (.slice A4 (k + 1) c4)
                          replace hs_2_P := hs_2_P.set_ne (by first | exact hpq | exact (Ne.symm hpq)) 1 (.slice A4 (k + 1) c4)
                          replace hs_2_Q := hs_2_Q.set 1 (.slice A4 (k + 1) c4)
                          refine hK.out _ _ hP (fun h => nomatch (show false = true from h)) (fun _ => ?_)
                          clear hK K'
                          (try simp only [Act.put, List.getElem_toArray, List.getElem_cons_zero, List.getElem_cons_succ, List.setIfInBounds_toArray, List.set_cons_zero, List.set_cons_succ])
                          replace hZ : u.heap.size ≤ (W45.setCell ⟨q, 1, none⟩ (.slice A4 (k + 1) c4)).heap.size := by simp only [size_setCell]; exact hZ
                          obtain ⟨W46, hWe⟩ : ∃ W46, (W45.setCell ⟨q, 1, none⟩ (.slice A4 (k + 1) c4)) = W46 := ⟨_, rfl⟩
                          rw [hWe] at hP hZ hO_1 hO_2 hs_1_P hs_1_Q hs_2_P hs_2_Q ⊢
                          clear hWe
                          refine wpAnyF_done (by kernel_rfl) ?_ _
                          refine NoPanic.normal ?_
                          rw [← HE1.out] at hO_1
                          rw [← HE2.out] at hO_2
                          go_wp2
                          exact ⟨⟨k + 1, A3, A4, c3, c4, by omega, by go_num, ⟨hs_1_P, hs_1_Q, hs_2_P, hs_2_Q, hO_1, hO_2, hap_1_2, hP⟩⟩, by simp [intOf]; omega⟩
                        exact AllReadyF.nil
                      exact AllReadyF.nil
                    exact AllReadyF.nil
                  exact AllReadyF.nil
                exact AllReadyF.nil
              refine AllReadyF.cons rfl ?_ ?_
              · intro K' hK
                rw [if_pos (by rfl)]
                go_simp
                have hP2 := below_alloc hP hZ (.cells #[.string x] 9)
                replace hs_1_P := hs_1_P.alloc (.cells #[.string x] 9)
                replace hs_1_Q := hs_1_Q.alloc (.cells #[.string x] 9)
                have hs_1_M := Side.fresh hZ hO_1 #[.string x] 9
                replace hO_1 := hO_1.alloc (.cells #[.string x] 9)
                replace hs_2_P := hs_2_P.alloc (.cells #[.string x] 9)
                replace hs_2_Q := hs_2_Q.alloc (.cells #[.string x] 9)
                have hs_2_M := Side.fresh hZ hO_2 #[.string x] 9
                replace hO_2 := hO_2.alloc (.cells #[.string x] 9)
                refine hK.out _ _ hP2 (fun _ => ⟨hs_1_P.2.2.1, hs_1_Q.2.2.1⟩) (fun _ => ?_)
                clear hK K'
                (try simp only [Act.put, List.getElem_toArray, List.getElem_cons_zero, List.getElem_cons_succ, List.setIfInBounds_toArray, List.set_cons_zero, List.set_cons_succ])
                replace hZ : u.heap.size ≤ (W0.alloc (.cells #[.string x] 9)).heap.size := by rw [World.size_alloc]; omega
                clear hP
                have hP := hP2
                clear hP2
                obtain ⟨W47, hWe⟩ : ∃ W47, (W0.alloc (.cells #[.string x] 9)) = W47 := ⟨_, rfl⟩
                rw [hWe] at hP hZ hO_1 hO_2 hs_1_P hs_1_Q hs_1_M hs_2_P hs_2_Q hs_2_M ⊢
                clear hWe
                refine wpAnyF_ready (rs := [3]) (by kernel_rfl) (by simp) ?_
                refine AllReadyF.cons rfl ?_ ?_
                · intro K' hK
                  rw [if_pos (by rfl)]
                  go_simp
                  have hP2 := below_alloc hP hZ (.cells #[.string r] 9)
                  replace hs_1_P := hs_1_P.alloc (.cells #[.string r] 9)
                  replace hs_1_Q := hs_1_Q.alloc (.cells #[.string r] 9)
                  replace hs_1_M := hs_1_M.alloc (.cells #[.string r] 9)
                  have hs_1_L := Side.fresh hZ hO_1 #[.string r] 9
                  replace hO_1 := hO_1.alloc (.cells #[.string r] 9)
                  replace hs_2_P := hs_2_P.alloc (.cells #[.string r] 9)
                  replace hs_2_Q := hs_2_Q.alloc (.cells #[.string r] 9)
                  replace hs_2_M := hs_2_M.alloc (.cells #[.string r] 9)
                  have hs_2_L := Side.fresh hZ hO_2 #[.string r] 9
                  replace hO_2 := hO_2.alloc (.cells #[.string r] 9)
                  refine hK.out _ _ hP2 (fun _ => ⟨hs_1_P.2.2.1, hs_1_Q.2.2.1⟩) (fun _ => ?_)
                  clear hK K'
                  (try simp only [Act.put, List.getElem_toArray, List.getElem_cons_zero, List.getElem_cons_succ, List.setIfInBounds_toArray, List.set_cons_zero, List.set_cons_succ])
                  replace hZ : u.heap.size ≤ (W47.alloc (.cells #[.string r] 9)).heap.size := by rw [World.size_alloc]; omega
                  clear hP
                  have hP := hP2
                  clear hP2
                  obtain ⟨W48, hWe⟩ : ∃ W48, (W47.alloc (.cells #[.string r] 9)) = W48 := ⟨_, rfl⟩
                  rw [hWe] at hP hZ hO_1 hO_2 hs_1_P hs_1_Q hs_1_M hs_1_L hs_2_P hs_2_Q hs_2_M hs_2_L ⊢
                  clear hWe
                  refine wpAnyF_ready (rs := [4]) (by kernel_rfl) (by simp) ?_
                  refine AllReadyF.cons rfl ?_ ?_
                  · intro K' hK
                    refine step_appN W48 rfl (.tmp 105) (.tmp 107) 22 rfl u.heap.size 9 i0 _ 1 16 und22 ih iz is ib rfl (by decide) _ (k) (((ts.take k).map revB).map Value.string) rfl hO_1 (some ⟨W47.heap.size, 0, none⟩) (1) 1 ([.string r]) rfl (hs_1_L.rd) (by simp [Value.oneCell']) (by unfold maxLen; omega) (by omega) hZ ?_
                    intro A3 c3 W49 hO2 hg2 hf2
                    have hP2 := gb_below hP hg2 hZ (fun g hg => (hO_1.lt g hg).1)
                    have hZ2 := Nat.le_trans hZ hg2.size
                    replace hs_2_P := hs_2_P.other hs_1_P.2.2.2 hg2
                    replace hs_2_Q := hs_2_Q.other hs_1_Q.2.2.2 hg2
                    replace hs_2_M := hs_2_M.other hs_1_M.2.2.2 hg2
                    replace hs_2_L := hs_2_L.other hs_1_L.2.2.2 hg2
                    have hO_22 := own_other hO_2 hg2 ((hap_1_2).symm)
                    have hap2 := Apart.grown (W := W48) (W' := W49) (hap_1_2) hO_2 hf2
                    clear hap_1_2
                    have hap_1_2 := hap2
                    clear hap2
                    replace hO_2 := hO_22
                    clear hO_22
                    replace hs_1_P := hs_1_P.grown hg2 hf2
                    replace hs_1_Q := hs_1_Q.grown hg2 hf2
                    replace hs_1_M := hs_1_M.grown hg2 hf2
                    replace hs_1_L := hs_1_L.grown hg2 hf2
                    clear hO_1
                    have hO_1 := hO2
                    clear hO2
                    refine hK.out _ _ hP2 (fun _ => ⟨hs_1_P.2.2.1, hs_1_Q.2.2.1⟩) (fun _ => ?_)
                    clear hK K'
                    (try simp only [Act.put, List.getElem_toArray, List.getElem_cons_zero, List.getElem_cons_succ, List.setIfInBounds_toArray, List.set_cons_zero, List.set_cons_succ])
                    clear hP hZ hg2 hf2
                    have hP := hP2
                    have hZ := hZ2
                    clear hP2 hZ2
                    refine wpAnyF_take0 (i := 10) (v := ?_) rfl rfl (by kernel_rfl) (by kernel_rfl) (by kernel_rfl) (fun _ _ _ h => h) (Or.inl ⟨by rfl, ?_⟩) hP (fun _ => ⟨hs_1_P.2.2.1, hs_1_Q.2.2.1⟩) ?_
                    rotate_left
                    · (intro ww hSw; go_simp; try with_reducible rfl)
                    (try simp only [Act.put, List.getElem_toArray, List.getElem_cons_zero, List.getElem_cons_succ, List.setIfInBounds_toArray, List.set_cons_zero, List.set_cons_succ])
                    refine wpAnyF_ready (rs := [9]) (by kernel_rfl) (by simp) ?_
                    refine AllReadyF.cons rfl ?_ ?_
                    · intro K' hK
                      refine step_appN W49 rfl (.tmp 110) (.tmp 112) 22 rfl u.heap.size 9 i0 _ 1 16 und22 ih iz is ib rfl (by decide) _ (k) (((ts.take k).map (swpB (a1 : Int) (a2 : Int))).map Value.string) rfl hO_2 (some ⟨W0.heap.size, 0, none⟩) (1) 1 ([.string x]) rfl (hs_2_M.rd) (by simp [Value.oneCell']) (by unfold maxLen; omega) (by omega) hZ ?_
                      intro A4 c4 W50 hO2 hg2 hf2
                      have hP2 := gb_below hP hg2 hZ (fun g hg => (hO_2.lt g hg).1)
                      have hZ2 := Nat.le_trans hZ hg2.size
                      replace hs_1_P := hs_1_P.other hs_2_P.2.2.2 hg2
                      replace hs_1_Q := hs_1_Q.other hs_2_Q.2.2.2 hg2
                      replace hs_1_M := hs_1_M.other hs_2_M.2.2.2 hg2
                      replace hs_1_L := hs_1_L.other hs_2_L.2.2.2 hg2
                      have hO_12 := own_other hO_1 hg2 ((hap_1_2.symm).symm)
                      have hap2 := Apart.grown (W := W49) (W' := W50) (hap_1_2.symm) hO_1 hf2
                      clear hap_1_2
                      have hap_1_2 := hap2.symm
                      clear hap2
                      replace hO_1 := hO_12
                      clear hO_12
                      replace hs_2_P := hs_2_P.grown hg2 hf2
                      replace hs_2_Q := hs_2_Q.grown hg2 hf2
                      replace hs_2_M := hs_2_M.grown hg2 hf2
                      replace hs_2_L := hs_2_L.grown hg2 hf2
                      clear hO_2
                      have hO_2 := hO2
                      clear hO2
                      refine hK.out _ _ hP2 (fun _ => ⟨hs_1_P.2.2.1, hs_1_Q.2.2.1⟩) (fun _ => ?_)
                      clear hK K'
                      (try simp only [Act.put, List.getElem_toArray, List.getElem_cons_zero, List.getElem_cons_succ, List.setIfInBounds_toArray, List.set_cons_zero, List.set_cons_succ])
                      clear hP hZ hg2 hf2
                      have hP := hP2
                      have hZ := hZ2
                      clear hP2 hZ2
                      refine wpAnyF_ready (rs := [11]) (by kernel_rfl) (by simp) ?_
                      refine AllReadyF.cons rfl ?_ ?_
                      · intro K' hK
                        rw [if_pos (by rfl)]
                        have c1 := obj_at hs_1_P.2.2.1 1 _ rfl
                        have f1 := obj_fz hs_1_P.2.2.1 1
                        go_simp
                        clear c1 f1
                        clear hs_1_M hs_2_M
                        clear hs_1_L hs_2_L
                        replace hP := Below.setCell (p := ⟨p, 1, none⟩) hP hs_1_P.1 (.slice A3 (k + 1) c3)
                        replace hO_1 := own_setFar hO_1 hs_1_P.2.2.2 1 (.slice A3 (k + 1) c3)
                        replace hs_1_Q := hs_1_Q.set_ne (by first | exact hpq | exact (Ne.symm hpq)) 1 (.slice A3 (k + 1) c3)
                        replace hs_1_P := hs_1_P.set 1 (.slice A3 (k + 1) c3)
                        replace hO_2 := own_setFar hO_2 hs_2_P.2.2.2 1 (.slice A3 (k + 1) c3)
                        replace hs_2_Q := hs_2_Q.set_ne (by first | exact hpq | exact (Ne.symm hpq)) 1 (.slice A3 (k + 1) c3)
                        replace hs_2_P := hs_2_P.set 1 (.slice A3 (k + 1) c3)
                        refine hK.out _ _ hP (fun h => nomatch (show false = true from h)) (fun _ => ?_)
                        clear hK K'
                        (try simp only [Act.put, List.getElem_toArray, List.getElem_cons_zero, List.getElem_cons_succ, List.setIfInBounds_toArray, List.set_cons_zero, List.set_cons_succ])
                        replace hZ : u.heap.size ≤ (W50.setCell ⟨p, 1, none⟩ (.slice A3 (k + 1) c3)).heap.size := by simp only [size_setCell]; exact hZ
                        obtain ⟨W51, hWe⟩ : ∃ W51, (W50.setCell ⟨p, 1, none⟩ (.slice A3 (k + 1) c3)) = W51 := ⟨_, rfl⟩
                        rw [hWe] at hP hZ hO_1 hO_2 hs_1_P hs_1_Q hs_2_P hs_2_Q ⊢
                        clear hWe
                        refine wpAnyF_take0 (i := 12) (v := ?_) rfl rfl (by kernel_rfl) (by kernel_rfl) (by kernel_rfl) (fun _ _ _ h => h) (Or.inl ⟨by rfl, ?_⟩) hP (fun h => nomatch (show false = true from h)) ?_
                        rotate_left
                        · (intro ww hSw; go_simp; try with_reducible rfl)
                        (try simp only [Act.put, List.getElem_toArray, List.getElem_cons_zero, List.getElem_cons_succ, List.setIfInBounds_toArray, List.set_cons_zero, List.set_cons_succ])
                        refine wpAnyF_ready (rs := [13]) (by kernel_rfl) (by simp) ?_
                        refine AllReadyF.cons rfl ?_ ?_
                        · intro K' hK
                          rw [if_pos (by rfl)]
                          have c1 := obj_at hs_1_Q.2.2.1 1 _ rfl
                          have f1 := obj_fz hs_1_Q.2.2.1 1
                          go_simp
                          clear c1 f1
                          replace hP := Below.setCell (p := ⟨q, 1, none⟩) hP hs_1_Q.1 (.slice A4 (k + 1) c4)
                          replace hO_1 := own_setFar hO_1 hs_1_Q.2.2.2 1 (.slice A4 (k + 1) c4)
                          replace hs_1_P := hs_1_P.set_ne (by first | exact hpq | exact (Ne.symm hpq)) 1 (.slice A4 (k + 1) c4)
                          replace hs_1_Q := hs_1_Q.set 1 (.slice A4 (k + 1) c4)
                          replace hO_2 := own_setFar hO_2 hs_2_Q.2.2.2 1 (.slice A4 (k + 1) c4)
                          replace hs_2_P := hs_2_P.set_ne (by first | exact hpq | exact (Ne.symm hpq)) 1 (.slice A4 (k + 1) c4)
                          replace hs_2_Q := hs_2_Q.set 1 (.slice A4 (k + 1) c4)
                          refine hK.out _ _ hP (fun h => nomatch (show false = true from h)) (fun _ => ?_)
                          clear hK K'
                          (try simp only [Act.put, List.getElem_toArray, List.getElem_cons_zero, List.getElem_cons_succ, List.setIfInBounds_toArray, List.set_cons_zero, List.set_cons_succ])
                          replace hZ : u.heap.size ≤ (W51.setCell ⟨q, 1, none⟩ (.slice A4 (k + 1) c4)).heap.size := by simp only [size_setCell]; exact hZ
                          obtain ⟨W52, hWe⟩ : ∃ W52, (W51.setCell ⟨q, 1, none⟩ (.slice A4 (k + 1) c4)) = W52 := ⟨_, rfl⟩
                          rw [hWe] at hP hZ hO_1 hO_2 hs_1_P hs_1_Q hs_2_P hs_2_Q ⊢
                          clear hWe
                          refine wpAnyF_done (by kernel_rfl) ?_ _
                          refine NoPanic.normal ?_
                          rw [← HE1.out] at hO_1
                          rw [← HE2.out] at hO_2
                          go_wp2
                          exact ⟨⟨k + 1, A3, A4, c3, c4, by omega, by go_num, ⟨hs_1_P, hs_1_Q, hs_2_P, hs_2_Q, hO_1, hO_2, hap_1_2, hP⟩⟩, by simp [intOf]; omega⟩
                        exact AllReadyF.nil
                      exact AllReadyF.nil
                    exact AllReadyF.nil
                  exact AllReadyF.nil
                exact AllReadyF.nil
              exact AllReadyF.nil
            refine AllReadyF.cons rfl ?_ ?_
            · intro K' hK
              rw [if_pos (by rfl)]
              go_simp
              have hP2 := below_alloc hP hZ (.cells #[.string x] 9)
              replace hs_1_P := hs_1_P.alloc (.cells #[.string x] 9)
              replace hs_1_Q := hs_1_Q.alloc (.cells #[.string x] 9)
              have hs_1_M := Side.fresh hZ hO_1 #[.string x] 9
              replace hO_1 := hO_1.alloc (.cells #[.string x] 9)
              replace hs_2_P := hs_2_P.alloc (.cells #[.string x] 9)
              replace hs_2_Q := hs_2_Q.alloc (.cells #[.string x] 9)
              have hs_2_M := Side.fresh hZ hO_2 #[.string x] 9
              replace hO_2 := hO_2.alloc (.cells #[.string x] 9)
              refine hK.out _ _ hP2 (fun _ => ⟨hs_1_P.2.2.1, hs_1_Q.2.2.1⟩) (fun _ => ?_)
              clear hK K'
              (try simp only [Act.put, List.getElem_toArray, List.getElem_cons_zero, List.getElem_cons_succ, List.setIfInBounds_toArray, List.set_cons_zero, List.set_cons_succ])
              replace hZ : u.heap.size ≤ (W0.alloc (.cells #[.string x] 9)).heap.size := by rw [World.size_alloc]; omega
              clear hP
              have hP := hP2
              clear hP2
              obtain ⟨W53, hWe⟩ : ∃ W53, (W0.alloc (.cells #[.string x] 9)) = W53 := ⟨_, rfl⟩
              rw [hWe] at hP hZ hO_1 hO_2 hs_1_P hs_1_Q hs_1_M hs_2_P hs_2_Q hs_2_M ⊢
              clear hWe
              refine wpAnyF_ready (rs := [3, 6]) (by kernel_rfl) (by simp) ?_
              refine AllReadyF.cons rfl ?_ ?_
              · intro K' hK
                rw [if_pos (by rfl)]
                go_simp
                have hP2 := below_alloc hP hZ (.cells #[.string r] 9)
                replace hs_1_P := hs_1_P.alloc (.cells #[.string r] 9)
                replace hs_1_Q := hs_1_Q.alloc (.cells #[.string r] 9)
                replace hs_1_M := hs_1_M.alloc (.cells #[.string r] 9)
                have hs_1_L := Side.fresh hZ hO_1 #[.string r] 9
                replace hO_1 := hO_1.alloc (.cells #[.string r] 9)
                replace hs_2_P := hs_2_P.alloc (.cells #[.string r] 9)
                replace hs_2_Q := hs_2_Q.alloc (.cells #[.string r] 9)
                replace hs_2_M := hs_2_M.alloc (.cells #[.string r] 9)
                have hs_2_L := Side.fresh hZ hO_2 #[.string r] 9
                replace hO_2 := hO_2.alloc (.cells #[.string r] 9)
                refine hK.out _ _ hP2 (fun _ => ⟨hs_1_P.2.2.1, hs_1_Q.2.2.1⟩) (fun _ => ?_)
                clear hK K'
                (try simp only [Act.put, List.getElem_toArray, List.getElem_cons_zero, List.getElem_cons_succ, List.setIfInBounds_toArray, List.set_cons_zero, List.set_cons_succ])
                replace hZ : u.heap.size ≤ (W53.alloc (.cells #[.string r] 9)).heap.size := by rw [World.size_alloc]; omega
                clear hP
                have hP := hP2
                clear hP2
                obtain ⟨W54, hWe⟩ : ∃ W54, (W53.alloc (.cells #[.string r] 9)) = W54 := ⟨_, rfl⟩
                rw [hWe] at hP hZ hO_1 hO_2 hs_1_P hs_1_Q hs_1_M hs_1_L hs_2_P hs_2_Q hs_2_M hs_2_L ⊢
                clear hWe
                refine wpAnyF_ready (rs := [4, 6]) (by kernel_rfl) (by simp) ?_
                refine AllReadyF.cons rfl ?_ ?_
                · intro K' hK
                  refine step_appN W54 rfl (.tmp 105) (.tmp 107) 22 rfl u.heap.size 9 i0 _ 1 16 und22 ih iz is ib rfl (by decide) _ (k) (((ts.take k).map revB).map Value.string) rfl hO_1 (some ⟨W53.heap.size, 0, none⟩) (1) 1 ([.string r]) rfl (hs_1_L.rd) (by simp [Value.oneCell']) (by unfold maxLen; omega) (by omega) hZ ?_
                  intro A3 c3 W55 hO2 hg2 hf2
                  have hP2 := gb_below hP hg2 hZ (fun g hg => (hO_1.lt g hg).1)
                  have hZ2 := Nat.le_trans hZ hg2.size
                  replace hs_2_P := hs_2_P.other hs_1_P.2.2.2 hg2
                  replace hs_2_Q := hs_2_Q.other hs_1_Q.2.2.2 hg2
                  replace hs_2_M := hs_2_M.other hs_1_M.2.2.2 hg2
                  replace hs_2_L := hs_2_L.other hs_1_L.2.2.2 hg2
                  have hO_22 := own_other hO_2 hg2 ((hap_1_2).symm)
                  have hap2 := Apart.grown (W := W54) (W' := W55) (hap_1_2) hO_2 hf2
                  clear hap_1_2
                  have hap_1_2 := hap2
                  clear hap2
                  replace hO_2 := hO_22
                  clear hO_22
                  replace hs_1_P := hs_1_P.grown hg2 hf2
                  replace hs_1_Q := hs_1_Q.grown hg2 hf2
                  replace hs_1_M := hs_1_M.grown hg2 hf2
                  replace hs_1_L := hs_1_L.grown hg2 hf2
                  clear hO_1
                  have hO_1 := hO2
                  clear hO2
                  refine hK.out _ _ hP2 (fun _ => ⟨hs_1_P.2.2.1, hs_1_Q.2.2.1⟩) (fun _ => ?_)
                  clear hK K'
                  (try simp only [Act.put, List.getElem_toArray, List.getElem_cons_zero, List.getElem_cons_succ, List.setIfInBounds_toArray, List.set_cons_zero, List.set_cons_succ])
                  clear hP hZ hg2 hf2
                  have hP := hP2
                  have hZ := hZ2
                  clear hP2 hZ2
                  refine wpAnyF_take0 (i := 10) (v := ?_) rfl rfl (by kernel_rfl) (by kernel_rfl) (by kernel_rfl) (fun _ _ _ h => h) (Or.inl ⟨by rfl, ?_⟩) hP (fun _ => ⟨hs_1_P.2.2.1, hs_1_Q.2.2.1⟩) ?_
                  rotate_left
                  · (intro ww hSw; go_simp; try with_reducible rfl)
                  (try simp only [Act.put, List.getElem_toArray, List.getElem_cons_zero, List.getElem_cons_succ, List.setIfInBounds_toArray, List.set_cons_zero, List.set_cons_succ])
                  refine wpAnyF_ready (rs := [6]) (by kernel_rfl) (by simp) ?_
                  refine AllReadyF.cons rfl ?_ ?_
                  · intro K' hK
                    rw [if_pos (by rfl)]
                    have c0 := obj_at hs_2_Q.2.2.1 1 _ rfl
                    go_simp
                    clear c0
                    refine hK.out _ _ hP (fun _ => ⟨hs_1_P.2.2.1, hs_1_Q.2.2.1⟩) (fun _ => ?_)
                    clear hK K'
                    (try simp only [Act.put, List.getElem_toArray, List.getElem_cons_zero, List.getElem_cons_succ, List.setIfInBounds_toArray, List.set_cons_zero, List.set_cons_succ])
                    refine wpAnyF_ready (rs := [9]) (by kernel_rfl) (by simp) ?_
                    refine AllReadyF.cons rfl ?_ ?_
                    · intro K' hK
                      refine step_appN W55 rfl (.tmp 110) (.tmp 112) 22 rfl u.heap.size 9 i0 _ 1 16 und22 ih iz is ib rfl (by decide) _ (k) (((ts.take k).map (swpB (a1 : Int) (a2 : Int))).map Value.string) rfl hO_2 (some ⟨W0.heap.size, 0, none⟩) (1) 1 ([.string x]) rfl (hs_2_M.rd) (by simp [Value.oneCell']) (by unfold maxLen; omega) (by omega) hZ ?_
                      intro A4 c4 W57 hO2 hg2 hf2
                      have hP2 := gb_below hP hg2 hZ (fun g hg => (hO_2.lt g hg).1)
                      have hZ2 := Nat.le_trans hZ hg2.size
                      replace hs_1_P := hs_1_P.other hs_2_P.2.2.2 hg2
                      replace hs_1_Q := hs_1_Q.other hs_2_Q.2.2.2 hg2
                      replace hs_1_M := hs_1_M.other hs_2_M.2.2.2 hg2
                      replace hs_1_L := hs_1_L.other hs_2_L.2.2.2 hg2
                      have hO_12 := own_other hO_1 hg2 ((hap_1_2.symm).symm)
                      have hap2 := Apart.grown (W := W55) (W' := W57) (hap_1_2.symm) hO_1 hf2
                      clear hap_1_2
                      have hap_1_2 := hap2.symm
                      clear hap2
                      replace hO_1 := hO_12
                      clear hO_12
                      replace hs_2_P := hs_2_P.grown hg2 hf2
                      replace hs_2_Q := hs_2_Q.grown hg2 hf2
                      replace hs_2_M := hs_2_M.grown hg2 hf2
                      replace hs_2_L := hs_2_L.grown hg2 hf2
                      clear hO_2
                      have hO_2 := hO2
                      clear hO2
                      refine hK.out _ _ hP2 (fun _ => ⟨hs_1_P.2.2.1, hs_1_Q.2.2.1⟩) (fun _ => ?_)
                      clear hK K'
                      (try simp only [Act.put, List.getElem_toArray, List.getElem_cons_zero, List.getElem_cons_succ, List.setIfInBounds_toArray, List.set_cons_zero, List.set_cons_succ])
                      clear hP hZ hg2 hf2
                      have hP := hP2
                      have hZ := hZ2
                      clear hP2 hZ2
                      refine wpAnyF_ready (rs := [11]) (by kernel_rfl) (by simp) ?_
                      refine AllReadyF.cons rfl ?_ ?_
                      · intro K' hK
                        rw [if_pos (by rfl)]
                        have c1 := obj_at hs_1_P.2.2.1 1 _ rfl
                        have f1 := obj_fz hs_1_P.2.2.1 1
                        go_simp
                        clear c1 f1
                        clear hs_1_M hs_2_M
                        clear hs_1_L hs_2_L
                        replace hP := Below.setCell (p := ⟨p, 1, none⟩) hP hs_1_P.1 (.slice A3 (k + 1) c3)
                        replace hO_1 := own_setFar hO_1 hs_1_P.2.2.2 1 (.slice A3 (k + 1) c3)
                        replace hs_1_Q := hs_1_Q.set_ne (by first | exact hpq | exact (Ne.symm hpq)) 1 (.slice A3 (k + 1) c3)
                        replace hs_1_P := hs_1_P.set 1 (.slice A3 (k + 1) c3)
                        replace hO_2 := own_setFar hO_2 hs_2_P.2.2.2 1 (.slice A3 (k + 1) c3)
                        replace hs_2_Q := hs_2_Q.set_ne (by first | exact hpq | exact (Ne.symm hpq)) 1 (.slice A3 (k + 1) c3)
                        replace hs_2_P := hs_2_P.set 1 (.slice A3 (k + 1) c3)
                        refine hK.out _ _ hP (fun h => nomatch (show false = true from h)) (fun _ => ?_)
                        clear hK K'
                        (try simp only [Act.put, List.getElem_toArray, List.getElem_cons_zero, List.getElem_cons_succ, List.setIfInBounds_toArray, List.set_cons_zero, List.set_cons_succ])
                        replace hZ : u.heap.size ≤ (W57.setCell ⟨p, 1, none⟩ (.slice A3 (k + 1) c3)).heap.size := by simp only [size_setCell]; exact hZ
                        obtain ⟨W58, hWe⟩ : ∃ W58, (W57.setCell ⟨p, 1, none⟩ (.slice A3 (k + 1) c3)) = W58 := ⟨_, rfl⟩
                        rw [hWe] at hP hZ hO_1 hO_2 hs_1_P hs_1_Q hs_2_P hs_2_Q ⊢
                        clear hWe
                        refine wpAnyF_take0 (i := 12) (v := ?_) rfl rfl (by kernel_rfl) (by kernel_rfl) (by kernel_rfl) (fun _ _ _ h => h) (Or.inl ⟨by rfl, ?_⟩) hP (fun h => nomatch (show false = true from h)) ?_
                        rotate_left
                        · (intro ww hSw; go_simp; try with_reducible rfl)
                        (try simp only [Act.put, List.getElem_toArray, List.getElem_cons_zero, List.getElem_cons_succ, List.setIfInBounds_toArray, List.set_cons_zero, List.set_cons_succ])
                        refine wpAnyF_ready (rs := [13]) (by kernel_rfl) (by simp) ?_
                        refine AllReadyF.cons rfl ?_ ?_
                        · intro K' hK
                          rw [if_pos (by rfl)]
                          have c1 := obj_at hs_1_Q.2.2.1 1 _ rfl
                          have f1 := obj_fz hs_1_Q.2.2.1 1
                          go_simp
                          clear c1 f1
                          replace hP := Below.setCell (p := ⟨q, 1, none⟩) hP hs_1_Q.1 (.slice A4 (k + 1) c4)
                          replace hO_1 := own_setFar hO_1 hs_1_Q.2.2.2 1 (.slice A4 (k + 1) c4)
                          replace hs_1_P := hs_1_P.set_ne (by first | exact hpq | exact (Ne.symm hpq)) 1 (.slice A4 (k + 1) c4)
                          replace hs_1_Q := hs_1_Q.set 1 (.slice A4 (k + 1) c4)
                          replace hO_2 := own_setFar hO_2 hs_2_Q.2.2.2 1 (.slice A4 (k + 1) c4)
                          replace hs_2_P := hs_2_P.set_ne (by first | exact hpq | exact (Ne.symm hpq)) 1 (.slice A4 (k + 1) c4)
                          replace hs_2_Q := hs_2_Q.set 1 (.slice A4 (k + 1) c4)
                          refine hK.out _ _ hP (fun h => nomatch (show false = true from h)) (fun _ => ?_)
                          clear hK K'
                          (try simp only [Act.put, List.getElem_toArray, List.getElem_cons_zero, List.getElem_cons_succ, List.setIfInBounds_toArray, List.set_cons_zero, List.set_cons_succ])
                          replace hZ : u.heap.size ≤ (W58.setCell ⟨q, 1, none⟩ (.slice A4 (k + 1) c4)).heap.size := by simp only [size_setCell]; exact hZ
                          obtain ⟨W59, hWe⟩ : ∃ W59, (W58.setCell ⟨q, 1, none⟩ (.slice A4 (k + 1) c4)) = W59 := ⟨_, rfl⟩
                          rw [hWe] at hP hZ hO_1 hO_2 hs_1_P hs_1_Q hs_2_P hs_2_Q ⊢
                          clear hWe
                          refine wpAnyF_done (by kernel_rfl) ?_ _
                          refine NoPanic.normal ?_
                          rw [← HE1.out] at hO_1
                          rw [← HE2.out] at hO_2
                          go_wp2
                          exact ⟨⟨k + 1, A3, A4, c3, c4, by omega, by go_num, ⟨hs_1_P, hs_1_Q, hs_2_P, hs_2_Q, hO_1, hO_2, hap_1_2, hP⟩⟩, by simp [intOf]; omega⟩
                        exact AllReadyF.nil
                      exact AllReadyF.nil
                    exact AllReadyF.nil
                  exact AllReadyF.nil
                refine AllReadyF.cons rfl ?_ ?_
                · intro K' hK
                  rw [if_pos (by rfl)]
                  have c0 := obj_at hs_2_Q.2.2.1 1 _ rfl
                  go_simp
                  clear c0
                  refine hK.out _ _ hP (fun _ => ⟨hs_1_P.2.2.1, hs_1_Q.2.2.1⟩) (fun _ => ?_)
                  clear hK K'
                  (try simp only [Act.put, List.getElem_toArray, List.getElem_cons_zero, List.getElem_cons_succ, List.setIfInBounds_toArray, List.set_cons_zero, List.set_cons_succ])
                  refine wpAnyF_ready (rs := [4]) (by kernel_rfl) (by simp) ?_
                  refine AllReadyF.cons rfl ?_ ?_
                  · intro K' hK
                    refine step_appN W54 rfl (.tmp 105) (.tmp 107) 22 rfl u.heap.size 9 i0 _ 1 16 und22 ih iz is ib rfl (by decide) _ (k) (((ts.take k).map revB).map Value.string) rfl hO_1 (some ⟨W53.heap.size, 0, none⟩) (1) 1 ([.string r]) rfl (hs_1_L.rd) (by simp [Value.oneCell']) (by unfold maxLen; omega) (by omega) hZ ?_
                    intro A3 c3 W61 hO2 hg2 hf2
                    have hP2 := gb_below hP hg2 hZ (fun g hg => (hO_1.lt g hg).1)
                    have hZ2 := Nat.le_trans hZ hg2.size
                    replace hs_2_P := hs_2_P.other hs_1_P.2.2.2 hg2
                    replace hs_2_Q := hs_2_Q.other hs_1_Q.2.2.2 hg2
                    replace hs_2_M := hs_2_M.other hs_1_M.2.2.2 hg2
                    replace hs_2_L := hs_2_L.other hs_1_L.2.2.2 hg2
                    have hO_22 := own_other hO_2 hg2 ((hap_1_2).symm)
                    have hap2 := Apart.grown (W := W54) (W' := W61) (hap_1_2) hO_2 hf2
                    clear hap_1_2
                    have hap_1_2 := hap2
                    clear hap2
                    replace hO_2 := hO_22
                    clear hO_22
                    replace hs_1_P := hs_1_P.grown hg2 hf2
                    replace hs_1_Q := hs_1_Q.grown hg2 hf2
                    replace hs_1_M := hs_1_M.grown hg2 hf2
                    replace hs_1_L := hs_1_L.grown hg2 hf2
                    clear hO_1
                    have hO_1 := hO2
                    clear hO2
                    refine hK.out _ _ hP2 (fun _ => ⟨hs_1_P.2.2.1, hs_1_Q.2.2.1⟩) (fun _ => ?_)
                    clear hK K'
                    (try simp only [Act.put, List.getElem_toArray, List.getElem_cons_zero, List.getElem_cons_succ, List.setIfInBounds_toArray, List.set_cons_zero, List.set_cons_succ])
                    clear hP hZ hg2 hf2
                    have hP := hP2
                    have hZ := hZ2
                    clear hP2 hZ2
                    refine wpAnyF_take0 (i := 10) (v := ?_) rfl rfl (by kernel_rfl) (by kernel_rfl) (by kernel_rfl) (fun _ _ _ h => h) (Or.inl ⟨by rfl, ?_⟩) hP (fun _ => ⟨hs_1_P.2.2.1, hs_1_Q.2.2.1⟩) ?_
                    rotate_left
                    · (intro ww hSw; go_simp; try with_reducible rfl)
                    (try simp only [Act.put, List.getElem_toArray, List.getElem_cons_zero, List.getElem_cons_succ, List.setIfInBounds_toArray, List.set_cons_zero, List.set_cons_succ])
                    refine wpAnyF_ready (rs := [9]) (by kernel_rfl) (by simp) ?_
                    refine AllReadyF.cons rfl ?_ ?_
                    · intro K' hK
                      refine step_appN W61 rfl (.tmp 110) (.tmp 112) 22 rfl u.heap.size 9 i0 _ 1 16 und22 ih iz is ib rfl (by decide) _ (k) (((ts.take k).map (swpB (a1 : Int) (a2 : Int))).map Value.string) rfl hO_2 (some ⟨W0.heap.size, 0, none⟩) (1) 1 ([.string x]) rfl (hs_2_M.rd) (by simp [Value.oneCell']) (by unfold maxLen; omega) (by omega) hZ ?_
                      intro A4 c4 W62 hO2 hg2 hf2
                      have hP2 := gb_below hP hg2 hZ (fun g hg => (hO_2.lt g hg).1)
                      have hZ2 := Nat.le_trans hZ hg2.size
                      replace hs_1_P := hs_1_P.other hs_2_P.2.2.2 hg2
                      replace hs_1_Q := hs_1_Q.other hs_2_Q.2.2.2 hg2
                      replace hs_1_M := hs_1_M.other hs_2_M.2.2.2 hg2
                      replace hs_1_L := hs_1_L.other hs_2_L.2.2.2 hg2
                      have hO_12 := own_other hO_1 hg2 ((hap_1_2.symm).symm)
                      have hap2 := Apart.grown (W := W61) (W' := W62) (hap_1_2.symm) hO_1 hf2
                      clear hap_1_2
                      have hap_1_2 := hap2.symm
                      clear hap2
                      replace hO_1 := hO_12
                      clear hO_12
                      replace hs_2_P := hs_2_P.grown hg2 hf2
                      replace hs_2_Q := hs_2_Q.grown hg2 hf2
                      replace hs_2_M := hs_2_M.grown hg2 hf2
                      replace hs_2_L := hs_2_L.grown hg2 hf2
                      clear hO_2
                      have hO_2 := hO2
                      clear hO2
                      refine hK.out _ _ hP2 (fun _ => ⟨hs_1_P.2.2.1, hs_1_Q.2.2.1⟩) (fun _ => ?_)
                      clear hK K'
                      (try simp only [Act.put, List.getElem_toArray, List.getElem_cons_zero, List.getElem_cons_succ, List.setIfInBounds_toArray, List.set_cons_zero, List.set_cons_succ])
                      clear hP hZ hg2 hf2
                      have hP := hP2
                      have hZ := hZ2
                      clear hP2 hZ2
                      refine wpAnyF_ready (rs := [11]) (by kernel_rfl) (by simp) ?_
                      refine AllReadyF.cons rfl ?_ ?_
                      · intro K' hK
                        rw [if_pos (by rfl)]
                        have c1 := obj_at hs_1_P.2.2.1 1 _ rfl
                        have f1 := obj_fz hs_1_P.2.2.1 1
                        go_simp
                        clear c1 f1
                        clear hs_1_M hs_2_M
                        clear hs_1_L hs_2_L
                        replace hP := Below.setCell (p := ⟨p, 1, none⟩) hP hs_1_P.1 (.slice A3 (k + 1) c3)
                        replace hO_1 := own_setFar hO_1 hs_1_P.2.2.2 1 (.slice A3 (k + 1) c3)
                        replace hs_1_Q := hs_1_Q.set_ne (by first | exact hpq | exact (Ne.symm hpq)) 1 (.slice A3 (k + 1) c3)
                        replace hs_1_P := hs_1_P.set 1 (.slice A3 (k + 1) c3)
                        replace hO_2 := own_setFar hO_2 hs_2_P.2.2.2 1 (.slice A3 (k + 1) c3)
                        replace hs_2_Q := hs_2_Q.set_ne (by first | exact hpq | exact (Ne.symm hpq)) 1 (.slice A3 (k + 1) c3)
                        replace hs_2_P := hs_2_P.set 1 (.slice A3 (k + 1) c3)
                        refine hK.out _ _ hP (fun h => nomatch (show false = true from h)) (fun _ => ?_)
                        clear hK K'
                        (try simp only [Act.put, List.getElem_toArray, List.getElem_cons_zero, List.getElem_cons_succ, List.setIfInBounds_toArray, List.set_cons_zero, List.set_cons_succ])
                        replace hZ : u.heap.size ≤ (W62.setCell ⟨p, 1, none⟩ (.slice A3 (k + 1) c3)).heap.size := by simp only [size_setCell]; exact hZ
                        obtain ⟨W63, hWe⟩ : ∃ W63, (W62.setCell ⟨p, 1, none⟩ (.slice A3 (k + 1) c3)) = W63 := ⟨_, rfl⟩
                        rw [hWe] at hP hZ hO_1 hO_2 hs_1_P hs_1_Q hs_2_P hs_2_Q ⊢
                        clear hWe
                        refine wpAnyF_take0 (i := 12) (v := ?_) rfl rfl (by kernel_rfl) (by kernel_rfl) (by kernel_rfl) (fun _ _ _ h => h) (Or.inl ⟨by rfl, ?_⟩) hP (fun h => nomatch (show false = true from h)) ?_
                        rotate_left
                        · (intro ww hSw; go_simp; try with_reducible rfl)
                        (try simp only [Act.put, List.getElem_toArray, List.getElem_cons_zero, List.getElem_cons_succ, List.setIfInBounds_toArray, List.set_cons_zero, List.set_cons_succ])
                        refine wpAnyF_ready (rs := [13]) (by kernel_rfl) (by simp) ?_
                        refine AllReadyF.cons rfl ?_ ?_
                        · intro K' hK
                          rw [if_pos (by rfl)]
                          have c1 := obj_at hs_1_Q.2.2.1 1 _ rfl
                          have f1 := obj_fz hs_1_Q.2.2.1 1
                          go_simp
                          clear c1 f1
                          replace hP := Below.setCell (p := ⟨q, 1, none⟩) hP hs_1_Q.1 (.slice A4 (k + 1) c4)
                          replace hO_1 := own_setFar hO_1 hs_1_Q.2.2.2 1 (.slice A4 (k + 1) c4)
                          replace hs_1_P := hs_1_P.set_ne (by first | exact hpq | exact (Ne.symm hpq)) 1 (.slice A4 (k + 1) c4)
                          replace hs_1_Q := hs_1_Q.set 1 (.slice A4 (k + 1) c4)
                          replace hO_2 := own_setFar hO_2 hs_2_Q.2.2.2 1 (.slice A4 (k + 1) c4)
                          replace hs_2_P := hs_2_P.set_ne (by first | exact hpq | exact (Ne.symm hpq)) 1 (.slice A4 (k + 1) c4)
                          replace hs_2_Q := hs_2_Q.set 1 (.slice A4 (k + 1) c4)
                          refine hK.out _ _ hP (fun h => nomatch (show false = true from h)) (fun _ => ?_)
                          clear hK K'
                          (try simp only [Act.put, List.getElem_toArray, List.getElem_cons_zero, List.getElem_cons_succ, List.setIfInBounds_toArray, List.set_cons_zero, List.set_cons_succ])
                          replace hZ : u.heap.size ≤ (W63.setCell ⟨q, 1, none⟩ (.slice A4 (k + 1) c4)).heap.size := by simp only [size_setCell]; exact hZ
                          obtain ⟨W64, hWe⟩ : ∃ W64, (W63.setCell ⟨q, 1, none⟩ (.slice A4 (k + 1) c4)) = W64 := ⟨_, rfl⟩
                          rw [hWe] at hP hZ hO_1 hO_2 hs_1_P hs_1_Q hs_2_P hs_2_Q ⊢
                          clear hWe
                          refine wpAnyF_done (by kernel_rfl) ?_ _
                          refine NoPanic.normal ?_
                          rw [← HE1.out] at hO_1
                          rw [← HE2.out] at hO_2
                          go_wp2
                          exact ⟨⟨k + 1, A3, A4, c3, c4, by omega, by go_num, ⟨hs_1_P, hs_1_Q, hs_2_P, hs_2_Q, hO_1, hO_2, hap_1_2, hP⟩⟩, by simp [intOf]; omega⟩
                        exact AllReadyF.nil
                      exact AllReadyF.nil
                    exact AllReadyF.nil
                  exact AllReadyF.nil
                exact AllReadyF.nil
              refine AllReadyF.cons rfl ?_ ?_
              · intro K' hK
                rw [if_pos (by rfl)]
                have c0 := obj_at hs_2_Q.2.2.1 1 _ rfl
                go_simp
                clear c0
                refine hK.out _ _ hP (fun _ => ⟨hs_1_P.2.2.1, hs_1_Q.2.2.1⟩) (fun _ => ?_)
                clear hK K'
                (try simp only [Act.put, List.getElem_toArray, List.getElem_cons_zero, List.getElem_cons_succ, List.setIfInBounds_toArray, List.set_cons_zero, List.set_cons_succ])
                refine wpAnyF_ready (rs := [3]) (by kernel_rfl) (by simp) ?_
                refine AllReadyF.cons rfl ?_ ?_
                · intro K' hK
                  rw [if_pos (by rfl)]
                  go_simp
                  have hP2 := below_alloc hP hZ (.cells #[.string r] 9)
                  replace hs_1_P := hs_1_P.alloc (.cells #[.string r] 9)
                  replace hs_1_Q := hs_1_Q.alloc (.cells #[.string r] 9)
                  replace hs_1_M := hs_1_M.alloc (.cells #[.string r] 9)
                  have hs_1_L := Side.fresh hZ hO_1 #[.string r] 9
                  replace hO_1 := hO_1.alloc (.cells #[.string r] 9)
                  replace hs_2_P := hs_2_P.alloc (.cells #[.string r] 9)
                  replace hs_2_Q := hs_2_Q.alloc (.cells #[.string r] 9)
                  replace hs_2_M := hs_2_M.alloc (.cells #[.string r] 9)
                  have hs_2_L := Side.fresh hZ hO_2 #[.string r] 9
                  replace hO_2 := hO_2.alloc (.cells #[.string r] 9)
                  refine hK.out _ _ hP2 (fun _ => ⟨hs_1_P.2.2.1, hs_1_Q.2.2.1⟩) (fun _ => ?_)
                  clear hK K'
                  (try simp only [Act.put, List.getElem_toArray, List.getElem_cons_zero, List.getElem_cons_succ, List.setIfInBounds_toArray, List.set_cons_zero, List.set_cons_succ])
                  replace hZ : u.heap.size ≤ (W53.alloc (.cells #[.string r] 9)).heap.size := by rw [World.size_alloc]; omega
                  clear hP
                  have hP := hP2
                  clear hP2
                  obtain ⟨W66, hWe⟩ : ∃ W66, (W53.alloc (.cells #[.string r] 9)) = W66 := ⟨_, rfl⟩
                  rw [hWe] at hP hZ hO_1 hO_2 hs_1_P hs_1_Q hs_1_M hs_1_L hs_2_P hs_2_Q hs_2_M hs_2_L ⊢
                  clear hWe
                  refine wpAnyF_ready (rs := [4]) (by kernel_rfl) (by simp) ?_
                  refine AllReadyF.cons rfl ?_ ?_
                  · intro K' hK
                    refine step_appN W66 rfl (.tmp 105) (.tmp 107) 22 rfl u.heap.size 9 i0 _ 1 16 und22 ih iz is ib rfl (by decide) _ (k) (((ts.take k).map revB).map Value.string) rfl hO_1 (some ⟨W53.heap.size, 0, none⟩) (1) 1 ([.string r]) rfl (hs_1_L.rd) (by simp [Value.oneCell']) (by unfold maxLen; omega) (by omega) hZ ?_
                    intro A3 c3 W67 hO2 hg2 hf2
                    have hP2 := gb_below hP hg2 hZ (fun g hg => (hO_1.lt g hg).1)
                    have hZ2 := Nat.le_trans hZ hg2.size
                    replace hs_2_P := hs_2_P.other hs_1_P.2.2.2 hg2
                    replace hs_2_Q := hs_2_Q.other hs_1_Q.2.2.2 hg2
                    replace hs_2_M := hs_2_M.other hs_1_M.2.2.2 hg2
                    replace hs_2_L := hs_2_L.other hs_1_L.2.2.2 hg2
                    have hO_22 := own_other hO_2 hg2 ((hap_1_2).symm)
                    have hap2 := Apart.grown (W := W66) (W' := W67) (hap_1_2) hO_2 hf2
                    clear hap_1_2
                    have hap_1_2 := hap2
                    clear hap2
                    replace hO_2 := hO_22
                    clear hO_22
                    replace hs_1_P := hs_1_P.grown hg2 hf2
                    replace hs_1_Q := hs_1_Q.grown hg2 hf2
                    replace hs_1_M := hs_1_M.grown hg2 hf2
                    replace hs_1_L := hs_1_L.grown hg2 hf2
                    clear hO_1
                    have hO_1 := hO2
                    clear hO2
                    refine hK.out _ _ hP2 (fun _ => ⟨hs_1_P.2.2.1, hs_1_Q.2.2.1⟩) (fun _ => ?_)
                    clear hK K'
                    (try simp only [Act.put, List.getElem_toArray, List.getElem_cons_zero, List.getElem_cons_succ, List.setIfInBounds_toArray, List.set_cons_zero, List.set_cons_succ])
                    clear hP hZ hg2 hf2
                    have hP := hP2
                    have hZ := hZ2
                    clear hP2 hZ2
                    refine wpAnyF_take0 (i := 10) (v := ?_) rfl rfl (by kernel_rfl) (by kernel_rfl) (by kernel_rfl) (fun _ _ _ h => h) (Or.inl ⟨by rfl, ?_⟩) hP (fun _ => ⟨hs_1_P.2.2.1, hs_1_Q.2.2.1⟩) ?_
                    rotate_left
                    · (intro ww hSw; go_simp; try with_reducible rfl)
                    (try simp only [Act.put, List.getElem_toArray, List.getElem_cons_zero, List.getElem_cons_succ, List.setIfInBounds_toArray, List.set_cons_zero, List.set_cons_succ])
                    refine wpAnyF_ready (rs := [9]) (by kernel_rfl) (by simp) ?_
                    refine AllReadyF.cons rfl ?_ ?_
                    · intro K' hK
                      refine step_appN W67 rfl (.tmp 110) (.tmp 112) 22 rfl u.heap.size 9 i0 _ 1 16 und22 ih iz is ib rfl (by decide) _ (k) (((ts.take k).map (swpB (a1 : Int) (a2 : Int))).map Value.string) rfl hO_2 (some ⟨W0.heap.size, 0, none⟩) (1) 1 ([.string x]) rfl (hs_2_M.rd) (by simp [Value.oneCell']) (by unfold maxLen; omega) (by omega) hZ ?_
                      intro A4 c4 W68 hO2 hg2 hf2
                      have hP2 := gb_below hP hg2 hZ (fun g hg => (hO_2.lt g hg).1)
                      have hZ2 := Nat.le_trans hZ hg2.size
                      replace hs_1_P := hs_1_P.other hs_2_P.2.2.2 hg2
                      replace hs_1_Q := hs_1_Q.other hs_2_Q.2.2.2 hg2
                      replace hs_1_M := hs_1_M.other hs_2_M.2.2.2 hg2
                      replace hs_1_L := hs_1_L.other hs_2_L.2.2.2 hg2
                      have hO_12 := own_other hO_1 hg2 ((hap_1_2.symm).symm)
                      have hap2 := Apart.grown (W := W67) (W' := W68) (hap_1_2.symm) hO_1 hf2
                      clear hap_1_2
                      have hap_1_2 := hap2.symm
                      clear hap2
                      replace hO_1 := hO_12
                      clear hO_12
                      replace hs_2_P := hs_2_P.grown hg2 hf2
                      replace hs_2_Q := hs_2_Q.grown hg2 hf2
                      replace hs_2_M := hs_2_M.grown hg2 hf2
                      replace hs_2_L := hs_2_L.grown hg2 hf2
                      clear hO_2
                      have hO_2 := hO2
                      clear hO2
                      refine hK.out _ _ hP2 (fun _ => ⟨hs_1_P.2.2.1, hs_1_Q.2.2.1⟩) (fun _ => ?_)
                      clear hK K'
                      (try simp only [Act.put, List.getElem_toArray, List.getElem_cons_zero, List.getElem_cons_succ, List.setIfInBounds_toArray, List.set_cons_zero, List.set_cons_succ])
                      clear hP hZ hg2 hf2
                      have hP := hP2
                      have hZ := hZ2
                      clear hP2 hZ2
                      refine wpAnyF_ready (rs := [11]) (by kernel_rfl) (by simp) ?_
                      refine AllReadyF.cons rfl ?_ ?_
                      · intro K' hK
                        rw [if_pos (by rfl)]
                        have c1 := obj_at hs_1_P.2.2.1 1 _ rfl
                        have f1 := obj_fz hs_1_P.2.2.1 1
                        go_simp
                        clear c1 f1
                        clear hs_1_M hs_2_M
                        clear hs_1_L hs_2_L
                        replace hP := Below.setCell (p := ⟨p, 1, none⟩) hP hs_1_P.1 (.slice A3 (k + 1) c3)
                        replace hO_1 := own_setFar hO_1 hs_1_P.2.2.2 1 (.slice A3 (k + 1) c3)
                        replace hs_1_Q := hs_1_Q.set_ne (by first | exact hpq | exact (Ne.symm hpq)) 1 (.slice A3 (k + 1) c3)
                        replace hs_1_P := hs_1_P.set 1 (.slice A3 (k + 1) c3)
                        replace hO_2 := own_setFar hO_2 hs_2_P.2.2.2 1 (.slice A3 (k + 1) c3)
                        replace hs_2_Q := hs_2_Q.set_ne (by first | exact hpq | exact (Ne.symm hpq)) 1 (.slice A3 (k + 1) c3)
                        replace hs_2_P := hs_2_P.set 1 (.slice A3 (k + 1) c3)
                        refine hK.out _ _ hP (fun h => nomatch (show false = true from h)) (fun _ => ?_)
                        clear hK K'
                        (try simp only [Act.put, List.getElem_toArray, List.getElem_cons_zero, List.getElem_cons_succ, List.setIfInBounds_toArray, List.set_cons_zero, List.set_cons_succ])
                        replace hZ : u.heap.size ≤ (W68.setCell ⟨p, 1, none⟩ (.slice A3 (k + 1) c3)).heap.size := by simp only [size_setCell]; exact hZ
                        obtain ⟨W69, hWe⟩ : ∃ W69, (W68.setCell ⟨p, 1, none⟩ (.slice A3 (k + 1) c3)) = W69 := ⟨_, rfl⟩
                        rw [hWe] at hP hZ hO_1 hO_2 hs_1_P hs_1_Q hs_2_P hs_2_Q ⊢
                        clear hWe
                        refine wpAnyF_take0 (i := 12) (v := ?_) rfl rfl (by kernel_rfl) (by kernel_rfl) (by kernel_rfl) (fun _ _ _ h => h) (Or.inl ⟨by rfl, ?_⟩) hP (fun h => nomatch (show false = true from h)) ?_
                        rotate_left
                        · (intro ww hSw; go_simp; try with_reducible rfl)
                        (try simp only [Act.put, List.getElem_toArray, List.getElem_cons_zero, List.getElem_cons_succ, List.setIfInBounds_toArray, List.set_cons_zero, List.set_cons_succ])
                        refine wpAnyF_ready (rs := [13]) (by kernel_rfl) (by simp) ?_
                        refine AllReadyF.cons rfl ?_ ?_
                        · intro K' hK
                          rw [if_pos (by rfl)]
                          have c1 := obj_at hs_1_Q.2.2.1 1 _ rfl
                          have f1 := obj_fz hs_1_Q.2.2.1 1
                          go_simp
                          clear c1 f1
                          replace hP := Below.setCell (p := ⟨q, 1, none⟩) hP hs_1_Q.1 (.slice A4 (k + 1) c4)
                          replace hO_1 := own_setFar hO_1 hs_1_Q.2.2.2 1 (.slice A4 (k + 1) c4)
                          replace hs_1_P := hs_1_P.set_ne (by first | exact hpq | exact (Ne.symm hpq)) 1 (.slice A4 (k + 1) c4)
                          replace hs_1_Q := hs_1_Q.set 1 (.slice A4 (k + 1) c4)
                          replace hO_2 := own_setFar hO_2 hs_2_Q.2.2.2 1 (.slice A4 (k + 1) c4)
                          replace hs_2_P := hs_2_P.set_ne (by first | exact hpq | exact (Ne.symm hpq)) 1 (.slice A4 (k + 1) c4)
                          replace hs_2_Q := hs_2_Q.set 1 (.slice A4 (k + 1) c4)
                          refine hK.out _ _ hP (fun h => nomatch (show false = true from h)) (fun _ => ?_)
                          clear hK K'
                          (try simp only [Act.put, List.getElem_toArray, List.getElem_cons_zero, List.getElem_cons_succ, List.setIfInBounds_toArray, List.set_cons_zero, List.set_cons_succ])
                          replace hZ : u.heap.size ≤ (W69.setCell ⟨q, 1, none⟩ (.slice A4 (k + 1) c4)).heap.size := by simp only [size_setCell]; exact hZ
                          obtain ⟨W70, hWe⟩ : ∃ W70, (W69.setCell ⟨q, 1, none⟩ (.slice A4 (k + 1) c4)) = W70 := ⟨_, rfl⟩
                          rw [hWe] at hP hZ hO_1 hO_2 hs_1_P hs_1_Q hs_2_P hs_2_Q ⊢
                          clear hWe
                          refine wpAnyF_done (by kernel_rfl) ?_ _
                          refine NoPanic.normal ?_
                          rw [← HE1.out] at hO_1
                          rw [← HE2.out] at hO_2
                          go_wp2
                          exact ⟨⟨k + 1, A3, A4, c3, c4, by omega, by go_num, ⟨hs_1_P, hs_1_Q, hs_2_P, hs_2_Q, hO_1, hO_2, hap_1_2, hP⟩⟩, by simp [intOf]; omega⟩
                        exact AllReadyF.nil
                      exact AllReadyF.nil
                    exact AllReadyF.nil
                  exact AllReadyF.nil
                exact AllReadyF.nil
              exact AllReadyF.nil
            exact AllReadyF.nil
      · as_aux_lemma =>
        have hke : k = ts.length := by omega
        subst hke
        have hkli : ¬ ((ts.length : Nat) : Int) < (ts.length : Nat) := by omega
        obtain ⟨hs_1_P, hs_1_Q, hs_2_P, hs_2_Q, hO_1, hO_2, hap_1_2, hP0⟩ := hTW
        rw [List.take_length] at hO_1 hO_2
        have hV1 := own_strs hO_1
        have hV2 := own_strs hO_2
        have hY : ObjV wr p 24 (.int .i64 W) (.slice A1 ts.length c1) := hs_1_P.2.2.1
        have hQ : ObjV wr q 24 (.int .i64 W) (.slice A2 ts.length c2) := hs_1_Q.2.2.1
        replace hW := below_step hW hP0 (by have := hW.size; omega)
        replace hA := hA.ext hP0
        replace hX := hX.below hP0
        clear hs_1_P hs_1_Q hs_2_P hs_2_Q hO_1 hO_2 hap_1_2 hP0 hPu hNc0 hNc1 hNlt hN hXc0 hXc1 hXlt
        have hXc0 := hX.c0
        have hXc1 := hX.c1
        have hXlt := hX.lt
        have hYc0 := hY.c0
        have hYc1 := hY.c1
        have hYlt := hY.lt
        have hQc0 := hQ.c0
        have hQc1 := hQ.c1
        have hQlt := hQ.lt
        obtain ⟨f, cc, e3, p1, p2, e4, sc, vc, xc, F0, C0, H5, M0, P0, k1, F1, C1, M1, z1, P1, k2, F2, C2, M2, z2, P2⟩ := turned_plain hc hn hwin1 hwin2
        have hd1 : ((b1 : Nat) : Int) - 97 = (a1 : Nat) := by rw [ha1.out]; omega
        have hd2 : ((b2 : Nat) : Int) - 97 = (a2 : Nat) := by rw [ha2.out]; omega
        rw [hd1, hd2] at k2 F2 C2 M2 P2
        have hl1 : (ts.map revB).length = ts.length := List.length_map ..
        have hl2 : (ts.map (swpB (a1 : Int) (a2 : Int))).length = ts.length := List.length_map ..
        generalize ts.map revB = us at *
        generalize ts.map (swpB (a1 : Int) (a2 : Int)) = xs at *
        have hsz1 := (chk_val k1).2.2.2.2.2.2.1
        have hsz2 := (chk_val k2).2.2.2.2.2.2.1
        have HF0 := hide (fun w' (hA : Strs w' A ts) => Fewest_any W A ts c w' hA hl hsz)
        have HM0 := hide (fun w' (hA : Strs w' A ts) => Common_any W A ts c w' hA hl hsz)
        have HC0 := hide (fun w' (hA : Strs w' A ts) => Count_any W A ts c w' hA hl hsz (n : Nat))
        have HP0 := hide (fun w' (hA : Strs w' A ts) => Pulls_any W A ts c w' hA hl hsz b1 hb1 (n : Nat))
        rw [F0] at HF0
        rw [M0] at HM0
        rw [C0] at HC0
        rw [P0] at HP0
        have HF1 := hide (fun w' (hA : Strs w' A1 us) => Fewest_any W A1 us c1 w' hA (by omega) hsz1)
        have HM1 := hide (fun w' (hA : Strs w' A1 us) => Common_any W A1 us c1 w' hA (by omega) hsz1)
        have HC1 := hide (fun w' (hA : Strs w' A1 us) => Count_any W A1 us c1 w' hA (by omega) hsz1 (n : Nat))
        have HP1 := hide (fun w' (hA : Strs w' A1 us) => Pulls_any W A1 us c1 w' hA (by omega) hsz1 b1 hb1 (n : Nat))
        rw [F1] at HF1
        rw [M1] at HM1
        rw [C1] at HC1
        rw [P1] at HP1
        have HF2 := hide (fun w' (hA : Strs w' A2 xs) => Fewest_any W A2 xs c2 w' hA (by omega) hsz2)
        have HM2 := hide (fun w' (hA : Strs w' A2 xs) => Common_any W A2 xs c2 w' hA (by omega) hsz2)
        have HC2 := hide (fun w' (hA : Strs w' A2 xs) => Count_any W A2 xs c2 w' hA (by omega) hsz2 (n : Nat))
        have HP2 := hide (fun w' (hA : Strs w' A2 xs) => Pulls_any W A2 xs c2 w' hA (by omega) hsz2 b2 hb2 (n : Nat))
        rw [F2] at HF2
        rw [M2] at HM2
        rw [C2] at HC2
        rw [P2] at HP2
        rw [hl1] at HF1 HM1 HC1 HP1
        rw [hl2] at HF2 HM2 HC2 HP2
        unfold tup2V at HF0 HF1 HF2 HC0 HC1 HC2
        unfold strE at HM0 HM1 HM2
        unfold rngE at HP0 HP1 HP2
        clear F0 F1 F2 C0 C1 C2 M0 M1 M2 P0 P1 P2 k1 k2 hd1 hd2 hl1 hl2 hsz1 hsz2
        replace hf := hide hf
        replace hc := hide hc
        replace H5 := hide H5
        have hz1 : ((vc.size : Nat) : Int) = (sc.size : Nat) := by omega
        have hz2 : ((xc.size : Nat) : Int) = (sc.size : Nat) := by omega
        clear z1 z2
        obtain ⟨wq, rfl⟩ : ∃ wq : World, wq = wr := ⟨_, rfl⟩
        go_upto_region 22 with fail
        have hS : Obj4 (wq.alloc (.cells #[.int .i64 W, .slice A1 ts.length c1, .int .i64 W, .slice A2 ts.length c2] 24)) wq.heap.size 24 (.int .i64 W) (.slice A1 ts.length c1) (.int .i64 W) (.slice A2 ts.length c2) := heap_alloc_new wq _
        have hbq : Below wq.heap.size wq (wq.alloc (.cells #[.int .i64 W, .slice A1 ts.length c1, .int .i64 W, .slice A2 ts.length c2] 24)) := below_alloc (Below.refl _ _) (Nat.le_refl _) _
        obtain ⟨wb, hwb⟩ : ∃ wb, (wq.alloc (.cells #[.int .i64 W, .slice A1 ts.length c1, .int .i64 W, .slice A2 ts.length c2] 24)) = wb := ⟨_, rfl⟩
        rw [hwb] at hS hbq ⊢
        clear hwb
        have szwb := hbq.size
        replace hA := hA.ext hbq
        replace hV1 := hV1.ext hbq
        replace hV2 := hV2.ext hbq
        replace hX := hX.below hbq
        (try clear hXc0 hXc1 hXlt)
        have hXc0 := hX.c0
        have hXc1 := hX.c1
        have hXlt := hX.lt
        replace hW := below_step hW hbq (by have := hW.size; omega)
        clear hbq
        (try clear hSc0 hSc1 hSc2 hSc3 hSlt)
        have hSc0 := hS.c0
        have hSc1 := hS.c1
        have hSc2 := hS.c2
        have hSc3 := hS.c3
        have hSlt := hS.lt
        have tok0 : True := trivial
        go_upto_region 26 with (first
            | (clear tok0; go_at_call 23; refine (HF0.out _ (hA.ext (by (repeat (first | exact Below.refl _ _ | assumption | refine below_drewN ?_ _ | refine below_drew ?_ | refine below_gr ?_ ?_ _ | refine below_alloc ?_ ?_ _ | refine Below.setCell ?_ ?_ _ | refine below_step ?_ (by assumption) ?_ | omega | (simp only [zz] at *; omega)))))).mono ?_; rintro e u1 ⟨rfl, hb1⟩; replace hb1 := ex_below hb1; have bel1 : Below wb.heap.size wb u1 := (by (repeat (first | exact Below.refl _ _ | assumption | refine below_drewN ?_ _ | refine below_drew ?_ | refine below_gr ?_ ?_ _ | refine below_alloc ?_ ?_ _ | refine Below.setCell ?_ ?_ _ | refine below_step ?_ (by assumption) ?_ | omega | (simp only [zz] at *; omega)))); clear hb1; have sz1 := bel1.size; replace hA := hA.ext bel1; replace hV1 := hV1.ext bel1; replace hV2 := hV2.ext bel1; replace hX := hX.below bel1; replace hW := below_step hW bel1 (by have := hW.size; omega); replace hS := hS.below bel1; (try clear hXc0 hXc1 hXlt); have hXc0 := hX.c0; have hXc1 := hX.c1; have hXlt := hX.lt; (try clear hSc0 hSc1 hSc2 hSc3 hSlt); have hSc0 := hS.c0; have hSc1 := hS.c1; have hSc2 := hS.c2; have hSc3 := hS.c3; have hSlt := hS.lt; clear bel1; have tok1 : True := trivial)
            | (clear tok1; go_at_call 25; refine (HM0.out _ (hA.ext (by (repeat (first | exact Below.refl _ _ | assumption | refine below_drewN ?_ _ | refine below_drew ?_ | refine below_gr ?_ ?_ _ | refine below_alloc ?_ ?_ _ | refine Below.setCell ?_ ?_ _ | refine below_step ?_ (by assumption) ?_ | omega | (simp only [zz] at *; omega)))))).mono ?_; rintro e u2 ⟨rfl, hb2⟩; replace hb2 := ex_below hb2; have bel2 : Below u1.heap.size u1 u2 := (by (repeat (first | exact Below.refl _ _ | assumption | refine below_drewN ?_ _ | refine below_drew ?_ | refine below_gr ?_ ?_ _ | refine below_alloc ?_ ?_ _ | refine Below.setCell ?_ ?_ _ | refine below_step ?_ (by assumption) ?_ | omega | (simp only [zz] at *; omega)))); clear hb2; have sz2 := bel2.size; replace hA := hA.ext bel2; replace hV1 := hV1.ext bel2; replace hV2 := hV2.ext bel2; replace hX := hX.below bel2; replace hW := below_step hW bel2 (by have := hW.size; omega); replace hS := hS.below bel2; (try clear hXc0 hXc1 hXlt); have hXc0 := hX.c0; have hXc1 := hX.c1; have hXlt := hX.lt; (try clear hSc0 hSc1 hSc2 hSc3 hSlt); have hSc0 := hS.c0; have hSc1 := hS.c1; have hSc2 := hS.c2; have hSc3 := hS.c3; have hSlt := hS.lt; clear bel2; have tok2 : True := trivial)
            | (clear tok2; go_at_call 30; refine (HC0.out _ (hA.ext (by (repeat (first | exact Below.refl _ _ | assumption | refine below_drewN ?_ _ | refine below_drew ?_ | refine below_gr ?_ ?_ _ | refine below_alloc ?_ ?_ _ | refine Below.setCell ?_ ?_ _ | refine below_step ?_ (by assumption) ?_ | omega | (simp only [zz] at *; omega)))))).mono ?_; rintro e u3 ⟨rfl, hb3⟩; replace hb3 := ex_below hb3; have bel3 : Below u2.heap.size u2 u3 := (by (repeat (first | exact Below.refl _ _ | assumption | refine below_drewN ?_ _ | refine below_drew ?_ | refine below_gr ?_ ?_ _ | refine below_alloc ?_ ?_ _ | refine Below.setCell ?_ ?_ _ | refine below_step ?_ (by assumption) ?_ | omega | (simp only [zz] at *; omega)))); clear hb3; have sz3 := bel3.size; replace hA := hA.ext bel3; replace hV1 := hV1.ext bel3; replace hV2 := hV2.ext bel3; replace hX := hX.below bel3; replace hW := below_step hW bel3 (by have := hW.size; omega); replace hS := hS.below bel3; (try clear hXc0 hXc1 hXlt); have hXc0 := hX.c0; have hXc1 := hX.c1; have hXlt := hX.lt; (try clear hSc0 hSc1 hSc2 hSc3 hSlt); have hSc0 := hS.c0; have hSc1 := hS.c1; have hSc2 := hS.c2; have hSc3 := hS.c3; have hSlt := hS.lt; clear bel3; have tok3 : True := trivial)
            | (clear tok3; go_at_call 35; refine (HP0.out _ (hA.ext (by (repeat (first | exact Below.refl _ _ | assumption | refine below_drewN ?_ _ | refine below_drew ?_ | refine below_gr ?_ ?_ _ | refine below_alloc ?_ ?_ _ | refine Below.setCell ?_ ?_ _ | refine below_step ?_ (by assumption) ?_ | omega | (simp only [zz] at *; omega)))))).mono ?_; rintro e u4 ⟨rfl, hb4⟩; replace hb4 := ex_below hb4; have bel4 : Below u3.heap.size u3 u4 := (by (repeat (first | exact Below.refl _ _ | assumption | refine below_drewN ?_ _ | refine below_drew ?_ | refine below_gr ?_ ?_ _ | refine below_alloc ?_ ?_ _ | refine Below.setCell ?_ ?_ _ | refine below_step ?_ (by assumption) ?_ | omega | (simp only [zz] at *; omega)))); clear hb4; have sz4 := bel4.size; replace hA := hA.ext bel4; replace hV1 := hV1.ext bel4; replace hV2 := hV2.ext bel4; replace hX := hX.below bel4; replace hW := below_step hW bel4 (by have := hW.size; omega); replace hS := hS.below bel4; (try clear hXc0 hXc1 hXlt); have hXc0 := hX.c0; have hXc1 := hX.c1; have hXlt := hX.lt; (try clear hSc0 hSc1 hSc2 hSc3 hSlt); have hSc0 := hS.c0; have hSc1 := hS.c1; have hSc2 := hS.c2; have hSc3 := hS.c3; have hSlt := hS.lt; clear bel4; have tok4 : True := trivial))
        have hp : ObjV (u4.alloc (.cells #[.int .i64 p1, .int .i64 p2] 47)) u4.heap.size 47 (.int .i64 p1) (.int .i64 p2) := ObjV.new _ _ _ _
        have belq : Below u4.heap.size u4 (u4.alloc (.cells #[.int .i64 p1, .int .i64 p2] 47)) := below_alloc (Below.refl _ _) (Nat.le_refl _) _
        obtain ⟨uq, huq⟩ : ∃ uq, (u4.alloc (.cells #[.int .i64 p1, .int .i64 p2] 47)) = uq := ⟨_, rfl⟩
        rw [huq] at hp belq ⊢
        clear huq
        have szuq := belq.size
        replace hA := hA.ext belq
        replace hV1 := hV1.ext belq
        replace hV2 := hV2.ext belq
        replace hX := hX.below belq
        (try clear hXc0 hXc1 hXlt)
        have hXc0 := hX.c0
        have hXc1 := hX.c1
        have hXlt := hX.lt
        replace hW := below_step hW belq (by have := hW.size; omega)
        replace hS := hS.below belq
        (try clear hSc0 hSc1 hSc2 hSc3 hSlt)
        have hSc0 := hS.c0
        have hSc1 := hS.c1
        have hSc2 := hS.c2
        have hSc3 := hS.c3
        have hSlt := hS.lt
        clear belq
        (try clear hSc0 hSc1 hSc2 hSc3 hSlt)
        have hSc0 := hS.c0
        have hSc1 := hS.c1
        have hSc2 := hS.c2
        have hSc3 := hS.c3
        have hSlt := hS.lt
        have hpc0 := hp.c0
        have hpc1 := hp.c1
        have hplt := hp.lt
        go_cut [158] from 145 to 157 (fun s wx => s = .bool false ∧ wx = uq)
        case first =>
          as_aux_lemma =>
          rcases H5.out with rfl | rfl
          · go_wp2_with fail
            go_meet
            exact ⟨rfl, rfl⟩
          · go_wp2_with fail
            go_meet
            exact ⟨rfl, rfl⟩
        case rest =>
          obtain ⟨hs0, hwe⟩ := hcut
          subst hs0
          rw [hwe]
          clear hwe
          go_wp2_with fail
          go_loopw [26, 27, 28, 29, 30, 31, 32, 33, 34, 35] (fun i _ _ _ _ _ _ _ _ _ wx => (i = .int .i64 0 ∨ i = .int .i64 1 ∨ i = .int .i64 2) ∧ Below uq.heap.size uq wx) (fun i _ _ _ _ _ _ _ _ _ _ => 2 - (intOf i).toNat)
          case atStart => exact ⟨.inl rfl, Below.refl _ _⟩
          case round =>
            obtain ⟨hi, hbr⟩ := hrel
            have hb9 := hbr
            have szwr := hb9.size
            replace hA := hA.ext hb9
            replace hV1 := hV1.ext hb9
            replace hV2 := hV2.ext hb9
            replace hX := hX.below hb9
            (try clear hXc0 hXc1 hXlt)
            have hXc0 := hX.c0
            have hXc1 := hX.c1
            have hXlt := hX.lt
            replace hW := below_step hW hb9 (by have := hW.size; omega)
            replace hS := hS.below hb9
            (try clear hSc0 hSc1 hSc2 hSc3 hSlt)
            have hSc0 := hS.c0
            have hSc1 := hS.c1
            have hSc2 := hS.c2
            have hSc3 := hS.c3
            have hSlt := hS.lt
            replace hp := hp.below hb9
            (try clear hpc0 hpc1 hplt)
            have hpc0 := hp.c0
            have hpc1 := hp.c1
            have hplt := hp.lt
            clear hb9
            (try clear hSc0 hSc1 hSc2 hSc3 hSlt)
            have hSc0 := hS.c0
            have hSc1 := hS.c1
            have hSc2 := hS.c2
            have hSc3 := hS.c3
            have hSlt := hS.lt
            rcases hi with rfl | rfl | rfl
            · as_aux_lemma =>
              go_wp2_with (first
                  | (clear tok4; go_at_call 23; refine (HF1.out _ (hV1.ext (by (repeat (first | exact Below.refl _ _ | assumption | refine below_drewN ?_ _ | refine below_drew ?_ | refine below_gr ?_ ?_ _ | refine below_alloc ?_ ?_ _ | refine Below.setCell ?_ ?_ _ | refine below_step ?_ (by assumption) ?_ | omega | (simp only [zz] at *; omega)))))).mono ?_; rintro e u5 ⟨rfl, hb5⟩; replace hb5 := ex_below hb5; have bel5 : Below wr.heap.size wr u5 := (by (repeat (first | exact Below.refl _ _ | assumption | refine below_drewN ?_ _ | refine below_drew ?_ | refine below_gr ?_ ?_ _ | refine below_alloc ?_ ?_ _ | refine Below.setCell ?_ ?_ _ | refine below_step ?_ (by assumption) ?_ | omega | (simp only [zz] at *; omega)))); clear hb5; have sz5 := bel5.size; replace hA := hA.ext bel5; replace hV1 := hV1.ext bel5; replace hV2 := hV2.ext bel5; replace hX := hX.below bel5; replace hW := below_step hW bel5 (by have := hW.size; omega); replace hS := hS.below bel5; replace hp := hp.below bel5; replace hbr := below_step hbr bel5 (by have := hbr.size; omega); (try clear hXc0 hXc1 hXlt); have hXc0 := hX.c0; have hXc1 := hX.c1; have hXlt := hX.lt; (try clear hpc0 hpc1 hplt); have hpc0 := hp.c0; have hpc1 := hp.c1; have hplt := hp.lt; (try clear hSc0 hSc1 hSc2 hSc3 hSlt); have hSc0 := hS.c0; have hSc1 := hS.c1; have hSc2 := hS.c2; have hSc3 := hS.c3; have hSlt := hS.lt; clear bel5; have tok5 : True := trivial)
                  | (clear tok5; go_at_call 25; refine (HM1.out _ (hV1.ext (by (repeat (first | exact Below.refl _ _ | assumption | refine below_drewN ?_ _ | refine below_drew ?_ | refine below_gr ?_ ?_ _ | refine below_alloc ?_ ?_ _ | refine Below.setCell ?_ ?_ _ | refine below_step ?_ (by assumption) ?_ | omega | (simp only [zz] at *; omega)))))).mono ?_; rintro e u6 ⟨rfl, hb6⟩; replace hb6 := ex_below hb6; have bel6 : Below u5.heap.size u5 u6 := (by (repeat (first | exact Below.refl _ _ | assumption | refine below_drewN ?_ _ | refine below_drew ?_ | refine below_gr ?_ ?_ _ | refine below_alloc ?_ ?_ _ | refine Below.setCell ?_ ?_ _ | refine below_step ?_ (by assumption) ?_ | omega | (simp only [zz] at *; omega)))); clear hb6; have sz6 := bel6.size; replace hA := hA.ext bel6; replace hV1 := hV1.ext bel6; replace hV2 := hV2.ext bel6; replace hX := hX.below bel6; replace hW := below_step hW bel6 (by have := hW.size; omega); replace hS := hS.below bel6; replace hp := hp.below bel6; replace hbr := below_step hbr bel6 (by have := hbr.size; omega); (try clear hXc0 hXc1 hXlt); have hXc0 := hX.c0; have hXc1 := hX.c1; have hXlt := hX.lt; (try clear hpc0 hpc1 hplt); have hpc0 := hp.c0; have hpc1 := hp.c1; have hplt := hp.lt; (try clear hSc0 hSc1 hSc2 hSc3 hSlt); have hSc0 := hS.c0; have hSc1 := hS.c1; have hSc2 := hS.c2; have hSc3 := hS.c3; have hSlt := hS.lt; clear bel6; have tok6 : True := trivial)
                  | (clear tok6; go_at_call 30; refine (HC1.out _ (hV1.ext (by (repeat (first | exact Below.refl _ _ | assumption | refine below_drewN ?_ _ | refine below_drew ?_ | refine below_gr ?_ ?_ _ | refine below_alloc ?_ ?_ _ | refine Below.setCell ?_ ?_ _ | refine below_step ?_ (by assumption) ?_ | omega | (simp only [zz] at *; omega)))))).mono ?_; rintro e u7 ⟨rfl, hb7⟩; replace hb7 := ex_below hb7; have bel7 : Below u6.heap.size u6 u7 := (by (repeat (first | exact Below.refl _ _ | assumption | refine below_drewN ?_ _ | refine below_drew ?_ | refine below_gr ?_ ?_ _ | refine below_alloc ?_ ?_ _ | refine Below.setCell ?_ ?_ _ | refine below_step ?_ (by assumption) ?_ | omega | (simp only [zz] at *; omega)))); clear hb7; have sz7 := bel7.size; replace hA := hA.ext bel7; replace hV1 := hV1.ext bel7; replace hV2 := hV2.ext bel7; replace hX := hX.below bel7; replace hW := below_step hW bel7 (by have := hW.size; omega); replace hS := hS.below bel7; replace hp := hp.below bel7; replace hbr := below_step hbr bel7 (by have := hbr.size; omega); (try clear hXc0 hXc1 hXlt); have hXc0 := hX.c0; have hXc1 := hX.c1; have hXlt := hX.lt; (try clear hpc0 hpc1 hplt); have hpc0 := hp.c0; have hpc1 := hp.c1; have hplt := hp.lt; (try clear hSc0 hSc1 hSc2 hSc3 hSlt); have hSc0 := hS.c0; have hSc1 := hS.c1; have hSc2 := hS.c2; have hSc3 := hS.c3; have hSlt := hS.lt; clear bel7; have tok7 : True := trivial)
                  | (clear tok7; go_at_call 35; refine (HP1.out _ (hV1.ext (by (repeat (first | exact Below.refl _ _ | assumption | refine below_drewN ?_ _ | refine below_drew ?_ | refine below_gr ?_ ?_ _ | refine below_alloc ?_ ?_ _ | refine Below.setCell ?_ ?_ _ | refine below_step ?_ (by assumption) ?_ | omega | (simp only [zz] at *; omega)))))).mono ?_; rintro e u8 ⟨rfl, hb8⟩; replace hb8 := ex_below hb8; have bel8 : Below u7.heap.size u7 u8 := (by (repeat (first | exact Below.refl _ _ | assumption | refine below_drewN ?_ _ | refine below_drew ?_ | refine below_gr ?_ ?_ _ | refine below_alloc ?_ ?_ _ | refine Below.setCell ?_ ?_ _ | refine below_step ?_ (by assumption) ?_ | omega | (simp only [zz] at *; omega)))); clear hb8; have sz8 := bel8.size; replace hA := hA.ext bel8; replace hV1 := hV1.ext bel8; replace hV2 := hV2.ext bel8; replace hX := hX.below bel8; replace hW := below_step hW bel8 (by have := hW.size; omega); replace hS := hS.below bel8; replace hp := hp.below bel8; replace hbr := below_step hbr bel8 (by have := hbr.size; omega); (try clear hXc0 hXc1 hXlt); have hXc0 := hX.c0; have hXc1 := hX.c1; have hXlt := hX.lt; (try clear hpc0 hpc1 hplt); have hpc0 := hp.c0; have hpc1 := hp.c1; have hplt := hp.lt; (try clear hSc0 hSc1 hSc2 hSc3 hSlt); have hSc0 := hS.c0; have hSc1 := hS.c1; have hSc2 := hS.c2; have hSc3 := hS.c3; have hSlt := hS.lt; clear bel8; have tok8 : True := trivial))
              exact ⟨⟨.inr (.inl rfl), by (repeat (first | exact Below.refl _ _ | assumption | (refine below_gr ?_ (by (first | omega | (simp only [zz] at *; omega))) _) | (refine below_alloc ?_ (by (first | omega | (simp only [zz] at *; omega))) _) | (refine Below.setCell ?_ (by (first | omega | (simp only [zz] at *; omega))) _) | refine below_drewN ?_ _ | refine below_drew ?_ | (refine below_step ?_ (by assumption) (by (first | omega | (simp only [zz] at *; omega))))))⟩, by simp [intOf]⟩
            · as_aux_lemma =>
              go_wp2_with (first
                  | (clear tok4; go_at_call 23; refine (HF2.out _ (hV2.ext (by (repeat (first | exact Below.refl _ _ | assumption | refine below_drewN ?_ _ | refine below_drew ?_ | refine below_gr ?_ ?_ _ | refine below_alloc ?_ ?_ _ | refine Below.setCell ?_ ?_ _ | refine below_step ?_ (by assumption) ?_ | omega | (simp only [zz] at *; omega)))))).mono ?_; rintro e u5 ⟨rfl, hb5⟩; replace hb5 := ex_below hb5; have bel5 : Below wr.heap.size wr u5 := (by (repeat (first | exact Below.refl _ _ | assumption | refine below_drewN ?_ _ | refine below_drew ?_ | refine below_gr ?_ ?_ _ | refine below_alloc ?_ ?_ _ | refine Below.setCell ?_ ?_ _ | refine below_step ?_ (by assumption) ?_ | omega | (simp only [zz] at *; omega)))); clear hb5; have sz5 := bel5.size; replace hA := hA.ext bel5; replace hV1 := hV1.ext bel5; replace hV2 := hV2.ext bel5; replace hX := hX.below bel5; replace hW := below_step hW bel5 (by have := hW.size; omega); replace hS := hS.below bel5; replace hp := hp.below bel5; replace hbr := below_step hbr bel5 (by have := hbr.size; omega); (try clear hXc0 hXc1 hXlt); have hXc0 := hX.c0; have hXc1 := hX.c1; have hXlt := hX.lt; (try clear hpc0 hpc1 hplt); have hpc0 := hp.c0; have hpc1 := hp.c1; have hplt := hp.lt; (try clear hSc0 hSc1 hSc2 hSc3 hSlt); have hSc0 := hS.c0; have hSc1 := hS.c1; have hSc2 := hS.c2; have hSc3 := hS.c3; have hSlt := hS.lt; clear bel5; have tok5 : True := trivial)
                  | (clear tok5; go_at_call 25; refine (HM2.out _ (hV2.ext (by (repeat (first | exact Below.refl _ _ | assumption | refine below_drewN ?_ _ | refine below_drew ?_ | refine below_gr ?_ ?_ _ | refine below_alloc ?_ ?_ _ | refine Below.setCell ?_ ?_ _ | refine below_step ?_ (by assumption) ?_ | omega | (simp only [zz] at *; omega)))))).mono ?_; rintro e u6 ⟨rfl, hb6⟩; replace hb6 := ex_below hb6; have bel6 : Below u5.heap.size u5 u6 := (by (repeat (first | exact Below.refl _ _ | assumption | refine below_drewN ?_ _ | refine below_drew ?_ | refine below_gr ?_ ?_ _ | refine below_alloc ?_ ?_ _ | refine Below.setCell ?_ ?_ _ | refine below_step ?_ (by assumption) ?_ | omega | (simp only [zz] at *; omega)))); clear hb6; have sz6 := bel6.size; replace hA := hA.ext bel6; replace hV1 := hV1.ext bel6; replace hV2 := hV2.ext bel6; replace hX := hX.below bel6; replace hW := below_step hW bel6 (by have := hW.size; omega); replace hS := hS.below bel6; replace hp := hp.below bel6; replace hbr := below_step hbr bel6 (by have := hbr.size; omega); (try clear hXc0 hXc1 hXlt); have hXc0 := hX.c0; have hXc1 := hX.c1; have hXlt := hX.lt; (try clear hpc0 hpc1 hplt); have hpc0 := hp.c0; have hpc1 := hp.c1; have hplt := hp.lt; (try clear hSc0 hSc1 hSc2 hSc3 hSlt); have hSc0 := hS.c0; have hSc1 := hS.c1; have hSc2 := hS.c2; have hSc3 := hS.c3; have hSlt := hS.lt; clear bel6; have tok6 : True := trivial)
                  | (clear tok6; go_at_call 30; refine (HC2.out _ (hV2.ext (by (repeat (first | exact Below.refl _ _ | assumption | refine below_drewN ?_ _ | refine below_drew ?_ | refine below_gr ?_ ?_ _ | refine below_alloc ?_ ?_ _ | refine Below.setCell ?_ ?_ _ | refine below_step ?_ (by assumption) ?_ | omega | (simp only [zz] at *; omega)))))).mono ?_; rintro e u7 ⟨rfl, hb7⟩; replace hb7 := ex_below hb7; have bel7 : Below u6.heap.size u6 u7 := (by (repeat (first | exact Below.refl _ _ | assumption | refine below_drewN ?_ _ | refine below_drew ?_ | refine below_gr ?_ ?_ _ | refine below_alloc ?_ ?_ _ | refine Below.setCell ?_ ?_ _ | refine below_step ?_ (by assumption) ?_ | omega | (simp only [zz] at *; omega)))); clear hb7; have sz7 := bel7.size; replace hA := hA.ext bel7; replace hV1 := hV1.ext bel7; replace hV2 := hV2.ext bel7; replace hX := hX.below bel7; replace hW := below_step hW bel7 (by have := hW.size; omega); replace hS := hS.below bel7; replace hp := hp.below bel7; replace hbr := below_step hbr bel7 (by have := hbr.size; omega); (try clear hXc0 hXc1 hXlt); have hXc0 := hX.c0; have hXc1 := hX.c1; have hXlt := hX.lt; (try clear hpc0 hpc1 hplt); have hpc0 := hp.c0; have hpc1 := hp.c1; have hplt := hp.lt; (try clear hSc0 hSc1 hSc2 hSc3 hSlt); have hSc0 := hS.c0; have hSc1 := hS.c1; have hSc2 := hS.c2; have hSc3 := hS.c3; have hSlt := hS.lt; clear bel7; have tok7 : True := trivial)
                  | (clear tok7; go_at_call 35; refine (HP2.out _ (hV2.ext (by (repeat (first | exact Below.refl _ _ | assumption | refine below_drewN ?_ _ | refine below_drew ?_ | refine below_gr ?_ ?_ _ | refine below_alloc ?_ ?_ _ | refine Below.setCell ?_ ?_ _ | refine below_step ?_ (by assumption) ?_ | omega | (simp only [zz] at *; omega)))))).mono ?_; rintro e u8 ⟨rfl, hb8⟩; replace hb8 := ex_below hb8; have bel8 : Below u7.heap.size u7 u8 := (by (repeat (first | exact Below.refl _ _ | assumption | refine below_drewN ?_ _ | refine below_drew ?_ | refine below_gr ?_ ?_ _ | refine below_alloc ?_ ?_ _ | refine Below.setCell ?_ ?_ _ | refine below_step ?_ (by assumption) ?_ | omega | (simp only [zz] at *; omega)))); clear hb8; have sz8 := bel8.size; replace hA := hA.ext bel8; replace hV1 := hV1.ext bel8; replace hV2 := hV2.ext bel8; replace hX := hX.below bel8; replace hW := below_step hW bel8 (by have := hW.size; omega); replace hS := hS.below bel8; replace hp := hp.below bel8; replace hbr := below_step hbr bel8 (by have := hbr.size; omega); (try clear hXc0 hXc1 hXlt); have hXc0 := hX.c0; have hXc1 := hX.c1; have hXlt := hX.lt; (try clear hpc0 hpc1 hplt); have hpc0 := hp.c0; have hpc1 := hp.c1; have hplt := hp.lt; (try clear hSc0 hSc1 hSc2 hSc3 hSlt); have hSc0 := hS.c0; have hSc1 := hS.c1; have hSc2 := hS.c2; have hSc3 := hS.c3; have hSlt := hS.lt; clear bel8; have tok8 : True := trivial))
              exact ⟨⟨.inr (.inr rfl), by (repeat (first | exact Below.refl _ _ | assumption | (refine below_gr ?_ (by (first | omega | (simp only [zz] at *; omega))) _) | (refine below_alloc ?_ (by (first | omega | (simp only [zz] at *; omega))) _) | (refine Below.setCell ?_ (by (first | omega | (simp only [zz] at *; omega))) _) | refine below_drewN ?_ _ | refine below_drew ?_ | (refine below_step ?_ (by assumption) (by (first | omega | (simp only [zz] at *; omega))))))⟩, by simp [intOf]⟩
            · as_aux_lemma =>
              go_wp2_with (first
                  | (clear tok4; go_at_call 18; refine (works_any _).mono ?_; rintro e u5 ⟨rfl, hb5⟩; replace hb5 := ex_below hb5; have bel5 : Below wr.heap.size wr u5 := (by (repeat (first | exact Below.refl _ _ | assumption | refine below_drewN ?_ _ | refine below_drew ?_ | refine below_gr ?_ ?_ _ | refine below_alloc ?_ ?_ _ | refine Below.setCell ?_ ?_ _ | refine below_step ?_ (by assumption) ?_ | omega | (simp only [zz] at *; omega)))); clear hb5; have sz5 := bel5.size; replace hA := hA.ext bel5; replace hV1 := hV1.ext bel5; replace hV2 := hV2.ext bel5; replace hX := hX.below bel5; replace hW := below_step hW bel5 (by have := hW.size; omega); replace hS := hS.below bel5; replace hp := hp.below bel5; replace hbr := below_step hbr bel5 (by have := hbr.size; omega); (try clear hXc0 hXc1 hXlt); have hXc0 := hX.c0; have hXc1 := hX.c1; have hXlt := hX.lt; (try clear hpc0 hpc1 hplt); have hpc0 := hp.c0; have hpc1 := hp.c1; have hplt := hp.lt; (try clear hSc0 hSc1 hSc2 hSc3 hSlt); have hSc0 := hS.c0; have hSc1 := hS.c1; have hSc2 := hS.c2; have hSc3 := hS.c3; have hSlt := hS.lt; clear bel5; have tok5 : True := trivial))
              go_ret
              exact gives_of rfl hW
end Go.Proofs.Ytafncmgijbkomaa
