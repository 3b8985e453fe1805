/- Proved here: contracts and laws of C48, a part of the proofs about the crowd laws: what some functions of the program and of the reference compute, and plain facts about it. Conditions: those that each theorem names, no others. -/
import Derived.Test.YtbfhkknpocbeaaaC47
import Derived.WalkKit
import Derived.WalkSpells
import Derived.WalkLawsBesides
import Derived.Below
import Derived.Deep.QuietTactic
import Derived.BigQuiet
import Derived.Deep.Light
import Derived.Deep.RegionLaw
import Derived.Test.YtbfhkknpocbeaaaC5
set_option linter.unusedSimpArgs false
set_option linter.unusedVariables false
namespace Go.Proofs.Ytbfhkknpocbeaaa
open Go.RowKit
def turnP (m : Int) (p : P3) : P3 := ⟨m + 1 - p.un, m + 1 - p.un, m + 1 - lastP p⟩
def turnedL (m : Int) (ps : List P3) : List P3 := (ps.filter canB).map (turnP m)
theorem turn_falls {m : Int} {ps : List P3} (fr ti : Int) : fallsN fr ti (turnedL m ps) = fallsN (m + 1 - ti) (m + 1 - fr) ps := by
  unfold fallsN turnedL
  rw [← List.countP_eq_length_filter, ← List.countP_eq_length_filter, List.countP_map, List.countP_filter]
  refine List.countP_congr (fun p _ => ?_)
  simp only [Function.comp_apply, fallsB, canB, Bool.and_eq_true, decide_eq_true_eq]
  unfold turnP lastP
  simp only
  omega
theorem turn_bound {m : Int} {ps : List P3} (fr ti : Int) : boundOf (m + 1 - ti) (m + 1 - fr) (turnedL m ps) = boundOf fr ti ps := by
  unfold boundOf
  rw [turn_falls, show m + 1 - (m + 1 - fr) = fr by omega, show m + 1 - (m + 1 - ti) = ti by omega, show m + 1 - fr - (m + 1 - ti) + 1 = ti - fr + 1 by omega]
theorem turn_fewest {m : Int} {ps : List P3} (hm : 0 ≤ m) : fewest m (turnedL m ps) = fewest m ps := by
  have key : ∀ k, fewest m (turnedL m ps) ≤ k ↔ fewest m ps ≤ k := fun k => by
    rw [fewest_le_iff hm, fewest_le_iff hm]
    constructor
    · rintro ⟨h0, h⟩
      refine ⟨h0, fun fr ti a b c => ?_⟩
      have := h (m + 1 - ti) (m + 1 - fr) (by omega) (by omega) (by omega)
      rw [turn_falls, show m + 1 - (m + 1 - fr) = fr by omega, show m + 1 - (m + 1 - ti) = ti by omega, show m + 1 - fr - (m + 1 - ti) + 1 = ti - fr + 1 by omega] at this
      exact this
    · rintro ⟨h0, h⟩
      refine ⟨h0, fun fr ti a b c => ?_⟩
      have := h (m + 1 - ti) (m + 1 - fr) (by omega) (by omega) (by omega)
      rw [show m + 1 - fr - (m + 1 - ti) + 1 = ti - fr + 1 by omega] at this
      rw [turn_falls]
      exact this
  have h1 := (key (fewest m ps)).2 (Int.le_refl _)
  have h2 := (key (fewest m (turnedL m ps))).1 (Int.le_refl _)
  omega
theorem turn_okay {m : Int} {ps : List P3} (h : Okay m ps) : Okay m (turnedL m ps) := by
  refine ⟨h.m1, h.m2, fun p hp => ?_⟩
  unfold turnedL at hp
  obtain ⟨q, hq, rfl⟩ := List.mem_map.1 hp
  obtain ⟨hq1, hq2⟩ := List.mem_filter.1 hq
  have := h.ok q hq1
  simp only [canB, decide_eq_true_eq] at hq2
  unfold turnP lastP; simp only; omega
theorem turn_len (m : Int) (ps : List P3) : (turnedL m ps).length ≤ ps.length := by
  unfold turnedL; rw [List.length_map]; exact List.length_filter_le _ _
theorem turn_snoc (m : Int) (l : List P3) (p : P3) : turnedL m (l ++ [p]) = turnedL m l ++ if canB p = true then [turnP m p] else [] := by
  unfold turnedL; rw [List.filter_append, List.map_append]; by_cases h : canB p = true <;> simp [List.filter_cons, h]
theorem ObjV.fz {W : World} {B : Nat} {t : TypeId} {a b : Value} (h : ObjV W B t a b) (o : Nat) : W.frozen? ⟨B, o, none⟩ = false := by simp [World.frozen?, show W.heap[B]? = _ from h]
theorem wrap_in (x : Int) (h1 : -1000000 ≤ x) (h2 : x ≤ 1000000) : IntKind.i64.wrap x = x := by
  simp only [IntKind.wrap_i64, wrap64]; omega
theorem rd_new (w : World) (cs : List Value) (t : TypeId) (n k : Nat) (hn : n = w.heap.size) (hl : cs.length = k) : Rd (w.alloc (.cells cs.toArray t)) k (some ⟨n, 0, none⟩) 1 cs := by
  subst hn
  refine ⟨by omega, fun _ => ⟨w.heap.size, 0, rfl, by simp, fun j u hu => ?_⟩⟩
  rw [World.cell?_alloc_at _ _ _ _ rfl]
  simpa using hu
set_option maxRecDepth 100000 in
set_option maxHeartbeats 2000000 in
theorem turned_walk (m : Int) (A : Option Addr) (ps : List P3) (c : Nat) (w : World) (hA : Ppl w A ps) (hfine : ps.length ≤ 40 ∧ checkHall m ps = 0) (y z : Int) (hy : 0 ≤ y ∧ y ≤ 255) (hz : 0 ≤ z ∧ z ≤ 255) :
    Calls Try.prog 14 #[.agg #[.int .i64 m, .slice A ps.length c], .int .u8 y, .int .u8 z] w (Gives w (.bool true)) := by
  have hfi := hide (fun W hW => by have := fine_all m A ps c W hW; rw [decide_eq_true hfine] at this; exact this : ∀ W, Ppl W A ps → Calls Try.prog 37 #[.agg #[.int .i64 m, .slice A ps.length c]] W (Gives W (.bool true)))
  obtain ⟨v1, v2, v3, v4⟩ := check_val hfine.2
  have h0 := hfine.2
  have hok := okay_of h0
  obtain ⟨i0, hi0, iz0, iz1, iz2⟩ := info_parts infoP
  have H0 := hide h0
  have HOK := hide hok
  have HV4 := hide v4
  clear hfine h0 hok v4
  have tok0 : True := trivial
  go_enter Try.func14, Try.ntmps14
  go_wp2_with (first
    | (clear tok0; go_at_call 37; refine (hfi.out _ (hA.ext (by (repeat (first | exact Below.refl _ _ | assumption | (refine below_gr ?_ (by (first | omega | (simp only [size_grow, World.size_alloc, size_drewN, size_drew, size_setCell] at *; omega))) _) | (refine below_alloc ?_ (by (first | omega | (simp only [size_grow, World.size_alloc, size_drewN, size_drew, size_setCell] at *; omega))) _) | (refine Below.setCell ?_ (by (first | omega | (simp only [size_grow, World.size_alloc, size_drewN, size_drew, size_setCell] at *; omega))) _) | refine below_drewN ?_ _ | refine below_drew ?_ | (refine below_step ?_ (by assumption) (by (first | omega | (simp only [size_grow, World.size_alloc, size_drewN, size_drew, size_setCell] at *; omega))))))))).mono ?_; rintro e u1 ⟨rfl, hb1⟩; replace hb1 := ex_below hb1; have bob1 : Below (w.alloc (.cells #[.int .i64 m, .slice A ps.length c] 24)).heap.size (w.alloc (.cells #[.int .i64 m, .slice A ps.length c] 24)) u1 := (by (repeat (first | exact Below.refl _ _ | assumption | (refine below_gr ?_ (by (first | omega | (simp only [size_grow, World.size_alloc, size_drewN, size_drew, size_setCell] at *; omega))) _) | (refine below_alloc ?_ (by (first | omega | (simp only [size_grow, World.size_alloc, size_drewN, size_drew, size_setCell] at *; omega))) _) | (refine Below.setCell ?_ (by (first | omega | (simp only [size_grow, World.size_alloc, size_drewN, size_drew, size_setCell] at *; omega))) _) | refine below_drewN ?_ _ | refine below_drew ?_ | (refine below_step ?_ (by assumption) (by (first | omega | (simp only [size_grow, World.size_alloc, size_drewN, size_drew, size_setCell] at *; omega))))))); have hB := (ObjV.new w 24 (.int .i64 m) (.slice A ps.length c)).below bob1; have bel1 : Below w.heap.size w u1 := (by (repeat (first | exact Below.refl _ _ | assumption | (refine below_gr ?_ (by (first | omega | (simp only [size_grow, World.size_alloc, size_drewN, size_drew, size_setCell] at *; omega))) _) | (refine below_alloc ?_ (by (first | omega | (simp only [size_grow, World.size_alloc, size_drewN, size_drew, size_setCell] at *; omega))) _) | (refine Below.setCell ?_ (by (first | omega | (simp only [size_grow, World.size_alloc, size_drewN, size_drew, size_setCell] at *; omega))) _) | refine below_drewN ?_ _ | refine below_drew ?_ | (refine below_step ?_ (by assumption) (by (first | omega | (simp only [size_grow, World.size_alloc, size_drewN, size_drew, size_setCell] at *; omega))))))); clear bob1; clear hb1; have sz1 := bel1.size; replace hA := hA.ext bel1; (try clear hBc0 hBc1 hBlt); have hBc0 := hB.c0; have hBc1 := hB.c1; have hBlt := hB.lt; have hW := bel1; clear bel1; have tok1 : True := trivial))
  go_loopw [8, 9, 10] (fun i _ _ wr => ∃ (k : Nat) (A' : Option Addr) (c' : Nat), k ≤ ps.length ∧ i = .int .i64 k ∧ Below u1.heap.size u1 wr ∧ ObjV wr u1.heap.size 24 (.int .i64 m) (.slice A' (turnedL m (ps.take k)).length c') ∧ wr.frozen? ⟨u1.heap.size, 1, none⟩ = false ∧
    wr.ownsRow (u1.heap.size + 1) 57 3 (.slice A' (turnedL m (ps.take k)).length c') (turnedL m (ps.take k)).length ((turnedL m (ps.take k)).flatMap P3.cells)) (fun i _ _ _ => ps.length - (intOf i).toNat)
  case atStart => exact ⟨0, none, 0, Nat.zero_le _, rfl, (Below.refl _ _).alloc (Nat.le_refl _) _, ObjV.new u1 _ _ _, by simp [go_sem], World.ownsRow_nil _ _ _ _⟩
  case round =>
    obtain ⟨k, A', c', hk, rfl, hb, hX, hXf, hown⟩ := hrel
    have hbz := hb.size
    have hXlt := hX.lt
    have hX0 := hX.c0
    have hX1 := hX.c1
    have hB' := hB.below hb
    have hB0 := hB'.c0
    have hB1 := hB'.c1
    have hBl := hB'.lt
    have hTl := turn_len m (ps.take k)
    rw [List.length_take] at hTl
    have hAr := hA.ext hb
    by_cases hlt : k < ps.length
    · obtain ⟨pb, po, rfl, pl⟩ := hA.form (by omega)
      obtain ⟨p0, p1, p2⟩ := hAr.at hlt
      have hpv := HV4.out ps[k] (List.getElem_mem _)
      have HSN := hide (turn_snoc m (ps.take k) ps[k])
      rw [← take_snoc _ _ hlt] at HSN
      generalize ps[k] = p at *
      generalize turnedL m (ps.take k) = tl at *
      by_cases hc : canB p = true
      · have hle : p.lo ≤ p.un := by simpa [canB] using hc
        have hlp : 1 ≤ lastP p ∧ lastP p ≤ m := by unfold lastP; omega
        have hcn := fun W => can_yes p W hc
        rw [if_pos hc] at HSN
        go_wp2_with (go_at_call 42; refine (hcn _).mono ?_; rintro e w2 ⟨rfl, hb2⟩; replace hb2 := ex_below hb2; have hz2 := hb2.size; (try simp only [size_grow, World.size_alloc, size_drewN, size_drew, size_setCell] at hz2); have hs20 : w.heap.size < w2.heap.size := (by omega); have ho20 := own_cell hb2 (b := w.heap.size) (by first | omega | (simp only [size_grow, World.size_alloc, size_drewN, size_drew, size_setCell]; omega)); have hq20 := own_frozen hb2 (b := w.heap.size) (by first | omega | (simp only [size_grow, World.size_alloc, size_drewN, size_drew, size_setCell]; omega)); have hs21 : u1.heap.size < w2.heap.size := (by omega); have ho21 := own_cell hb2 (b := u1.heap.size) (by first | omega | (simp only [size_grow, World.size_alloc, size_drewN, size_drew, size_setCell]; omega)); have hq21 := own_frozen hb2 (b := u1.heap.size) (by first | omega | (simp only [size_grow, World.size_alloc, size_drewN, size_drew, size_setCell]; omega)); have hs22 : wr.heap.size < w2.heap.size := (by omega); have ho22 := own_cell hb2 (b := wr.heap.size) (by first | omega | (simp only [size_grow, World.size_alloc, size_drewN, size_drew, size_setCell]; omega)); have hq22 := own_frozen hb2 (b := wr.heap.size) (by first | omega | (simp only [size_grow, World.size_alloc, size_drewN, size_drew, size_setCell]; omega)))
        have k0 : w2.cell? ⟨w.heap.size, 0, none⟩ = some (.int .i64 m) := by simp [go_sem, *]
        have k1 : w2.cell? ⟨wr.heap.size, 0, none⟩ = some (.int .i64 p.lo) := by simp [go_sem, *]
        have k2 : w2.cell? ⟨wr.heap.size, 1, none⟩ = some (.int .i64 p.hi) := by simp [go_sem, *]
        have k3 : w2.cell? ⟨wr.heap.size, 2, none⟩ = some (.int .i64 p.un) := by simp [go_sem, *]
        have kx : w2.cell? ⟨u1.heap.size, 1, none⟩ = some (.slice A' tl.length c') := by simp [go_sem, *]
        have kf : w2.frozen? ⟨u1.heap.size, 1, none⟩ = false := by simp [go_sem, *]
        have hrow : ∀ kk, (Value.slice A' tl.length c').ownBlock = some kk → u1.heap.size + 1 ≤ kk ∧ kk < wr.heap.size := fun kk h => hown.lt kk h
        clear ho20 ho21 ho22 hq20 hq21 hq22
        have nn1 : w.heap.size ≠ u1.heap.size := by omega
        have nn2 : u1.heap.size ≠ w.heap.size := by omega
        have nn3 : wr.heap.size ≠ u1.heap.size := by omega
        have nn4 : u1.heap.size ≠ wr.heap.size := by omega
        have hwr : IntKind.i64.wrap (IntKind.i64.wrap (m + 1) - lastP p) = m + 1 - lastP p := by
          rw [wrap_in (m + 1) (by omega) (by omega), wrap_in _ (by omega) (by omega)]
        have tokA : True := trivial
        go_region_law (first
          | (clear tokA; go_simp; go_at_call 43; refine (last_any p _).mono ?_; rintro e w3 ⟨rfl, hb3⟩; replace hb3 := ex_below hb3; have hz3 := hb3.size; (try simp only [size_grow, World.size_alloc, size_drewN, size_drew, size_setCell] at hz3); have hs30 : w.heap.size < w3.heap.size := (by omega); have ho30 := own_cell hb3 (b := w.heap.size) (by first | omega | (simp only [size_grow, World.size_alloc, size_drewN, size_drew, size_setCell]; omega)); have hq30 := own_frozen hb3 (b := w.heap.size) (by first | omega | (simp only [size_grow, World.size_alloc, size_drewN, size_drew, size_setCell]; omega)); have hs31 : u1.heap.size < w3.heap.size := (by omega); have ho31 := own_cell hb3 (b := u1.heap.size) (by first | omega | (simp only [size_grow, World.size_alloc, size_drewN, size_drew, size_setCell]; omega)); have hq31 := own_frozen hb3 (b := u1.heap.size) (by first | omega | (simp only [size_grow, World.size_alloc, size_drewN, size_drew, size_setCell]; omega)); have hs32 : wr.heap.size < w3.heap.size := (by omega); have ho32 := own_cell hb3 (b := wr.heap.size) (by first | omega | (simp only [size_grow, World.size_alloc, size_drewN, size_drew, size_setCell]; omega)); have hq32 := own_frozen hb3 (b := wr.heap.size) (by first | omega | (simp only [size_grow, World.size_alloc, size_drewN, size_drew, size_setCell]; omega)); have tokB : True := trivial)
          | (clear tokB; go_simp; go_at_call 46; refine (person_any _ _ _ _).mono ?_; rintro e w4 ⟨rfl, hb4⟩; replace hb4 := ex_below hb4; have hz4 := hb4.size; (try simp only [size_grow, World.size_alloc, size_drewN, size_drew, size_setCell] at hz4); have hs40 : w.heap.size < w4.heap.size := (by omega); have ho40 := own_cell hb4 (b := w.heap.size) (by first | omega | (simp only [size_grow, World.size_alloc, size_drewN, size_drew, size_setCell]; omega)); have hq40 := own_frozen hb4 (b := w.heap.size) (by first | omega | (simp only [size_grow, World.size_alloc, size_drewN, size_drew, size_setCell]; omega)); have hs41 : u1.heap.size < w4.heap.size := (by omega); have ho41 := own_cell hb4 (b := u1.heap.size) (by first | omega | (simp only [size_grow, World.size_alloc, size_drewN, size_drew, size_setCell]; omega)); have hq41 := own_frozen hb4 (b := u1.heap.size) (by first | omega | (simp only [size_grow, World.size_alloc, size_drewN, size_drew, size_setCell]; omega)); have hs42 : wr.heap.size < w4.heap.size := (by omega); have ho42 := own_cell hb4 (b := wr.heap.size) (by first | omega | (simp only [size_grow, World.size_alloc, size_drewN, size_drew, size_setCell]; omega)); have hq42 := own_frozen hb4 (b := wr.heap.size) (by first | omega | (simp only [size_grow, World.size_alloc, size_drewN, size_drew, size_setCell]; omega)); have tokC : True := trivial)
          | (refine step_app _ rfl (.tmp 49) (.tmp 59) 22 rfl (u1.heap.size + 1) 57 i0 _ 3 24 Try.underlying22 hi0 iz0 iz1 iz2 rfl (by decide) _ tl.length (tl.flatMap P3.cells) rfl ?own _ 1 1 [.int .i64 (m + 1 - p.un), .int .i64 (m + 1 - p.un), .int .i64 (IntKind.i64.wrap (IntKind.i64.wrap (m + 1) - lastP p))] rfl ?rd ?one ?b1 ?b2 ?b3 ?_
             case own => exact ownsRow_grows hown (by (repeat (first | exact Below.refl _ _ | assumption | refine below_drew ?_ | (refine below_step ?_ (by assumption) (by first | omega | (simp only [size_grow, World.size_alloc, size_drewN, size_drew, size_setCell]; omega))) | (refine below_alloc ?_ (by first | omega | (simp only [size_grow, World.size_alloc, size_drewN, size_drew, size_setCell]; omega)) _))))
             case rd => first | exact rd_new w4 [.int .i64 (m + 1 - p.un), .int .i64 (m + 1 - p.un), .int .i64 (IntKind.i64.wrap (IntKind.i64.wrap (m + 1) - lastP p))] _ _ 3 rfl rfl | (rw [hwr]; exact rd_new w4 [.int .i64 (m + 1 - p.un), .int .i64 (m + 1 - p.un), .int .i64 (m + 1 - lastP p)] _ _ 3 rfl rfl)
             case one => simp [Value.oneCell']
             case b1 => unfold maxLen; omega
             case b2 => omega
             case b3 => (first | omega | (simp only [size_grow, World.size_alloc, size_drewN, size_drew, size_setCell]; omega) | (simp only [size_grow, World.size_alloc, size_drewN, size_drew, size_setCell] at *; omega) | (simp; done) | (simp; omega))
             intro A2 c2 w5 hown2 hgr2
             rw [hwr] at hown2
             have hz5 := hgr2.size
             (try simp only [World.size_alloc, size_drew, size_drewN] at hz5)
             have hA5 := gb_cell hgr2 w.heap.size (by (first | omega | (simp only [size_grow, World.size_alloc, size_drewN, size_drew, size_setCell]; omega) | (simp only [size_grow, World.size_alloc, size_drewN, size_drew, size_setCell] at *; omega) | (simp; done) | (simp; omega))) (fun kk h => by have := hrow kk h; omega)
             have hP5 := gb_cell hgr2 wr.heap.size (by (first | omega | (simp only [size_grow, World.size_alloc, size_drewN, size_drew, size_setCell]; omega) | (simp only [size_grow, World.size_alloc, size_drewN, size_drew, size_setCell] at *; omega) | (simp; done) | (simp; omega))) (fun kk h => by have := hrow kk h; omega)
             have hX5 := gb_cell hgr2 u1.heap.size (by (first | omega | (simp only [size_grow, World.size_alloc, size_drewN, size_drew, size_setCell]; omega) | (simp only [size_grow, World.size_alloc, size_drewN, size_drew, size_setCell] at *; omega) | (simp; done) | (simp; omega))) (fun kk h => by have := hrow kk h; omega)
             have hF5 := gb_frozen hgr2 u1.heap.size (by (first | omega | (simp only [size_grow, World.size_alloc, size_drewN, size_drew, size_setCell]; omega) | (simp only [size_grow, World.size_alloc, size_drewN, size_drew, size_setCell] at *; omega) | (simp; done) | (simp; omega))) (fun kk h => by have := hrow kk h; omega)
             have hO5 : ObjV w5 u1.heap.size 24 (.int .i64 m) (.slice A' tl.length c') := (hgr2.block u1.heap.size (by (first | omega | (simp only [size_grow, World.size_alloc, size_drewN, size_drew, size_setCell]; omega) | (simp only [size_grow, World.size_alloc, size_drewN, size_drew, size_setCell] at *; omega) | (simp; done) | (simp; omega))) (fun h => by have := hrow _ h.symm; omega)).trans (hX.below (by (repeat (first | exact Below.refl _ _ | assumption | refine below_drew ?_ | (refine below_step ?_ (by assumption) (by first | omega | (simp only [size_grow, World.size_alloc, size_drewN, size_drew, size_setCell]; omega))) | (refine below_alloc ?_ (by first | omega | (simp only [size_grow, World.size_alloc, size_drewN, size_drew, size_setCell]; omega)) _)))))
             have hb5 : Below u1.heap.size u1 w5 := gb_below (below_step hb (show Below wr.heap.size wr _ by (repeat (first | exact Below.refl _ _ | assumption | refine below_drew ?_ | (refine below_step ?_ (by assumption) (by first | omega | (simp only [size_grow, World.size_alloc, size_drewN, size_drew, size_setCell]; omega))) | (refine below_alloc ?_ (by first | omega | (simp only [size_grow, World.size_alloc, size_drewN, size_drew, size_setCell]; omega)) _)))) hbz) hgr2 (by (first | omega | (simp only [size_grow, World.size_alloc, size_drewN, size_drew, size_setCell]; omega) | (simp only [size_grow, World.size_alloc, size_drewN, size_drew, size_setCell] at *; omega) | (simp; done) | (simp; omega))) (fun kk h => by have := hrow kk h; omega)))
        all_goals
          go_wp2
          go_roundw
          case measure => simp [intOf]; omega
          have hO6 : ObjV (w5.setCell ⟨u1.heap.size, 1, none⟩ (.slice A2 (tl.length + 1) c2)) u1.heap.size 24 (.int .i64 m) (.slice A2 (tl.length + 1) c2) := set_obj hO5 1 _
          exact ⟨k + 1, A2, c2, by omega, by go_num, Below.setCell (p := ⟨u1.heap.size, 1, none⟩) hb5 (Nat.le_refl _) _, by rw [HSN.out, List.length_append]; exact hO6, hO6.fz 1, by rw [HSN.out, List.length_append, List.flatMap_append]; exact own_far hown2 hO5 (by decide) 1 _⟩
      · have hc2 : canB p = false := by simpa using hc
        have hcn := fun W => can_no p W hc2
        rw [if_neg hc, List.append_nil] at HSN
        go_wp2_with (go_at_call 42; refine (hcn _).mono ?_; rintro e w2 ⟨rfl, hb2⟩; replace hb2 := ex_below hb2; have hz2 := hb2.size; (try simp only [size_grow, World.size_alloc, size_drewN, size_drew, size_setCell] at hz2); have hs20 : w.heap.size < w2.heap.size := (by omega); have ho20 := own_cell hb2 (b := w.heap.size) (by first | omega | (simp only [size_grow, World.size_alloc, size_drewN, size_drew, size_setCell]; omega)); have hq20 := own_frozen hb2 (b := w.heap.size) (by first | omega | (simp only [size_grow, World.size_alloc, size_drewN, size_drew, size_setCell]; omega)); have hs21 : u1.heap.size < w2.heap.size := (by omega); have ho21 := own_cell hb2 (b := u1.heap.size) (by first | omega | (simp only [size_grow, World.size_alloc, size_drewN, size_drew, size_setCell]; omega)); have hq21 := own_frozen hb2 (b := u1.heap.size) (by first | omega | (simp only [size_grow, World.size_alloc, size_drewN, size_drew, size_setCell]; omega)); have hs22 : wr.heap.size < w2.heap.size := (by omega); have ho22 := own_cell hb2 (b := wr.heap.size) (by first | omega | (simp only [size_grow, World.size_alloc, size_drewN, size_drew, size_setCell]; omega)); have hq22 := own_frozen hb2 (b := wr.heap.size) (by first | omega | (simp only [size_grow, World.size_alloc, size_drewN, size_drew, size_setCell]; omega)))
        go_roundw
        case measure => simp [intOf]; omega
        have hbx := below_step (below_alloc (Below.refl wr.heap.size wr) (Nat.le_refl _) _) hb2 (by simp)
        exact ⟨k + 1, A', c', by omega, by go_num, below_step hb hbx hbz, by rw [HSN.out]; exact hX.below hbx, by rw [own_frozen hbx (b := u1.heap.size) hXlt]; exact hXf, by rw [HSN.out]; exact ownsRow_grows hown hbx⟩
    · have hkn : k = ps.length := by omega
      subst hkn
      rw [List.take_of_length_le (Nat.le_refl _)] at hX hX1 hown hTl
      have hP2 : Ppl wr A' (turnedL m ps) := own_ppl hown
      have h0 := H0.out
      have hok := HOK.out
      have hl100 : ps.length ≤ 100 := by omega
      have hq0 := check_of_okay (turn_okay hok) (by omega)
      have hq100 : (turnedL m ps).length ≤ 100 := by omega
      obtain ⟨a, b, hya, hzb, a0, am, b0, abm⟩ := mins m y z v1 hy.1 hz.1
      have hma := hide (fun W hW => vmach m A ps c W hW hl100 h0)
      have hmb := hide (fun A1 c1 W hW => by have := vmach m A1 (turnedL m ps) c1 W hW hq100 hq0; rw [turn_fewest (by omega)] at this; exact this : ∀ A1 c1 W, Ppl W A1 (turnedL m ps) → Calls Try.prog 24 #[.agg #[.int .i64 m, .slice A1 (turnedL m ps).length c1]] W (Gives W (.tuple #[.agg #[.int .i64 (fewest m ((turnedL m ps).map soonP)), .int .i64 (fewest m ps)], .int .i64 0])))
      have hba := hide (fun W hW => vbound (1 + a) (1 + a + b) m A ps c W hW hl100 h0 (by omega) (by omega) (by omega))
      have hbb := hide (fun A1 c1 W hW => by have := vbound (m + 1 - (1 + a + b)) (m + 1 - (1 + a)) m A1 (turnedL m ps) c1 W hW hq100 hq0 (by omega) (by omega) (by omega); rw [turn_bound] at this; exact this : ∀ A1 c1 W, Ppl W A1 (turnedL m ps) → Calls Try.prog 26 #[.agg #[.int .i64 m, .slice A1 (turnedL m ps).length c1], .int .i64 (m + 1 - (1 + a + b)), .int .i64 (m + 1 - (1 + a))] W (Gives W (.tuple #[.int .i64 (boundOf (1 + a) (1 + a + b) ps), .int .i64 0])))
      have hbd := boundOf_le (1 + a) (1 + a + b) ps (by omega)
      generalize boundOf (1 + a) (1 + a + b) ps = v at *
      generalize fewest m ((turnedL m ps).map soonP) = lo2 at *
      generalize fewest m (ps.map soonP) = lo1 at *
      generalize fewest m ps = f at *
      generalize turnedL m ps = tl at *
      replace hA := hA.ext hb
      replace hB := hB.below hb
      replace hW := below_step hW hb (by have := hW.size; omega)
      have hBc0 := hB.c0
      have hBc1 := hB.c1
      have hBlt := hB.lt
      have hXc0 := hX.c0
      have hXc1 := hX.c1
      clear hB' hB0 hB1 hBl hX0 hX1 hAr hown h0 hok hq0 hq100 hl100
      have tok0 : True := trivial
      go_wp2_with (first
    | (clear tok0; go_at_call 24; refine (hma.out _ (hA.ext (by (repeat (first | exact Below.refl _ _ | assumption | (refine below_gr ?_ (by (first | omega | (simp only [size_grow, World.size_alloc, size_drewN, size_drew, size_setCell] at *; omega))) _) | (refine below_alloc ?_ (by (first | omega | (simp only [size_grow, World.size_alloc, size_drewN, size_drew, size_setCell] at *; omega))) _) | (refine Below.setCell ?_ (by (first | omega | (simp only [size_grow, World.size_alloc, size_drewN, size_drew, size_setCell] at *; omega))) _) | refine below_drewN ?_ _ | refine below_drew ?_ | (refine below_step ?_ (by assumption) (by (first | omega | (simp only [size_grow, World.size_alloc, size_drewN, size_drew, size_setCell] at *; omega))))))))).mono ?_; rintro e u1 ⟨rfl, hb1⟩; replace hb1 := ex_below hb1; have bel1 : Below wr.heap.size wr u1 := (by (repeat (first | exact Below.refl _ _ | assumption | (refine below_gr ?_ (by (first | omega | (simp only [size_grow, World.size_alloc, size_drewN, size_drew, size_setCell] at *; omega))) _) | (refine below_alloc ?_ (by (first | omega | (simp only [size_grow, World.size_alloc, size_drewN, size_drew, size_setCell] at *; omega))) _) | (refine Below.setCell ?_ (by (first | omega | (simp only [size_grow, World.size_alloc, size_drewN, size_drew, size_setCell] at *; omega))) _) | refine below_drewN ?_ _ | refine below_drew ?_ | (refine below_step ?_ (by assumption) (by (first | omega | (simp only [size_grow, World.size_alloc, size_drewN, size_drew, size_setCell] at *; omega))))))); clear hb1; have sz1 := bel1.size; replace hA := hA.ext bel1; replace hB := hB.below bel1; replace hX := hX.below bel1; replace hW := below_step hW bel1 (by have := hW.size; omega); replace hP2 := hP2.ext bel1; (try clear hBc0 hBc1 hBlt); have hBc0 := hB.c0; have hBc1 := hB.c1; have hBlt := hB.lt; (try clear hXc0 hXc1 hXlt); have hXc0 := hX.c0; have hXc1 := hX.c1; have hXlt := hX.lt; clear bel1; have tok1 : True := trivial)
    | (clear tok1; go_at_call 24; refine (hmb.out _ _ _ (hP2.ext (by (repeat (first | exact Below.refl _ _ | assumption | (refine below_gr ?_ (by (first | omega | (simp only [size_grow, World.size_alloc, size_drewN, size_drew, size_setCell] at *; omega))) _) | (refine below_alloc ?_ (by (first | omega | (simp only [size_grow, World.size_alloc, size_drewN, size_drew, size_setCell] at *; omega))) _) | (refine Below.setCell ?_ (by (first | omega | (simp only [size_grow, World.size_alloc, size_drewN, size_drew, size_setCell] at *; omega))) _) | refine below_drewN ?_ _ | refine below_drew ?_ | (refine below_step ?_ (by assumption) (by (first | omega | (simp only [size_grow, World.size_alloc, size_drewN, size_drew, size_setCell] at *; omega))))))))).mono ?_; rintro e u2 ⟨rfl, hb2⟩; replace hb2 := ex_below hb2; have bob2 : Below (u1.alloc (.cells #[.int .i64 lo1, .int .i64 f] 36)).heap.size (u1.alloc (.cells #[.int .i64 lo1, .int .i64 f] 36)) u2 := (by (repeat (first | exact Below.refl _ _ | assumption | (refine below_gr ?_ (by (first | omega | (simp only [size_grow, World.size_alloc, size_drewN, size_drew, size_setCell] at *; omega))) _) | (refine below_alloc ?_ (by (first | omega | (simp only [size_grow, World.size_alloc, size_drewN, size_drew, size_setCell] at *; omega))) _) | (refine Below.setCell ?_ (by (first | omega | (simp only [size_grow, World.size_alloc, size_drewN, size_drew, size_setCell] at *; omega))) _) | refine below_drewN ?_ _ | refine below_drew ?_ | (refine below_step ?_ (by assumption) (by (first | omega | (simp only [size_grow, World.size_alloc, size_drewN, size_drew, size_setCell] at *; omega))))))); have hR1 := (ObjV.new u1 36 (.int .i64 lo1) (.int .i64 f)).below bob2; have bel2 : Below u1.heap.size u1 u2 := (by (repeat (first | exact Below.refl _ _ | assumption | (refine below_gr ?_ (by (first | omega | (simp only [size_grow, World.size_alloc, size_drewN, size_drew, size_setCell] at *; omega))) _) | (refine below_alloc ?_ (by (first | omega | (simp only [size_grow, World.size_alloc, size_drewN, size_drew, size_setCell] at *; omega))) _) | (refine Below.setCell ?_ (by (first | omega | (simp only [size_grow, World.size_alloc, size_drewN, size_drew, size_setCell] at *; omega))) _) | refine below_drewN ?_ _ | refine below_drew ?_ | (refine below_step ?_ (by assumption) (by (first | omega | (simp only [size_grow, World.size_alloc, size_drewN, size_drew, size_setCell] at *; omega))))))); clear bob2; clear hb2; have sz2 := bel2.size; replace hA := hA.ext bel2; replace hB := hB.below bel2; replace hX := hX.below bel2; replace hW := below_step hW bel2 (by have := hW.size; omega); replace hP2 := hP2.ext bel2; (try clear hBc0 hBc1 hBlt); have hBc0 := hB.c0; have hBc1 := hB.c1; have hBlt := hB.lt; (try clear hXc0 hXc1 hXlt); have hXc0 := hX.c0; have hXc1 := hX.c1; have hXlt := hX.lt; (try clear hR1c0 hR1c1 hR1lt); have hR1c0 := hR1.c0; have hR1c1 := hR1.c1; have hR1lt := hR1.lt; clear bel2; have tok2 : True := trivial)
    | (clear tok2; go_at_call 26; refine (hba.out _ (hA.ext (by (repeat (first | exact Below.refl _ _ | assumption | (refine below_gr ?_ (by (first | omega | (simp only [size_grow, World.size_alloc, size_drewN, size_drew, size_setCell] at *; omega))) _) | (refine below_alloc ?_ (by (first | omega | (simp only [size_grow, World.size_alloc, size_drewN, size_drew, size_setCell] at *; omega))) _) | (refine Below.setCell ?_ (by (first | omega | (simp only [size_grow, World.size_alloc, size_drewN, size_drew, size_setCell] at *; omega))) _) | refine below_drewN ?_ _ | refine below_drew ?_ | (refine below_step ?_ (by assumption) (by (first | omega | (simp only [size_grow, World.size_alloc, size_drewN, size_drew, size_setCell] at *; omega))))))))).mono ?_; rintro e u3 ⟨rfl, hb3⟩; replace hb3 := ex_below hb3; have bob3 : Below (u2.alloc (.cells #[.int .i64 lo2, .int .i64 f] 36)).heap.size (u2.alloc (.cells #[.int .i64 lo2, .int .i64 f] 36)) u3 := (by (repeat (first | exact Below.refl _ _ | assumption | (refine below_gr ?_ (by (first | omega | (simp only [size_grow, World.size_alloc, size_drewN, size_drew, size_setCell] at *; omega))) _) | (refine below_alloc ?_ (by (first | omega | (simp only [size_grow, World.size_alloc, size_drewN, size_drew, size_setCell] at *; omega))) _) | (refine Below.setCell ?_ (by (first | omega | (simp only [size_grow, World.size_alloc, size_drewN, size_drew, size_setCell] at *; omega))) _) | refine below_drewN ?_ _ | refine below_drew ?_ | (refine below_step ?_ (by assumption) (by (first | omega | (simp only [size_grow, World.size_alloc, size_drewN, size_drew, size_setCell] at *; omega))))))); have hR2 := (ObjV.new u2 36 (.int .i64 lo2) (.int .i64 f)).below bob3; have bel3 : Below u2.heap.size u2 u3 := (by (repeat (first | exact Below.refl _ _ | assumption | (refine below_gr ?_ (by (first | omega | (simp only [size_grow, World.size_alloc, size_drewN, size_drew, size_setCell] at *; omega))) _) | (refine below_alloc ?_ (by (first | omega | (simp only [size_grow, World.size_alloc, size_drewN, size_drew, size_setCell] at *; omega))) _) | (refine Below.setCell ?_ (by (first | omega | (simp only [size_grow, World.size_alloc, size_drewN, size_drew, size_setCell] at *; omega))) _) | refine below_drewN ?_ _ | refine below_drew ?_ | (refine below_step ?_ (by assumption) (by (first | omega | (simp only [size_grow, World.size_alloc, size_drewN, size_drew, size_setCell] at *; omega))))))); clear bob3; clear hb3; have sz3 := bel3.size; replace hA := hA.ext bel3; replace hB := hB.below bel3; replace hX := hX.below bel3; replace hW := below_step hW bel3 (by have := hW.size; omega); replace hP2 := hP2.ext bel3; replace hR1 := hR1.below bel3; (try clear hBc0 hBc1 hBlt); have hBc0 := hB.c0; have hBc1 := hB.c1; have hBlt := hB.lt; (try clear hXc0 hXc1 hXlt); have hXc0 := hX.c0; have hXc1 := hX.c1; have hXlt := hX.lt; (try clear hR1c0 hR1c1 hR1lt); have hR1c0 := hR1.c0; have hR1c1 := hR1.c1; have hR1lt := hR1.lt; (try clear hR2c0 hR2c1 hR2lt); have hR2c0 := hR2.c0; have hR2c1 := hR2.c1; have hR2lt := hR2.lt; clear bel3; have tok3 : True := trivial)
    | (clear tok3; go_at_call 26; refine (hbb.out _ _ _ (hP2.ext (by (repeat (first | exact Below.refl _ _ | assumption | (refine below_gr ?_ (by (first | omega | (simp only [size_grow, World.size_alloc, size_drewN, size_drew, size_setCell] at *; omega))) _) | (refine below_alloc ?_ (by (first | omega | (simp only [size_grow, World.size_alloc, size_drewN, size_drew, size_setCell] at *; omega))) _) | (refine Below.setCell ?_ (by (first | omega | (simp only [size_grow, World.size_alloc, size_drewN, size_drew, size_setCell] at *; omega))) _) | refine below_drewN ?_ _ | refine below_drew ?_ | (refine below_step ?_ (by assumption) (by (first | omega | (simp only [size_grow, World.size_alloc, size_drewN, size_drew, size_setCell] at *; omega))))))))).mono ?_; rintro e u4 ⟨rfl, hb4⟩; replace hb4 := ex_below hb4; have bel4 : Below u3.heap.size u3 u4 := (by (repeat (first | exact Below.refl _ _ | assumption | (refine below_gr ?_ (by (first | omega | (simp only [size_grow, World.size_alloc, size_drewN, size_drew, size_setCell] at *; omega))) _) | (refine below_alloc ?_ (by (first | omega | (simp only [size_grow, World.size_alloc, size_drewN, size_drew, size_setCell] at *; omega))) _) | (refine Below.setCell ?_ (by (first | omega | (simp only [size_grow, World.size_alloc, size_drewN, size_drew, size_setCell] at *; omega))) _) | refine below_drewN ?_ _ | refine below_drew ?_ | (refine below_step ?_ (by assumption) (by (first | omega | (simp only [size_grow, World.size_alloc, size_drewN, size_drew, size_setCell] at *; omega))))))); clear hb4; have sz4 := bel4.size; replace hA := hA.ext bel4; replace hB := hB.below bel4; replace hX := hX.below bel4; replace hW := below_step hW bel4 (by have := hW.size; omega); replace hP2 := hP2.ext bel4; replace hR1 := hR1.below bel4; replace hR2 := hR2.below bel4; (try clear hBc0 hBc1 hBlt); have hBc0 := hB.c0; have hBc1 := hB.c1; have hBlt := hB.lt; (try clear hXc0 hXc1 hXlt); have hXc0 := hX.c0; have hXc1 := hX.c1; have hXlt := hX.lt; (try clear hR1c0 hR1c1 hR1lt); have hR1c0 := hR1.c0; have hR1c1 := hR1.c1; have hR1lt := hR1.lt; (try clear hR2c0 hR2c1 hR2lt); have hR2c0 := hR2.c0; have hR2c1 := hR2.c1; have hR2lt := hR2.lt; clear bel4; have tok4 : True := trivial)
    | (clear tok4; go_at_call 17; refine (works_any _).mono ?_; rintro e u5 ⟨rfl, hb5⟩; replace hb5 := ex_below hb5; have bel5 : Below u4.heap.size u4 u5 := (by (repeat (first | exact Below.refl _ _ | assumption | (refine below_gr ?_ (by (first | omega | (simp only [size_grow, World.size_alloc, size_drewN, size_drew, size_setCell] at *; omega))) _) | (refine below_alloc ?_ (by (first | omega | (simp only [size_grow, World.size_alloc, size_drewN, size_drew, size_setCell] at *; omega))) _) | (refine Below.setCell ?_ (by (first | omega | (simp only [size_grow, World.size_alloc, size_drewN, size_drew, size_setCell] at *; omega))) _) | refine below_drewN ?_ _ | refine below_drew ?_ | (refine below_step ?_ (by assumption) (by (first | omega | (simp only [size_grow, World.size_alloc, size_drewN, size_drew, size_setCell] at *; omega))))))); clear hb5; have sz5 := bel5.size; replace hA := hA.ext bel5; replace hB := hB.below bel5; replace hX := hX.below bel5; replace hW := below_step hW bel5 (by have := hW.size; omega); replace hP2 := hP2.ext bel5; replace hR1 := hR1.below bel5; replace hR2 := hR2.below bel5; (try clear hBc0 hBc1 hBlt); have hBc0 := hB.c0; have hBc1 := hB.c1; have hBlt := hB.lt; (try clear hXc0 hXc1 hXlt); have hXc0 := hX.c0; have hXc1 := hX.c1; have hXlt := hX.lt; (try clear hR1c0 hR1c1 hR1lt); have hR1c0 := hR1.c0; have hR1c1 := hR1.c1; have hR1lt := hR1.lt; (try clear hR2c0 hR2c1 hR2lt); have hR2c0 := hR2.c0; have hR2c1 := hR2.c1; have hR2lt := hR2.lt; clear bel5; have tok5 : True := trivial))
      go_ret
      exact gives_of (rfl) (by (repeat (first | exact Below.refl _ _ | assumption | (refine below_gr ?_ (by (first | omega | (simp only [size_grow, World.size_alloc, size_drewN, size_drew, size_setCell] at *; omega))) _) | (refine below_alloc ?_ (by (first | omega | (simp only [size_grow, World.size_alloc, size_drewN, size_drew, size_setCell] at *; omega))) _) | (refine Below.setCell ?_ (by (first | omega | (simp only [size_grow, World.size_alloc, size_drewN, size_drew, size_setCell] at *; omega))) _) | refine below_drewN ?_ _ | refine below_drew ?_ | (refine below_step ?_ (by assumption) (by (first | omega | (simp only [size_grow, World.size_alloc, size_drewN, size_drew, size_setCell] at *; omega)))))))
set_option maxHeartbeats 400000 in
theorem turned_any (m : Int) (A : Option Addr) (ps : List P3) (c : Nat) (w : World) (hA : Ppl w A ps) (y z : Int) (hy : 0 ≤ y ∧ y ≤ 255) (hz : 0 ≤ z ∧ z ≤ 255) :
    Calls Try.prog 14 #[.agg #[.int .i64 m, .slice A ps.length c], .int .u8 y, .int .u8 z] w (Gives w (.bool true)) := by
  by_cases hfine : ps.length ≤ 40 ∧ checkHall m ps = 0
  · exact turned_walk m A ps c w hA hfine y z hy hz
  · have hfi := hide (fun W hW => by have := fine_all m A ps c W hW; rw [decide_eq_false hfine] at this; exact this : ∀ W, Ppl W A ps → Calls Try.prog 37 #[.agg #[.int .i64 m, .slice A ps.length c]] W (Gives W (.bool false)))
    go_enter Try.func14, Try.ntmps14
    go_wp2_with (first
      | (go_at_call 37; refine (hfi.out _ (hA.ext (by (repeat (first | exact Below.refl _ _ | assumption | (refine below_gr ?_ (by (first | omega | (simp only [size_grow, World.size_alloc, size_drewN, size_drew, size_setCell] at *; omega))) _) | (refine below_alloc ?_ (by (first | omega | (simp only [size_grow, World.size_alloc, size_drewN, size_drew, size_setCell] at *; omega))) _) | (refine Below.setCell ?_ (by (first | omega | (simp only [size_grow, World.size_alloc, size_drewN, size_drew, size_setCell] at *; omega))) _) | refine below_drewN ?_ _ | refine below_drew ?_ | (refine below_step ?_ (by assumption) (by (first | omega | (simp only [size_grow, World.size_alloc, size_drewN, size_drew, size_setCell] at *; omega))))))))).mono ?_; rintro e w1 ⟨rfl, hb1⟩; replace hb1 := ex_below hb1; have hz1 := hb1.size; (try simp only [size_grow, World.size_alloc, size_drewN, size_drew, size_setCell] at hz1); have hs1 : w.heap.size < w1.heap.size := (by (first | omega | (simp only [size_grow, World.size_alloc, size_drewN, size_drew, size_setCell] at *; omega))); have ho1 := own_cell hb1 (b := w.heap.size) (by (first | omega | (simp only [size_grow, World.size_alloc, size_drewN, size_drew, size_setCell] at *; omega))); have hq1 := own_frozen hb1 (b := w.heap.size) (by (first | omega | (simp only [size_grow, World.size_alloc, size_drewN, size_drew, size_setCell] at *; omega))); have hlt1 : ∀ b, b < w.heap.size → b < w1.heap.size := fun b hb => (by (first | omega | (simp only [size_grow, World.size_alloc, size_drewN, size_drew, size_setCell] at *; omega))); have hc1 : ∀ b o, b < w.heap.size → w1.cell? ⟨b, o, none⟩ = w.cell? ⟨b, o, none⟩ := old_cell (by (repeat (first | exact Below.refl _ _ | assumption | (refine below_gr ?_ (by (first | omega | (simp only [size_grow, World.size_alloc, size_drewN, size_drew, size_setCell] at *; omega))) _) | (refine below_alloc ?_ (by (first | omega | (simp only [size_grow, World.size_alloc, size_drewN, size_drew, size_setCell] at *; omega))) _) | (refine Below.setCell ?_ (by (first | omega | (simp only [size_grow, World.size_alloc, size_drewN, size_drew, size_setCell] at *; omega))) _) | refine below_drewN ?_ _ | refine below_drew ?_ | (refine below_step ?_ (by assumption) (by (first | omega | (simp only [size_grow, World.size_alloc, size_drewN, size_drew, size_setCell] at *; omega))))))))
      | (go_at_call 17; refine (works_any _).mono ?_; rintro e w9 ⟨rfl, hb1⟩; replace hb1 := ex_below hb1; have hz1 := hb1.size; (try simp only [size_grow, World.size_alloc, size_drewN, size_drew, size_setCell] at hz1); have hs1 : w.heap.size < w9.heap.size := (by (first | omega | (simp only [size_grow, World.size_alloc, size_drewN, size_drew, size_setCell] at *; omega))); have ho1 := own_cell hb1 (b := w.heap.size) (by (first | omega | (simp only [size_grow, World.size_alloc, size_drewN, size_drew, size_setCell] at *; omega))); have hq1 := own_frozen hb1 (b := w.heap.size) (by (first | omega | (simp only [size_grow, World.size_alloc, size_drewN, size_drew, size_setCell] at *; omega))); have hlt1 : ∀ b, b < w.heap.size → b < w9.heap.size := fun b hb => (by (first | omega | (simp only [size_grow, World.size_alloc, size_drewN, size_drew, size_setCell] at *; omega))); have hc1 : ∀ b o, b < w.heap.size → w9.cell? ⟨b, o, none⟩ = w.cell? ⟨b, o, none⟩ := old_cell (by (repeat (first | exact Below.refl _ _ | assumption | (refine below_gr ?_ (by (first | omega | (simp only [size_grow, World.size_alloc, size_drewN, size_drew, size_setCell] at *; omega))) _) | (refine below_alloc ?_ (by (first | omega | (simp only [size_grow, World.size_alloc, size_drewN, size_drew, size_setCell] at *; omega))) _) | (refine Below.setCell ?_ (by (first | omega | (simp only [size_grow, World.size_alloc, size_drewN, size_drew, size_setCell] at *; omega))) _) | refine below_drewN ?_ _ | refine below_drew ?_ | (refine below_step ?_ (by assumption) (by (first | omega | (simp only [size_grow, World.size_alloc, size_drewN, size_drew, size_setCell] at *; omega)))))))))
    go_ret
    exact gives_of (rfl) (by (repeat (first | exact Below.refl _ _ | assumption | (refine below_gr ?_ (by (first | omega | (simp only [size_grow, World.size_alloc, size_drewN, size_drew, size_setCell] at *; omega))) _) | (refine below_alloc ?_ (by (first | omega | (simp only [size_grow, World.size_alloc, size_drewN, size_drew, size_setCell] at *; omega))) _) | (refine Below.setCell ?_ (by (first | omega | (simp only [size_grow, World.size_alloc, size_drewN, size_drew, size_setCell] at *; omega))) _) | refine below_drewN ?_ _ | refine below_drew ?_ | (refine below_step ?_ (by assumption) (by (first | omega | (simp only [size_grow, World.size_alloc, size_drewN, size_drew, size_setCell] at *; omega)))))))
end Go.Proofs.Ytbfhkknpocbeaaa
