/- Proved here: contracts and laws of C51, a part of the proofs about the crowd laws: what some functions of the program and of the reference compute, and plain facts about it. Conditions: those that each theorem names, no others. -/
import Derived.Test.YtbfhkknpocbeaaaC48
import Derived.WalkKit
import Derived.WalkSpells
import Derived.WalkLawsBesides
import Derived.Below
import Derived.Deep.QuietTactic
import Derived.BigQuiet
import Derived.Deep.Light
import Derived.Deep.RegionLaw
import Derived.Test.YtbfhkknpocbeaaaC5
import Derived.Test.YtbfhkknpocbeaaaP2
import Derived.Deep.DeepCutAuto
import Derived.IntWalk
set_option linter.unusedSimpArgs false
set_option linter.unusedVariables false
namespace Go.Proofs.Ytbfhkknpocbeaaa
open Go.RowKit
theorem heap_new2 (w : World) (o o' : Obj) (n : Nat) (h : n = w.heap.size) : ((w.alloc o).alloc o').heap[n]? = some o := (heap_old' _ _ _ (by subst h; simp)).trans (heap_new' _ _ _ h)
theorem heap_new2d (w : World) (o o' : Obj) (n : Nat) (h : n = w.heap.size) : ((w.alloc o).alloc o').drew.heap[n]? = some o := heap_new2 w o o' n h
theorem heap_new1 (w : World) (o o' : Obj) : ((w.alloc o).alloc o').heap[w.heap.size + 1]? = some o' := heap_new' _ _ _ (by simp)
theorem heap_new1d (w : World) (o o' : Obj) : ((w.alloc o).alloc o').drew.heap[w.heap.size + 1]? = some o' := heap_new' _ _ _ (by simp)
set_option maxRecDepth 100000 in
set_option maxHeartbeats 6000000 in
theorem sooner_walk (m : Int) (A : Option Addr) (ps : List P3) (c : Nat) (w : World) (hA : Ppl w A ps) (hfine : ps.length ≤ 40 ∧ checkHall m ps = 0) (hcap : ps.length ≤ c) (hcm : c ≤ 9223372036854775807) (i : Nat) (hi : i < ps.length) (y z v : Int) (hy : 0 ≤ y ∧ y ≤ 255) (hz : 0 ≤ z ∧ z ≤ 255) (hv : 0 ≤ v ∧ v ≤ 255) (hyi : y % (ps.length : Int) = i) :
    Calls Try.prog 10 #[.agg #[.int .i64 m, .slice A ps.length c], .int .u8 y, .int .u8 z, .int .u8 v] w (Gives w (.bool true)) := by
  have hfi := hide (fun W hW => by have := fine_all m A ps c W hW; rw [decide_eq_true hfine] at this; exact this : ∀ W, Ppl W A ps → Calls Try.prog 37 #[.agg #[.int .i64 m, .slice A ps.length c]] W (Gives W (.bool true)))
  obtain ⟨v1, v2, v3, v4⟩ := check_val hfine.2
  have h0 := hfine.2
  have hok := okay_of h0
  obtain ⟨i0, hi0, hz0, hz1, hz2⟩ := info_parts infoP
  have hpos : (0 : Int) < ps.length := by omega
  have hne : ((ps.length : Int) == 0) = false := by rw [beq_eq_false_iff_ne]; omega
  have hpv := v4 ps[i] (List.getElem_mem _)
  have FX := hide (hi_less hok hi (d := z % 10) (by omega))
  have FY := hide (fun hu => un_more hok hi (d := v % 10) (by omega) hu)
  have FZ := hide (And.intro (fewest_without (m := m) (by omega) hi) (by rw [without_soon]; exact (fewest_without (m := m) (by omega) (by simpa using hi)).1 : fewest m ((without ps i).map soonP) ≤ fewest m (ps.map soonP)))
  have hm0 : 0 ≤ m := by omega
  have H0 := hide h0
  have HOK := hide hok
  have HV4 := hide v4
  clear hfine h0 hok v4
  have tok0 : True := trivial
  go_enter Try.func10, Try.ntmps10
  go_upto_region 4 with (first
    | (clear tok0; go_at_call 37; refine (hfi.out _ (hA.ext (by (repeat (first | exact Below.refl _ _ | assumption | (refine below_gr ?_ (by (first | omega | (simp only [size_grow, World.size_alloc, size_drewN, size_drew, size_setCell] at *; omega))) _) | (refine below_alloc ?_ (by (first | omega | (simp only [size_grow, World.size_alloc, size_drewN, size_drew, size_setCell] at *; omega))) _) | (refine Below.setCell ?_ (by (first | omega | (simp only [size_grow, World.size_alloc, size_drewN, size_drew, size_setCell] at *; omega))) _) | refine below_drewN ?_ _ | refine below_drew ?_ | (refine below_step ?_ (by assumption) (by (first | omega | (simp only [size_grow, World.size_alloc, size_drewN, size_drew, size_setCell] at *; omega))))))))).mono ?_; rintro e u1 ⟨rfl, hb1⟩; replace hb1 := ex_below hb1; have bob1 : Below (w.alloc (.cells #[.int .i64 m, .slice A ps.length c] 24)).heap.size (w.alloc (.cells #[.int .i64 m, .slice A ps.length c] 24)) u1 := (by (repeat (first | exact Below.refl _ _ | assumption | (refine below_gr ?_ (by (first | omega | (simp only [size_grow, World.size_alloc, size_drewN, size_drew, size_setCell] at *; omega))) _) | (refine below_alloc ?_ (by (first | omega | (simp only [size_grow, World.size_alloc, size_drewN, size_drew, size_setCell] at *; omega))) _) | (refine Below.setCell ?_ (by (first | omega | (simp only [size_grow, World.size_alloc, size_drewN, size_drew, size_setCell] at *; omega))) _) | refine below_drewN ?_ _ | refine below_drew ?_ | (refine below_step ?_ (by assumption) (by (first | omega | (simp only [size_grow, World.size_alloc, size_drewN, size_drew, size_setCell] at *; omega))))))); have hB := (ObjV.new w 24 (.int .i64 m) (.slice A ps.length c)).below bob1; have bel1 : Below w.heap.size w u1 := (by (repeat (first | exact Below.refl _ _ | assumption | (refine below_gr ?_ (by (first | omega | (simp only [size_grow, World.size_alloc, size_drewN, size_drew, size_setCell] at *; omega))) _) | (refine below_alloc ?_ (by (first | omega | (simp only [size_grow, World.size_alloc, size_drewN, size_drew, size_setCell] at *; omega))) _) | (refine Below.setCell ?_ (by (first | omega | (simp only [size_grow, World.size_alloc, size_drewN, size_drew, size_setCell] at *; omega))) _) | refine below_drewN ?_ _ | refine below_drew ?_ | (refine below_step ?_ (by assumption) (by (first | omega | (simp only [size_grow, World.size_alloc, size_drewN, size_drew, size_setCell] at *; omega))))))); clear bob1; clear hb1; have sz1 := bel1.size; replace hA := hA.ext bel1; (try clear hBc0 hBc1 hBlt); have hBc0 := hB.c0; have hBc1 := hB.c1; have hBlt := hB.lt; have hW := bel1; clear bel1; have tok1 : True := trivial))
  obtain ⟨pb, po, rfl, hpl⟩ := hA.form (by omega)
  obtain ⟨p0, p1, p2⟩ := hA.at hi
  go_cut [9, 10] (fun si sp wx => si = .int .i64 i ∧ sp = .pointer (some ⟨u1.heap.size, 0, none⟩) ∧ Obj3 wx u1.heap.size 57 (.int .i64 ps[i].lo) (.int .i64 ps[i].hi) (.int .i64 ps[i].un) ∧ Below u1.heap.size u1 wx)
  case first =>
    go_wp2_with fail
    go_meet
    exact ⟨v_int hyi, rfl, Obj3.new _ _ _ _ _, by (repeat (first | exact Below.refl _ _ | assumption | (refine below_gr ?_ (by (first | omega | (simp only [size_grow, World.size_alloc, size_drewN, size_drew, size_setCell] at *; omega))) _) | (refine below_alloc ?_ (by (first | omega | (simp only [size_grow, World.size_alloc, size_drewN, size_drew, size_setCell] at *; omega))) _) | (refine Below.setCell ?_ (by (first | omega | (simp only [size_grow, World.size_alloc, size_drewN, size_drew, size_setCell] at *; omega))) _) | refine below_drewN ?_ _ | refine below_drew ?_ | (refine below_step ?_ (by assumption) (by (first | omega | (simp only [size_grow, World.size_alloc, size_drewN, size_drew, size_setCell] at *; omega))))))⟩
  case rest =>
    clear hyi tok1
    obtain ⟨rfl, rfl, hP, hb4⟩ := hcut
    obtain ⟨wa, rfl⟩ : ∃ wa : World, wa = wc := ⟨_, rfl⟩
    have hsz := hb4.size
    have hwu := hB.lt
    have hua := hP.lt
    replace hA := hA.ext hb4
    replace hB := hB.below hb4
    replace hW := below_step hW hb4 (by have := hW.size; omega)
    clear hb4 p0 p1 p2 hBc0 hBc1 hBlt
    have hBc0 := hB.c0
    have hBc1 := hB.c1
    have hBlt := hB.lt
    have hPlt := hP.lt
    have n1 : wa.heap.size ≠ w.heap.size := by omega
    have n2 : wa.heap.size + 1 ≠ w.heap.size := by omega
    have n3 : wa.heap.size + 1 + 1 ≠ w.heap.size := by omega
    go_upto_region 5 with fail
    go_cut [11] (fun sx wx => ∃ (blk : Nat) (A2 : Option Addr) (c2 : Nat), sx = .pointer (some ⟨blk, 0, none⟩) ∧ ObjV wx blk 24 (.int .i64 m) (.slice A2 ps.length c2) ∧ wa.heap.size ≤ blk ∧ wx.ownsRow wa.heap.size 57 3 (.slice A2 ps.length c2) ps.length (ps.flatMap P3.cells) ∧ Below wa.heap.size wa wx)
    case first =>
      as_aux_lemma =>
      go_region_held3 (fun w' => w'.cell? ⟨w.heap.size, 0, none⟩ = some (.int .i64 m) ∧ w'.cell? ⟨w.heap.size, 1, none⟩ = some (.slice (some ⟨pb, po, none⟩) ps.length c)) (go_keep) (first
        | (refine step_app _ rfl (.tmp 45) (.tmp 47) 22 rfl (wa.heap.size) 57 i0 _ 3 24 Try.underlying22 hi0 hz0 hz1 hz2 rfl (by decide) _ 0 [] rfl ?own (some ⟨pb, po, none⟩) ps.length c (ps.flatMap P3.cells) rfl ?rd ?one ?b1 ?b2 ?b3 ?_
           case own =>
             first
               | (refine own_lit0 (blk := wa.heap.size) ?_ (by omega)
                  (try rw [heap_drew])
                  first
                    | exact heap_new' _ _ _ (by simp)
                    | exact (heap_old' _ _ _ (by simp)).trans (heap_new' _ _ _ (by simp)))
               | (refine own_lit0 (blk := wa.heap.size + 1) ?_ (by omega)
                  (try rw [heap_drew])
                  exact heap_new' _ _ _ (by simp))
           case rd => exact (ppl_rd hA).ext (by (repeat (first | exact Below.refl _ _ | assumption | (refine below_gr ?_ (by (first | omega | (simp only [size_grow, World.size_alloc, size_drewN, size_drew, size_setCell] at *; omega))) _) | (refine below_alloc ?_ (by (first | omega | (simp only [size_grow, World.size_alloc, size_drewN, size_drew, size_setCell] at *; omega))) _) | (refine Below.setCell ?_ (by (first | omega | (simp only [size_grow, World.size_alloc, size_drewN, size_drew, size_setCell] at *; omega))) _) | refine below_drewN ?_ _ | refine below_drew ?_ | (refine below_step ?_ (by assumption) (by (first | omega | (simp only [size_grow, World.size_alloc, size_drewN, size_drew, size_setCell] at *; omega)))))))
           case one => exact one_flat ps
           case b1 => unfold maxLen; omega
           case b2 => omega
           case b3 => (first | omega | (simp only [size_grow, World.size_alloc, size_drewN, size_drew, size_setCell]; omega) | (simp only [size_grow, World.size_alloc, size_drewN, size_drew, size_setCell] at *; omega) | (simp; done) | (simp; omega))
           intro A2 c2 w2 hown2 hgr2
           simp only [Nat.zero_add, List.nil_append] at hown2
           change World.grownBy _ w2 (some _) at hgr2
           (try dsimp only at hgr2)
           have hg2 := gb_cell hgr2 w.heap.size (by (first | omega | (simp only [size_grow, World.size_alloc, size_drewN, size_drew, size_setCell]; omega) | (simp only [size_grow, World.size_alloc, size_drewN, size_drew, size_setCell] at *; omega) | (simp; done) | (simp; omega))) (fun k hk => by have hk' := Option.some.inj hk; (try dsimp only at hk'); omega)
           have hg3 := gb_cellR hgr2
           have hq3 := gb_frozenR hgr2
           have hz3 := hgr2.size
           (try simp only [World.size_alloc, size_drew, size_drewN] at hz3)
           have n4 : w2.heap.size ≠ w.heap.size := by omega
           have hb2 : Below wa.heap.size wa w2 := gb_below (by (repeat (first | exact Below.refl _ _ | assumption | (refine below_gr ?_ (by (first | omega | (simp only [size_grow, World.size_alloc, size_drewN, size_drew, size_setCell] at *; omega))) _) | (refine below_alloc ?_ (by (first | omega | (simp only [size_grow, World.size_alloc, size_drewN, size_drew, size_setCell] at *; omega))) _) | (refine Below.setCell ?_ (by (first | omega | (simp only [size_grow, World.size_alloc, size_drewN, size_drew, size_setCell] at *; omega))) _) | refine below_drewN ?_ _ | refine below_drew ?_ | (refine below_step ?_ (by assumption) (by (first | omega | (simp only [size_grow, World.size_alloc, size_drewN, size_drew, size_setCell] at *; omega))))))) hgr2 (by (first | omega | (simp only [size_grow, World.size_alloc, size_drewN, size_drew, size_setCell]; omega) | (simp only [size_grow, World.size_alloc, size_drewN, size_drew, size_setCell] at *; omega) | (simp; done) | (simp; omega))) (fun k hk => by have hk' := Option.some.inj hk; (try dsimp only at hk'); omega)))
      · go_wp2_with fail
        go_meet
        exact ⟨_, A2, c2, rfl, heap_new' _ _ _ rfl, by (first | omega | (simp only [size_grow, World.size_alloc, size_drewN, size_drew, size_setCell]; omega) | (simp only [size_grow, World.size_alloc, size_drewN, size_drew, size_setCell] at *; omega) | (simp; done) | (simp; omega)), hown2.alloc _, by (repeat (first | exact Below.refl _ _ | assumption | (refine below_gr ?_ (by (first | omega | (simp only [size_grow, World.size_alloc, size_drewN, size_drew, size_setCell] at *; omega))) _) | (refine below_alloc ?_ (by (first | omega | (simp only [size_grow, World.size_alloc, size_drewN, size_drew, size_setCell] at *; omega))) _) | (refine Below.setCell ?_ (by (first | omega | (simp only [size_grow, World.size_alloc, size_drewN, size_drew, size_setCell] at *; omega))) _) | refine below_drewN ?_ _ | refine below_drew ?_ | (refine below_step ?_ (by assumption) (by (first | omega | (simp only [size_grow, World.size_alloc, size_drewN, size_drew, size_setCell] at *; omega))))))⟩
      · go_wp2_with fail
        go_meet
        have hh : w2.heap[wa.heap.size + 1]? = some (.cells #[.int .i64 0, .slice none 0 0] 24 (0, 0)) := by
          rw [hgr2.block _ (by (first | omega | (simp only [size_grow, World.size_alloc, size_drewN, size_drew, size_setCell]; omega) | (simp only [size_grow, World.size_alloc, size_drewN, size_drew, size_setCell] at *; omega) | (simp; done) | (simp; omega))) (by simp)]; exact heap_new' _ _ _ (by simp)
        exact ⟨_, A2, c2, rfl, set_two hh, by (first | omega | (simp only [size_grow, World.size_alloc, size_drewN, size_drew, size_setCell]; omega) | (simp only [size_grow, World.size_alloc, size_drewN, size_drew, size_setCell] at *; omega) | (simp; done) | (simp; omega)), own_far2 hown2 hh (by decide), by (repeat (first | exact Below.refl _ _ | assumption | (refine below_gr ?_ (by (first | omega | (simp only [size_grow, World.size_alloc, size_drewN, size_drew, size_setCell] at *; omega))) _) | (refine below_alloc ?_ (by (first | omega | (simp only [size_grow, World.size_alloc, size_drewN, size_drew, size_setCell] at *; omega))) _) | (refine Below.setCell ?_ (by (first | omega | (simp only [size_grow, World.size_alloc, size_drewN, size_drew, size_setCell] at *; omega))) _) | refine below_drewN ?_ _ | refine below_drew ?_ | (refine below_step ?_ (by assumption) (by (first | omega | (simp only [size_grow, World.size_alloc, size_drewN, size_drew, size_setCell] at *; omega))))))⟩
      · go_wp2_with fail
        go_meet
        have hh : w2.heap[wa.heap.size]? = some (.cells #[.int .i64 0, .slice none 0 0] 24 (0, 0)) := by
          rw [hgr2.block _ (by (first | omega | (simp only [size_grow, World.size_alloc, size_drewN, size_drew, size_setCell]; omega) | (simp only [size_grow, World.size_alloc, size_drewN, size_drew, size_setCell] at *; omega) | (simp; done) | (simp; omega))) (by simp)]
          exact (heap_old' _ _ _ (by (first | omega | (simp only [size_grow, World.size_alloc, size_drewN, size_drew, size_setCell]; omega) | (simp only [size_grow, World.size_alloc, size_drewN, size_drew, size_setCell] at *; omega) | (simp; done) | (simp; omega)))).trans (heap_new' _ _ _ (by simp))
        exact ⟨_, A2, c2, rfl, set_two hh, by (first | omega | (simp only [size_grow, World.size_alloc, size_drewN, size_drew, size_setCell]; omega) | (simp only [size_grow, World.size_alloc, size_drewN, size_drew, size_setCell] at *; omega) | (simp; done) | (simp; omega)), own_far2 hown2 hh (by decide), by (repeat (first | exact Below.refl _ _ | assumption | (refine below_gr ?_ (by (first | omega | (simp only [size_grow, World.size_alloc, size_drewN, size_drew, size_setCell] at *; omega))) _) | (refine below_alloc ?_ (by (first | omega | (simp only [size_grow, World.size_alloc, size_drewN, size_drew, size_setCell] at *; omega))) _) | (refine Below.setCell ?_ (by (first | omega | (simp only [size_grow, World.size_alloc, size_drewN, size_drew, size_setCell] at *; omega))) _) | refine below_drewN ?_ _ | refine below_drew ?_ | (refine below_step ?_ (by assumption) (by (first | omega | (simp only [size_grow, World.size_alloc, size_drewN, size_drew, size_setCell] at *; omega))))))⟩
    case rest =>
      obtain ⟨bX, AX, cX, rfl, hX, hbX, hrX, hb5⟩ := hcut
      obtain ⟨wb, rfl⟩ : ∃ wb : World, wb = wc := ⟨_, rfl⟩
      have hszwb := hb5.size
      replace hA := hA.ext hb5
      replace hB := hB.below hb5
      replace hP := hP.below hb5
      replace hW := below_step hW hb5 (by have := hW.size; omega)
      clear hBc0 hBc1 hBlt hPlt n1 n2 n3 hb5
      have hBc0 := hB.c0
      have hBc1 := hB.c1
      have hBlt := hB.lt
      have hPlt := hP.lt
      have n1 : wb.heap.size ≠ w.heap.size := by omega
      have n2 : wb.heap.size + 1 ≠ w.heap.size := by omega
      have n3 : wb.heap.size + 1 + 1 ≠ w.heap.size := by omega
      have HGX := hide (fun g h => (hrX.lt g h).2 : ∀ g, (Value.slice AX ps.length cX).ownBlock = some g → g < wb.heap.size)
      have hXlt := hX.lt
      go_upto_region 6 with fail
      go_cut [12] (fun sx wx => ∃ (blk : Nat) (A2 : Option Addr) (c2 : Nat), sx = .pointer (some ⟨blk, 0, none⟩) ∧ ObjV wx blk 24 (.int .i64 m) (.slice A2 ps.length c2) ∧ wb.heap.size ≤ blk ∧ wx.ownsRow wb.heap.size 57 3 (.slice A2 ps.length c2) ps.length (ps.flatMap P3.cells) ∧ Below wb.heap.size wb wx)
      case first =>
        as_aux_lemma =>
        go_region_held3 (fun w' => w'.cell? ⟨w.heap.size, 0, none⟩ = some (.int .i64 m) ∧ w'.cell? ⟨w.heap.size, 1, none⟩ = some (.slice (some ⟨pb, po, none⟩) ps.length c)) (go_keep) (first
          | (refine step_app _ rfl (.tmp 52) (.tmp 54) 22 rfl (wb.heap.size) 57 i0 _ 3 24 Try.underlying22 hi0 hz0 hz1 hz2 rfl (by decide) _ 0 [] rfl ?own (some ⟨pb, po, none⟩) ps.length c (ps.flatMap P3.cells) rfl ?rd ?one ?b1 ?b2 ?b3 ?_
             case own =>
               first
                 | (refine own_lit0 (blk := wb.heap.size) ?_ (by omega)
                    (try rw [heap_drew])
                    first
                      | exact heap_new' _ _ _ (by simp)
                      | exact (heap_old' _ _ _ (by simp)).trans (heap_new' _ _ _ (by simp)))
                 | (refine own_lit0 (blk := wb.heap.size + 1) ?_ (by omega)
                    (try rw [heap_drew])
                    exact heap_new' _ _ _ (by simp))
             case rd => exact (ppl_rd hA).ext (by (repeat (first | exact Below.refl _ _ | assumption | (refine below_gr ?_ (by (first | omega | (simp only [size_grow, World.size_alloc, size_drewN, size_drew, size_setCell] at *; omega))) _) | (refine below_alloc ?_ (by (first | omega | (simp only [size_grow, World.size_alloc, size_drewN, size_drew, size_setCell] at *; omega))) _) | (refine Below.setCell ?_ (by (first | omega | (simp only [size_grow, World.size_alloc, size_drewN, size_drew, size_setCell] at *; omega))) _) | refine below_drewN ?_ _ | refine below_drew ?_ | (refine below_step ?_ (by assumption) (by (first | omega | (simp only [size_grow, World.size_alloc, size_drewN, size_drew, size_setCell] at *; omega)))))))
             case one => exact one_flat ps
             case b1 => unfold maxLen; omega
             case b2 => omega
             case b3 => (first | omega | (simp only [size_grow, World.size_alloc, size_drewN, size_drew, size_setCell]; omega) | (simp only [size_grow, World.size_alloc, size_drewN, size_drew, size_setCell] at *; omega) | (simp; done) | (simp; omega))
             intro A2 c2 w2 hown2 hgr2
             simp only [Nat.zero_add, List.nil_append] at hown2
             change World.grownBy _ w2 (some _) at hgr2
             (try dsimp only at hgr2)
             have hg2 := gb_cell hgr2 w.heap.size (by (first | omega | (simp only [size_grow, World.size_alloc, size_drewN, size_drew, size_setCell]; omega) | (simp only [size_grow, World.size_alloc, size_drewN, size_drew, size_setCell] at *; omega) | (simp; done) | (simp; omega))) (fun k hk => by have hk' := Option.some.inj hk; (try dsimp only at hk'); omega)
             have hg3 := gb_cellR hgr2
             have hq3 := gb_frozenR hgr2
             have hz3 := hgr2.size
             (try simp only [World.size_alloc, size_drew, size_drewN] at hz3)
             have n4 : w2.heap.size ≠ w.heap.size := by omega
             have hb2 : Below wb.heap.size wb w2 := gb_below (by (repeat (first | exact Below.refl _ _ | assumption | (refine below_gr ?_ (by (first | omega | (simp only [size_grow, World.size_alloc, size_drewN, size_drew, size_setCell] at *; omega))) _) | (refine below_alloc ?_ (by (first | omega | (simp only [size_grow, World.size_alloc, size_drewN, size_drew, size_setCell] at *; omega))) _) | (refine Below.setCell ?_ (by (first | omega | (simp only [size_grow, World.size_alloc, size_drewN, size_drew, size_setCell] at *; omega))) _) | refine below_drewN ?_ _ | refine below_drew ?_ | (refine below_step ?_ (by assumption) (by (first | omega | (simp only [size_grow, World.size_alloc, size_drewN, size_drew, size_setCell] at *; omega))))))) hgr2 (by (first | omega | (simp only [size_grow, World.size_alloc, size_drewN, size_drew, size_setCell]; omega) | (simp only [size_grow, World.size_alloc, size_drewN, size_drew, size_setCell] at *; omega) | (simp; done) | (simp; omega))) (fun k hk => by have hk' := Option.some.inj hk; (try dsimp only at hk'); omega)))
        · go_wp2_with fail
          go_meet
          exact ⟨_, A2, c2, rfl, heap_new' _ _ _ rfl, by (first | omega | (simp only [size_grow, World.size_alloc, size_drewN, size_drew, size_setCell]; omega) | (simp only [size_grow, World.size_alloc, size_drewN, size_drew, size_setCell] at *; omega) | (simp; done) | (simp; omega)), hown2.alloc _, by (repeat (first | exact Below.refl _ _ | assumption | (refine below_gr ?_ (by (first | omega | (simp only [size_grow, World.size_alloc, size_drewN, size_drew, size_setCell] at *; omega))) _) | (refine below_alloc ?_ (by (first | omega | (simp only [size_grow, World.size_alloc, size_drewN, size_drew, size_setCell] at *; omega))) _) | (refine Below.setCell ?_ (by (first | omega | (simp only [size_grow, World.size_alloc, size_drewN, size_drew, size_setCell] at *; omega))) _) | refine below_drewN ?_ _ | refine below_drew ?_ | (refine below_step ?_ (by assumption) (by (first | omega | (simp only [size_grow, World.size_alloc, size_drewN, size_drew, size_setCell] at *; omega))))))⟩
        · go_wp2_with fail
          go_meet
          have hh : w2.heap[wb.heap.size + 1]? = some (.cells #[.int .i64 0, .slice none 0 0] 24 (0, 0)) := by
            rw [hgr2.block _ (by (first | omega | (simp only [size_grow, World.size_alloc, size_drewN, size_drew, size_setCell]; omega) | (simp only [size_grow, World.size_alloc, size_drewN, size_drew, size_setCell] at *; omega) | (simp; done) | (simp; omega))) (by simp)]; exact heap_new' _ _ _ (by simp)
          exact ⟨_, A2, c2, rfl, set_two hh, by (first | omega | (simp only [size_grow, World.size_alloc, size_drewN, size_drew, size_setCell]; omega) | (simp only [size_grow, World.size_alloc, size_drewN, size_drew, size_setCell] at *; omega) | (simp; done) | (simp; omega)), own_far2 hown2 hh (by decide), by (repeat (first | exact Below.refl _ _ | assumption | (refine below_gr ?_ (by (first | omega | (simp only [size_grow, World.size_alloc, size_drewN, size_drew, size_setCell] at *; omega))) _) | (refine below_alloc ?_ (by (first | omega | (simp only [size_grow, World.size_alloc, size_drewN, size_drew, size_setCell] at *; omega))) _) | (refine Below.setCell ?_ (by (first | omega | (simp only [size_grow, World.size_alloc, size_drewN, size_drew, size_setCell] at *; omega))) _) | refine below_drewN ?_ _ | refine below_drew ?_ | (refine below_step ?_ (by assumption) (by (first | omega | (simp only [size_grow, World.size_alloc, size_drewN, size_drew, size_setCell] at *; omega))))))⟩
        · go_wp2_with fail
          go_meet
          have hh : w2.heap[wb.heap.size]? = some (.cells #[.int .i64 0, .slice none 0 0] 24 (0, 0)) := by
            rw [hgr2.block _ (by (first | omega | (simp only [size_grow, World.size_alloc, size_drewN, size_drew, size_setCell]; omega) | (simp only [size_grow, World.size_alloc, size_drewN, size_drew, size_setCell] at *; omega) | (simp; done) | (simp; omega))) (by simp)]
            exact (heap_old' _ _ _ (by (first | omega | (simp only [size_grow, World.size_alloc, size_drewN, size_drew, size_setCell]; omega) | (simp only [size_grow, World.size_alloc, size_drewN, size_drew, size_setCell] at *; omega) | (simp; done) | (simp; omega)))).trans (heap_new' _ _ _ (by simp))
          exact ⟨_, A2, c2, rfl, set_two hh, by (first | omega | (simp only [size_grow, World.size_alloc, size_drewN, size_drew, size_setCell]; omega) | (simp only [size_grow, World.size_alloc, size_drewN, size_drew, size_setCell] at *; omega) | (simp; done) | (simp; omega)), own_far2 hown2 hh (by decide), by (repeat (first | exact Below.refl _ _ | assumption | (refine below_gr ?_ (by (first | omega | (simp only [size_grow, World.size_alloc, size_drewN, size_drew, size_setCell] at *; omega))) _) | (refine below_alloc ?_ (by (first | omega | (simp only [size_grow, World.size_alloc, size_drewN, size_drew, size_setCell] at *; omega))) _) | (refine Below.setCell ?_ (by (first | omega | (simp only [size_grow, World.size_alloc, size_drewN, size_drew, size_setCell] at *; omega))) _) | refine below_drewN ?_ _ | refine below_drew ?_ | (refine below_step ?_ (by assumption) (by (first | omega | (simp only [size_grow, World.size_alloc, size_drewN, size_drew, size_setCell] at *; omega))))))⟩
      case rest =>
        obtain ⟨bY, AY, cY, rfl, hY, hbY, hrY, hb6⟩ := hcut
        obtain ⟨wd, rfl⟩ : ∃ wd : World, wd = wc := ⟨_, rfl⟩
        have hszwd := hb6.size
        replace hA := hA.ext hb6
        replace hB := hB.below hb6
        replace hP := hP.below hb6
        replace hW := below_step hW hb6 (by have := hW.size; omega)
        replace hX := hX.below hb6
        replace hrX := ownsRow_grows hrX hb6
        clear hBc0 hBc1 hBlt hPlt n1 n2 n3 hb6
        have hBc0 := hB.c0
        have hBc1 := hB.c1
        have hBlt := hB.lt
        have hPlt := hP.lt
        have n1 : wd.heap.size ≠ w.heap.size := by omega
        have n2 : wd.heap.size + 1 ≠ w.heap.size := by omega
        have n3 : wd.heap.size + 1 + 1 ≠ w.heap.size := by omega
        have HGY := hide (fun g h => (hrY.lt g h).2 : ∀ g, (Value.slice AY ps.length cY).ownBlock = some g → g < wd.heap.size)
        have hYlt := hY.lt
        go_upto_region 7 with fail
        have hLc : (ps.length : Int) ≤ c := by omega
        have hIp : (i : Int) < ps.length := by omega
        have hIc : (i : Int) ≤ c := by omega
        have hI0 : (0 : Int) ≤ i := by omega
        have hI1 : (i : Int) + 1 ≤ ps.length := by omega
        have hIw : IntKind.i64.wrap ((i : Int) + 1) = (i : Int) + 1 := IntWalk.i64_in _ (by omega)
        have hIn : ((i : Int) + 1).toNat = i + 1 := by omega
        have h10 : (0 : Int) ≤ (i : Int) + 1 := by omega
        obtain ⟨Aq, hq⟩ : ∃ Aq, (if c = i + 1 then (some ⟨pb, po, none⟩ : Option Addr) else some ⟨pb, po + (i + 1) * 3, none⟩) = Aq := ⟨_, rfl⟩
        have HAq := hide (fun h => by rw [← hq, if_neg (by omega)] : i + 1 < ps.length → Aq = some ⟨pb, po + (i + 1) * 3, none⟩)
        go_cut [13] (fun sx wx => ∃ (blk : Nat) (A2 : Option Addr) (n c2 : Nat), sx = .pointer (some ⟨blk, 0, none⟩) ∧ n = ps.length - 1 ∧ ObjV wx blk 24 (.int .i64 m) (.slice A2 n c2) ∧ wd.heap.size ≤ blk ∧ wx.ownsRow wd.heap.size 57 3 (.slice A2 n c2) n ((without ps i).flatMap P3.cells) ∧ Below wd.heap.size wd wx)
        case first =>
          as_aux_lemma =>
          go_region_held3 (fun w' => w'.cell? ⟨w.heap.size, 0, none⟩ = some (.int .i64 m) ∧ w'.cell? ⟨w.heap.size, 1, none⟩ = some (.slice (some ⟨pb, po, none⟩) ps.length c)) (go_keep) (first
            | (refine step_app _ rfl (.tmp 59) (.tmp 63) 22 rfl (wd.heap.size) 57 i0 _ 3 24 Try.underlying22 hi0 hz0 hz1 hz2 rfl (by decide) _ (0) ([]) rfl ?own _ i _ ((ps.take i).flatMap P3.cells) rfl ?rd ?one ?b1 ?b2 ?b3 ?_
               case own =>
                 first
                   | (refine own_lit0 (blk := wd.heap.size) ?_ (by omega)
                      (try rw [heap_drew])
                      first
                        | exact heap_new' _ _ _ (by simp)
                        | exact (heap_old' _ _ _ (by simp)).trans (heap_new' _ _ _ (by simp)))
                   | (refine own_lit0 (blk := wd.heap.size + 1) ?_ (by omega)
                      (try rw [heap_drew])
                      exact heap_new' _ _ _ (by simp))
               case rd => exact (rd_take hA (by omega)).ext (by (repeat (first | exact Below.refl _ _ | assumption | (refine below_gr ?_ (by (first | omega | (simp only [size_grow, World.size_alloc, size_drewN, size_drew, size_setCell] at *; omega))) _) | (refine below_alloc ?_ (by (first | omega | (simp only [size_grow, World.size_alloc, size_drewN, size_drew, size_setCell] at *; omega))) _) | (refine Below.setCell ?_ (by (first | omega | (simp only [size_grow, World.size_alloc, size_drewN, size_drew, size_setCell] at *; omega))) _) | refine below_drewN ?_ _ | refine below_drew ?_ | (refine below_step ?_ (by assumption) (by (first | omega | (simp only [size_grow, World.size_alloc, size_drewN, size_drew, size_setCell] at *; omega)))))))
               case one => exact one_flat _
               case b1 => unfold maxLen; omega
               case b2 => omega
               case b3 => (first | omega | (simp only [size_grow, World.size_alloc, size_drewN, size_drew, size_setCell]; omega) | (simp only [size_grow, World.size_alloc, size_drewN, size_drew, size_setCell] at *; omega) | (simp; done) | (simp; omega))
               intro A2 c2 w2 hown2 hgr2
               rw [Nat.zero_add i]
               simp only [Nat.zero_add, List.nil_append] at hown2
               change World.grownBy _ w2 (some _) at hgr2
               (try dsimp only at hgr2)
               have hbl2 : Below wd.heap.size wd w2 := gb_below (by (repeat (first | exact Below.refl _ _ | assumption | (refine below_gr ?_ (by (first | omega | (simp only [size_grow, World.size_alloc, size_drewN, size_drew, size_setCell] at *; omega))) _) | (refine below_alloc ?_ (by (first | omega | (simp only [size_grow, World.size_alloc, size_drewN, size_drew, size_setCell] at *; omega))) _) | (refine Below.setCell ?_ (by (first | omega | (simp only [size_grow, World.size_alloc, size_drewN, size_drew, size_setCell] at *; omega))) _) | refine below_drewN ?_ _ | refine below_drew ?_ | (refine below_step ?_ (by assumption) (by (first | omega | (simp only [size_grow, World.size_alloc, size_drewN, size_drew, size_setCell] at *; omega))))))) hgr2 (by (first | omega | (simp only [size_grow, World.size_alloc, size_drewN, size_drew, size_setCell]; omega) | (simp only [size_grow, World.size_alloc, size_drewN, size_drew, size_setCell] at *; omega) | (simp; done) | (simp; omega))) (fun k hk => by have hk' := Option.some.inj hk; (try dsimp only at hk'); omega)
               have hg2 := own_cell hbl2 (b := w.heap.size) (by omega)
               have hzz2 := hgr2.size
               (try simp only [World.size_alloc, size_drew, size_drewN] at hzz2)
               have n42 : w2.heap.size ≠ w.heap.size := by omega
               (try (refine (have hH20 : w2.heap[wd.heap.size]? = some (.cells #[.int .i64 0, .slice none 0 0] 24 (0, 0)) := Eq.trans (hgr2.block _ ?h1 ?h2) (heap_new2 _ _ _ _ rfl); ?_); (case h1 => (first | omega | (simp only [size_grow, World.size_alloc, size_drewN, size_drew, size_setCell]; omega) | (simp only [size_grow, World.size_alloc, size_drewN, size_drew, size_setCell] at *; omega) | (simp; done) | (simp; omega))); (case h2 => simp)))
               (try (refine (have hH20 : w2.heap[wd.heap.size]? = some (.cells #[.int .i64 0, .slice none 0 0] 24 (0, 0)) := Eq.trans (hgr2.block _ ?h1 ?h2) (heap_new2d _ _ _ _ rfl); ?_); (case h1 => (first | omega | (simp only [size_grow, World.size_alloc, size_drewN, size_drew, size_setCell]; omega) | (simp only [size_grow, World.size_alloc, size_drewN, size_drew, size_setCell] at *; omega) | (simp; done) | (simp; omega))); (case h2 => simp)))
               (try have hHa20 := obj_c0 hH20)
               (try have hHb20 := obj_c1 hH20)
               (try have hHc20 := obj_f hH20)
               (try (refine (have hH21 : w2.heap[wd.heap.size + 1]? = some (.cells #[.int .i64 0, .slice none 0 0] 24 (0, 0)) := Eq.trans (hgr2.block _ ?h1 ?h2) (heap_new1 _ _ _); ?_); (case h1 => (first | omega | (simp only [size_grow, World.size_alloc, size_drewN, size_drew, size_setCell]; omega) | (simp only [size_grow, World.size_alloc, size_drewN, size_drew, size_setCell] at *; omega) | (simp; done) | (simp; omega))); (case h2 => simp)))
               (try (refine (have hH21 : w2.heap[wd.heap.size + 1]? = some (.cells #[.int .i64 0, .slice none 0 0] 24 (0, 0)) := Eq.trans (hgr2.block _ ?h1 ?h2) (heap_new1d _ _ _); ?_); (case h1 => (first | omega | (simp only [size_grow, World.size_alloc, size_drewN, size_drew, size_setCell]; omega) | (simp only [size_grow, World.size_alloc, size_drewN, size_drew, size_setCell] at *; omega) | (simp; done) | (simp; omega))); (case h2 => simp)))
               (try have hHa21 := obj_c0 hH21)
               (try have hHb21 := obj_c1 hH21)
               (try have hHc21 := obj_f hH21))
            | (refine step_app _ rfl (.tmp 64) (.tmp 69) 22 rfl (wd.heap.size) 57 i0 _ 3 24 Try.underlying22 hi0 hz0 hz1 hz2 rfl (by decide) _ (i) ((ps.take i).flatMap P3.cells) rfl ?own _ _ _ ((ps.drop (i + 1)).flatMap P3.cells) rfl ?rd ?one ?b1 ?b2 ?b3 ?_
               case own =>
                 first | exact hown2 | exact hown2.alloc _ | exact ownsRow_grows hown2 (by (repeat (first | exact Below.refl _ _ | assumption | (refine below_gr ?_ (by (first | omega | (simp only [size_grow, World.size_alloc, size_drewN, size_drew, size_setCell] at *; omega))) _) | (refine below_alloc ?_ (by (first | omega | (simp only [size_grow, World.size_alloc, size_drewN, size_drew, size_setCell] at *; omega))) _) | (refine Below.setCell ?_ (by (first | omega | (simp only [size_grow, World.size_alloc, size_drewN, size_drew, size_setCell] at *; omega))) _) | refine below_drewN ?_ _ | refine below_drew ?_ | (refine below_step ?_ (by assumption) (by (first | omega | (simp only [size_grow, World.size_alloc, size_drewN, size_drew, size_setCell] at *; omega)))))))
               case rd => exact (rd_drop hA (by first | rfl | omega) HAq.out).ext (by (repeat (first | exact Below.refl _ _ | assumption | (refine below_gr ?_ (by (first | omega | (simp only [size_grow, World.size_alloc, size_drewN, size_drew, size_setCell] at *; omega))) _) | (refine below_alloc ?_ (by (first | omega | (simp only [size_grow, World.size_alloc, size_drewN, size_drew, size_setCell] at *; omega))) _) | (refine Below.setCell ?_ (by (first | omega | (simp only [size_grow, World.size_alloc, size_drewN, size_drew, size_setCell] at *; omega))) _) | refine below_drewN ?_ _ | refine below_drew ?_ | (refine below_step ?_ (by assumption) (by (first | omega | (simp only [size_grow, World.size_alloc, size_drewN, size_drew, size_setCell] at *; omega)))))))
               case one => exact one_flat _
               case b1 => unfold maxLen; omega
               case b2 => omega
               case b3 => (first | omega | (simp only [size_grow, World.size_alloc, size_drewN, size_drew, size_setCell]; omega) | (simp only [size_grow, World.size_alloc, size_drewN, size_drew, size_setCell] at *; omega) | (simp; done) | (simp; omega))
               intro A3 c3 w3 hown3 hgr3
               have hbl3 : Below wd.heap.size wd w3 := gb_below (by (repeat (first | exact Below.refl _ _ | assumption | (refine below_gr ?_ (by (first | omega | (simp only [size_grow, World.size_alloc, size_drewN, size_drew, size_setCell] at *; omega))) _) | (refine below_alloc ?_ (by (first | omega | (simp only [size_grow, World.size_alloc, size_drewN, size_drew, size_setCell] at *; omega))) _) | (refine Below.setCell ?_ (by (first | omega | (simp only [size_grow, World.size_alloc, size_drewN, size_drew, size_setCell] at *; omega))) _) | refine below_drewN ?_ _ | refine below_drew ?_ | (refine below_step ?_ (by assumption) (by (first | omega | (simp only [size_grow, World.size_alloc, size_drewN, size_drew, size_setCell] at *; omega))))))) hgr3 (by (first | omega | (simp only [size_grow, World.size_alloc, size_drewN, size_drew, size_setCell]; omega) | (simp only [size_grow, World.size_alloc, size_drewN, size_drew, size_setCell] at *; omega) | (simp; done) | (simp; omega))) (fun k hk => (hown2.lt k hk).1)
               have hg4 := own_cell hbl3 (b := w.heap.size) (by omega)
               have hzz3 := hgr3.size
               (try simp only [World.size_alloc, size_drew, size_drewN] at hzz3)
               have n43 : w3.heap.size ≠ w.heap.size := by omega
               (try (refine (have hH30 : w3.heap[wd.heap.size]? = some (.cells #[.int .i64 0, .slice none 0 0] 24 (0, 0)) := far_heap hgr3 (hown2) (hH20) (of_decide_eq_true rfl); ?_)))
               (try (refine (have hH30 : w3.heap[wd.heap.size]? = some (.cells #[.int .i64 0, .slice none 0 0] 24 (0, 0)) := far_heap hgr3 (hown2.alloc _) (hH20) (of_decide_eq_true rfl); ?_)))
               (try have hHa30 := obj_c0 hH30)
               (try have hHb30 := obj_c1 hH30)
               (try have hHc30 := obj_f hH30)
               (try (refine (have hH31 : w3.heap[wd.heap.size + 1]? = some (.cells #[.int .i64 0, .slice none 0 0] 24 (0, 0)) := far_heap hgr3 (hown2) (hH21) (of_decide_eq_true rfl); ?_)))
               (try (refine (have hH31 : w3.heap[wd.heap.size + 1]? = some (.cells #[.int .i64 0, .slice none 0 0] 24 (0, 0)) := far_heap hgr3 (hown2.alloc _) (hH21) (of_decide_eq_true rfl); ?_)))
               (try have hHa31 := obj_c0 hH31)
               (try have hHb31 := obj_c1 hH31)
               (try have hHc31 := obj_f hH31)
               (try (refine (have hH32 : w3.heap[w2.heap.size]? = some (.cells #[.int .i64 0, .slice none 0 0] 24 (0, 0)) := far_heap hgr3 (hown2) (heap_new' _ _ _ rfl) (of_decide_eq_true rfl); ?_)))
               (try (refine (have hH32 : w3.heap[w2.heap.size]? = some (.cells #[.int .i64 0, .slice none 0 0] 24 (0, 0)) := far_heap hgr3 (hown2.alloc _) (heap_new' _ _ _ rfl) (of_decide_eq_true rfl); ?_)))
               (try have hHa32 := obj_c0 hH32)
               (try have hHb32 := obj_c1 hH32)
               (try have hHc32 := obj_f hH32)))
          all_goals go_wp2_with fail
          all_goals go_meet
          all_goals unfold without
          all_goals rw [List.flatMap_append]
          all_goals first
            | exact ⟨_, A3, _, c3, rfl, by omega, set_two hH30, by (first | omega | (simp only [size_grow, World.size_alloc, size_drewN, size_drew, size_setCell]; omega) | (simp only [size_grow, World.size_alloc, size_drewN, size_drew, size_setCell] at *; omega) | (simp; done) | (simp; omega)), own_far2 hown3 hH30 (by decide), by (repeat (first | exact Below.refl _ _ | assumption | (refine below_gr ?_ (by (first | omega | (simp only [size_grow, World.size_alloc, size_drewN, size_drew, size_setCell] at *; omega))) _) | (refine below_alloc ?_ (by (first | omega | (simp only [size_grow, World.size_alloc, size_drewN, size_drew, size_setCell] at *; omega))) _) | (refine Below.setCell ?_ (by (first | omega | (simp only [size_grow, World.size_alloc, size_drewN, size_drew, size_setCell] at *; omega))) _) | refine below_drewN ?_ _ | refine below_drew ?_ | (refine below_step ?_ (by assumption) (by (first | omega | (simp only [size_grow, World.size_alloc, size_drewN, size_drew, size_setCell] at *; omega))))))⟩
            | exact ⟨_, A3, _, c3, rfl, by omega, set_two hH31, by (first | omega | (simp only [size_grow, World.size_alloc, size_drewN, size_drew, size_setCell]; omega) | (simp only [size_grow, World.size_alloc, size_drewN, size_drew, size_setCell] at *; omega) | (simp; done) | (simp; omega)), own_far2 hown3 hH31 (by decide), by (repeat (first | exact Below.refl _ _ | assumption | (refine below_gr ?_ (by (first | omega | (simp only [size_grow, World.size_alloc, size_drewN, size_drew, size_setCell] at *; omega))) _) | (refine below_alloc ?_ (by (first | omega | (simp only [size_grow, World.size_alloc, size_drewN, size_drew, size_setCell] at *; omega))) _) | (refine Below.setCell ?_ (by (first | omega | (simp only [size_grow, World.size_alloc, size_drewN, size_drew, size_setCell] at *; omega))) _) | refine below_drewN ?_ _ | refine below_drew ?_ | (refine below_step ?_ (by assumption) (by (first | omega | (simp only [size_grow, World.size_alloc, size_drewN, size_drew, size_setCell] at *; omega))))))⟩
            | exact ⟨_, A3, _, c3, rfl, by omega, set_two hH32, by (first | omega | (simp only [size_grow, World.size_alloc, size_drewN, size_drew, size_setCell]; omega) | (simp only [size_grow, World.size_alloc, size_drewN, size_drew, size_setCell] at *; omega) | (simp; done) | (simp; omega)), own_far2 hown3 hH32 (by decide), by (repeat (first | exact Below.refl _ _ | assumption | (refine below_gr ?_ (by (first | omega | (simp only [size_grow, World.size_alloc, size_drewN, size_drew, size_setCell] at *; omega))) _) | (refine below_alloc ?_ (by (first | omega | (simp only [size_grow, World.size_alloc, size_drewN, size_drew, size_setCell] at *; omega))) _) | (refine Below.setCell ?_ (by (first | omega | (simp only [size_grow, World.size_alloc, size_drewN, size_drew, size_setCell] at *; omega))) _) | refine below_drewN ?_ _ | refine below_drew ?_ | (refine below_step ?_ (by assumption) (by (first | omega | (simp only [size_grow, World.size_alloc, size_drewN, size_drew, size_setCell] at *; omega))))))⟩
            | exact ⟨_, A3, _, c3, rfl, by omega, heap_new' _ _ _ rfl, by (first | omega | (simp only [size_grow, World.size_alloc, size_drewN, size_drew, size_setCell]; omega) | (simp only [size_grow, World.size_alloc, size_drewN, size_drew, size_setCell] at *; omega) | (simp; done) | (simp; omega)), hown3.alloc _, by (repeat (first | exact Below.refl _ _ | assumption | (refine below_gr ?_ (by (first | omega | (simp only [size_grow, World.size_alloc, size_drewN, size_drew, size_setCell] at *; omega))) _) | (refine below_alloc ?_ (by (first | omega | (simp only [size_grow, World.size_alloc, size_drewN, size_drew, size_setCell] at *; omega))) _) | (refine Below.setCell ?_ (by (first | omega | (simp only [size_grow, World.size_alloc, size_drewN, size_drew, size_setCell] at *; omega))) _) | refine below_drewN ?_ _ | refine below_drew ?_ | (refine below_step ?_ (by assumption) (by (first | omega | (simp only [size_grow, World.size_alloc, size_drewN, size_drew, size_setCell] at *; omega))))))⟩
        case rest =>
          obtain ⟨bZ, AZ, nZ, cZ, rfl, hnZ, hZ, hbZ, hrZ, hb7⟩ := hcut
          obtain ⟨we, rfl⟩ : ∃ we : World, we = wc := ⟨_, rfl⟩
          have hszwe := hb7.size
          replace hA := hA.ext hb7
          replace hB := hB.below hb7
          replace hP := hP.below hb7
          replace hW := below_step hW hb7 (by have := hW.size; omega)
          replace hX := hX.below hb7
          replace hY := hY.below hb7
          replace hrX := ownsRow_grows hrX hb7
          replace hrY := ownsRow_grows hrY hb7
          clear hBc0 hBc1 hBlt hPlt n1 n2 n3 hb7
          have hBc0 := hB.c0
          have hBc1 := hB.c1
          have hBlt := hB.lt
          have hPlt := hP.lt
          have n1 : we.heap.size ≠ w.heap.size := by omega
          have n2 : we.heap.size + 1 ≠ w.heap.size := by omega
          have n3 : we.heap.size + 1 + 1 ≠ w.heap.size := by omega
          clear hq HAq hIw hIn
          subst hnZ
          have hZlt := hZ.lt
          obtain ⟨gX, capX, curX, hvX, hgBX, hghX, -, -, -, -⟩ := hrX.2.resolve_left (by rintro ⟨_, h0⟩; omega)
          injection hvX with eX _ ecX
          subst eX ecX
          obtain ⟨gY, capY, curY, hvY, hgBY, hghY, -, -, -, -⟩ := hrY.2.resolve_left (by rintro ⟨_, h0⟩; omega)
          injection hvY with eY _ ecY
          subst eY ecY
          have hgXl : gX < wb.heap.size := HGX.out _ rfl
          have hgYl : gY < wd.heap.size := HGY.out _ rfl
          have kX0 := hX.c0
          have kX1 := hX.c1
          have kY1 := hY.c1
          have kP0 := hP.c0
          have kP1 := hP.c1
          have kP2 := hP.c2
          have kf : we.frozen? ⟨gX, i * 3 + 1, none⟩ = false := hrX.frozenAt _
          have hlen := flat_len ps
          have kr : we.cell? ⟨gX, i * 3 + 1, none⟩ = some (ps.flatMap P3.cells)[i * 3 + 1] := by rw [hrX.cellAt _ (by omega)]; exact List.getElem?_eq_getElem (by omega)
          generalize (ps.flatMap P3.cells)[i * 3 + 1] = x0 at kr
          clear hlen
          generalize hlo : ps[i].lo = lo at *
          generalize hhi : ps[i].hi = hi1 at *
          generalize hun : ps[i].un = un at *
          clear hlo hhi hun
          obtain ⟨lX, hlX⟩ : ∃ l, (if lo < hi1 - z % 10 then hi1 - z % 10 else lo) = l := ⟨_, rfl⟩
          have HLX := hide (by rw [← hlX]; split <;> omega : lX = max lo (hi1 - z % 10))
          go_upto_region 8 with fail
          go_cut [9] (fun s9 wx => s9 = .int .i64 i ∧ wx.ownsRow wa.heap.size 57 3 (.slice (some ⟨gX, 0, none⟩) ps.length cX) ps.length ((setHi ps i lX).flatMap P3.cells) ∧ FarW we wx gX)
          case first =>
            go_wp2_with fail
            go_meet
            refine ⟨rfl, ?_, far_set _ _ _ _⟩
            have hs := (hrX.stored (i * 3 + 1) (.int .i64 lX)).1
            rw [flat_hi _ _ _ (by omega)] at hs
            exact hs
          case rest =>
            as_aux_lemma =>
            obtain ⟨rfl, hrX2, hf8⟩ := hcut
            obtain ⟨wf, rfl⟩ : ∃ wf : World, wf = wc := ⟨_, rfl⟩
            clear hlX kX0 kX1 kY1 kP0 kP1 kP2 kf kr hrX hBc0 hBc1 hBlt hPlt hXlt hYlt hZlt
            replace hA := hA.far hf8 (by omega)
            replace hB := hB.far hf8 (by omega)
            replace hP := hP.far hf8 (by omega)
            replace hX := hX.far hf8 (ne_types hX hghX (of_decide_eq_true rfl))
            replace hY := hY.far hf8 (ne_types hY hghX (of_decide_eq_true rfl))
            replace hZ := hZ.far hf8 (ne_types hZ hghX (of_decide_eq_true rfl))
            replace hW := below_step hW hf8.2 (by omega)
            replace hrY := ownsRow_far hrY hf8 (by omega)
            replace hrZ := ownsRow_far hrZ hf8 (by omega)
            replace hghY := (hf8.1 gY (by omega)).trans hghY
            have hPX : Ppl wf (some ⟨gX, 0, none⟩) (setHi ps i lX) := own_ppl (B := wa.heap.size) (e := 57) (c := cX) (by rw [setHi_len]; exact hrX2)
            have hgXf : gX < wf.heap.size := by have := hf8.2.size; omega
            have hgYf : gY < wf.heap.size := by have := hf8.2.size; omega
            have hsf := hf8.2.size
            clear hrX2 hf8
            have kB0 := hB.c0
            have kB1 := hB.c1
            have kY1 := hY.c1
            have kP1 := hP.c1
            have kP2 := hP.c2
            have kf : wf.frozen? ⟨gY, i * 3 + 1 + 1, none⟩ = false := hrY.frozenAt _
            have hlen := flat_len ps
            have kr : wf.cell? ⟨gY, i * 3 + 1 + 1, none⟩ = some (ps.flatMap P3.cells)[i * 3 + 1 + 1] := by rw [hrY.cellAt _ (by omega)]; exact List.getElem?_eq_getElem (by omega)
            generalize (ps.flatMap P3.cells)[i * 3 + 1 + 1] = x1 at kr
            clear hlen
            obtain ⟨lY, hlY⟩ : ∃ l, (if un + v % 10 < m then un + v % 10 else m) = l := ⟨_, rfl⟩
            have HLY := hide (by rw [← hlY]; split <;> omega : lY = min m (un + v % 10))
            go_upto_if 94 with fail
            go_cut [9] (fun s9 wx => s9 = .int .i64 i ∧ wx.ownsRow wb.heap.size 57 3 (.slice (some ⟨gY, 0, none⟩) ps.length cY) ps.length ((if hi1 ≤ un then setUn ps i lY else ps).flatMap P3.cells) ∧ FarW wf wx gY)
            case first =>
              by_cases hyc : hi1 ≤ un
              · go_wp2_with fail
                go_meet
                refine ⟨rfl, ?_, far_set _ _ _ _⟩
                rw [if_pos hyc, ← flat_un _ _ _ (by omega)]
                exact (hrY.stored (i * 3 + 2) (.int .i64 lY)).1
              · go_wp2_with fail
                go_meet
                refine ⟨rfl, ?_, far_refl _ _⟩
                rw [if_neg (by omega)]
                exact hrY
            case rest =>
              as_aux_lemma =>
              obtain ⟨rfl, hrY2, hf10⟩ := hcut
              obtain ⟨wg, rfl⟩ : ∃ wg : World, wg = wc := ⟨_, rfl⟩
              clear hlY kB0 kB1 kY1 kP1 kP2 kf kr hrY
              replace hA := hA.far hf10 (by omega)
              replace hB := hB.far hf10 (by omega)
              replace hP := hP.far hf10 (by omega)
              replace hX := hX.far hf10 (ne_types hX hghY (of_decide_eq_true rfl))
              replace hY := hY.far hf10 (ne_types hY hghY (of_decide_eq_true rfl))
              replace hZ := hZ.far hf10 (ne_types hZ hghY (of_decide_eq_true rfl))
              replace hW := below_step hW hf10.2 (by omega)
              replace hPX := hPX.far hf10 (by omega)
              replace hrZ := ownsRow_far hrZ hf10 (by omega)
              have hYl : (if hi1 ≤ un then setUn ps i lY else ps).length = ps.length := by split; exact setUn_len _ _ _; rfl
              have hPY : Ppl wg (some ⟨gY, 0, none⟩) (if hi1 ≤ un then setUn ps i lY else ps) := own_ppl (B := wb.heap.size) (e := 57) (c := cY) (by rw [hYl]; exact hrY2)
              have hPZ : Ppl wg AZ (without ps i) := own_ppl (B := wd.heap.size) (e := 57) (c := cZ) (by rw [without_len ps i hi]; exact hrZ)
              clear hrY2 hf10 hrZ hghX hghY
              have hwg : w.heap.size < wg.heap.size := by have := hB.lt; omega
              have hok := HOK.out
              have h0 := H0.out
              have fx := FX.out
              have fz := FZ.out
              rw [← HLX.out] at fx
              have fy : Okay m (if hi1 ≤ un then setUn ps i lY else ps) ∧ fewest m (if hi1 ≤ un then setUn ps i lY else ps) ≤ fewest m ps ∧ fewest m ((if hi1 ≤ un then setUn ps i lY else ps).map soonP) ≤ fewest m (ps.map soonP) := by
                split
                · rename_i hu
                  have := FY.out hu
                  rw [← HLY.out] at this
                  exact this
                · exact ⟨hok, Int.le_refl _, Int.le_refl _⟩
              have hma := hide (fun W hW => vmach m (some ⟨pb, po, none⟩) ps c W hW (by omega) h0)
              have hmx := hide (fun W hW => by have := vmach m (some ⟨gX, 0, none⟩) (setHi ps i lX) cX W hW (by rw [setHi_len]; omega) (check_of_okay fx.1 (by rw [setHi_len]; omega)); rw [fx.2.2, setHi_len] at this; exact this : ∀ W, Ppl W (some ⟨gX, 0, none⟩) (setHi ps i lX) → Calls Try.prog 24 #[.agg #[.int .i64 m, .slice (some ⟨gX, 0, none⟩) ps.length cX]] W (Gives W (.tuple #[.agg #[.int .i64 (fewest m (ps.map soonP)), .int .i64 (fewest m (setHi ps i lX))], .int .i64 0])))
              have hmy := hide (fun W hW => by have := vmach m (some ⟨gY, 0, none⟩) _ cY W hW (by rw [hYl]; omega) (check_of_okay fy.1 (by rw [hYl]; omega)); rw [hYl] at this; exact this : ∀ W, Ppl W (some ⟨gY, 0, none⟩) (if hi1 ≤ un then setUn ps i lY else ps) → Calls Try.prog 24 #[.agg #[.int .i64 m, .slice (some ⟨gY, 0, none⟩) ps.length cY]] W (Gives W (.tuple #[.agg #[.int .i64 (fewest m ((if hi1 ≤ un then setUn ps i lY else ps).map soonP)), .int .i64 (fewest m (if hi1 ≤ un then setUn ps i lY else ps))], .int .i64 0])))
              have hmz := hide (fun W hW => by have := vmach m AZ (without ps i) cZ W hW (by rw [without_len ps i hi]; omega) (check_of_okay (without_okay hok i) (by rw [without_len ps i hi]; omega)); rw [without_len ps i hi] at this; exact this : ∀ W, Ppl W AZ (without ps i) → Calls Try.prog 24 #[.agg #[.int .i64 m, .slice AZ (ps.length - 1) cZ]] W (Gives W (.tuple #[.agg #[.int .i64 (fewest m ((without ps i).map soonP)), .int .i64 (fewest m (without ps i))], .int .i64 0])))
              have hbd := fewest_bd m ps
              have fx2 := fx.2.1
              have fy2 := fy.2.1
              have fy3 := fy.2.2
              have fz2 := fz.1.1
              have fz3 := fz.1.2
              have fz4 := fz.2
              clear fx fy fz hYl hok h0 HLX HLY FX FY FZ HOK H0 HV4
              generalize fewest m ((without ps i).map soonP) = sz at *
              generalize fewest m (without ps i) = fzz at *
              generalize fewest m ((if hi1 ≤ un then setUn ps i lY else ps).map soonP) = syy at *
              generalize fewest m (if hi1 ≤ un then setUn ps i lY else ps) = fyy at *
              generalize fewest m (setHi ps i lX) = fxx at *
              generalize fewest m (ps.map soonP) = s0 at *
              generalize fewest m ps = f0 at *
              generalize (if hi1 ≤ un then setUn ps i lY else ps) = psy at *
              generalize setHi ps i lX = psx at *
              generalize without ps i = psz at *
              clear v1 v2 hpv hm0 n1 n2 n3 hLc hIp hIc hI0 hI1 h10 HGX HGY hP hgBX hgBY hgXl hgYl hgXf hgYf hsf hszwb hszwd hszwe hua hwu hsz hbX hbY hbZ
              have hBc0 := hB.c0
              have hBc1 := hB.c1
              have hBlt := hB.lt
              have hXc0 := hX.c0
              have hXc1 := hX.c1
              have hXlt := hX.lt
              have hYc0 := hY.c0
              have hYc1 := hY.c1
              have hYlt := hY.lt
              have hZc0 := hZ.c0
              have hZc1 := hZ.c1
              have hZlt := hZ.lt
              as_aux_lemma =>
              have tok0 : True := trivial
              go_wp2_with (first
    | (clear tok0; go_at_call 24; refine (hma.out _ (hA.ext (by (repeat (first | exact Below.refl _ _ | assumption | (refine below_gr ?_ (by (first | omega | (simp only [size_grow, World.size_alloc, size_drewN, size_drew, size_setCell] at *; omega))) _) | (refine below_alloc ?_ (by (first | omega | (simp only [size_grow, World.size_alloc, size_drewN, size_drew, size_setCell] at *; omega))) _) | (refine Below.setCell ?_ (by (first | omega | (simp only [size_grow, World.size_alloc, size_drewN, size_drew, size_setCell] at *; omega))) _) | refine below_drewN ?_ _ | refine below_drew ?_ | (refine below_step ?_ (by assumption) (by (first | omega | (simp only [size_grow, World.size_alloc, size_drewN, size_drew, size_setCell] at *; omega))))))))).mono ?_; rintro e u1 ⟨rfl, hb1⟩; replace hb1 := ex_below hb1; have bel1 : Below wg.heap.size wg u1 := (by (repeat (first | exact Below.refl _ _ | assumption | (refine below_gr ?_ (by (first | omega | (simp only [size_grow, World.size_alloc, size_drewN, size_drew, size_setCell] at *; omega))) _) | (refine below_alloc ?_ (by (first | omega | (simp only [size_grow, World.size_alloc, size_drewN, size_drew, size_setCell] at *; omega))) _) | (refine Below.setCell ?_ (by (first | omega | (simp only [size_grow, World.size_alloc, size_drewN, size_drew, size_setCell] at *; omega))) _) | refine below_drewN ?_ _ | refine below_drew ?_ | (refine below_step ?_ (by assumption) (by (first | omega | (simp only [size_grow, World.size_alloc, size_drewN, size_drew, size_setCell] at *; omega))))))); clear hb1; have sz1 := bel1.size; replace hA := hA.ext bel1; replace hPX := hPX.ext bel1; replace hPY := hPY.ext bel1; replace hPZ := hPZ.ext bel1; replace hB := hB.below bel1; replace hX := hX.below bel1; replace hY := hY.below bel1; replace hZ := hZ.below bel1; replace hW := below_step hW bel1 (by have := hW.size; omega); (try clear hBc0 hBc1 hBlt); have hBc0 := hB.c0; have hBc1 := hB.c1; have hBlt := hB.lt; (try clear hXc0 hXc1 hXlt); have hXc0 := hX.c0; have hXc1 := hX.c1; have hXlt := hX.lt; (try clear hYc0 hYc1 hYlt); have hYc0 := hY.c0; have hYc1 := hY.c1; have hYlt := hY.lt; (try clear hZc0 hZc1 hZlt); have hZc0 := hZ.c0; have hZc1 := hZ.c1; have hZlt := hZ.lt; clear bel1; have tok1 : True := trivial)
    | (clear tok1; go_at_call 24; refine (hmx.out _ (hPX.ext (by (repeat (first | exact Below.refl _ _ | assumption | (refine below_gr ?_ (by (first | omega | (simp only [size_grow, World.size_alloc, size_drewN, size_drew, size_setCell] at *; omega))) _) | (refine below_alloc ?_ (by (first | omega | (simp only [size_grow, World.size_alloc, size_drewN, size_drew, size_setCell] at *; omega))) _) | (refine Below.setCell ?_ (by (first | omega | (simp only [size_grow, World.size_alloc, size_drewN, size_drew, size_setCell] at *; omega))) _) | refine below_drewN ?_ _ | refine below_drew ?_ | (refine below_step ?_ (by assumption) (by (first | omega | (simp only [size_grow, World.size_alloc, size_drewN, size_drew, size_setCell] at *; omega))))))))).mono ?_; rintro e u2 ⟨rfl, hb2⟩; replace hb2 := ex_below hb2; have bob2 : Below (u1.alloc (.cells #[.int .i64 s0, .int .i64 f0] 36)).heap.size (u1.alloc (.cells #[.int .i64 s0, .int .i64 f0] 36)) u2 := (by (repeat (first | exact Below.refl _ _ | assumption | (refine below_gr ?_ (by (first | omega | (simp only [size_grow, World.size_alloc, size_drewN, size_drew, size_setCell] at *; omega))) _) | (refine below_alloc ?_ (by (first | omega | (simp only [size_grow, World.size_alloc, size_drewN, size_drew, size_setCell] at *; omega))) _) | (refine Below.setCell ?_ (by (first | omega | (simp only [size_grow, World.size_alloc, size_drewN, size_drew, size_setCell] at *; omega))) _) | refine below_drewN ?_ _ | refine below_drew ?_ | (refine below_step ?_ (by assumption) (by (first | omega | (simp only [size_grow, World.size_alloc, size_drewN, size_drew, size_setCell] at *; omega))))))); have hR1 := (ObjV.new u1 36 (.int .i64 s0) (.int .i64 f0)).below bob2; have bel2 : Below u1.heap.size u1 u2 := (by (repeat (first | exact Below.refl _ _ | assumption | (refine below_gr ?_ (by (first | omega | (simp only [size_grow, World.size_alloc, size_drewN, size_drew, size_setCell] at *; omega))) _) | (refine below_alloc ?_ (by (first | omega | (simp only [size_grow, World.size_alloc, size_drewN, size_drew, size_setCell] at *; omega))) _) | (refine Below.setCell ?_ (by (first | omega | (simp only [size_grow, World.size_alloc, size_drewN, size_drew, size_setCell] at *; omega))) _) | refine below_drewN ?_ _ | refine below_drew ?_ | (refine below_step ?_ (by assumption) (by (first | omega | (simp only [size_grow, World.size_alloc, size_drewN, size_drew, size_setCell] at *; omega))))))); clear bob2; clear hb2; have sz2 := bel2.size; replace hA := hA.ext bel2; replace hPX := hPX.ext bel2; replace hPY := hPY.ext bel2; replace hPZ := hPZ.ext bel2; replace hB := hB.below bel2; replace hX := hX.below bel2; replace hY := hY.below bel2; replace hZ := hZ.below bel2; replace hW := below_step hW bel2 (by have := hW.size; omega); (try clear hBc0 hBc1 hBlt); have hBc0 := hB.c0; have hBc1 := hB.c1; have hBlt := hB.lt; (try clear hXc0 hXc1 hXlt); have hXc0 := hX.c0; have hXc1 := hX.c1; have hXlt := hX.lt; (try clear hYc0 hYc1 hYlt); have hYc0 := hY.c0; have hYc1 := hY.c1; have hYlt := hY.lt; (try clear hZc0 hZc1 hZlt); have hZc0 := hZ.c0; have hZc1 := hZ.c1; have hZlt := hZ.lt; (try clear hR1c0 hR1c1 hR1lt); have hR1c0 := hR1.c0; have hR1c1 := hR1.c1; have hR1lt := hR1.lt; clear bel2; have tok2 : True := trivial)
    | (clear tok2; go_at_call 24; refine (hmy.out _ (hPY.ext (by (repeat (first | exact Below.refl _ _ | assumption | (refine below_gr ?_ (by (first | omega | (simp only [size_grow, World.size_alloc, size_drewN, size_drew, size_setCell] at *; omega))) _) | (refine below_alloc ?_ (by (first | omega | (simp only [size_grow, World.size_alloc, size_drewN, size_drew, size_setCell] at *; omega))) _) | (refine Below.setCell ?_ (by (first | omega | (simp only [size_grow, World.size_alloc, size_drewN, size_drew, size_setCell] at *; omega))) _) | refine below_drewN ?_ _ | refine below_drew ?_ | (refine below_step ?_ (by assumption) (by (first | omega | (simp only [size_grow, World.size_alloc, size_drewN, size_drew, size_setCell] at *; omega))))))))).mono ?_; rintro e u3 ⟨rfl, hb3⟩; replace hb3 := ex_below hb3; have bob3 : Below (u2.alloc (.cells #[.int .i64 s0, .int .i64 fxx] 36)).heap.size (u2.alloc (.cells #[.int .i64 s0, .int .i64 fxx] 36)) u3 := (by (repeat (first | exact Below.refl _ _ | assumption | (refine below_gr ?_ (by (first | omega | (simp only [size_grow, World.size_alloc, size_drewN, size_drew, size_setCell] at *; omega))) _) | (refine below_alloc ?_ (by (first | omega | (simp only [size_grow, World.size_alloc, size_drewN, size_drew, size_setCell] at *; omega))) _) | (refine Below.setCell ?_ (by (first | omega | (simp only [size_grow, World.size_alloc, size_drewN, size_drew, size_setCell] at *; omega))) _) | refine below_drewN ?_ _ | refine below_drew ?_ | (refine below_step ?_ (by assumption) (by (first | omega | (simp only [size_grow, World.size_alloc, size_drewN, size_drew, size_setCell] at *; omega))))))); have hR2 := (ObjV.new u2 36 (.int .i64 s0) (.int .i64 fxx)).below bob3; have bel3 : Below u2.heap.size u2 u3 := (by (repeat (first | exact Below.refl _ _ | assumption | (refine below_gr ?_ (by (first | omega | (simp only [size_grow, World.size_alloc, size_drewN, size_drew, size_setCell] at *; omega))) _) | (refine below_alloc ?_ (by (first | omega | (simp only [size_grow, World.size_alloc, size_drewN, size_drew, size_setCell] at *; omega))) _) | (refine Below.setCell ?_ (by (first | omega | (simp only [size_grow, World.size_alloc, size_drewN, size_drew, size_setCell] at *; omega))) _) | refine below_drewN ?_ _ | refine below_drew ?_ | (refine below_step ?_ (by assumption) (by (first | omega | (simp only [size_grow, World.size_alloc, size_drewN, size_drew, size_setCell] at *; omega))))))); clear bob3; clear hb3; have sz3 := bel3.size; replace hA := hA.ext bel3; replace hPX := hPX.ext bel3; replace hPY := hPY.ext bel3; replace hPZ := hPZ.ext bel3; replace hB := hB.below bel3; replace hX := hX.below bel3; replace hY := hY.below bel3; replace hZ := hZ.below bel3; replace hW := below_step hW bel3 (by have := hW.size; omega); replace hR1 := hR1.below bel3; (try clear hBc0 hBc1 hBlt); have hBc0 := hB.c0; have hBc1 := hB.c1; have hBlt := hB.lt; (try clear hXc0 hXc1 hXlt); have hXc0 := hX.c0; have hXc1 := hX.c1; have hXlt := hX.lt; (try clear hYc0 hYc1 hYlt); have hYc0 := hY.c0; have hYc1 := hY.c1; have hYlt := hY.lt; (try clear hZc0 hZc1 hZlt); have hZc0 := hZ.c0; have hZc1 := hZ.c1; have hZlt := hZ.lt; (try clear hR1c0 hR1c1 hR1lt); have hR1c0 := hR1.c0; have hR1c1 := hR1.c1; have hR1lt := hR1.lt; (try clear hR2c0 hR2c1 hR2lt); have hR2c0 := hR2.c0; have hR2c1 := hR2.c1; have hR2lt := hR2.lt; clear bel3; have tok3 : True := trivial)
    | (clear tok3; go_at_call 24; refine (hmz.out _ (hPZ.ext (by (repeat (first | exact Below.refl _ _ | assumption | (refine below_gr ?_ (by (first | omega | (simp only [size_grow, World.size_alloc, size_drewN, size_drew, size_setCell] at *; omega))) _) | (refine below_alloc ?_ (by (first | omega | (simp only [size_grow, World.size_alloc, size_drewN, size_drew, size_setCell] at *; omega))) _) | (refine Below.setCell ?_ (by (first | omega | (simp only [size_grow, World.size_alloc, size_drewN, size_drew, size_setCell] at *; omega))) _) | refine below_drewN ?_ _ | refine below_drew ?_ | (refine below_step ?_ (by assumption) (by (first | omega | (simp only [size_grow, World.size_alloc, size_drewN, size_drew, size_setCell] at *; omega))))))))).mono ?_; rintro e u4 ⟨rfl, hb4⟩; replace hb4 := ex_below hb4; have bob4 : Below (u3.alloc (.cells #[.int .i64 syy, .int .i64 fyy] 36)).heap.size (u3.alloc (.cells #[.int .i64 syy, .int .i64 fyy] 36)) u4 := (by (repeat (first | exact Below.refl _ _ | assumption | (refine below_gr ?_ (by (first | omega | (simp only [size_grow, World.size_alloc, size_drewN, size_drew, size_setCell] at *; omega))) _) | (refine below_alloc ?_ (by (first | omega | (simp only [size_grow, World.size_alloc, size_drewN, size_drew, size_setCell] at *; omega))) _) | (refine Below.setCell ?_ (by (first | omega | (simp only [size_grow, World.size_alloc, size_drewN, size_drew, size_setCell] at *; omega))) _) | refine below_drewN ?_ _ | refine below_drew ?_ | (refine below_step ?_ (by assumption) (by (first | omega | (simp only [size_grow, World.size_alloc, size_drewN, size_drew, size_setCell] at *; omega))))))); have hR3 := (ObjV.new u3 36 (.int .i64 syy) (.int .i64 fyy)).below bob4; have bel4 : Below u3.heap.size u3 u4 := (by (repeat (first | exact Below.refl _ _ | assumption | (refine below_gr ?_ (by (first | omega | (simp only [size_grow, World.size_alloc, size_drewN, size_drew, size_setCell] at *; omega))) _) | (refine below_alloc ?_ (by (first | omega | (simp only [size_grow, World.size_alloc, size_drewN, size_drew, size_setCell] at *; omega))) _) | (refine Below.setCell ?_ (by (first | omega | (simp only [size_grow, World.size_alloc, size_drewN, size_drew, size_setCell] at *; omega))) _) | refine below_drewN ?_ _ | refine below_drew ?_ | (refine below_step ?_ (by assumption) (by (first | omega | (simp only [size_grow, World.size_alloc, size_drewN, size_drew, size_setCell] at *; omega))))))); clear bob4; clear hb4; have sz4 := bel4.size; replace hA := hA.ext bel4; replace hPX := hPX.ext bel4; replace hPY := hPY.ext bel4; replace hPZ := hPZ.ext bel4; replace hB := hB.below bel4; replace hX := hX.below bel4; replace hY := hY.below bel4; replace hZ := hZ.below bel4; replace hW := below_step hW bel4 (by have := hW.size; omega); replace hR1 := hR1.below bel4; replace hR2 := hR2.below bel4; (try clear hBc0 hBc1 hBlt); have hBc0 := hB.c0; have hBc1 := hB.c1; have hBlt := hB.lt; (try clear hXc0 hXc1 hXlt); have hXc0 := hX.c0; have hXc1 := hX.c1; have hXlt := hX.lt; (try clear hYc0 hYc1 hYlt); have hYc0 := hY.c0; have hYc1 := hY.c1; have hYlt := hY.lt; (try clear hZc0 hZc1 hZlt); have hZc0 := hZ.c0; have hZc1 := hZ.c1; have hZlt := hZ.lt; (try clear hR1c0 hR1c1 hR1lt); have hR1c0 := hR1.c0; have hR1c1 := hR1.c1; have hR1lt := hR1.lt; (try clear hR2c0 hR2c1 hR2lt); have hR2c0 := hR2.c0; have hR2c1 := hR2.c1; have hR2lt := hR2.lt; (try clear hR3c0 hR3c1 hR3lt); have hR3c0 := hR3.c0; have hR3c1 := hR3.c1; have hR3lt := hR3.lt; clear bel4; have tok4 : True := trivial)
    | (clear tok4; go_at_call 17; refine (works_any _).mono ?_; rintro e u5 ⟨rfl, hb5⟩; replace hb5 := ex_below hb5; have bob5 : Below (u4.alloc (.cells #[.int .i64 sz, .int .i64 fzz] 36)).heap.size (u4.alloc (.cells #[.int .i64 sz, .int .i64 fzz] 36)) u5 := (by (repeat (first | exact Below.refl _ _ | assumption | (refine below_gr ?_ (by (first | omega | (simp only [size_grow, World.size_alloc, size_drewN, size_drew, size_setCell] at *; omega))) _) | (refine below_alloc ?_ (by (first | omega | (simp only [size_grow, World.size_alloc, size_drewN, size_drew, size_setCell] at *; omega))) _) | (refine Below.setCell ?_ (by (first | omega | (simp only [size_grow, World.size_alloc, size_drewN, size_drew, size_setCell] at *; omega))) _) | refine below_drewN ?_ _ | refine below_drew ?_ | (refine below_step ?_ (by assumption) (by (first | omega | (simp only [size_grow, World.size_alloc, size_drewN, size_drew, size_setCell] at *; omega))))))); have hR4 := (ObjV.new u4 36 (.int .i64 sz) (.int .i64 fzz)).below bob5; have bel5 : Below u4.heap.size u4 u5 := (by (repeat (first | exact Below.refl _ _ | assumption | (refine below_gr ?_ (by (first | omega | (simp only [size_grow, World.size_alloc, size_drewN, size_drew, size_setCell] at *; omega))) _) | (refine below_alloc ?_ (by (first | omega | (simp only [size_grow, World.size_alloc, size_drewN, size_drew, size_setCell] at *; omega))) _) | (refine Below.setCell ?_ (by (first | omega | (simp only [size_grow, World.size_alloc, size_drewN, size_drew, size_setCell] at *; omega))) _) | refine below_drewN ?_ _ | refine below_drew ?_ | (refine below_step ?_ (by assumption) (by (first | omega | (simp only [size_grow, World.size_alloc, size_drewN, size_drew, size_setCell] at *; omega))))))); clear bob5; clear hb5; have sz5 := bel5.size; replace hA := hA.ext bel5; replace hPX := hPX.ext bel5; replace hPY := hPY.ext bel5; replace hPZ := hPZ.ext bel5; replace hB := hB.below bel5; replace hX := hX.below bel5; replace hY := hY.below bel5; replace hZ := hZ.below bel5; replace hW := below_step hW bel5 (by have := hW.size; omega); replace hR1 := hR1.below bel5; replace hR2 := hR2.below bel5; replace hR3 := hR3.below bel5; (try clear hBc0 hBc1 hBlt); have hBc0 := hB.c0; have hBc1 := hB.c1; have hBlt := hB.lt; (try clear hXc0 hXc1 hXlt); have hXc0 := hX.c0; have hXc1 := hX.c1; have hXlt := hX.lt; (try clear hYc0 hYc1 hYlt); have hYc0 := hY.c0; have hYc1 := hY.c1; have hYlt := hY.lt; (try clear hZc0 hZc1 hZlt); have hZc0 := hZ.c0; have hZc1 := hZ.c1; have hZlt := hZ.lt; (try clear hR1c0 hR1c1 hR1lt); have hR1c0 := hR1.c0; have hR1c1 := hR1.c1; have hR1lt := hR1.lt; (try clear hR2c0 hR2c1 hR2lt); have hR2c0 := hR2.c0; have hR2c1 := hR2.c1; have hR2lt := hR2.lt; (try clear hR3c0 hR3c1 hR3lt); have hR3c0 := hR3.c0; have hR3c1 := hR3.c1; have hR3lt := hR3.lt; (try clear hR4c0 hR4c1 hR4lt); have hR4c0 := hR4.c0; have hR4c1 := hR4.c1; have hR4lt := hR4.lt; clear bel5; have tok5 : True := trivial))
              go_ret
              exact gives_of (rfl) (by (repeat (first | exact Below.refl _ _ | assumption | (refine below_gr ?_ (by (first | omega | (simp only [size_grow, World.size_alloc, size_drewN, size_drew, size_setCell] at *; omega))) _) | (refine below_alloc ?_ (by (first | omega | (simp only [size_grow, World.size_alloc, size_drewN, size_drew, size_setCell] at *; omega))) _) | (refine Below.setCell ?_ (by (first | omega | (simp only [size_grow, World.size_alloc, size_drewN, size_drew, size_setCell] at *; omega))) _) | refine below_drewN ?_ _ | refine below_drew ?_ | (refine below_step ?_ (by assumption) (by (first | omega | (simp only [size_grow, World.size_alloc, size_drewN, size_drew, size_setCell] at *; omega)))))))
set_option maxRecDepth 100000 in
set_option maxHeartbeats 400000 in
theorem sooner_any (m : Int) (A : Option Addr) (ps : List P3) (c : Nat) (w : World) (hA : Ppl w A ps) (hcap : ps.length ≤ c) (hcm : c ≤ 9223372036854775807) (y z v : Int) (hy : 0 ≤ y ∧ y ≤ 255) (hz : 0 ≤ z ∧ z ≤ 255) (hv : 0 ≤ v ∧ v ≤ 255) :
    Calls Try.prog 10 #[.agg #[.int .i64 m, .slice A ps.length c], .int .u8 y, .int .u8 z, .int .u8 v] w (Gives w (.bool true)) := by
  by_cases hfine : ps.length ≤ 40 ∧ checkHall m ps = 0
  · by_cases hl0 : ps.length = 0
    · have hfi := hide (fun W hW => by have := fine_all m A ps c W hW; rw [decide_eq_true hfine] at this; exact this : ∀ W, Ppl W A ps → Calls Try.prog 37 #[.agg #[.int .i64 m, .slice A ps.length c]] W (Gives W (.bool true)))
      have he : ((ps.length : Int) == 0) = true := by rw [hl0]; rfl
      have hen : ps.isEmpty = true := by cases ps; rfl; simp at hl0
      have HL0 := hide hl0
      clear hl0 hfine
      go_enter Try.func10, Try.ntmps10
      go_wp2_with (first
        | (go_at_call 37; refine (hfi.out _ (hA.ext (by (repeat (first | exact Below.refl _ _ | assumption | (refine below_gr ?_ (by (first | omega | (simp only [size_grow, World.size_alloc, size_drewN, size_drew, size_setCell] at *; omega))) _) | (refine below_alloc ?_ (by (first | omega | (simp only [size_grow, World.size_alloc, size_drewN, size_drew, size_setCell] at *; omega))) _) | (refine Below.setCell ?_ (by (first | omega | (simp only [size_grow, World.size_alloc, size_drewN, size_drew, size_setCell] at *; omega))) _) | refine below_drewN ?_ _ | refine below_drew ?_ | (refine below_step ?_ (by assumption) (by (first | omega | (simp only [size_grow, World.size_alloc, size_drewN, size_drew, size_setCell] at *; omega))))))))).mono ?_; rintro e w1 ⟨rfl, hb1⟩; replace hb1 := ex_below hb1; have hz1 := hb1.size; (try simp only [size_grow, World.size_alloc, size_drewN, size_drew, size_setCell] at hz1); have hs1 : w.heap.size < w1.heap.size := (by (first | omega | (simp only [size_grow, World.size_alloc, size_drewN, size_drew, size_setCell] at *; omega))); have ho1 := own_cell hb1 (b := w.heap.size) (by (first | omega | (simp only [size_grow, World.size_alloc, size_drewN, size_drew, size_setCell] at *; omega))); have hq1 := own_frozen hb1 (b := w.heap.size) (by (first | omega | (simp only [size_grow, World.size_alloc, size_drewN, size_drew, size_setCell] at *; omega))); have hlt1 : ∀ b, b < w.heap.size → b < w1.heap.size := fun b hb => (by (first | omega | (simp only [size_grow, World.size_alloc, size_drewN, size_drew, size_setCell] at *; omega))); have hc1 : ∀ b o, b < w.heap.size → w1.cell? ⟨b, o, none⟩ = w.cell? ⟨b, o, none⟩ := old_cell (by (repeat (first | exact Below.refl _ _ | assumption | (refine below_gr ?_ (by (first | omega | (simp only [size_grow, World.size_alloc, size_drewN, size_drew, size_setCell] at *; omega))) _) | (refine below_alloc ?_ (by (first | omega | (simp only [size_grow, World.size_alloc, size_drewN, size_drew, size_setCell] at *; omega))) _) | (refine Below.setCell ?_ (by (first | omega | (simp only [size_grow, World.size_alloc, size_drewN, size_drew, size_setCell] at *; omega))) _) | refine below_drewN ?_ _ | refine below_drew ?_ | (refine below_step ?_ (by assumption) (by (first | omega | (simp only [size_grow, World.size_alloc, size_drewN, size_drew, size_setCell] at *; omega))))))))
        | (go_at_call 17; refine (works_any _).mono ?_; rintro e w9 ⟨rfl, hb1⟩; replace hb1 := ex_below hb1; have hz1 := hb1.size; (try simp only [size_grow, World.size_alloc, size_drewN, size_drew, size_setCell] at hz1); have hs1 : w.heap.size < w9.heap.size := (by (first | omega | (simp only [size_grow, World.size_alloc, size_drewN, size_drew, size_setCell] at *; omega))); have ho1 := own_cell hb1 (b := w.heap.size) (by (first | omega | (simp only [size_grow, World.size_alloc, size_drewN, size_drew, size_setCell] at *; omega))); have hq1 := own_frozen hb1 (b := w.heap.size) (by (first | omega | (simp only [size_grow, World.size_alloc, size_drewN, size_drew, size_setCell] at *; omega))); have hlt1 : ∀ b, b < w.heap.size → b < w9.heap.size := fun b hb => (by (first | omega | (simp only [size_grow, World.size_alloc, size_drewN, size_drew, size_setCell] at *; omega))); have hc1 : ∀ b o, b < w.heap.size → w9.cell? ⟨b, o, none⟩ = w.cell? ⟨b, o, none⟩ := old_cell (by (repeat (first | exact Below.refl _ _ | assumption | (refine below_gr ?_ (by (first | omega | (simp only [size_grow, World.size_alloc, size_drewN, size_drew, size_setCell] at *; omega))) _) | (refine below_alloc ?_ (by (first | omega | (simp only [size_grow, World.size_alloc, size_drewN, size_drew, size_setCell] at *; omega))) _) | (refine Below.setCell ?_ (by (first | omega | (simp only [size_grow, World.size_alloc, size_drewN, size_drew, size_setCell] at *; omega))) _) | refine below_drewN ?_ _ | refine below_drew ?_ | (refine below_step ?_ (by assumption) (by (first | omega | (simp only [size_grow, World.size_alloc, size_drewN, size_drew, size_setCell] at *; omega)))))))))
      go_ret
      exact gives_of (rfl) (by (repeat (first | exact Below.refl _ _ | assumption | (refine below_gr ?_ (by (first | omega | (simp only [size_grow, World.size_alloc, size_drewN, size_drew, size_setCell] at *; omega))) _) | (refine below_alloc ?_ (by (first | omega | (simp only [size_grow, World.size_alloc, size_drewN, size_drew, size_setCell] at *; omega))) _) | (refine Below.setCell ?_ (by (first | omega | (simp only [size_grow, World.size_alloc, size_drewN, size_drew, size_setCell] at *; omega))) _) | refine below_drewN ?_ _ | refine below_drew ?_ | (refine below_step ?_ (by assumption) (by (first | omega | (simp only [size_grow, World.size_alloc, size_drewN, size_drew, size_setCell] at *; omega)))))))
    · have hlp : (0 : Int) < ps.length := by omega
      have h1 := Int.emod_nonneg y (show (ps.length : Int) ≠ 0 by omega)
      have h2 := Int.emod_lt_of_pos y hlp
      exact sooner_walk m A ps c w hA hfine hcap hcm (y % (ps.length : Int)).toNat (by omega) y z v hy hz hv (by omega)
  · have hfi := hide (fun W hW => by have := fine_all m A ps c W hW; rw [decide_eq_false hfine] at this; exact this : ∀ W, Ppl W A ps → Calls Try.prog 37 #[.agg #[.int .i64 m, .slice A ps.length c]] W (Gives W (.bool false)))
    go_enter Try.func10, Try.ntmps10
    go_wp2_with (first
      | (go_at_call 37; refine (hfi.out _ (hA.ext (by (repeat (first | exact Below.refl _ _ | assumption | (refine below_gr ?_ (by (first | omega | (simp only [size_grow, World.size_alloc, size_drewN, size_drew, size_setCell] at *; omega))) _) | (refine below_alloc ?_ (by (first | omega | (simp only [size_grow, World.size_alloc, size_drewN, size_drew, size_setCell] at *; omega))) _) | (refine Below.setCell ?_ (by (first | omega | (simp only [size_grow, World.size_alloc, size_drewN, size_drew, size_setCell] at *; omega))) _) | refine below_drewN ?_ _ | refine below_drew ?_ | (refine below_step ?_ (by assumption) (by (first | omega | (simp only [size_grow, World.size_alloc, size_drewN, size_drew, size_setCell] at *; omega))))))))).mono ?_; rintro e w1 ⟨rfl, hb1⟩; replace hb1 := ex_below hb1; have hz1 := hb1.size; (try simp only [size_grow, World.size_alloc, size_drewN, size_drew, size_setCell] at hz1); have hs1 : w.heap.size < w1.heap.size := (by (first | omega | (simp only [size_grow, World.size_alloc, size_drewN, size_drew, size_setCell] at *; omega))); have ho1 := own_cell hb1 (b := w.heap.size) (by (first | omega | (simp only [size_grow, World.size_alloc, size_drewN, size_drew, size_setCell] at *; omega))); have hq1 := own_frozen hb1 (b := w.heap.size) (by (first | omega | (simp only [size_grow, World.size_alloc, size_drewN, size_drew, size_setCell] at *; omega))); have hlt1 : ∀ b, b < w.heap.size → b < w1.heap.size := fun b hb => (by (first | omega | (simp only [size_grow, World.size_alloc, size_drewN, size_drew, size_setCell] at *; omega))); have hc1 : ∀ b o, b < w.heap.size → w1.cell? ⟨b, o, none⟩ = w.cell? ⟨b, o, none⟩ := old_cell (by (repeat (first | exact Below.refl _ _ | assumption | (refine below_gr ?_ (by (first | omega | (simp only [size_grow, World.size_alloc, size_drewN, size_drew, size_setCell] at *; omega))) _) | (refine below_alloc ?_ (by (first | omega | (simp only [size_grow, World.size_alloc, size_drewN, size_drew, size_setCell] at *; omega))) _) | (refine Below.setCell ?_ (by (first | omega | (simp only [size_grow, World.size_alloc, size_drewN, size_drew, size_setCell] at *; omega))) _) | refine below_drewN ?_ _ | refine below_drew ?_ | (refine below_step ?_ (by assumption) (by (first | omega | (simp only [size_grow, World.size_alloc, size_drewN, size_drew, size_setCell] at *; omega))))))))
      | (go_at_call 17; refine (works_any _).mono ?_; rintro e w9 ⟨rfl, hb1⟩; replace hb1 := ex_below hb1; have hz1 := hb1.size; (try simp only [size_grow, World.size_alloc, size_drewN, size_drew, size_setCell] at hz1); have hs1 : w.heap.size < w9.heap.size := (by (first | omega | (simp only [size_grow, World.size_alloc, size_drewN, size_drew, size_setCell] at *; omega))); have ho1 := own_cell hb1 (b := w.heap.size) (by (first | omega | (simp only [size_grow, World.size_alloc, size_drewN, size_drew, size_setCell] at *; omega))); have hq1 := own_frozen hb1 (b := w.heap.size) (by (first | omega | (simp only [size_grow, World.size_alloc, size_drewN, size_drew, size_setCell] at *; omega))); have hlt1 : ∀ b, b < w.heap.size → b < w9.heap.size := fun b hb => (by (first | omega | (simp only [size_grow, World.size_alloc, size_drewN, size_drew, size_setCell] at *; omega))); have hc1 : ∀ b o, b < w.heap.size → w9.cell? ⟨b, o, none⟩ = w.cell? ⟨b, o, none⟩ := old_cell (by (repeat (first | exact Below.refl _ _ | assumption | (refine below_gr ?_ (by (first | omega | (simp only [size_grow, World.size_alloc, size_drewN, size_drew, size_setCell] at *; omega))) _) | (refine below_alloc ?_ (by (first | omega | (simp only [size_grow, World.size_alloc, size_drewN, size_drew, size_setCell] at *; omega))) _) | (refine Below.setCell ?_ (by (first | omega | (simp only [size_grow, World.size_alloc, size_drewN, size_drew, size_setCell] at *; omega))) _) | refine below_drewN ?_ _ | refine below_drew ?_ | (refine below_step ?_ (by assumption) (by (first | omega | (simp only [size_grow, World.size_alloc, size_drewN, size_drew, size_setCell] at *; omega)))))))))
    go_ret
    exact gives_of (rfl) (by (repeat (first | exact Below.refl _ _ | assumption | (refine below_gr ?_ (by (first | omega | (simp only [size_grow, World.size_alloc, size_drewN, size_drew, size_setCell] at *; omega))) _) | (refine below_alloc ?_ (by (first | omega | (simp only [size_grow, World.size_alloc, size_drewN, size_drew, size_setCell] at *; omega))) _) | (refine Below.setCell ?_ (by (first | omega | (simp only [size_grow, World.size_alloc, size_drewN, size_drew, size_setCell] at *; omega))) _) | refine below_drewN ?_ _ | refine below_drew ?_ | (refine below_step ?_ (by assumption) (by (first | omega | (simp only [size_grow, World.size_alloc, size_drewN, size_drew, size_setCell] at *; omega)))))))
end Go.Proofs.Ytbfhkknpocbeaaa
