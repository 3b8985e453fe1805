/- Proved here: contracts and laws of C38, a part of the proofs about the crowd laws: what some functions of the program and of the reference compute, and plain facts about it. Conditions: those that each theorem names, no others. -/
import Derived.Test.YtbfhkknpocbeaaaC35
import Derived.WalkKit
import Derived.WalkSpells
import Derived.WalkLawsBesides
import Derived.Below
import Derived.Deep.QuietTactic
import Derived.BigQuiet
import Derived.Deep.Light
import Derived.Deep.RegionHeld3
import Derived.Deep.DeepCutAuto
import Derived.Test.YtbfhkknpocbeaaaC5
set_option linter.unusedSimpArgs false
set_option linter.unusedVariables false
namespace Go.Proofs.Ytbfhkknpocbeaaa
open Go.RowKit
theorem andP_snoc (ps : List P3) (t : Int) (j : Nat) : (andP ps t (j + 1)).flatMap P3.cells = (andP ps t j).flatMap P3.cells ++ [.int .i64 t, .int .i64 t, .int .i64 t] := by
  unfold andP
  rw [List.replicate_succ', ← List.append_assoc, List.flatMap_append]; rfl
theorem andP_len (ps : List P3) (t : Int) (j : Nat) : (andP ps t j).length = ps.length + j := by simp [andP]
set_option maxRecDepth 100000 in
set_option maxHeartbeats 1000000 in
theorem and_any (t : Int) (n : Nat) (m : Int) (A : Option Addr) (ps : List P3) (c : Nat) (w : World) (hA : Ppl w A ps) (hl : ps.length ≤ 100) (hn : n ≤ 100) :
    Calls Try.prog 45 #[.agg #[.int .i64 m, .slice A ps.length c], .int .i64 t, .int .i64 n] w (GivesHall w m (andP ps t n)) := by
  obtain ⟨i0, hi0, hz0, hz1, hz2⟩ := info_parts infoP
  go_enter Try.func45, Try.ntmps45
  have n1 : w.heap.size + 1 ≠ w.heap.size := by omega
  have n2 : w.heap.size + 1 + 1 ≠ w.heap.size := by omega
  have n3 : w.heap.size + 1 + 1 + 1 ≠ w.heap.size := by omega
  go_upto_region 1 with fail
  go_cut [7] (fun s7 wx => ∃ (blk : Nat) (A2 : Option Addr) (c2 : Nat), s7 = .pointer (some ⟨blk, 0, none⟩) ∧ wx.heap[blk]? = some (.cells #[.int .i64 m, .slice A2 ps.length c2] 24 (0, 0)) ∧ w.heap.size + 2 ≤ blk ∧ wx.ownsRow (w.heap.size + 2) 57 3 (.slice A2 ps.length c2) ps.length (ps.flatMap P3.cells) ∧ Below (w.heap.size + 2) ((w.alloc (Obj.cells #[Value.int IntKind.i64 m, Value.slice A ps.length c] 24)).alloc (.cells #[.int .i64 0, .slice none 0 0] 24)) wx)
  case first =>
    go_region_held3 (fun w' => w'.cell? ⟨w.heap.size, 0, none⟩ = some (.int .i64 m) ∧ w'.cell? ⟨w.heap.size, 1, none⟩ = some (.slice A ps.length c)) (go_keep) (first
      | (refine step_app _ rfl (.tmp 11) (.tmp 13) 22 rfl (w.heap.size + 2) 57 i0 _ 3 24 Try.underlying22 hi0 hz0 hz1 hz2 rfl (by decide) _ 0 [] rfl ?own A ps.length c (ps.flatMap P3.cells) rfl ?rd ?one ?b1 ?b2 ?b3 ?_
         case own =>
           first
             | (refine own_lit0 (blk := w.heap.size + 1 + 1) ?_ (by omega)
                (try rw [heap_drew])
                first
                  | exact heap_new' _ _ _ (by simp)
                  | exact (heap_old' _ _ _ (by simp)).trans (heap_new' _ _ _ (by simp)))
             | (refine own_lit0 (blk := w.heap.size + 1 + 1 + 1) ?_ (by omega)
                (try rw [heap_drew])
                exact heap_new' _ _ _ (by simp))
         case rd => exact (ppl_rd hA).ext (by (repeat (first | exact Below.refl _ _ | assumption | (refine below_gr ?_ (by (first | omega | (simp only [size_grow, World.size_alloc, size_drewN, size_drew, size_setCell] at *; omega))) _) | (refine below_alloc ?_ (by (first | omega | (simp only [size_grow, World.size_alloc, size_drewN, size_drew, size_setCell] at *; omega))) _) | (refine Below.setCell ?_ (by (first | omega | (simp only [size_grow, World.size_alloc, size_drewN, size_drew, size_setCell] at *; omega))) _) | refine below_drewN ?_ _ | refine below_drew ?_ | (refine below_step ?_ (by assumption) (by (first | omega | (simp only [size_grow, World.size_alloc, size_drewN, size_drew, size_setCell] at *; omega)))))))
         case one => exact one_flat ps
         case b1 => unfold maxLen; omega
         case b2 => omega
         case b3 => (first | omega | (simp only [size_grow, World.size_alloc, size_drewN, size_drew, size_setCell]; omega) | (simp only [size_grow, World.size_alloc, size_drewN, size_drew, size_setCell] at *; omega) | (simp; done) | (simp; omega))
         intro A2 c2 w2 hown2 hgr2
         simp only [Nat.zero_add, List.nil_append] at hown2
         change World.grownBy _ w2 (some _) at hgr2
         (try dsimp only at hgr2)
         have hg2 := gb_cell hgr2 w.heap.size (by (first | omega | (simp only [size_grow, World.size_alloc, size_drewN, size_drew, size_setCell]; omega) | (simp only [size_grow, World.size_alloc, size_drewN, size_drew, size_setCell] at *; omega) | (simp; done) | (simp; omega))) (fun k hk => by have hk' := Option.some.inj hk; (try dsimp only at hk'); omega)
         have hg3 := gb_cellR hgr2
         have hq3 := gb_frozenR hgr2
         have hz3 := hgr2.size
         (try simp only [World.size_alloc, size_drew, size_drewN] at hz3)
         have n4 : w2.heap.size ≠ w.heap.size := by omega
         have hb2 : Below (w.heap.size + 2) ((w.alloc (Obj.cells #[Value.int IntKind.i64 m, Value.slice A ps.length c] 24)).alloc (.cells #[.int .i64 0, .slice none 0 0] 24)) w2 := gb_below (by (repeat (first | exact Below.refl _ _ | assumption | (refine below_gr ?_ (by (first | omega | (simp only [size_grow, World.size_alloc, size_drewN, size_drew, size_setCell] at *; omega))) _) | (refine below_alloc ?_ (by (first | omega | (simp only [size_grow, World.size_alloc, size_drewN, size_drew, size_setCell] at *; omega))) _) | (refine Below.setCell ?_ (by (first | omega | (simp only [size_grow, World.size_alloc, size_drewN, size_drew, size_setCell] at *; omega))) _) | refine below_drewN ?_ _ | refine below_drew ?_ | (refine below_step ?_ (by assumption) (by (first | omega | (simp only [size_grow, World.size_alloc, size_drewN, size_drew, size_setCell] at *; omega))))))) hgr2 (by (first | omega | (simp only [size_grow, World.size_alloc, size_drewN, size_drew, size_setCell]; omega) | (simp only [size_grow, World.size_alloc, size_drewN, size_drew, size_setCell] at *; omega) | (simp; done) | (simp; omega))) (fun k hk => by have hk' := Option.some.inj hk; (try dsimp only at hk'); omega)))
    · go_wp2_with fail
      go_meet
      exact ⟨_, A2, c2, rfl, heap_new' _ _ _ rfl, by (first | omega | (simp only [size_grow, World.size_alloc, size_drewN, size_drew, size_setCell]; omega) | (simp only [size_grow, World.size_alloc, size_drewN, size_drew, size_setCell] at *; omega) | (simp; done) | (simp; omega)), hown2.alloc _, by (repeat (first | exact Below.refl _ _ | assumption | (refine below_gr ?_ (by (first | omega | (simp only [size_grow, World.size_alloc, size_drewN, size_drew, size_setCell] at *; omega))) _) | (refine below_alloc ?_ (by (first | omega | (simp only [size_grow, World.size_alloc, size_drewN, size_drew, size_setCell] at *; omega))) _) | (refine Below.setCell ?_ (by (first | omega | (simp only [size_grow, World.size_alloc, size_drewN, size_drew, size_setCell] at *; omega))) _) | refine below_drewN ?_ _ | refine below_drew ?_ | (refine below_step ?_ (by assumption) (by (first | omega | (simp only [size_grow, World.size_alloc, size_drewN, size_drew, size_setCell] at *; omega))))))⟩
    · go_wp2_with fail
      go_meet
      have hh : w2.heap[w.heap.size + 1 + 1 + 1]? = some (.cells #[.int .i64 0, .slice none 0 0] 24 (0, 0)) := by
        rw [hgr2.block _ (by (first | omega | (simp only [size_grow, World.size_alloc, size_drewN, size_drew, size_setCell]; omega) | (simp only [size_grow, World.size_alloc, size_drewN, size_drew, size_setCell] at *; omega) | (simp; done) | (simp; omega))) (by simp)]; exact heap_new' _ _ _ (by simp)
      exact ⟨_, A2, c2, rfl, set_two hh, by (first | omega | (simp only [size_grow, World.size_alloc, size_drewN, size_drew, size_setCell]; omega) | (simp only [size_grow, World.size_alloc, size_drewN, size_drew, size_setCell] at *; omega) | (simp; done) | (simp; omega)), own_far2 hown2 hh (by decide), by (repeat (first | exact Below.refl _ _ | assumption | (refine below_gr ?_ (by (first | omega | (simp only [size_grow, World.size_alloc, size_drewN, size_drew, size_setCell] at *; omega))) _) | (refine below_alloc ?_ (by (first | omega | (simp only [size_grow, World.size_alloc, size_drewN, size_drew, size_setCell] at *; omega))) _) | (refine Below.setCell ?_ (by (first | omega | (simp only [size_grow, World.size_alloc, size_drewN, size_drew, size_setCell] at *; omega))) _) | refine below_drewN ?_ _ | refine below_drew ?_ | (refine below_step ?_ (by assumption) (by (first | omega | (simp only [size_grow, World.size_alloc, size_drewN, size_drew, size_setCell] at *; omega))))))⟩
    · go_wp2_with fail
      go_meet
      have hh : w2.heap[w.heap.size + 1 + 1]? = some (.cells #[.int .i64 0, .slice none 0 0] 24 (0, 0)) := by
        rw [hgr2.block _ (by (first | omega | (simp only [size_grow, World.size_alloc, size_drewN, size_drew, size_setCell]; omega) | (simp only [size_grow, World.size_alloc, size_drewN, size_drew, size_setCell] at *; omega) | (simp; done) | (simp; omega))) (by simp)]
        exact (heap_old' _ _ _ (by (first | omega | (simp only [size_grow, World.size_alloc, size_drewN, size_drew, size_setCell]; omega) | (simp only [size_grow, World.size_alloc, size_drewN, size_drew, size_setCell] at *; omega) | (simp; done) | (simp; omega)))).trans (heap_new' _ _ _ (by simp))
      exact ⟨_, A2, c2, rfl, set_two hh, by (first | omega | (simp only [size_grow, World.size_alloc, size_drewN, size_drew, size_setCell]; omega) | (simp only [size_grow, World.size_alloc, size_drewN, size_drew, size_setCell] at *; omega) | (simp; done) | (simp; omega)), own_far2 hown2 hh (by decide), by (repeat (first | exact Below.refl _ _ | assumption | (refine below_gr ?_ (by (first | omega | (simp only [size_grow, World.size_alloc, size_drewN, size_drew, size_setCell] at *; omega))) _) | (refine below_alloc ?_ (by (first | omega | (simp only [size_grow, World.size_alloc, size_drewN, size_drew, size_setCell] at *; omega))) _) | (refine Below.setCell ?_ (by (first | omega | (simp only [size_grow, World.size_alloc, size_drewN, size_drew, size_setCell] at *; omega))) _) | refine below_drewN ?_ _ | refine below_drew ?_ | (refine below_step ?_ (by assumption) (by (first | omega | (simp only [size_grow, World.size_alloc, size_drewN, size_drew, size_setCell] at *; omega))))))⟩
  case rest =>
    obtain ⟨blk, A2, c2, rfl, hB, hge, hown, hb⟩ := hcut
    have hbz := hb.size
    (try simp only [World.size_alloc] at hbz)
    go_wp2
    go_loopw [8] (fun i wr => ∃ (j : Nat) (A' : Option Addr) (c' : Nat), j ≤ n ∧ i = .int .i64 j ∧ Below (w.heap.size + 2) ((w.alloc (Obj.cells #[Value.int IntKind.i64 m, Value.slice A ps.length c] 24)).alloc (.cells #[.int .i64 0, .slice none 0 0] 24)) wr ∧ wr.heap[blk]? = some (.cells #[.int .i64 m, .slice A' (ps.length + j) c'] 24 (0, 0)) ∧
      wr.ownsRow (w.heap.size + 2) 57 3 (.slice A' (ps.length + j) c') (ps.length + j) ((andP ps t j).flatMap P3.cells)) (fun i _ => n - (intOf i).toNat)
    case atStart => exact ⟨0, A2, c2, Nat.zero_le _, rfl, hb, hB, by simpa [andP] using hown⟩
    case round =>
      clear hb hB hown hbz
      obtain ⟨j, A', c', hj, rfl, hb, hB, hown⟩ := hrel
      have hbz := hb.size
      (try simp only [World.size_alloc] at hbz)
      have hzr := hb.size
      (try simp only [size_grow, World.size_alloc, size_drewN, size_drew, size_setCell] at hzr)
      have hsr : w.heap.size < wr.heap.size := (by (first | omega | (simp only [size_grow, World.size_alloc, size_drewN, size_drew, size_setCell] at *; omega)))
      have hor := own_cell hb (b := w.heap.size) (by (first | omega | (simp only [size_grow, World.size_alloc, size_drewN, size_drew, size_setCell] at *; omega)))
      have hqr := own_frozen hb (b := w.heap.size) (by (first | omega | (simp only [size_grow, World.size_alloc, size_drewN, size_drew, size_setCell] at *; omega)))
      have hsr : w.heap.size + 1 < wr.heap.size := (by (first | omega | (simp only [size_grow, World.size_alloc, size_drewN, size_drew, size_setCell] at *; omega)))
      have hor := own_cell hb (b := w.heap.size + 1) (by (first | omega | (simp only [size_grow, World.size_alloc, size_drewN, size_drew, size_setCell] at *; omega)))
      have hqr := own_frozen hb (b := w.heap.size + 1) (by (first | omega | (simp only [size_grow, World.size_alloc, size_drewN, size_drew, size_setCell] at *; omega)))
      have hltr : ∀ b, b < w.heap.size → b < wr.heap.size := fun b hb => (by (first | omega | (simp only [size_grow, World.size_alloc, size_drewN, size_drew, size_setCell] at *; omega)))
      have hcr : ∀ b o, b < w.heap.size → wr.cell? ⟨b, o, none⟩ = w.cell? ⟨b, o, none⟩ := old_cell (by (repeat (first | exact Below.refl _ _ | assumption | (refine below_gr ?_ (by (first | omega | (simp only [size_grow, World.size_alloc, size_drewN, size_drew, size_setCell] at *; omega))) _) | (refine below_alloc ?_ (by (first | omega | (simp only [size_grow, World.size_alloc, size_drewN, size_drew, size_setCell] at *; omega))) _) | (refine Below.setCell ?_ (by (first | omega | (simp only [size_grow, World.size_alloc, size_drewN, size_drew, size_setCell] at *; omega))) _) | refine below_drewN ?_ _ | refine below_drew ?_ | (refine below_step ?_ (by assumption) (by (first | omega | (simp only [size_grow, World.size_alloc, size_drewN, size_drew, size_setCell] at *; omega)))))))
      have hblt : blk < wr.heap.size := (Array.getElem?_eq_some_iff.1 hB).1
      have k0 : wr.cell? ⟨blk, 0, none⟩ = some (.int .i64 m) := by simp [World.cell?, hB]
      have k1 : wr.cell? ⟨blk, 1, none⟩ = some (.slice A' (ps.length + j) c') := by simp [World.cell?, hB]
      have kf : ∀ o, wr.frozen? ⟨blk, o, none⟩ = false := fun o => by simp [World.frozen?, hB]
      by_cases hlt : j < n
      · go_wp2_with (at_builtin; refine wpList_append_own _ rfl (.tmp 22) (.tmp 28) 22 rfl (w.heap.size + 2) 57 i0 _ 3 24 Try.underlying22 hi0 hz0 hz1 hz2 rfl (by decide) _ (ps.length + j) _ rfl (hown.alloc _) ⟨wr.heap.size, 0, none⟩ 1 1 [.int .i64 t, .int .i64 t, .int .i64 t] rfl rfl ?c1 ?c2 ?c3 ?c4 ?c5 ?_)
        case c1 => exact cells_new wr [.int .i64 t, .int .i64 t, .int .i64 t] _ _ (by simp)
        case c2 => simp [Value.oneCell']
        case c3 => unfold maxLen; omega
        case c4 => omega
        case c5 => simp; omega
        intro v' w' hown' hgr' _
        obtain ⟨A3, c3, rfl⟩ := own_form hown'
        have hge2 := own_ge hown
        have hrow : ∀ k, (Value.slice A' (ps.length + j) c').ownBlock = some k → blk ≠ k := fun k hk e => by
          subst e
          obtain ⟨g, cap, cur, hv, _, hgh, _⟩ := hown.2.resolve_left (by rintro ⟨hv, _⟩; rw [hv] at hk; cases hk)
          rw [hv] at hk
          have hkg : g = blk := Option.some.inj hk
          subst hkg
          rw [hB] at hgh
          injection hgh with hgh
          injection hgh with _ ht _
          exact absurd ht (by decide)
        have hb2 := gb_below (below_alloc hb (by omega) _) hgr' (by simp; omega) (fun k hk => by have := hge2 k hk; omega)
        have hB2 : w'.heap[blk]? = some (.cells #[.int .i64 m, .slice A' (ps.length + j) c'] 24 (0, 0)) := by
          rw [hgr'.block blk (by simp; omega) (fun h => hrow blk h.symm rfl)]
          exact (Below.heap_alloc _ _ _ hblt).trans hB
        have e0 : w'.cell? ⟨blk, 0, none⟩ = some (.int .i64 m) := by simp [World.cell?, hB2]
        have e1 : w'.cell? ⟨blk, 1, none⟩ = some (.slice A' (ps.length + j) c') := by simp [World.cell?, hB2]
        have ef : ∀ o, w'.frozen? ⟨blk, o, none⟩ = false := fun o => by simp [World.frozen?, hB2]
        rw [← andP_snoc] at hown'
        clear hgr' hge2 hown hrow
        go_wp2
        exact ⟨⟨j + 1, A3, c3, by omega, by go_num, Below.setCell (p := ⟨blk, 1, none⟩) hb2 hge _, heap_setCell_same _ blk 1 _ _ _ hB2, own_far hown' hB2 (by decide) 1 _⟩, by simp [intOf]; omega⟩
      · have hjn : j = n := by omega
        subst hjn
        go_wp2
        refine bodyPost_ret (v := .agg #[.int .i64 m, .slice A' (ps.length + j) c']) (by simp [results, Try.results45, go_sem, hor, hsr, hqr]) rfl ⟨A', c', by simp [andP_len], below_grow (by (repeat (first | exact Below.refl _ _ | assumption | (refine below_gr ?_ (by (first | omega | (simp only [size_grow, World.size_alloc, size_drewN, size_drew, size_setCell] at *; omega))) _) | (refine below_alloc ?_ (by (first | omega | (simp only [size_grow, World.size_alloc, size_drewN, size_drew, size_setCell] at *; omega))) _) | (refine Below.setCell ?_ (by (first | omega | (simp only [size_grow, World.size_alloc, size_drewN, size_drew, size_setCell] at *; omega))) _) | refine below_drewN ?_ _ | refine below_drew ?_ | (refine below_step ?_ (by assumption) (by (first | omega | (simp only [size_grow, World.size_alloc, size_drewN, size_drew, size_setCell] at *; omega))))))), ?_⟩
        have hx := ownsRow_setCell_below (ownsRow_setCell_below hown (a := ⟨w.heap.size + 1, 0, none⟩) (by simp) (.int .i64 m)) (a := ⟨w.heap.size + 1, 1, none⟩) (by simp) (.slice A' (ps.length + j) c')
        exact own_ppl (ps := andP ps t j) (by rw [andP_len]; exact hx)
end Go.Proofs.Ytbfhkknpocbeaaa
