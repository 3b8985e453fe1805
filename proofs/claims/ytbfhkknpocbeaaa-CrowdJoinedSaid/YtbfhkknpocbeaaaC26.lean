/- Proved here: contracts and laws of C26, a part of the proofs about the crowd laws: what some functions of the program and of the reference compute, and plain facts about it. Conditions: those that each theorem names, no others. -/
import Derived.Test.YtbfhkknpocbeaaaC25
import Derived.WalkKit
import Derived.WalkSpells
import Derived.WalkLawsBesides
import Derived.Below
import Derived.Deep.QuietTactic
import Derived.BigQuiet
import Derived.Deep.Light

set_option linter.unusedSimpArgs false
set_option linter.unusedVariables false
namespace Go.Proofs.Ytbfhkknpocbeaaa
open Go.RowKit
def hallPs : List P3 := [⟨1, 2, 3⟩, ⟨1, 3, 3⟩, ⟨2, 2, 3⟩, ⟨4, 5, 4⟩, ⟨3, 3, 2⟩]
set_option maxRecDepth 100000 in
set_option maxHeartbeats 1000000 in
theorem hall_any (w : World) : Calls Try.prog 47 #[] w (GivesHall w 5 hallPs) := by
  go_enter Try.func47, Try.ntmps47
  go_wp2_with (go_at_call 46; refine (person_any _ _ _ _).mono ?_; rintro e w1 ⟨rfl, hb1⟩; replace hb1 := ex_below hb1; have hz1 := hb1.size; (try simp only [size_grow, World.size_alloc, size_drewN, size_drew, size_setCell] at hz1); have hs1 : w.heap.size < w1.heap.size := (by (first | omega | (simp only [size_grow, World.size_alloc, size_drewN, size_drew, size_setCell] at *; omega))); have ho1 := own_cell hb1 (b := w.heap.size) (by (first | omega | (simp only [size_grow, World.size_alloc, size_drewN, size_drew, size_setCell] at *; omega))); have hq1 := own_frozen hb1 (b := w.heap.size) (by (first | omega | (simp only [size_grow, World.size_alloc, size_drewN, size_drew, size_setCell] at *; omega))); have hlt1 : ∀ b, b < w.heap.size → b < w1.heap.size := fun b hb => (by (first | omega | (simp only [size_grow, World.size_alloc, size_drewN, size_drew, size_setCell] at *; omega))); have hc1 : ∀ b o, b < w.heap.size → w1.cell? ⟨b, o, none⟩ = w.cell? ⟨b, o, none⟩ := old_cell (by (repeat (first | exact Below.refl _ _ | assumption | (refine below_gr ?_ (by (first | omega | (simp only [size_grow, World.size_alloc, size_drewN, size_drew, size_setCell] at *; omega))) _) | (refine below_alloc ?_ (by (first | omega | (simp only [size_grow, World.size_alloc, size_drewN, size_drew, size_setCell] at *; omega))) _) | (refine Below.setCell ?_ (by (first | omega | (simp only [size_grow, World.size_alloc, size_drewN, size_drew, size_setCell] at *; omega))) _) | refine below_drewN ?_ _ | refine below_drew ?_ | (refine below_step ?_ (by assumption) (by (first | omega | (simp only [size_grow, World.size_alloc, size_drewN, size_drew, size_setCell] at *; omega))))))))
  refine bodyPost_ret (v := .agg #[.int .i64 5, .slice (some ⟨w1.heap.size, 0, none⟩) 5 5]) (by simp [results, Try.results47, go_sem, *]) rfl ⟨some ⟨w1.heap.size, 0, none⟩, 5, rfl, below_grow (by (repeat (first | exact Below.refl _ _ | assumption | (refine below_gr ?_ (by (first | omega | (simp only [size_grow, World.size_alloc, size_drewN, size_drew, size_setCell] at *; omega))) _) | (refine below_alloc ?_ (by (first | omega | (simp only [size_grow, World.size_alloc, size_drewN, size_drew, size_setCell] at *; omega))) _) | (refine Below.setCell ?_ (by (first | omega | (simp only [size_grow, World.size_alloc, size_drewN, size_drew, size_setCell] at *; omega))) _) | refine below_drewN ?_ _ | refine below_drew ?_ | (refine below_step ?_ (by assumption) (by (first | omega | (simp only [size_grow, World.size_alloc, size_drewN, size_drew, size_setCell] at *; omega))))))), ?_⟩
  intro k p hk
  have hk5 : k < 5 := (List.getElem?_eq_some_iff.1 hk).1
  have hc := World.cell?_alloc_at (w := ((w1.setCell ⟨w.heap.size, 0, none⟩ (.int .i64 5)).setCell ⟨w.heap.size, 1, none⟩ (.slice (some ⟨w1.heap.size, 0, none⟩) 5 5)))
  refine ⟨w1.heap.size, 0, rfl, by simp, by simp, ?_, ?_, ?_⟩
  all_goals
    match k, hk5, hk with
    | 0, _, hk | 1, _, hk | 2, _, hk | 3, _, hk | 4, _, hk =>
      simp [hallPs] at hk
      subst hk
      refine (hc _ _ w1.heap.size _ (by simp)).trans ?_
      simp
end Go.Proofs.Ytbfhkknpocbeaaa
