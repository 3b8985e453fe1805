/- Proved here: contracts and laws of C5, a part of the proofs about the crowd laws: what some functions of the program and of the reference compute, and plain facts about it. Conditions: those that each theorem names, no others. -/
import Derived.Test.YtbfhkknpocbeaaaC4
import Derived.WalkKit
import Derived.WalkSpells
import Derived.WalkLawsBesides
import Derived.Below
import Derived.Deep.QuietTactic
import Derived.BigQuiet
import Derived.Deep.Light
import Derived.Test.YtbfhkknpocbeaaaBase2
import Derived.Deep.RegionHeld3
import Derived.Deep.DeepCutAuto
set_option linter.unusedSimpArgs false
set_option linter.unusedVariables false
namespace Go.Proofs.Ytbfhkknpocbeaaa
open Go.RowKit
theorem gb_cellR {w w' : World} {r : Nat} (hg : w.grownBy w' (some r)) : ∀ b o, b < w.heap.size → b ≠ r → w'.cell? ⟨b, o, none⟩ = w.cell? ⟨b, o, none⟩ :=
  fun b o hb hne => gb_cell hg b hb (fun k hk => by have : r = k := Option.some.inj hk; omega) o
theorem gb_frozenR {w w' : World} {r : Nat} (hg : w.grownBy w' (some r)) : ∀ b o, b < w.heap.size → b ≠ r → w'.frozen? ⟨b, o, none⟩ = w.frozen? ⟨b, o, none⟩ :=
  fun b o hb hne => gb_frozen hg b hb (fun k hk => by have : r = k := Option.some.inj hk; omega) o
theorem set_two {w : World} {b : Nat} {x y u v : Value} {t : TypeId} (h : w.heap[b]? = some (.cells #[x, y] t (0, 0))) : ((w.setCell ⟨b, 0, none⟩ u).setCell ⟨b, 1, none⟩ v).heap[b]? = some (.cells #[u, v] t (0, 0)) := by
  have h1 := heap_setCell_same w b 0 #[x, y] t u h
  have h2 := heap_setCell_same _ b 1 _ t v h1
  simpa using h2
theorem own_far {w : World} {B : Nat} {e t : TypeId} {sz n b : Nat} {v : Value} {xs : List Value} {cs : Array Value} {fz : Nat × Nat} (h : w.ownsRow B e sz v n xs) (hb : w.heap[b]? = some (.cells cs t fz)) (hne : e ≠ t) (o : Nat) (u : Value) :
    (w.setCell ⟨b, o, none⟩ u).ownsRow B e sz v n xs := by
  obtain ⟨h1, h2⟩ := h
  refine ⟨h1, ?_⟩
  rcases h2 with h2 | ⟨g, cap, cur, hv, hg, hh, r⟩
  · exact Or.inl h2
  · have hgb : g ≠ b := by rintro rfl; rw [hb] at hh; injection hh with hh; injection hh with _ ht _; exact hne ht.symm
    exact Or.inr ⟨g, cap, cur, hv, hg, by rw [Below.heap_setCell _ _ _ _ hgb]; exact hh, r⟩
theorem own_far2 {w : World} {B : Nat} {e t : TypeId} {sz n b : Nat} {v x y u u' : Value} {xs : List Value} (h : w.ownsRow B e sz v n xs) (hb : w.heap[b]? = some (.cells #[x, y] t (0, 0))) (hne : e ≠ t) :
    ((w.setCell ⟨b, 0, none⟩ u).setCell ⟨b, 1, none⟩ u').ownsRow B e sz v n xs :=
  own_far (own_far h hb hne 0 u) (heap_setCell_same w b 0 #[x, y] t u hb) hne 1 u'
theorem setCell_far (w : World) (b o b' o' : Nat) (v : Value) (h : b' ≠ b) : (w.setCell ⟨b, o, none⟩ v).cell? ⟨b', o', none⟩ = w.cell? ⟨b', o', none⟩ :=
  World.cell?_setCell_other _ _ _ _ (fun e => h (by injection e with e _ _; exact e.symm))
theorem heap_drew (w : World) : w.drew.heap = w.heap := rfl
theorem heap_new' (w : World) (o : Obj) (n : Nat) (h : n = w.heap.size) : (w.alloc o).heap[n]? = some o := by subst h; exact heap_alloc_new w o
theorem heap_old' (w : World) (o : Obj) (n : Nat) (h : n < w.heap.size) : (w.alloc o).heap[n]? = w.heap[n]? := Below.heap_alloc w o n h
theorem own_lit0 {w : World} {base blk size : Nat} {e : TypeId} (h : w.heap[blk]? = some (.cells #[] e (0, 0))) (hb : base ≤ blk) : w.ownsRow base e size (.slice (some ⟨blk, 0, none⟩) 0 0) 0 [] :=
  ⟨by simp, .inr ⟨blk, 0, #[], rfl, hb, h, Nat.le_refl _, by decide, by simp, by simp⟩⟩
theorem flat_split (ps : List P3) (j : Nat) (u : Value) (h : (ps.flatMap P3.cells)[j]? = some u) : ∃ k p r, ps[k]? = some p ∧ j = k * 3 + r ∧ p.cells[r]? = some u := by
  induction ps generalizing j with
  | nil => simp at h
  | cons q l ih =>
    rw [List.flatMap_cons] at h
    by_cases hj : j < 3
    · rw [List.getElem?_append_left (by simpa [P3.cells] using hj)] at h
      exact ⟨0, q, j, rfl, by omega, h⟩
    · rw [List.getElem?_append_right (by simp [P3.cells]; omega)] at h
      obtain ⟨k, p, r, h1, h2, h3⟩ := ih _ h
      have hq : q.cells.length = 3 := rfl
      exact ⟨k + 1, p, r, by simpa using h1, by omega, h3⟩
theorem ppl_rd {w : World} {A : Option Addr} {ps : List P3} (h : Ppl w A ps) : Rd w 3 A ps.length (ps.flatMap P3.cells) := by
  refine ⟨flat_len ps, fun hl => ?_⟩
  obtain ⟨b, off, hA, hb, _⟩ := h 0 ps[0] (by simp)
  refine ⟨b, off, hA, hb, fun j u hu => ?_⟩
  obtain ⟨k, p, r, h1, rfl, h3⟩ := flat_split ps j u hu
  obtain ⟨b', off', hA', _, _, c0, c1, c2⟩ := h k p h1
  rw [hA] at hA'
  injection hA' with hA'
  injection hA' with e1 e2 _
  subst e1 e2
  rw [← Nat.add_assoc]
  match r, h3 with
  | 0, h3 => simp [P3.cells] at h3; subst h3; exact c0
  | 1, h3 => simp [P3.cells] at h3; subst h3; exact c1
  | 2, h3 => simp [P3.cells] at h3; subst h3; exact c2
  | r + 3, h3 => simp [P3.cells] at h3
theorem flat_modify (ps : List P3) (i : Nat) (l : Int) (h : i < ps.length) : ((ps.flatMap P3.cells).set (i * 3) (.int .i64 l)).set (i * 3 + 1) (.int .i64 l) = (ps.modify i (fun p => { p with lo := l, hi := l })).flatMap P3.cells := by
  induction ps generalizing i with
  | nil => simp at h
  | cons q t ih =>
    cases i with
    | zero => simp [List.flatMap_cons, P3.cells]
    | succ i =>
      have := ih i (by simpa using h)
      rw [show (i + 1) * 3 = i * 3 + 3 by omega]
      simpa [List.flatMap_cons, P3.cells] using this
theorem one_flat (ps : List P3) : ∀ u ∈ ps.flatMap P3.cells, u.oneCell' = true := by
  intro u hu
  obtain ⟨p, _, hp⟩ := List.mem_flatMap.1 hu
  simp only [P3.cells, List.mem_cons, List.not_mem_nil, or_false] at hp
  rcases hp with rfl | rfl | rfl <;> rfl
def withP (ps : List P3) (i : Nat) (l : Int) : List P3 := ps.modify i (fun p => { p with lo := l, hi := l })
def andP (ps : List P3) (mi : Int) (n : Nat) : List P3 := ps ++ List.replicate n ⟨mi, mi, mi⟩

set_option maxRecDepth 100000 in
set_option maxHeartbeats 800000 in
theorem with_any (i : Nat) (l : Int) (m : Int) (A : Option Addr) (ps : List P3) (c : Nat) (w : World) (hA : Ppl w A ps) (hl : ps.length ≤ 100) (hil : i < ps.length) :
    Calls Try.prog 44 #[.agg #[.int .i64 m, .slice A ps.length c], .int .i64 i, .int .i64 l] w (GivesHall w m (withP ps i l)) := by
  obtain ⟨i0, hi0, hz0, hz1, hz2⟩ := info_parts infoP
  go_enter Try.func44, Try.ntmps44
  have n1 : w.heap.size + 1 ≠ w.heap.size := by omega
  have n2 : w.heap.size + 1 + 1 ≠ w.heap.size := by omega
  have n3 : w.heap.size + 1 + 1 + 1 ≠ w.heap.size := by omega
  go_upto_region 1 with fail
  go_cut [7] (fun s7 wx => ∃ (blk : Nat) (A2 : Option Addr) (c2 : Nat), s7 = .pointer (some ⟨blk, 0, none⟩) ∧ wx.heap[blk]? = some (.cells #[.int .i64 m, .slice A2 ps.length c2] 24 (0, 0)) ∧ w.heap.size + 2 ≤ blk ∧ wx.ownsRow (w.heap.size + 2) 57 3 (.slice A2 ps.length c2) ps.length (ps.flatMap P3.cells) ∧ Below (w.heap.size + 2) ((w.alloc (Obj.cells #[Value.int IntKind.i64 m, Value.slice A ps.length c] 24)).alloc (.cells #[.int .i64 0, .slice none 0 0] 24)) wx)
  case first =>
    go_region_held3 (fun w' => w'.cell? ⟨w.heap.size, 0, none⟩ = some (.int .i64 m) ∧ w'.cell? ⟨w.heap.size, 1, none⟩ = some (.slice A ps.length c)) (go_keep) (first
      | (refine step_app _ rfl (.tmp 10) (.tmp 12) 22 rfl (w.heap.size + 2) 57 i0 _ 3 24 Try.underlying22 hi0 hz0 hz1 hz2 rfl (by decide) _ 0 [] rfl ?own A ps.length c (ps.flatMap P3.cells) rfl ?rd ?one ?b1 ?b2 ?b3 ?_
         case own =>
           first
             | (refine own_lit0 (blk := w.heap.size + 1 + 1) ?_ (by omega)
                (try rw [heap_drew])
                first
                  | exact heap_new' _ _ _ (by simp)
                  | exact (heap_old' _ _ _ (by simp)).trans (heap_new' _ _ _ (by simp)))
             | (refine own_lit0 (blk := w.heap.size + 1 + 1 + 1) ?_ (by omega)
                (try rw [heap_drew])
                exact heap_new' _ _ _ (by simp))
         case rd => exact (ppl_rd hA).ext (by (repeat (first | exact Below.refl _ _ | assumption | (refine below_gr ?_ (by (first | omega | (simp only [size_grow, World.size_alloc, size_drewN, size_drew, size_setCell] at *; omega))) _) | (refine below_alloc ?_ (by (first | omega | (simp only [size_grow, World.size_alloc, size_drewN, size_drew, size_setCell] at *; omega))) _) | (refine Below.setCell ?_ (by (first | omega | (simp only [size_grow, World.size_alloc, size_drewN, size_drew, size_setCell] at *; omega))) _) | refine below_drewN ?_ _ | refine below_drew ?_ | (refine below_step ?_ (by assumption) (by (first | omega | (simp only [size_grow, World.size_alloc, size_drewN, size_drew, size_setCell] at *; omega)))))))
         case one => exact one_flat ps
         case b1 => unfold maxLen; omega
         case b2 => omega
         case b3 => (first | omega | (simp only [size_grow, World.size_alloc, size_drewN, size_drew, size_setCell]; omega) | (simp only [size_grow, World.size_alloc, size_drewN, size_drew, size_setCell] at *; omega) | (simp; done) | (simp; omega))
         intro A2 c2 w2 hown2 hgr2
         simp only [Nat.zero_add, List.nil_append] at hown2
         change World.grownBy _ w2 (some _) at hgr2
         (try dsimp only at hgr2)
         have hg2 := gb_cell hgr2 w.heap.size (by (first | omega | (simp only [size_grow, World.size_alloc, size_drewN, size_drew, size_setCell]; omega) | (simp only [size_grow, World.size_alloc, size_drewN, size_drew, size_setCell] at *; omega) | (simp; done) | (simp; omega))) (fun k hk => by have hk' := Option.some.inj hk; (try dsimp only at hk'); omega)
         have hg3 := gb_cellR hgr2
         have hq3 := gb_frozenR hgr2
         have hz3 := hgr2.size
         (try simp only [World.size_alloc, size_drew, size_drewN] at hz3)
         have n4 : w2.heap.size ≠ w.heap.size := by omega
         have hb2 : Below (w.heap.size + 2) ((w.alloc (Obj.cells #[Value.int IntKind.i64 m, Value.slice A ps.length c] 24)).alloc (.cells #[.int .i64 0, .slice none 0 0] 24)) w2 := gb_below (by (repeat (first | exact Below.refl _ _ | assumption | (refine below_gr ?_ (by (first | omega | (simp only [size_grow, World.size_alloc, size_drewN, size_drew, size_setCell] at *; omega))) _) | (refine below_alloc ?_ (by (first | omega | (simp only [size_grow, World.size_alloc, size_drewN, size_drew, size_setCell] at *; omega))) _) | (refine Below.setCell ?_ (by (first | omega | (simp only [size_grow, World.size_alloc, size_drewN, size_drew, size_setCell] at *; omega))) _) | refine below_drewN ?_ _ | refine below_drew ?_ | (refine below_step ?_ (by assumption) (by (first | omega | (simp only [size_grow, World.size_alloc, size_drewN, size_drew, size_setCell] at *; omega))))))) hgr2 (by (first | omega | (simp only [size_grow, World.size_alloc, size_drewN, size_drew, size_setCell]; omega) | (simp only [size_grow, World.size_alloc, size_drewN, size_drew, size_setCell] at *; omega) | (simp; done) | (simp; omega))) (fun k hk => by have hk' := Option.some.inj hk; (try dsimp only at hk'); omega)))
    · go_wp2_with fail
      go_meet
      exact ⟨_, A2, c2, rfl, heap_new' _ _ _ rfl, by (first | omega | (simp only [size_grow, World.size_alloc, size_drewN, size_drew, size_setCell]; omega) | (simp only [size_grow, World.size_alloc, size_drewN, size_drew, size_setCell] at *; omega) | (simp; done) | (simp; omega)), hown2.alloc _, by (repeat (first | exact Below.refl _ _ | assumption | (refine below_gr ?_ (by (first | omega | (simp only [size_grow, World.size_alloc, size_drewN, size_drew, size_setCell] at *; omega))) _) | (refine below_alloc ?_ (by (first | omega | (simp only [size_grow, World.size_alloc, size_drewN, size_drew, size_setCell] at *; omega))) _) | (refine Below.setCell ?_ (by (first | omega | (simp only [size_grow, World.size_alloc, size_drewN, size_drew, size_setCell] at *; omega))) _) | refine below_drewN ?_ _ | refine below_drew ?_ | (refine below_step ?_ (by assumption) (by (first | omega | (simp only [size_grow, World.size_alloc, size_drewN, size_drew, size_setCell] at *; omega))))))⟩
    · go_wp2_with fail
      go_meet
      have hh : w2.heap[w.heap.size + 1 + 1 + 1]? = some (.cells #[.int .i64 0, .slice none 0 0] 24 (0, 0)) := by
        rw [hgr2.block _ (by (first | omega | (simp only [size_grow, World.size_alloc, size_drewN, size_drew, size_setCell]; omega) | (simp only [size_grow, World.size_alloc, size_drewN, size_drew, size_setCell] at *; omega) | (simp; done) | (simp; omega))) (by simp)]; exact heap_new' _ _ _ (by simp)
      exact ⟨_, A2, c2, rfl, set_two hh, by (first | omega | (simp only [size_grow, World.size_alloc, size_drewN, size_drew, size_setCell]; omega) | (simp only [size_grow, World.size_alloc, size_drewN, size_drew, size_setCell] at *; omega) | (simp; done) | (simp; omega)), own_far2 hown2 hh (by decide), by (repeat (first | exact Below.refl _ _ | assumption | (refine below_gr ?_ (by (first | omega | (simp only [size_grow, World.size_alloc, size_drewN, size_drew, size_setCell] at *; omega))) _) | (refine below_alloc ?_ (by (first | omega | (simp only [size_grow, World.size_alloc, size_drewN, size_drew, size_setCell] at *; omega))) _) | (refine Below.setCell ?_ (by (first | omega | (simp only [size_grow, World.size_alloc, size_drewN, size_drew, size_setCell] at *; omega))) _) | refine below_drewN ?_ _ | refine below_drew ?_ | (refine below_step ?_ (by assumption) (by (first | omega | (simp only [size_grow, World.size_alloc, size_drewN, size_drew, size_setCell] at *; omega))))))⟩
    · go_wp2_with fail
      go_meet
      have hh : w2.heap[w.heap.size + 1 + 1]? = some (.cells #[.int .i64 0, .slice none 0 0] 24 (0, 0)) := by
        rw [hgr2.block _ (by (first | omega | (simp only [size_grow, World.size_alloc, size_drewN, size_drew, size_setCell]; omega) | (simp only [size_grow, World.size_alloc, size_drewN, size_drew, size_setCell] at *; omega) | (simp; done) | (simp; omega))) (by simp)]
        exact (heap_old' _ _ _ (by (first | omega | (simp only [size_grow, World.size_alloc, size_drewN, size_drew, size_setCell]; omega) | (simp only [size_grow, World.size_alloc, size_drewN, size_drew, size_setCell] at *; omega) | (simp; done) | (simp; omega)))).trans (heap_new' _ _ _ (by simp))
      exact ⟨_, A2, c2, rfl, set_two hh, by (first | omega | (simp only [size_grow, World.size_alloc, size_drewN, size_drew, size_setCell]; omega) | (simp only [size_grow, World.size_alloc, size_drewN, size_drew, size_setCell] at *; omega) | (simp; done) | (simp; omega)), own_far2 hown2 hh (by decide), by (repeat (first | exact Below.refl _ _ | assumption | (refine below_gr ?_ (by (first | omega | (simp only [size_grow, World.size_alloc, size_drewN, size_drew, size_setCell] at *; omega))) _) | (refine below_alloc ?_ (by (first | omega | (simp only [size_grow, World.size_alloc, size_drewN, size_drew, size_setCell] at *; omega))) _) | (refine Below.setCell ?_ (by (first | omega | (simp only [size_grow, World.size_alloc, size_drewN, size_drew, size_setCell] at *; omega))) _) | refine below_drewN ?_ _ | refine below_drew ?_ | (refine below_step ?_ (by assumption) (by (first | omega | (simp only [size_grow, World.size_alloc, size_drewN, size_drew, size_setCell] at *; omega))))))⟩
  case rest =>
    obtain ⟨blk, A2, c2, rfl, hB, hge, hown, hb⟩ := hcut
    have hzr := hb.size
    (try simp only [size_grow, World.size_alloc, size_drewN, size_drew, size_setCell] at hzr)
    have hsr : w.heap.size < wc.heap.size := (by (first | omega | (simp only [size_grow, World.size_alloc, size_drewN, size_drew, size_setCell] at *; omega)))
    have hor := own_cell hb (b := w.heap.size) (by (first | omega | (simp only [size_grow, World.size_alloc, size_drewN, size_drew, size_setCell] at *; omega)))
    have hqr := own_frozen hb (b := w.heap.size) (by (first | omega | (simp only [size_grow, World.size_alloc, size_drewN, size_drew, size_setCell] at *; omega)))
    have hsr : w.heap.size + 1 < wc.heap.size := (by (first | omega | (simp only [size_grow, World.size_alloc, size_drewN, size_drew, size_setCell] at *; omega)))
    have hor := own_cell hb (b := w.heap.size + 1) (by (first | omega | (simp only [size_grow, World.size_alloc, size_drewN, size_drew, size_setCell] at *; omega)))
    have hqr := own_frozen hb (b := w.heap.size + 1) (by (first | omega | (simp only [size_grow, World.size_alloc, size_drewN, size_drew, size_setCell] at *; omega)))
    have hltr : ∀ b, b < w.heap.size → b < wc.heap.size := fun b hb => (by (first | omega | (simp only [size_grow, World.size_alloc, size_drewN, size_drew, size_setCell] at *; omega)))
    have hcr : ∀ b o, b < w.heap.size → wc.cell? ⟨b, o, none⟩ = w.cell? ⟨b, o, none⟩ := old_cell (by (repeat (first | exact Below.refl _ _ | assumption | (refine below_gr ?_ (by (first | omega | (simp only [size_grow, World.size_alloc, size_drewN, size_drew, size_setCell] at *; omega))) _) | (refine below_alloc ?_ (by (first | omega | (simp only [size_grow, World.size_alloc, size_drewN, size_drew, size_setCell] at *; omega))) _) | (refine Below.setCell ?_ (by (first | omega | (simp only [size_grow, World.size_alloc, size_drewN, size_drew, size_setCell] at *; omega))) _) | refine below_drewN ?_ _ | refine below_drew ?_ | (refine below_step ?_ (by assumption) (by (first | omega | (simp only [size_grow, World.size_alloc, size_drewN, size_drew, size_setCell] at *; omega)))))))
    obtain ⟨g, cap, cur, hv, hgB, hgh, hcap, hcm, hcs, htk⟩ := hown.2.resolve_left (by rintro ⟨_, h0⟩; omega)
    injection hv with hA2 _ hc2
    subst hA2 hc2
    have hgb : g ≠ blk := by rintro rfl; rw [hB] at hgh; injection hgh with hgh; injection hgh with _ ht _; exact absurd ht (by decide)
    have c0 : wc.cell? ⟨blk, 0, none⟩ = some (.int .i64 m) := by simp [World.cell?, hB]
    have c1 : wc.cell? ⟨blk, 1, none⟩ = some (.slice (some ⟨g, 0, none⟩) ps.length c2) := by simp [World.cell?, hB]
    have hf0 : wc.frozen? ⟨g, i * 3, none⟩ = false := hown.frozenAt _
    have hf1 : wc.frozen? ⟨g, i * 3 + 1, none⟩ = false := hown.frozenAt _
    have hlen := flat_len ps
    have r0 : wc.cell? ⟨g, i * 3, none⟩ = some (ps.flatMap P3.cells)[i * 3] := by rw [hown.cellAt _ (by omega)]; exact List.getElem?_eq_getElem (by omega)
    have r1 : wc.cell? ⟨g, i * 3 + 1, none⟩ = some (ps.flatMap P3.cells)[i * 3 + 1] := by rw [hown.cellAt _ (by omega)]; exact List.getElem?_eq_getElem (by omega)
    generalize (ps.flatMap P3.cells)[i * 3] = x0 at r0
    generalize (ps.flatMap P3.cells)[i * 3 + 1] = x1 at r1
    clear hlen
    go_wp2
    refine bodyPost_ret (v := .agg #[.int .i64 m, .slice (some ⟨g, 0, none⟩) ps.length c2]) (by simp [results, Try.results44, go_sem, hor, hsr, hqr]) rfl ⟨some ⟨g, 0, none⟩, c2, by simp [withP], below_grow (by (repeat (first | exact Below.refl _ _ | assumption | (refine below_gr ?_ (by (first | omega | (simp only [size_grow, World.size_alloc, size_drewN, size_drew, size_setCell] at *; omega))) _) | (refine below_alloc ?_ (by (first | omega | (simp only [size_grow, World.size_alloc, size_drewN, size_drew, size_setCell] at *; omega))) _) | (refine Below.setCell ?_ (by (first | omega | (simp only [size_grow, World.size_alloc, size_drewN, size_drew, size_setCell] at *; omega))) _) | refine below_drewN ?_ _ | refine below_drew ?_ | (refine below_step ?_ (by assumption) (by (first | omega | (simp only [size_grow, World.size_alloc, size_drewN, size_drew, size_setCell] at *; omega))))))), ?_⟩
    have hx := ((hown.stored (i * 3) (.int .i64 l)).1.stored (i * 3 + 1) (.int .i64 l)).1
    rw [flat_modify ps i l hil] at hx
    have hy := ownsRow_setCell_below (ownsRow_setCell_below hx (a := ⟨w.heap.size + 1, 0, none⟩) (by simp) (.int .i64 m)) (a := ⟨w.heap.size + 1, 1, none⟩) (by simp) (.slice (some ⟨g, 0, none⟩) ps.length c2)
    exact own_ppl (ps := withP ps i l) (by simpa [withP] using hy)
end Go.Proofs.Ytbfhkknpocbeaaa
