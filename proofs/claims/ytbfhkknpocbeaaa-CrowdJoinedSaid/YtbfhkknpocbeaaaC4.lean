/- Proved here: contracts and laws of C4, a part of the proofs about the crowd laws: what some functions of the program and of the reference compute, and plain facts about it. Conditions: those that each theorem names, no others. -/
import Derived.Test.YtbfhkknpocbeaaaC3
import Derived.WalkKit
import Derived.WalkSpells
import Derived.WalkLawsBesides
import Derived.Below
import Derived.Deep.QuietTactic
import Derived.BigQuiet
import Derived.Deep.Light

set_option linter.unusedSimpArgs false
set_option linter.unusedVariables false
namespace Go.Proofs.Ytbfhkknpocbeaaa
open Go.RowKit
def P3.cells (p : P3) : List Value := [.int .i64 p.lo, .int .i64 p.hi, .int .i64 p.un]
def soonP (p : P3) : P3 := { p with hi := p.lo }
theorem infoP : (Try.prog.info? 57).map (fun i => (i.zero, i.size, i.bytes)) = some (some (.agg #[.int .i64 0, .int .i64 0, .int .i64 0]), 3, 24) := by kernel_rfl
theorem info64 : (Try.prog.info? 2).map (fun i => (i.zero, i.size, i.bytes)) = some (some (.int .i64 0), 1, 8) := by kernel_rfl
theorem flat_len (ps : List P3) : (ps.flatMap P3.cells).length = ps.length * 3 := by
  induction ps with
  | nil => rfl
  | cons p l ih => simp [List.flatMap_cons, P3.cells, ih]; omega
theorem flat_at (ps : List P3) (k : Nat) (p : P3) (h : ps[k]? = some p) : (ps.flatMap P3.cells)[k * 3]? = some (.int .i64 p.lo) ∧ (ps.flatMap P3.cells)[k * 3 + 1]? = some (.int .i64 p.hi) ∧ (ps.flatMap P3.cells)[k * 3 + 1 + 1]? = some (.int .i64 p.un) := by
  induction ps generalizing k with
  | nil => simp at h
  | cons q l ih =>
    cases k with
    | zero => simp at h; subst h; simp [List.flatMap_cons, P3.cells]
    | succ k =>
      have := ih k (by simpa using h)
      rw [show (k + 1) * 3 = k * 3 + 3 by omega]
      simpa [List.flatMap_cons, P3.cells] using this
theorem own_ppl {w : World} {B : Nat} {e : TypeId} {A : Option Addr} {c : Nat} {ps : List P3} (h : w.ownsRow B e 3 (.slice A ps.length c) ps.length (ps.flatMap P3.cells)) : Ppl w A ps := by
  intro k p hk
  have hl : k < ps.length := (List.getElem?_eq_some_iff.1 hk).1
  obtain ⟨g, cap, cur, hv, hB, hh, _⟩ := h.2.resolve_left (by rintro ⟨_, h0⟩; omega)
  injection hv with hA _ _
  subst hA
  have hlt : g < w.heap.size := by
    rcases Nat.lt_or_ge g w.heap.size with h1 | h1
    · exact h1
    · rw [Array.getElem?_eq_none h1] at hh; cases hh
  obtain ⟨f0, f1, f2⟩ := flat_at ps k p hk
  have hc := h.cells (g := g) rfl
  refine ⟨g, 0, rfl, hlt, by omega, ?_, ?_, ?_⟩
  · have := hc _ _ f0; unfold Addr.add at this; split at this <;> simp_all
  · have := hc _ _ f1; unfold Addr.add at this; simpa [Nat.zero_add] using this
  · have := hc _ _ f2; unfold Addr.add at this; simpa [Nat.zero_add] using this

def GivesHall (w : World) (m : Int) (qs : List P3) (e : Ending) (w' : World) : Prop := ∃ A' c', e = .returned (.agg #[.int .i64 m, .slice A' qs.length c']) ∧ (∃ g, w' = w.grow g) ∧ Ppl w' A' qs

set_option maxRecDepth 100000 in
set_option maxHeartbeats 800000 in
theorem soonest_any (m : Int) (A : Option Addr) (ps : List P3) (c : Nat) (w : World) (hA : Ppl w A ps) (hl : ps.length ≤ 100) :
    Calls Try.prog 60 #[.agg #[.int .i64 m, .slice A ps.length c]] w (GivesHall w m (ps.map soonP)) := by
  go_enter Try.func60, Try.ntmps60
  go_wp2
  go_outline
  go_loopw [4] (fun i wr => ∃ (k : Nat) (A' : Option Addr) (c' : Nat), k ≤ ps.length ∧ i = .int .i64 k ∧ Below (w.heap.size + 2) (((w.alloc (Obj.cells #[Value.int IntKind.i64 m, Value.slice A ps.length c] 24)).alloc (.cells #[.int .i64 0, .slice none 0 0] 24))) wr ∧ w.heap.size + 2 < wr.heap.size ∧
    wr.cell? ⟨w.heap.size + 1 + 1, 0, none⟩ = some (.int .i64 m) ∧ wr.cell? ⟨w.heap.size + 1 + 1, 1, none⟩ = some (.slice A' k c') ∧ wr.frozen? ⟨w.heap.size + 1 + 1, 1, none⟩ = false ∧
    wr.ownsRow (w.heap.size + 3) 57 3 (.slice A' k c') k (((ps.map soonP).take k).flatMap P3.cells)) (fun i _ => ps.length - (intOf i).toNat)
  case atStart => exact ⟨0, none, 0, Nat.zero_le _, rfl, by (repeat (first | exact Below.refl _ _ | assumption | (refine below_gr ?_ (by (first | omega | (simp only [size_grow, World.size_alloc, size_drewN, size_drew, size_setCell] at *; omega))) _) | (refine below_alloc ?_ (by (first | omega | (simp only [size_grow, World.size_alloc, size_drewN, size_drew, size_setCell] at *; omega))) _) | (refine Below.setCell ?_ (by (first | omega | (simp only [size_grow, World.size_alloc, size_drewN, size_drew, size_setCell] at *; omega))) _) | refine below_drewN ?_ _ | refine below_drew ?_ | (refine below_step ?_ (by assumption) (by (first | omega | (simp only [size_grow, World.size_alloc, size_drewN, size_drew, size_setCell] at *; omega)))))), by simp [go_sem], by simp [go_sem], by simp [go_sem], by simp [go_sem], World.ownsRow_nil _ _ _ _⟩
  case round =>
    obtain ⟨k, A', c', hk, rfl, hb, hsz, ho0, ho1, hf1, hown⟩ := hrel
    have hzr := hb.size
    (try simp only [size_grow, World.size_alloc, size_drewN, size_drew, size_setCell] at hzr)
    have hsr : w.heap.size < wr.heap.size := (by (first | omega | (simp only [size_grow, World.size_alloc, size_drewN, size_drew, size_setCell] at *; omega)))
    have hor := own_cell hb (b := w.heap.size) (by (first | omega | (simp only [size_grow, World.size_alloc, size_drewN, size_drew, size_setCell] at *; omega)))
    have hqr := own_frozen hb (b := w.heap.size) (by (first | omega | (simp only [size_grow, World.size_alloc, size_drewN, size_drew, size_setCell] at *; omega)))
    have hsr : w.heap.size + 1 < wr.heap.size := (by (first | omega | (simp only [size_grow, World.size_alloc, size_drewN, size_drew, size_setCell] at *; omega)))
    have hor := own_cell hb (b := w.heap.size + 1) (by (first | omega | (simp only [size_grow, World.size_alloc, size_drewN, size_drew, size_setCell] at *; omega)))
    have hqr := own_frozen hb (b := w.heap.size + 1) (by (first | omega | (simp only [size_grow, World.size_alloc, size_drewN, size_drew, size_setCell] at *; omega)))
    have hltr : ∀ b, b < w.heap.size → b < wr.heap.size := fun b hb => (by (first | omega | (simp only [size_grow, World.size_alloc, size_drewN, size_drew, size_setCell] at *; omega)))
    have hcr : ∀ b o, b < w.heap.size → wr.cell? ⟨b, o, none⟩ = w.cell? ⟨b, o, none⟩ := old_cell (by (repeat (first | exact Below.refl _ _ | assumption | (refine below_gr ?_ (by (first | omega | (simp only [size_grow, World.size_alloc, size_drewN, size_drew, size_setCell] at *; omega))) _) | (refine below_alloc ?_ (by (first | omega | (simp only [size_grow, World.size_alloc, size_drewN, size_drew, size_setCell] at *; omega))) _) | (refine Below.setCell ?_ (by (first | omega | (simp only [size_grow, World.size_alloc, size_drewN, size_drew, size_setCell] at *; omega))) _) | refine below_drewN ?_ _ | refine below_drew ?_ | (refine below_step ?_ (by assumption) (by (first | omega | (simp only [size_grow, World.size_alloc, size_drewN, size_drew, size_setCell] at *; omega)))))))
    by_cases hlt : k < ps.length
    · obtain ⟨b, off, rfl, hbl, hbl2, hp0, hp1, hp2⟩ := hA k ps[k] (by simp [hlt])
      obtain ⟨i0, hi0, hz0, hz1, hz2⟩ := info_parts infoP
      generalize hpk : ps[k] = p at *
      have HPK := hide hpk
      clear hpk
      go_wp2_with (at_builtin; refine wpList_append_own _ rfl (.tmp 27) (.tmp 29) 22 rfl (w.heap.size + 3) 57 i0 _ 3 24 Try.underlying22 hi0 hz0 hz1 hz2 rfl (by decide) _ k _ rfl ((hown.alloc _).alloc _) ⟨wr.heap.size + 1, 0, none⟩ 1 1 [.int .i64 p.lo, .int .i64 p.lo, .int .i64 p.un] rfl rfl ?c1 ?c2 ?c3 ?c4 ?c5 ?_)
      case c1 => exact cells_new (wr.alloc _) [.int .i64 p.lo, .int .i64 p.lo, .int .i64 p.un] _ _ (by simp)
      case c2 => simp [Value.oneCell']
      case c3 => unfold maxLen; omega
      case c4 => omega
      case c5 => simp; omega
      intro v' w' hown' hgr' _
      obtain ⟨A2, c2, rfl⟩ := own_form hown'
      have hge := own_ge hown
      have hb2 := gb_below (below_alloc (below_alloc hb (by omega) _) (by simp; omega) _) hgr' (by simp; omega) (fun k hk => by have := hge k hk; omega)
      have hg0 := gb_cell hgr' (w.heap.size + 1 + 1) (by simp; omega) (fun k hk => by have := hge k hk; omega)
      have hq0 := gb_frozen hgr' (w.heap.size + 1 + 1) (by simp; omega) (fun k hk => by have := hge k hk; omega)
      have e0 : w'.cell? ⟨w.heap.size + 1 + 1, 0, none⟩ = some (.int .i64 m) := by
        rw [hg0, World.cell?_alloc_past _ _ _ (by simp; omega), World.cell?_alloc_past _ _ _ (by omega)]; exact ho0
      have e1 : w'.cell? ⟨w.heap.size + 1 + 1, 1, none⟩ = some (.slice A' k c') := by
        rw [hg0, World.cell?_alloc_past _ _ _ (by simp; omega), World.cell?_alloc_past _ _ _ (by omega)]; exact ho1
      have e2 : w'.frozen? ⟨w.heap.size + 1 + 1, 1, none⟩ = false := by
        rw [hq0, World.frozen?_alloc_past _ _ _ (by simp; omega), World.frozen?_alloc_past _ _ _ (by omega)]; exact hf1
      have hs2 := hgr'.size
      simp only [World.size_alloc] at hs2
      have hS := hide (show ((ps.map soonP).take k).flatMap P3.cells ++ [.int .i64 p.lo, .int .i64 p.lo, .int .i64 p.un] = ((ps.map soonP).take (k + 1)).flatMap P3.cells by
        rw [take_snoc (ps.map soonP) k (by simpa using hlt), List.flatMap_append, List.getElem_map, HPK.out]; rfl)
      rw [hS.out] at hown'
      clear hg0 hq0 hgr' ho0 ho1 hf1 hge hown
      go_wp2
      exact ⟨⟨k + 1, A2, c2, by omega, by go_num, Below.setCell hb2 (by simp) _, by simp [World.setCell]; omega, by simp [go_sem, e0], by simp [go_sem, e1], by simp [go_sem, e2], ownsRow_setCell_below hown' (by simp) _⟩, by simp [intOf]; omega⟩
    · have hkl : k = ps.length := by omega
      subst hkl
      rw [List.take_of_length_le (by simp)] at hown
      go_wp2
      refine bodyPost_ret (v := .agg #[.int .i64 m, .slice A' ps.length c']) (by simp [results, Try.results60, go_sem, hor, hsr, hqr]) rfl ⟨A', c', by simp, below_grow (by (repeat (first | exact Below.refl _ _ | assumption | (refine below_gr ?_ (by (first | omega | (simp only [size_grow, World.size_alloc, size_drewN, size_drew, size_setCell] at *; omega))) _) | (refine below_alloc ?_ (by (first | omega | (simp only [size_grow, World.size_alloc, size_drewN, size_drew, size_setCell] at *; omega))) _) | (refine Below.setCell ?_ (by (first | omega | (simp only [size_grow, World.size_alloc, size_drewN, size_drew, size_setCell] at *; omega))) _) | refine below_drewN ?_ _ | refine below_drew ?_ | (refine below_step ?_ (by assumption) (by (first | omega | (simp only [size_grow, World.size_alloc, size_drewN, size_drew, size_setCell] at *; omega))))))), ?_⟩
      have hx := ownsRow_setCell_below (ownsRow_setCell_below hown (a := ⟨w.heap.size + 1, 0, none⟩) (by (first | omega | (simp only [size_grow, World.size_alloc, size_drewN, size_drew, size_setCell]; omega) | (simp only [size_grow, World.size_alloc, size_drewN, size_drew, size_setCell] at *; omega) | (simp; done) | (simp; omega))) (.int .i64 m)) (a := ⟨w.heap.size + 1, 1, none⟩) (by (first | omega | (simp only [size_grow, World.size_alloc, size_drewN, size_drew, size_setCell]; omega) | (simp only [size_grow, World.size_alloc, size_drewN, size_drew, size_setCell] at *; omega) | (simp; done) | (simp; omega))) (.slice A' ps.length c')
      exact own_ppl (ps := ps.map soonP) (by simpa using hx)
end Go.Proofs.Ytbfhkknpocbeaaa
