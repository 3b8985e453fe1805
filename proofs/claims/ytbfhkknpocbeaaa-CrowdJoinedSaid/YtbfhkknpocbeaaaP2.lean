/- Proved here: contracts and laws of P2, a part of the proofs about the crowd laws: what some functions of the program and of the reference compute, and plain facts about it. Conditions: those that each theorem names, no others. -/
import Derived.Test.YtbfhkknpocbeaaaC48
import Derived.WalkKit
import Derived.WalkSpells
import Derived.WalkLawsBesides
import Derived.Below
import Derived.Deep.QuietTactic
import Derived.BigQuiet
import Derived.Deep.Light
import Derived.Test.YtbfhkknpocbeaaaC5
import Derived.Test.YtbfhkknpocbeaaaP1
set_option linter.unusedSimpArgs false
set_option linter.unusedVariables false
namespace Go.Proofs.Ytbfhkknpocbeaaa
open Go.RowKit
def FarW (w w' : World) (g : Nat) : Prop := (∀ b, b ≠ g → w'.heap[b]? = w.heap[b]?) ∧ Below g w w'
theorem far_refl (w : World) (g : Nat) : FarW w w g := ⟨fun _ _ => rfl, Below.refl _ _⟩
theorem far_set (w : World) (g o : Nat) (v : Value) : FarW w (w.setCell ⟨g, o, none⟩ v) g := ⟨fun _ hb => Below.heap_setCell _ _ _ _ hb, Below.setCell (p := ⟨g, o, none⟩) (Below.refl _ _) (Nat.le_refl _) _⟩
theorem ObjV.far {W W' : World} {B g : Nat} {t : TypeId} {a b : Value} (h : ObjV W B t a b) (hf : FarW W W' g) (hne : B ≠ g) : ObjV W' B t a b := (hf.1 B hne).trans h
theorem Obj3.far {W W' : World} {B g : Nat} {t : TypeId} {a b c : Value} (h : Obj3 W B t a b c) (hf : FarW W W' g) (hne : B ≠ g) : Obj3 W' B t a b c := (hf.1 B hne).trans h
theorem far_cell {W W' : World} {b g o : Nat} (hf : FarW W W' g) (hne : b ≠ g) : W'.cell? ⟨b, o, none⟩ = W.cell? ⟨b, o, none⟩ := by unfold World.cell?; rw [show W'.heap[(⟨b, o, none⟩ : Addr).block]? = _ from hf.1 b hne]
theorem Ppl.far {W W' : World} {b o g : Nat} {ps : List P3} (h : Ppl W (some ⟨b, o, none⟩) ps) (hf : FarW W W' g) (hne : b ≠ g) : Ppl W' (some ⟨b, o, none⟩) ps := fun k p hk => by
  obtain ⟨b', o', he, h1, h2, c0, c1, c2⟩ := h k p hk
  injection he with he
  injection he with e1 e2 _
  subst e1 e2
  have hs := hf.2.size
  exact ⟨b, o, rfl, by omega, by omega, (far_cell hf hne).trans c0, (far_cell hf hne).trans c1, (far_cell hf hne).trans c2⟩
theorem ownsRow_far {w w' : World} {B g : Nat} {e : TypeId} {sz n : Nat} {v : Value} {xs : List Value} (h : w.ownsRow B e sz v n xs) (hf : FarW w w' g) (hg : g < B) : w'.ownsRow B e sz v n xs := by
  obtain ⟨h1, h2⟩ := h
  refine ⟨h1, ?_⟩
  rcases h2 with h2 | ⟨k, cap, cur, hv, hB, hh, r⟩
  · exact Or.inl h2
  · exact Or.inr ⟨k, cap, cur, hv, hB, (hf.1 k (by omega)).trans hh, r⟩
theorem ne_types {W : World} {B g : Nat} {t e : TypeId} {a b : Value} {cs : Array Value} {fz : Nat × Nat} (h : ObjV W B t a b) (hg : W.heap[g]? = some (.cells cs e fz)) (hne : t ≠ e) : B ≠ g := by
  rintro rfl
  have h2 : W.heap[B]? = _ := h
  rw [hg] at h2; injection h2 with h2; injection h2 with _ ht _; exact hne ht.symm
theorem obj_c0 {w : World} {b : Nat} {x y : Value} {t : TypeId} (h : w.heap[b]? = some (.cells #[x, y] t (0, 0))) : w.cell? ⟨b, 0, none⟩ = some x := by simp [World.cell?, h]
theorem obj_c1 {w : World} {b : Nat} {x y : Value} {t : TypeId} (h : w.heap[b]? = some (.cells #[x, y] t (0, 0))) : w.cell? ⟨b, 1, none⟩ = some y := by simp [World.cell?, h]
theorem obj_f {w : World} {b : Nat} {x y : Value} {t : TypeId} (h : w.heap[b]? = some (.cells #[x, y] t (0, 0))) : w.frozen? ⟨b, 0, none⟩ = false ∧ w.frozen? ⟨b, 1, none⟩ = false := by simp [World.frozen?, h]
theorem far_heap {w w' : World} {B : Nat} {e t : TypeId} {sz n b : Nat} {v : Value} {xs : List Value} {cs : Array Value} {fz : Nat × Nat} (hg : w.grownBy w' v.ownBlock) (h : w.ownsRow B e sz v n xs) (hb : w.heap[b]? = some (.cells cs t fz)) (hne : e ≠ t) : w'.heap[b]? = some (.cells cs t fz) := by
  have hlt : b < w.heap.size := (Array.getElem?_eq_some_iff.1 hb).1
  refine (hg.block b hlt (fun hk => ?_)).trans hb
  rcases h.2 with ⟨rfl, _⟩ | ⟨g, cap, cur, rfl, _, hh, _⟩
  · cases hk
  · have : g = b := (Option.some.inj (show some b = some g from hk)).symm
    subst this
    rw [hb] at hh; injection hh with hh; injection hh with _ ht _; exact hne ht.symm
theorem Ppl.take {w : World} {A : Option Addr} {ps : List P3} (h : Ppl w A ps) (j : Nat) : Ppl w A (ps.take j) := fun k p hk => h k p (by
  rw [List.getElem?_take] at hk; split at hk
  · exact hk
  · cases hk)
theorem rd_take {w : World} {A : Option Addr} {ps : List P3} (h : Ppl w A ps) {j : Nat} (hj : j ≤ ps.length) : Rd w 3 A j ((ps.take j).flatMap P3.cells) := by
  have := ppl_rd (h.take j)
  rwa [List.length_take, Nat.min_eq_left hj] at this
theorem Ppl.drop {w : World} {b o : Nat} {ps : List P3} (h : Ppl w (some ⟨b, o, none⟩) ps) (j : Nat) : Ppl w (some ⟨b, o + j * 3, none⟩) (ps.drop j) := fun k p hk => by
  rw [List.getElem?_drop] at hk
  obtain ⟨b', o', he, h1, h2, c0, c1, c2⟩ := h _ _ hk
  injection he with he
  injection he with e1 e2 _
  subst e1 e2
  rw [show o + (j + k) * 3 = o + j * 3 + k * 3 by omega] at c0 c1 c2
  exact ⟨b, o + j * 3, rfl, h1, h2, c0, c1, c2⟩
theorem rd_drop {w : World} {b o : Nat} {ps : List P3} (h : Ppl w (some ⟨b, o, none⟩) ps) {j : Nat} {A : Option Addr} {n : Nat} (hn : n = ps.length - j) (hA : j < ps.length → A = some ⟨b, o + j * 3, none⟩) : Rd w 3 A n ((ps.drop j).flatMap P3.cells) := by
  subst hn
  by_cases hj : j < ps.length
  · rw [hA hj]
    have := ppl_rd (h.drop j)
    rwa [List.length_drop] at this
  · rw [List.drop_eq_nil_of_le (by omega), show ps.length - j = 0 by omega]
    exact ⟨rfl, fun h => absurd h (by omega)⟩
end Go.Proofs.Ytbfhkknpocbeaaa
