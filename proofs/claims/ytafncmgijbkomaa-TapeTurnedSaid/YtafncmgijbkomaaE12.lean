/- Proved here: two rows in a region that draws its order, a part of the proofs about the tape laws. Conditions: those that each theorem names, no others. -/
import Derived.Test.YtafncmgijbkomaaP30
import Derived.WalkKit
import Derived.WalkSpells
import Derived.WalkLawsBesides
import Derived.Below
import Derived.Deep.QuietTactic
import Derived.BigQuiet
import Derived.Deep.Light
import Derived.Test.YtafncmgijbkomaaE9
import Derived.Test.YtafncmgijbkomaaE11
import Derived.Test.YtafncmgijbkomaaP36
import Derived.Deep.RegionHeld3

set_option linter.unusedSimpArgs false
set_option linter.unusedVariables false
namespace Go.Proofs.Ytafncmgijbkomaa
open Go.RowKit Go.Maps Go.Lib
/-! a region that draws its order, whose loads come ahead of its stores, with several ways on -/
section
variable {P : Program} {ops : Array Oper} {Q : Exit → Act → World → Prop} {md : Region.Mode} {S0 S1 : World → Prop} {F : List Nat}
def AllReadyF (P : Program) (md : Region.Mode) (ops : Array Oper) (Q : Exit → Act → World → Prop) (S0 S1 : World → Prop) (F : List Nat) (fuel : Nat) (listed : Array Bool) (a : Act) (w : World) (rs : List Nat) : Prop :=
  ∀ i ∈ rs, wpOp P ops Q i (fun a' w' => (S0 w' ∧ (noF F (listed.setIfInBounds i true) = true → S1 w')) ∧ wpAnyF P md ops Q S0 S1 F fuel (listed.setIfInBounds i true) a' w') a w
theorem AllReadyF.nil {fuel : Nat} {listed : Array Bool} {a : Act} {w : World} : AllReadyF P md ops Q S0 S1 F fuel listed a w [] := fun _ h => by cases h
theorem AllReadyF.cons {fuel : Nat} {listed : Array Bool} {a : Act} {w : World} {i : Nat} {o : Oper} {rs : List Nat} (ho : ops[i]? = some o)
    (h : ∀ K' : Act → World → Prop, Shut (∀ a w, S0 w → (noF F (listed.setIfInBounds i true) = true → S1 w) → (S0 w → wpAnyF P md ops Q S0 S1 F fuel (listed.setIfInBounds i true) a w) → K' a w) → if Region.wanted o (yielded ops a.tmps) = true then Oper.wp P o a w K' Q else K' (a.put o.dst undef) w)
    (hs : AllReadyF P md ops Q S0 S1 F fuel listed a w rs) : AllReadyF P md ops Q S0 S1 F fuel listed a w (i :: rs) := fun j hj => by
  rcases List.mem_cons.1 hj with rfl | hj
  · exact wpOp_step ho (fun K' hK => h K' (fun a w hS hS1 hW => hK a w ⟨⟨hS, hS1⟩, hW hS⟩))
  · exact hs j hj
theorem wpAnyF_ready {rs : List Nat} {fuel : Nat} {listed : Array Bool} {a : Act} {w : World} (hr : Region.ready md ops listed = rs) (hne : rs ≠ [])
    (h : AllReadyF P md ops Q S0 S1 F fuel listed a w rs) : wpAnyF P md ops Q S0 S1 F (fuel + 1) listed a w :=
  ⟨fun h0 => absurd (hr.symm.trans h0) hne, fun i hi => h i (by rw [← hr]; exact hi)⟩
end
/-- two rows that lie in blocks of their own -/
def Apart (v u : Value) : Prop := ∀ g, v.ownBlock = some g → Far u g
theorem Apart.none (c : Nat) (u : Value) : Apart (.slice none 0 c) u := fun g h => by cases h
theorem Apart.symm {v u : Value} (h : Apart v u) : Apart u v := fun g hg g' hg' e => h g' hg' g hg e.symm
theorem Apart.grown {W W' : World} {v v' u : Value} {B n sz : Nat} {e : TypeId} {xs : List Value} (h : Apart v u) (hU : W.ownsRow B e sz u n xs) (hf : ∀ b, b < W.heap.size → Far v b → Far v' b) : Apart v' u :=
  Apart.symm (fun g hg => hf g (hU.lt g hg).2 (h.symm g hg))
theorem own_other {W W' : World} {v u : Value} {B n sz : Nat} {e : TypeId} {xs : List Value} (hU : W.ownsRow B e sz u n xs) (hg : W.grownBy W' v.ownBlock) (h : Apart u v) : W'.ownsRow B e sz u n xs := by
  refine hU.kept hg ?_
  cases ho : u.ownBlock with
  | none => exact .inl rfl
  | some k => exact .inr (fun e => h k ho k e.symm rfl)
theorem Side.other {B : Nat} {W W' : World} {v u : Value} {b : Nat} {o : Obj} (h : Side B W u b o) (hv : Far v b) (hg : W.grownBy W' v.ownBlock) : Side B W' u b o :=
  ⟨h.1, Nat.lt_of_lt_of_le h.2.1 hg.size, (hg.block b h.2.1 (fun e => hv b e.symm rfl)).trans h.2.2.1, h.2.2.2⟩
theorem Side.set_ne {B : Nat} {W : World} {v : Value} {b b' : Nat} {o : Obj} (h : Side B W v b o) (hne : b ≠ b') (k : Nat) (u : Value) : Side B (W.setCell ⟨b', k, none⟩ u) v b o :=
  ⟨h.1, by rw [size_setCell]; exact h.2.1, (Below.heap_setCell _ _ _ _ hne).trans h.2.2.1, h.2.2.2⟩
theorem own_setFar {W : World} {B n sz : Nat} {e : TypeId} {v : Value} {xs : List Value} {b : Nat} (hO : W.ownsRow B e sz v n xs) (hF : Far v b) (k : Nat) (u : Value) : (W.setCell ⟨b, k, none⟩ u).ownsRow B e sz v n xs := by
  have hg : W.grownBy (W.setCell ⟨b, k, none⟩ u) (some b) := grown_setO (World.grownBy.refl W (some b))
  refine hO.kept hg ?_
  cases ho : v.ownBlock with
  | none => exact .inl rfl
  | some g => exact .inr (fun e => hF g ho (Option.some.inj e).symm)
end Go.Proofs.Ytafncmgijbkomaa
