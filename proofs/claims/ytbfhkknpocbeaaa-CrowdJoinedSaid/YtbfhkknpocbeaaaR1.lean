/- Proved here: contracts and laws of R1, a part of the proofs about the crowd laws: what some functions of the program and of the reference compute, and plain facts about it. Conditions: those that each theorem names, no others. -/
import Derived.Test.YtbfhkknpocbeaaaC29
import Derived.WalkKit
import Derived.WalkSpells
import Derived.WalkLawsBesides
import Derived.Below
import Derived.Deep.QuietTactic
import Derived.BigQuiet
import Derived.Deep.Light
import Derived.OrdersIn
import Derived.OwnWalkIn
import Derived.RangeFuncCalls
set_option linter.unusedSimpArgs false
set_option linter.unusedVariables false
namespace Go.Proofs.Ytbfhkknpocbeaaa
open Go.RowKit
theorem upon_round {P : Program} {o : Oper} {a : Act} {next next' : Act → World → Prop} {Q Q' : Exit → Act → World → Prop} (l n : Nat) (hQ : ∀ e a w, Q e a w → Q' e a w) (hL : ∀ a w, ¬ Q .outgrown a w)
    (hn : ∀ a w, next a w → next' a w) : ∀ r : Result Next, o.upon P a next Q r → o.uponIn (Fence.wide.inRound l) n P a next' Q' r := by
  intro r h
  cases r with
  | ok x w =>
    match x, h with
    | .value v, h => exact hn _ _ h
    | .skip, h => exact hn _ _ h
    | .defer d, h => exact hn _ _ h
    | .enter f args, h =>
      refine ⟨fun e => absurd e (fun h => Bool.noConfusion (show false = true from h)), (callsIn_wide (n := n - 1).2 h).inRound l |>.mono ?_⟩
      intro e w' he
      cases e with
      | returned v => exact hn _ _ he
      | panicked c => exact hQ _ _ _ he
      | outgrown => obtain ⟨a0, w0, h0⟩ := he; exact absurd h0 (hL _ _)
    | .row row args, h =>
      refine ⟨fun e => absurd e (fun h => Bool.noConfusion (show false = true from h)), fun c cs _ => ?_⟩
      obtain ⟨v, w', r1, s1⟩ := h c cs
      exact ⟨v, w', hn _ _ r1, stepsIn_wide.2 s1⟩
  | halt x w =>
    cases x <;> first | exact hQ _ _ _ h | exact h.elim
theorem any_round {P : Program} {md : Region.Mode} {ops : Array Oper} {Q Q' : Exit → Act → World → Prop} (l n : Nat) (hd : ∀ o, o ∈ ops → ∀ c, o.op ≠ .defer c) (hQ : ∀ e a w, Q e a w → Q' e a w) (hL : ∀ a w, ¬ Q .outgrown a w) :
    ∀ (fuel : Nat) (listed : Array Bool) (a : Act) (w : World), wpAny P md ops Q fuel listed a w → wpAnyIn (Fence.wide.inRound l) n P md ops Q' fuel listed a w
  | 0, _, _, _, h => ⟨h.1, hQ _ _ _ h.2⟩
  | fuel + 1, listed, a, w, h => by
    refine ⟨fun h0 => hQ _ _ _ (h.1 h0), fun i hi => ?_⟩
    have h1 := h.2 i hi
    unfold wpOp at h1
    unfold wpOpIn
    cases ho : ops[i]? with
    | none => simp only [ho] at h1 ⊢; exact any_round l n hd hQ hL fuel _ a w h1
    | some o =>
      simp only [ho] at h1 ⊢
      split
      · rename_i hw
        simp only [hw, if_true] at h1
        rcases h1 with h1 | ⟨_, a0, w0, h0⟩
        · refine ⟨fun _ _ => trivial, ?_⟩
          rw [Oper.semAt_plain _ _ _ (hd o (by rw [Array.getElem?_eq_some_iff] at ho; obtain ⟨h2, rfl⟩ := ho; exact Array.getElem_mem h2))]
          exact upon_round l n hQ hL (fun a w h => any_round l n hd hQ hL fuel _ a w h) _ h1
        · exact absurd h0 (hL _ _)
      · rename_i hw
        simp only [hw] at h1
        exact ⟨fun _ _ => trivial, any_round l n hd hQ hL fuel _ _ w h1⟩
def noDef (o : Oper) : Bool := match o.op with | .defer _ => false | _ => true
/-- a region that draws its order, in a round of a loop over an iterator: what it calls only grows the world -/
theorem wpIn_region_grow_round {P : Program} {id l n : Nat} {Q : Exit → Act → World → Prop} {a : Act} {w : World} {ops : List Oper} (hm : P.follows .mixedOrders = true) (hB : Region.lexB .any ops.toArray = true)
    (hd0 : ops.all noDef = true)
    (h : wpQuiet P ops.toArray (fun w' => ∃ g, w' = w.grow g) (fun a' => ∀ w', (∃ g, w' = w.grow g) → Q .normal a' w') ops a) : (Code.region id ops.toArray true).wpIn (Fence.wide.inRound l) n P Q a w := by
  have hd : ∀ o, o ∈ ops → ∀ c, o.op ≠ .defer c := fun o ho c e => by
    have := List.all_eq_true.1 hd0 o ho
    unfold noDef at this; rw [e] at this; cases this
  simp only [Region.lexB, Bool.and_eq_true] at hB
  refine wpIn_region_any hm (any_round (Q := fun e a' w' => match e with | .normal => Q .normal a' w' | _ => False) l n (fun o ho => hd o (by simpa using ho)) (fun e a w h => by cases e <;> first | exact h | exact h.elim) (fun _ _ h => h) _ _ _ _ ?_)
  refine wpAny_of_quiet (Q' := fun e a' w' => match e with | .normal => Q .normal a' w' | _ => False) (C := fun w' => ∃ g, w' = w.grow g) (Q := fun a' => ∀ w', (∃ g, w' = w.grow g) → Q .normal a' w') (fun _ w' hw' h => h w' hw') _ _ _ _ ⟨⟨#[], w.drawn + 1⟩, (show ({ w with drawn := w.drawn + 1 } : World) = w.grow ⟨#[], w.drawn + 1⟩ by simp [World.grow])⟩ ?_
  have := wpAnyQ_lex (C := fun w' => ∃ g, w' = w.grow g) (md := .any) hB.1 ops.toArray.toList 0 (Array.replicate ops.toArray.size false) a (by simp) (by simpa using hB.2) (by simpa using h)
  simpa using this
end Go.Proofs.Ytbfhkknpocbeaaa
