/- Proved here: regions whose loads come ahead of their stores, a part of the proofs about the tape laws. Conditions: those that each theorem names, no others. -/
import Derived.Test.YtafncmgijbkomaaP01
import Derived.WalkKit
import Derived.WalkSpells
import Derived.WalkLawsBesides
import Derived.Below
import Derived.Deep.QuietTactic
import Derived.BigQuiet
import Derived.Deep.Light
import Derived.Deep.RegionHeld3
set_option linter.unusedSimpArgs false
set_option linter.unusedVariables false
namespace Go.Proofs.Ytafncmgijbkomaa
open Go.RowKit
section
variable {P : Program} {ops : Array Oper} {Q : Exit → Act → World → Prop} {md : Region.Mode} {S0 S1 : World → Prop} {F : List Nat}
/-- none of these operations has come up -/
def noF (F : List Nat) (listed : Array Bool) : Bool := F.all fun f => !(listed.getD f true)
/-- Whatever order is picked: S0 holds behind every operation, S1 till one of F has come up. -/
def wpAnyF (P : Program) (md : Region.Mode) (ops : Array Oper) (Q : Exit → Act → World → Prop) (S0 S1 : World → Prop) (F : List Nat) : Nat → Array Bool → Act → World → Prop
  | 0, listed, a, w => Region.ready md ops listed = [] ∧ Q .normal a w
  | fuel + 1, listed, a, w =>
    (Region.ready md ops listed = [] → Q .normal a w) ∧
    ∀ i ∈ Region.ready md ops listed, wpOp P ops Q i (fun a' w' => (S0 w' ∧ (noF F (listed.setIfInBounds i true) = true → S1 w')) ∧ wpAnyF P md ops Q S0 S1 F fuel (listed.setIfInBounds i true) a' w') a w
theorem wpAny_of_F : ∀ (fuel : Nat) (listed : Array Bool) (a : Act) (w : World), wpAnyF P md ops Q S0 S1 F fuel listed a w → wpAny P md ops Q fuel listed a w
  | 0, _, _, _, h => h
  | fuel + 1, _, _, _, h => ⟨h.1, fun i hi => wpOp_mono (fun a' w' h' => wpAny_of_F fuel _ a' w' h'.2) (h.2 i hi)⟩
theorem noF_set {listed : Array Bool} {i : Nat} (hi : F.contains i = false) : noF F (listed.setIfInBounds i true) = noF F listed := by
  unfold noF
  rw [Bool.eq_iff_iff, List.all_eq_true, List.all_eq_true]
  have key : ∀ f, f ∈ F → (listed.setIfInBounds i true).getD f true = listed.getD f true := fun f hf => by
    refine getD_set_ne true (fun e => ?_)
    subst e
    rw [List.contains_iff_mem.2 hf] at hi
    cases hi
  exact ⟨fun h f hf => by rw [← key f hf]; exact h f hf, fun h f hf => by rw [key f hf]; exact h f hf⟩
/-- An operation that yields its value wherever S0 holds may be taken first. -/
theorem wpAnyF_first0 {i : Nat} {oi : Oper} {v : Value} (hi : ops[i]? = some oi) (hiF : F.contains i = false) (hsel : ∀ (j : Nat) (o : Oper) cs b, ops[j]? = some o → o.op ≠ .select cs b)
    (hQ : ∀ c a w, Q (.panic c) (a.put oi.dst v) w → Q (.panic c) a w) :
    ∀ (fuel : Nat) (listed : Array Bool) (a : Act) (w : World),
      (∀ j oj, ops[j]? = some oj → j ≠ i → listed.getD j true = false → (∀ e ∈ oj.after, Region.binds md e = true → e.on ≠ i) → oi.apart ops oj = true) →
      i ∈ Region.ready md ops listed → YieldsIf P ops S0 oi v a → S0 w → (noF F listed = true → S1 w) →
      wpAnyF P md ops Q S0 S1 F fuel (listed.setIfInBounds i true) (a.put oi.dst v) w → wpAnyF P md ops Q S0 S1 F (fuel + 1) listed a w := by
  intro fuel
  induction fuel with
  | zero =>
    intro listed a w _ hr hy hS hS1 H
    refine ⟨fun h => (by rw [h] at hr; cases hr), fun j hj => ?_⟩
    by_cases hji : j = i
    · subst hji; exact hy.wpOp hi hS ⟨⟨hS, by rw [noF_set hiF]; exact hS1⟩, H⟩
    · have := ready_mono hj hji
      rw [H.1] at this
      cases this
  | succ fuel ih =>
    intro listed a w hfree hr hy hS hS1 H
    refine ⟨fun h => (by rw [h] at hr; cases hr), fun j hj => ?_⟩
    by_cases hji : j = i
    · subst hji; exact hy.wpOp hi hS ⟨⟨hS, by rw [noF_set hiF]; exact hS1⟩, H⟩
    · have h1 := H.2 j (ready_mono hj hji)
      obtain ⟨hjun, oj, hoj, hall⟩ := mem_ready.1 hj
      have hnot : ∀ e ∈ oj.after, Region.binds md e = true → e.on ≠ i := fun e he hb heq => by
        have h1 := hall e he hb
        have h0 := (mem_ready.1 hr).1
        rw [heq] at h1
        rcases Nat.lt_or_ge i listed.size with h' | h'
        · simp [h'] at h0 h1; rw [h0] at h1; cases h1
        · simp [Array.getElem?_eq_none h'] at h1
      have h2 := wpOp_putIf hoj (hfree j oj hoj hji hjun hnot) (fun cs b => hsel i oi cs b hi) (fun cs b => hsel j oj cs b hoj) hQ hy h1
      have hfree' : ∀ k ok, ops[k]? = some ok → k ≠ i → (listed.setIfInBounds j true).getD k true = false →
          (∀ e ∈ ok.after, Region.binds md e = true → e.on ≠ i) → oi.apart ops ok = true := fun k ok hk hki hun hno => by
        refine hfree k ok hk hki ?_ hno
        by_cases hjk : j = k
        · subst hjk; exact hjun
        · rw [getD_set_ne true hjk] at hun; exact hun
      refine wpOp_mono (fun a' w' h3 => ?_) h2
      obtain ⟨hy', ⟨hS', hS1'⟩, h4⟩ := h3
      rw [Array.setIfInBounds_comm _ _ (Ne.symm hji)] at hS1' h4
      rw [noF_set hiF] at hS1'
      exact ⟨⟨hS', hS1'⟩, ih (listed.setIfInBounds j true) a' w' hfree' (ready_mono hr (Ne.symm hji)) hy' hS' hS1' h4⟩
/-- An operation for which all of F wait, and that yields its value wherever S0 and S1 hold, may be taken first. -/
theorem wpAnyF_first1 {i : Nat} {oi : Oper} {v : Value} (hi : ops[i]? = some oi) (hiF : F.contains i = false) (hF : ∀ f of, f ∈ F → ops[f]? = some of → ∃ e ∈ of.after, Region.binds md e = true ∧ e.on = i) (hsel : ∀ (j : Nat) (o : Oper) cs b, ops[j]? = some o → o.op ≠ .select cs b)
    (hQ : ∀ c a w, Q (.panic c) (a.put oi.dst v) w → Q (.panic c) a w) :
    ∀ (fuel : Nat) (listed : Array Bool) (a : Act) (w : World),
      (∀ j oj, ops[j]? = some oj → j ≠ i → listed.getD j true = false → (∀ e ∈ oj.after, Region.binds md e = true → e.on ≠ i) → oi.apart ops oj = true) →
      i ∈ Region.ready md ops listed → YieldsIf P ops (fun w => S0 w ∧ S1 w) oi v a → S0 w → noF F listed = true → S1 w →
      wpAnyF P md ops Q S0 S1 F fuel (listed.setIfInBounds i true) (a.put oi.dst v) w → wpAnyF P md ops Q S0 S1 F (fuel + 1) listed a w := by
  intro fuel
  induction fuel with
  | zero =>
    intro listed a w _ hr hy hS hn hS1 H
    refine ⟨fun h => (by rw [h] at hr; cases hr), fun j hj => ?_⟩
    by_cases hji : j = i
    · subst hji; exact hy.wpOp hi ⟨hS, hS1⟩ ⟨⟨hS, fun _ => hS1⟩, H⟩
    · have := ready_mono hj hji
      rw [H.1] at this
      cases this
  | succ fuel ih =>
    intro listed a w hfree hr hy hS hn hS1 H
    refine ⟨fun h => (by rw [h] at hr; cases hr), fun j hj => ?_⟩
    by_cases hji : j = i
    · subst hji; exact hy.wpOp hi ⟨hS, hS1⟩ ⟨⟨hS, fun _ => hS1⟩, H⟩
    · have h1 := H.2 j (ready_mono hj hji)
      obtain ⟨hjun, oj, hoj, hall⟩ := mem_ready.1 hj
      have hnot : ∀ e ∈ oj.after, Region.binds md e = true → e.on ≠ i := fun e he hb heq => by
        have h1 := hall e he hb
        have h0 := (mem_ready.1 hr).1
        rw [heq] at h1
        rcases Nat.lt_or_ge i listed.size with h' | h'
        · simp [h'] at h0 h1; rw [h0] at h1; cases h1
        · simp [Array.getElem?_eq_none h'] at h1
      have hjF : F.contains j = false := by
        rw [Bool.eq_false_iff]
        intro g
        obtain ⟨e, he, hb, hon⟩ := hF j oj (List.contains_iff_mem.1 g) hoj
        exact hnot e he hb hon
      have h2 := wpOp_putIf hoj (hfree j oj hoj hji hjun hnot) (fun cs b => hsel i oi cs b hi) (fun cs b => hsel j oj cs b hoj) hQ hy h1
      have hfree' : ∀ k ok, ops[k]? = some ok → k ≠ i → (listed.setIfInBounds j true).getD k true = false →
          (∀ e ∈ ok.after, Region.binds md e = true → e.on ≠ i) → oi.apart ops ok = true := fun k ok hk hki hun hno => by
        refine hfree k ok hk hki ?_ hno
        by_cases hjk : j = k
        · subst hjk; exact hjun
        · rw [getD_set_ne true hjk] at hun; exact hun
      refine wpOp_mono (fun a' w' h3 => ?_) h2
      obtain ⟨hy', ⟨hS', hS1'⟩, h4⟩ := h3
      rw [Array.setIfInBounds_comm _ _ (Ne.symm hji)] at hS1' h4
      rw [noF_set hiF, noF_set hjF] at hS1'
      exact ⟨⟨hS', fun _ => hS1' hn⟩, ih (listed.setIfInBounds j true) a' w' hfree' (ready_mono hr (Ne.symm hji)) hy' hS' (by rw [noF_set hjF]; exact hn) (hS1' hn) h4⟩
theorem wpAnyF_take0 {i : Nat} {oi : Oper} {v : Value} {fuel : Nat} {listed : Array Bool} {a : Act} {w : World} (hi : ops[i]? = some oi) (hiF : F.contains i = false)
    (hs : Region.noSelect ops = true) (hf : Region.free md ops listed i = true) (hr : (Region.ready md ops listed).contains i = true)
    (hQ : ∀ c a w, Q (.panic c) (a.put oi.dst v) w → Q (.panic c) a w) (hy : YieldsIf P ops S0 oi v a) (hS : S0 w) (hS1 : noF F listed = true → S1 w)
    (h : wpAnyF P md ops Q S0 S1 F fuel (listed.setIfInBounds i true) (a.put oi.dst v) w) : wpAnyF P md ops Q S0 S1 F (fuel + 1) listed a w :=
  wpAnyF_first0 hi hiF (Region.noSelect_spec hs) hQ fuel listed a w (Region.free_spec hi hf) (by simpa using hr) hy hS hS1 h
def waitF (md : Region.Mode) (ops : Array Oper) (F : List Nat) (i : Nat) : Bool := F.all fun f => match ops[f]? with | some of => of.after.any (fun e => Region.binds md e && (e.on == i)) | none => true
theorem waitF_spec {i : Nat} (h : waitF md ops F i = true) : ∀ f of, f ∈ F → ops[f]? = some of → ∃ e ∈ of.after, Region.binds md e = true ∧ e.on = i := fun f of hf ho => by
  have h1 := List.all_eq_true.1 h f hf
  rw [ho] at h1
  simp only [Array.any_eq_true, Bool.and_eq_true, beq_iff_eq] at h1
  obtain ⟨k, hk, h2, h3⟩ := h1
  exact ⟨of.after[k], Array.getElem_mem hk, h2, h3⟩
theorem wpAnyF_take1 {i : Nat} {oi : Oper} {v : Value} {fuel : Nat} {listed : Array Bool} {a : Act} {w : World} (hi : ops[i]? = some oi) (hiF : F.contains i = false) (hF : waitF md ops F i = true)
    (hs : Region.noSelect ops = true) (hf : Region.free md ops listed i = true) (hr : (Region.ready md ops listed).contains i = true)
    (hQ : ∀ c a w, Q (.panic c) (a.put oi.dst v) w → Q (.panic c) a w) (hy : YieldsIf P ops (fun w => S0 w ∧ S1 w) oi v a) (hS : S0 w) (hn : noF F listed = true) (hS1 : S1 w)
    (h : wpAnyF P md ops Q S0 S1 F fuel (listed.setIfInBounds i true) (a.put oi.dst v) w) : wpAnyF P md ops Q S0 S1 F (fuel + 1) listed a w :=
  wpAnyF_first1 hi hiF (waitF_spec hF) (Region.noSelect_spec hs) hQ fuel listed a w (Region.free_spec hi hf) (by simpa using hr) hy hS hn hS1 h
theorem wpAnyF_one {i : Nat} {o : Oper} {fuel : Nat} {listed : Array Bool} {a : Act} {w : World} (hr : Region.ready md ops listed = [i]) (ho : ops[i]? = some o)
    (h : ∀ K' : Act → World → Prop, Shut (∀ a w, S0 w → (noF F (listed.setIfInBounds i true) = true → S1 w) → (S0 w → wpAnyF P md ops Q S0 S1 F fuel (listed.setIfInBounds i true) a w) → K' a w) → if Region.wanted o (yielded ops a.tmps) = true then Oper.wp P o a w K' Q else K' (a.put o.dst undef) w) : wpAnyF P md ops Q S0 S1 F (fuel + 1) listed a w :=
  ⟨fun h0 => (by rw [hr] at h0; cases h0), fun j hj => by
    rw [hr, List.mem_singleton] at hj
    subst hj
    exact wpOp_step ho (fun K' hK => h K' (fun a w hS hS1 hW => hK a w ⟨⟨hS, hS1⟩, hW hS⟩))⟩
theorem wpAnyF_done {listed : Array Bool} {a : Act} {w : World} (hr : Region.ready md ops listed = []) (h : Q .normal a w) :
    ∀ fuel, wpAnyF P md ops Q S0 S1 F fuel listed a w
  | 0 => ⟨hr, h⟩
  | _ + 1 => ⟨fun _ => h, by rw [hr]; simp⟩
theorem wp_region_F {id : Nat} {a : Act} {w : World} (F : List Nat) (S0 S1 : World → Prop) (hm : P.follows .mixedOrders = true)
    (h : wpAnyF P .any ops Q S0 S1 F ops.size (Array.replicate ops.size false) a w.drew) : (Code.region id ops true).wp P Q a w :=
  wp_region_any hm (wpAny_of_F _ _ _ _ h)
end
end Go.Proofs.Ytafncmgijbkomaa
