/- Proved here: regions whose loads come ahead of their stores; append onto an empty list, a part of the proofs about the box laws. Conditions: those that each theorem names, no others. -/
import Derived.Test.YtlbkaeoagdbemaaP38
import Derived.WalkKit
import Derived.WalkSpells
import Derived.WalkLawsBesides
import Derived.Below
import Derived.Deep.QuietTactic
import Derived.BigQuiet
import Derived.Deep.Light
import Derived.Test.YtlbkaeoagdbemaaG9
import Derived.Test.YtlbkaeoagdbemaaG15
import Derived.Test.YtlbkaeoagdbemaaG17
import Derived.Deep.RegionHeld3
import Derived.Deep.CutRange
import Derived.Deep.AppendSrc
import Derived.Laws.OwnMore
set_option linter.unusedSimpArgs false
set_option linter.unusedVariables false
namespace Go.Proofs.Ytlbkaeoagdbemaa
open Go.RowKit Go.Maps
section
variable {P : Program} {ops : Array Oper} {Q : Exit → Act → World → Prop} {md : Region.Mode} {S0 S1 : World → Prop} {F : List Nat}
/-- none of these operations has come up -/
def noF (F : List Nat) (listed : Array Bool) : Bool := F.all fun f => !(listed.getD f true)
/-- Whatever order is picked: S0 holds behind every operation, S1 till one of F has come up. -/
def wpAnyF (P : Program) (md : Region.Mode) (ops : Array Oper) (Q : Exit → Act → World → Prop) (S0 S1 : World → Prop) (F : List Nat) : Nat → Array Bool → Act → World → Prop
  | 0, listed, a, w => Region.ready md ops listed = [] ∧ Q .normal a w
  | fuel + 1, listed, a, w =>
    (Region.ready md ops listed = [] → Q .normal a w) ∧
    ∀ i ∈ Region.ready md ops listed, wpOp P ops Q i (fun a' w' => (S0 w' ∧ (noF F (listed.setIfInBounds i true) = true → S1 w')) ∧ wpAnyF P md ops Q S0 S1 F fuel (listed.setIfInBounds i true) a' w') a w
theorem wpAny_of_F : ∀ (fuel : Nat) (listed : Array Bool) (a : Act) (w : World), wpAnyF P md ops Q S0 S1 F fuel listed a w → wpAny P md ops Q fuel listed a w
  | 0, _, _, _, h => h
  | fuel + 1, _, _, _, h => ⟨h.1, fun i hi => wpOp_mono (fun a' w' h' => wpAny_of_F fuel _ a' w' h'.2) (h.2 i hi)⟩
theorem noF_set {listed : Array Bool} {i : Nat} (hi : F.contains i = false) : noF F (listed.setIfInBounds i true) = noF F listed := by
  unfold noF
  rw [Bool.eq_iff_iff, List.all_eq_true, List.all_eq_true]
  have key : ∀ f, f ∈ F → (listed.setIfInBounds i true).getD f true = listed.getD f true := fun f hf => by
    refine getD_set_ne true (fun e => ?_)
    subst e
    rw [List.contains_iff_mem.2 hf] at hi
    cases hi
  exact ⟨fun h f hf => by rw [← key f hf]; exact h f hf, fun h f hf => by rw [key f hf]; exact h f hf⟩
/-- An operation that yields its value wherever S0 holds may be taken first. -/
theorem wpAnyF_first0 {i : Nat} {oi : Oper} {v : Value} (hi : ops[i]? = some oi) (hiF : F.contains i = false) (hsel : ∀ (j : Nat) (o : Oper) cs b, ops[j]? = some o → o.op ≠ .select cs b)
    (hQ : ∀ c a w, Q (.panic c) (a.put oi.dst v) w → Q (.panic c) a w) :
    ∀ (fuel : Nat) (listed : Array Bool) (a : Act) (w : World),
      (∀ j oj, ops[j]? = some oj → j ≠ i → listed.getD j true = false → (∀ e ∈ oj.after, Region.binds md e = true → e.on ≠ i) → oi.apart ops oj = true) →
      i ∈ Region.ready md ops listed → YieldsIf P ops S0 oi v a → S0 w → (noF F listed = true → S1 w) →
      wpAnyF P md ops Q S0 S1 F fuel (listed.setIfInBounds i true) (a.put oi.dst v) w → wpAnyF P md ops Q S0 S1 F (fuel + 1) listed a w := by
  intro fuel
  induction fuel with
  | zero =>
    intro listed a w _ hr hy hS hS1 H
    refine ⟨fun h => (by rw [h] at hr; cases hr), fun j hj => ?_⟩
    by_cases hji : j = i
    · subst hji; exact hy.wpOp hi hS ⟨⟨hS, by rw [noF_set hiF]; exact hS1⟩, H⟩
    · have := ready_mono hj hji
      rw [H.1] at this
      cases this
  | succ fuel ih =>
    intro listed a w hfree hr hy hS hS1 H
    refine ⟨fun h => (by rw [h] at hr; cases hr), fun j hj => ?_⟩
    by_cases hji : j = i
    · subst hji; exact hy.wpOp hi hS ⟨⟨hS, by rw [noF_set hiF]; exact hS1⟩, H⟩
    · have h1 := H.2 j (ready_mono hj hji)
      obtain ⟨hjun, oj, hoj, hall⟩ := mem_ready.1 hj
      have hnot : ∀ e ∈ oj.after, Region.binds md e = true → e.on ≠ i := fun e he hb heq => by
        have h1 := hall e he hb
        have h0 := (mem_ready.1 hr).1
        rw [heq] at h1
        rcases Nat.lt_or_ge i listed.size with h' | h'
        · simp [h'] at h0 h1; rw [h0] at h1; cases h1
        · simp [Array.getElem?_eq_none h'] at h1
      have h2 := wpOp_putIf hoj (hfree j oj hoj hji hjun hnot) (fun cs b => hsel i oi cs b hi) (fun cs b => hsel j oj cs b hoj) hQ hy h1
      have hfree' : ∀ k ok, ops[k]? = some ok → k ≠ i → (listed.setIfInBounds j true).getD k true = false →
          (∀ e ∈ ok.after, Region.binds md e = true → e.on ≠ i) → oi.apart ops ok = true := fun k ok hk hki hun hno => by
        refine hfree k ok hk hki ?_ hno
        by_cases hjk : j = k
        · subst hjk; exact hjun
        · rw [getD_set_ne true hjk] at hun; exact hun
      refine wpOp_mono (fun a' w' h3 => ?_) h2
      obtain ⟨hy', ⟨hS', hS1'⟩, h4⟩ := h3
      rw [Array.setIfInBounds_comm _ _ (Ne.symm hji)] at hS1' h4
      rw [noF_set hiF] at hS1'
      exact ⟨⟨hS', hS1'⟩, ih (listed.setIfInBounds j true) a' w' hfree' (ready_mono hr (Ne.symm hji)) hy' hS' hS1' h4⟩
/-- An operation for which all of F wait, and that yields its value wherever S0 and S1 hold, may be taken first. -/
theorem wpAnyF_first1 {i : Nat} {oi : Oper} {v : Value} (hi : ops[i]? = some oi) (hiF : F.contains i = false) (hF : ∀ f of, f ∈ F → ops[f]? = some of → ∃ e ∈ of.after, Region.binds md e = true ∧ e.on = i) (hsel : ∀ (j : Nat) (o : Oper) cs b, ops[j]? = some o → o.op ≠ .select cs b)
    (hQ : ∀ c a w, Q (.panic c) (a.put oi.dst v) w → Q (.panic c) a w) :
    ∀ (fuel : Nat) (listed : Array Bool) (a : Act) (w : World),
      (∀ j oj, ops[j]? = some oj → j ≠ i → listed.getD j true = false → (∀ e ∈ oj.after, Region.binds md e = true → e.on ≠ i) → oi.apart ops oj = true) →
      i ∈ Region.ready md ops listed → YieldsIf P ops (fun w => S0 w ∧ S1 w) oi v a → S0 w → noF F listed = true → S1 w →
      wpAnyF P md ops Q S0 S1 F fuel (listed.setIfInBounds i true) (a.put oi.dst v) w → wpAnyF P md ops Q S0 S1 F (fuel + 1) listed a w := by
  intro fuel
  induction fuel with
  | zero =>
    intro listed a w _ hr hy hS hn hS1 H
    refine ⟨fun h => (by rw [h] at hr; cases hr), fun j hj => ?_⟩
    by_cases hji : j = i
    · subst hji; exact hy.wpOp hi ⟨hS, hS1⟩ ⟨⟨hS, fun _ => hS1⟩, H⟩
    · have := ready_mono hj hji
      rw [H.1] at this
      cases this
  | succ fuel ih =>
    intro listed a w hfree hr hy hS hn hS1 H
    refine ⟨fun h => (by rw [h] at hr; cases hr), fun j hj => ?_⟩
    by_cases hji : j = i
    · subst hji; exact hy.wpOp hi ⟨hS, hS1⟩ ⟨⟨hS, fun _ => hS1⟩, H⟩
    · have h1 := H.2 j (ready_mono hj hji)
      obtain ⟨hjun, oj, hoj, hall⟩ := mem_ready.1 hj
      have hnot : ∀ e ∈ oj.after, Region.binds md e = true → e.on ≠ i := fun e he hb heq => by
        have h1 := hall e he hb
        have h0 := (mem_ready.1 hr).1
        rw [heq] at h1
        rcases Nat.lt_or_ge i listed.size with h' | h'
        · simp [h'] at h0 h1; rw [h0] at h1; cases h1
        · simp [Array.getElem?_eq_none h'] at h1
      have hjF : F.contains j = false := by
        rw [Bool.eq_false_iff]
        intro g
        obtain ⟨e, he, hb, hon⟩ := hF j oj (List.contains_iff_mem.1 g) hoj
        exact hnot e he hb hon
      have h2 := wpOp_putIf hoj (hfree j oj hoj hji hjun hnot) (fun cs b => hsel i oi cs b hi) (fun cs b => hsel j oj cs b hoj) hQ hy h1
      have hfree' : ∀ k ok, ops[k]? = some ok → k ≠ i → (listed.setIfInBounds j true).getD k true = false →
          (∀ e ∈ ok.after, Region.binds md e = true → e.on ≠ i) → oi.apart ops ok = true := fun k ok hk hki hun hno => by
        refine hfree k ok hk hki ?_ hno
        by_cases hjk : j = k
        · subst hjk; exact hjun
        · rw [getD_set_ne true hjk] at hun; exact hun
      refine wpOp_mono (fun a' w' h3 => ?_) h2
      obtain ⟨hy', ⟨hS', hS1'⟩, h4⟩ := h3
      rw [Array.setIfInBounds_comm _ _ (Ne.symm hji)] at hS1' h4
      rw [noF_set hiF, noF_set hjF] at hS1'
      exact ⟨⟨hS', fun _ => hS1' hn⟩, ih (listed.setIfInBounds j true) a' w' hfree' (ready_mono hr (Ne.symm hji)) hy' hS' (by rw [noF_set hjF]; exact hn) (hS1' hn) h4⟩
theorem wpAnyF_take0 {i : Nat} {oi : Oper} {v : Value} {fuel : Nat} {listed : Array Bool} {a : Act} {w : World} (hi : ops[i]? = some oi) (hiF : F.contains i = false)
    (hs : Region.noSelect ops = true) (hf : Region.free md ops listed i = true) (hr : (Region.ready md ops listed).contains i = true)
    (hQ : ∀ c a w, Q (.panic c) (a.put oi.dst v) w → Q (.panic c) a w) (hy : YieldsIf P ops S0 oi v a) (hS : S0 w) (hS1 : noF F listed = true → S1 w)
    (h : wpAnyF P md ops Q S0 S1 F fuel (listed.setIfInBounds i true) (a.put oi.dst v) w) : wpAnyF P md ops Q S0 S1 F (fuel + 1) listed a w :=
  wpAnyF_first0 hi hiF (Region.noSelect_spec hs) hQ fuel listed a w (Region.free_spec hi hf) (by simpa using hr) hy hS hS1 h
def waitF (md : Region.Mode) (ops : Array Oper) (F : List Nat) (i : Nat) : Bool := F.all fun f => match ops[f]? with | some of => of.after.any (fun e => Region.binds md e && (e.on == i)) | none => true
theorem waitF_spec {i : Nat} (h : waitF md ops F i = true) : ∀ f of, f ∈ F → ops[f]? = some of → ∃ e ∈ of.after, Region.binds md e = true ∧ e.on = i := fun f of hf ho => by
  have h1 := List.all_eq_true.1 h f hf
  rw [ho] at h1
  simp only [Array.any_eq_true, Bool.and_eq_true, beq_iff_eq] at h1
  obtain ⟨k, hk, h2, h3⟩ := h1
  exact ⟨of.after[k], Array.getElem_mem hk, h2, h3⟩
theorem wpAnyF_take1 {i : Nat} {oi : Oper} {v : Value} {fuel : Nat} {listed : Array Bool} {a : Act} {w : World} (hi : ops[i]? = some oi) (hiF : F.contains i = false) (hF : waitF md ops F i = true)
    (hs : Region.noSelect ops = true) (hf : Region.free md ops listed i = true) (hr : (Region.ready md ops listed).contains i = true)
    (hQ : ∀ c a w, Q (.panic c) (a.put oi.dst v) w → Q (.panic c) a w) (hy : YieldsIf P ops (fun w => S0 w ∧ S1 w) oi v a) (hS : S0 w) (hn : noF F listed = true) (hS1 : S1 w)
    (h : wpAnyF P md ops Q S0 S1 F fuel (listed.setIfInBounds i true) (a.put oi.dst v) w) : wpAnyF P md ops Q S0 S1 F (fuel + 1) listed a w :=
  wpAnyF_first1 hi hiF (waitF_spec hF) (Region.noSelect_spec hs) hQ fuel listed a w (Region.free_spec hi hf) (by simpa using hr) hy hS hn hS1 h
theorem wpAnyF_one {i : Nat} {o : Oper} {fuel : Nat} {listed : Array Bool} {a : Act} {w : World} (hr : Region.ready md ops listed = [i]) (ho : ops[i]? = some o)
    (h : ∀ K' : Act → World → Prop, Shut (∀ a w, S0 w → (noF F (listed.setIfInBounds i true) = true → S1 w) → (S0 w → wpAnyF P md ops Q S0 S1 F fuel (listed.setIfInBounds i true) a w) → K' a w) → if Region.wanted o (yielded ops a.tmps) = true then Oper.wp P o a w K' Q else K' (a.put o.dst undef) w) : wpAnyF P md ops Q S0 S1 F (fuel + 1) listed a w :=
  ⟨fun h0 => (by rw [hr] at h0; cases h0), fun j hj => by
    rw [hr, List.mem_singleton] at hj
    subst hj
    exact wpOp_step ho (fun K' hK => h K' (fun a w hS hS1 hW => hK a w ⟨⟨hS, hS1⟩, hW hS⟩))⟩
theorem wpAnyF_done {listed : Array Bool} {a : Act} {w : World} (hr : Region.ready md ops listed = []) (h : Q .normal a w) :
    ∀ fuel, wpAnyF P md ops Q S0 S1 F fuel listed a w
  | 0 => ⟨hr, h⟩
  | _ + 1 => ⟨fun _ => h, by rw [hr]; simp⟩
theorem wp_region_F {id : Nat} {a : Act} {w : World} (F : List Nat) (S0 S1 : World → Prop) (hm : P.follows .mixedOrders = true)
    (h : wpAnyF P .any ops Q S0 S1 F ops.size (Array.replicate ops.size false) a w.drew) : (Code.region id ops true).wp P Q a w :=
  wp_region_any hm (wpAny_of_F _ _ _ _ h)
end
section
variable {P : Program} {ops : Array Oper} {Q : Exit → Act → World → Prop} {md : Region.Mode} {S0 S1 : World → Prop} {F : List Nat}
def AllReadyF (P : Program) (md : Region.Mode) (ops : Array Oper) (Q : Exit → Act → World → Prop) (S0 S1 : World → Prop) (F : List Nat) (fuel : Nat) (listed : Array Bool) (a : Act) (w : World) (rs : List Nat) : Prop :=
  ∀ i ∈ rs, wpOp P ops Q i (fun a' w' => (S0 w' ∧ (noF F (listed.setIfInBounds i true) = true → S1 w')) ∧ wpAnyF P md ops Q S0 S1 F fuel (listed.setIfInBounds i true) a' w') a w
theorem AllReadyF.nil {fuel : Nat} {listed : Array Bool} {a : Act} {w : World} : AllReadyF P md ops Q S0 S1 F fuel listed a w [] := fun _ h => by cases h
theorem AllReadyF.cons {fuel : Nat} {listed : Array Bool} {a : Act} {w : World} {i : Nat} {o : Oper} {rs : List Nat} (ho : ops[i]? = some o)
    (h : ∀ K' : Act → World → Prop, Shut (∀ a w, S0 w → (noF F (listed.setIfInBounds i true) = true → S1 w) → (S0 w → wpAnyF P md ops Q S0 S1 F fuel (listed.setIfInBounds i true) a w) → K' a w) → if Region.wanted o (yielded ops a.tmps) = true then Oper.wp P o a w K' Q else K' (a.put o.dst undef) w)
    (hs : AllReadyF P md ops Q S0 S1 F fuel listed a w rs) : AllReadyF P md ops Q S0 S1 F fuel listed a w (i :: rs) := fun j hj => by
  rcases List.mem_cons.1 hj with rfl | hj
  · exact wpOp_step ho (fun K' hK => h K' (fun a w hS hS1 hW => hK a w ⟨⟨hS, hS1⟩, hW hS⟩))
  · exact hs j hj
theorem wpAnyF_ready {rs : List Nat} {fuel : Nat} {listed : Array Bool} {a : Act} {w : World} (hr : Region.ready md ops listed = rs) (hne : rs ≠ [])
    (h : AllReadyF P md ops Q S0 S1 F fuel listed a w rs) : wpAnyF P md ops Q S0 S1 F (fuel + 1) listed a w :=
  ⟨fun h0 => absurd (hr.symm.trans h0) hne, fun i hi => h i (by rw [← hr]; exact hi)⟩
end
/-- two rows that lie in blocks of their own -/
def Apart (v u : Value) : Prop := ∀ g, v.ownBlock = some g → Far u g
theorem Apart.none (c : Nat) (u : Value) : Apart (.slice none 0 c) u := fun g h => by cases h
theorem Apart.symm {v u : Value} (h : Apart v u) : Apart u v := fun g hg g' hg' e => h g' hg' g hg e.symm
theorem Apart.grown {W W' : World} {v v' u : Value} {B n sz : Nat} {e : TypeId} {xs : List Value} (h : Apart v u) (hU : W.ownsRow B e sz u n xs) (hf : ∀ b, b < W.heap.size → Far v b → Far v' b) : Apart v' u :=
  Apart.symm (fun g hg => hf g (hU.lt g hg).2 (h.symm g hg))
theorem own_other {W W' : World} {v u : Value} {B n sz : Nat} {e : TypeId} {xs : List Value} (hU : W.ownsRow B e sz u n xs) (hg : W.grownBy W' v.ownBlock) (h : Apart u v) : W'.ownsRow B e sz u n xs := by
  refine hU.kept hg ?_
  cases ho : u.ownBlock with
  | none => exact .inl rfl
  | some k => exact .inr (fun e => h k ho k e.symm rfl)
theorem one_i64 (xs : List Int) : ∀ u ∈ xs.map (Value.int .i64), u.oneCell' = true := by
  intro u hu
  obtain ⟨x, _, rfl⟩ := List.mem_map.1 hu
  rfl
/-- append onto an empty list: a new block -/
theorem app_new {P : Program} (w : World) (t ty e : TypeId) (i : TypeInfo) (z : Value) (ht : P.underlying t = some (.slice e)) (hi : P.info? e = some i) (hz : i.zero = some z)
    (hsize : i.size = 1) (hby : i.bytes = 8) (A : Option Addr) (A2 : Option Addr) (m c : Nat) (news : List Value) (hr : Rd w 1 A2 m news) (h1 : ∀ u ∈ news, u.oneCell' = true) (hm : 0 < m) (hm2 : m ≤ 1000) :
    ∃ c' g cs, (Builtin.append_ #[t, t] ty #[.slice A 0 0, .slice A2 m c]).run P w = .ok (.slice (some ⟨w.heap.size, 0, none⟩) m c') (w.grow g) ∧ m ≤ c' ∧ (w.grow g).heap[w.heap.size]? = some (.cells cs e (0, 0)) ∧ ∀ (j : Nat) (u : Value), news[j]? = some u → cs[j]? = some u := by
  have ho : Rd w 1 A 0 [] := ⟨rfl, fun h => absurd h (by omega)⟩
  have hrun := run_append_grow_src (P := P) (w := w) t t ty e i z ht hi hz A 0 0 [] (by rw [hsize]; exact rd_first (w := w.drew) ho) (.slice A2 m c) m news (by rw [hsize]; exact rd_src ht hr h1) (by omega) (by omega) (growslice_fits (by omega) (by rw [hby]; omega))
  obtain ⟨g, hg⟩ := below_grow (w := w) (w' := w.drew.alloc (.cells (([] ++ news : List Value).toArray ++ Builtin.zeroCells z.cells (grownCap w (0 + m) 0 e - (0 + m))) e)) (by (repeat (first | exact Below.refl _ _ | assumption | (refine below_gr ?_ (by (first | omega | (simp only [size_grow, World.size_alloc, size_drewN, size_drew, size_setCell] at *; omega))) _) | (refine below_alloc ?_ (by (first | omega | (simp only [size_grow, World.size_alloc, size_drewN, size_drew, size_setCell] at *; omega))) _) | (refine Below.setCell ?_ (by (first | omega | (simp only [size_grow, World.size_alloc, size_drewN, size_drew, size_setCell] at *; omega))) _) | refine below_drewN ?_ _ | refine below_drew ?_ | (refine below_step ?_ (by assumption) (by (first | omega | (simp only [size_grow, World.size_alloc, size_drewN, size_drew, size_setCell] at *; omega)))))))
  refine ⟨grownCap w (0 + m) 0 e, g, (([] ++ news : List Value).toArray ++ Builtin.zeroCells z.cells (grownCap w (0 + m) 0 e - (0 + m))), ?_, ?_, ?_, ?_⟩
  · rw [hrun, hg, Nat.zero_add]
  · have := grownCap_ge w (0 + m) 0 e; omega
  · rw [← hg]
    have := heap_alloc_new w.drew (.cells (([] ++ news : List Value).toArray ++ Builtin.zeroCells z.cells (grownCap w (0 + m) 0 e - (0 + m))) e)
    exact this
  · intro j u hu
    have hj : j < news.length := (List.getElem?_eq_some_iff.1 hu).1
    rw [Array.getElem?_append_left (by simpa using hj)]
    simpa using hu
theorem wp_new {P : Program} (w : World) {o : Oper} {a : Act} {K : Act → World → Prop} {Q : Exit → Act → World → Prop} (s x : Operand) (t : TypeId)
    (hop : o.op = .call { callee := .builtin .append, args := #[s, x], argTypes := #[t, t] })
    (e : TypeId) (i : TypeInfo) (z : Value) (ht : P.underlying t = some (.slice e)) (hi : P.info? e = some i) (hz : i.zero = some z)
    (hsize : i.size = 1) (hby : i.bytes = 8) (A : Option Addr) (hs : a.eval s = .slice A 0 0) (A2 : Option Addr) (m c : Nat) (news : List Value) (hx : a.eval x = .slice A2 m c) (hr : Rd w 1 A2 m news) (h1 : ∀ u ∈ news, u.oneCell' = true) (hm : 0 < m) (hm2 : m ≤ 1000)
    (h : ∀ b c' w' cs, Below w.heap.size w w' → w.heap.size ≤ b → m ≤ c' → BlkAt w' b cs e → (∀ (j : Nat) (u : Value), news[j]? = some u → cs[j]? = some u) → K (a.put o.dst (.slice (some ⟨b, 0, none⟩) m c')) w') : o.wp P a w K Q := by
  obtain ⟨c', g, cs, hrun, hcc, hb, hat⟩ := app_new (P := P) w t o.type e i z ht hi hz hsize hby A A2 m c news hr h1 hm hm2
  unfold Oper.wp execOp
  simp only [hop, resolve, invoke, builtin, Sem.run_bind, Sem.run_pure, Result.andThen_ok, List.map_toArray, List.map_cons, List.map_nil, hs, hx, hrun]
  exact h _ c' _ cs (grow_below _ _) (Nat.le_refl _) hcc hb hat
theorem step_new {P : Program} (w : World) {ops : Array Oper} {o : Oper} {a : Act} {K : Act → World → Prop} {Q : Exit → Act → World → Prop} {E : Prop} (hgd : o.guard = none) (s x : Operand) (t : TypeId)
    (hop : o.op = .call { callee := .builtin .append, args := #[s, x], argTypes := #[t, t] })
    (e : TypeId) (i : TypeInfo) (z : Value) (ht : P.underlying t = some (.slice e)) (hi : P.info? e = some i) (hz : i.zero = some z)
    (hsize : i.size = 1) (hby : i.bytes = 8) (A : Option Addr) (hs : a.eval s = .slice A 0 0) (A2 : Option Addr) (m c : Nat) (news : List Value) (hx : a.eval x = .slice A2 m c) (hr : Rd w 1 A2 m news) (h1 : ∀ u ∈ news, u.oneCell' = true) (hm : 0 < m) (hm2 : m ≤ 1000)
    (h : ∀ b c' w' cs, Below w.heap.size w w' → w.heap.size ≤ b → m ≤ c' → BlkAt w' b cs e → (∀ (j : Nat) (u : Value), news[j]? = some u → cs[j]? = some u) → K (a.put o.dst (.slice (some ⟨b, 0, none⟩) m c')) w') :
    if Region.wanted o (yielded ops a.tmps) = true then Oper.wp P o a w K Q else E := by
  have hw : Region.wanted o (yielded ops a.tmps) = true := by simp [Region.wanted, hgd]
  rw [if_pos hw]
  exact wp_new w s x t hop e i z ht hi hz hsize hby A hs A2 m c news hx hr h1 hm hm2 h
theorem wpList_new {P : Program} (w : World) {ops : Array Oper} {rest : List Oper} {o : Oper} {a : Act} {Q : Exit → Act → World → Prop} (hgd : o.guard = none) (s x : Operand) (t : TypeId)
    (hop : o.op = .call { callee := .builtin .append, args := #[s, x], argTypes := #[t, t] })
    (e : TypeId) (i : TypeInfo) (z : Value) (ht : P.underlying t = some (.slice e)) (hi : P.info? e = some i) (hz : i.zero = some z)
    (hsize : i.size = 1) (hby : i.bytes = 8) (A : Option Addr) (hs : a.eval s = .slice A 0 0) (A2 : Option Addr) (m c : Nat) (news : List Value) (hx : a.eval x = .slice A2 m c) (hr : Rd w 1 A2 m news) (h1 : ∀ u ∈ news, u.oneCell' = true) (hm : 0 < m) (hm2 : m ≤ 1000)
    (h : ∀ b c' w' cs, Below w.heap.size w w' → w.heap.size ≤ b → m ≤ c' → BlkAt w' b cs e → (∀ (j : Nat) (u : Value), news[j]? = some u → cs[j]? = some u) → wpList P ops Q rest (a.put o.dst (.slice (some ⟨b, 0, none⟩) m c')) w') : wpList P ops Q (o :: rest) a w :=
  wpList_plain hgd fun _ hK => wp_new w s x t hop e i z ht hi hz hsize hby A hs A2 m c news hx hr h1 hm hm2 fun b c' w' cs h2 h3 h4 h5 h6 => hK _ _ (h b c' w' cs h2 h3 h4 h5 h6)
/-- the sets of the rows lie in blocks that are there and are not the list's own -/
def RowsFar (w : World) (v : Value) (rows : List Row) : Prop := ∀ r, r ∈ rows → ∀ b o, r.1 = some ⟨b, o, none⟩ → b < w.heap.size ∧ Far v b
theorem RowsFar.ext {w w' : World} {v : Value} {rows : List Row} (h : RowsFar w v rows) (hb : Below w.heap.size w w') : RowsFar w' v rows := fun r hr b o e => ⟨Nat.lt_of_lt_of_le (h r hr b o e).1 hb.size, (h r hr b o e).2⟩
theorem i64_grownF {w w' : World} {v : Value} {A : Option Addr} {xs : List Int} (h : I64 w A xs) (hg : w.grownBy w' v.ownBlock) (hf : ∀ b o, A = some ⟨b, o, none⟩ → Far v b) : I64 w' A xs := fun k x hk => by
  obtain ⟨b, o, h1, h2, h3, h4⟩ := h k x hk
  have hs := hg.size
  exact ⟨b, o, h1, by omega, by omega, (gb_cell hg b h2 (fun kk e => hf b o h1 kk e) _).trans h4⟩
theorem rd_new2 (w : World) (x y : Value) (t : TypeId) : Rd (w.alloc (.cells #[x, y] t)) 2 (some ⟨w.heap.size, 0, none⟩) 1 [x, y] :=
  ⟨rfl, fun _ => ⟨w.heap.size, 0, rfl, by rw [World.size_alloc]; omega, fun j u hu => by
    have hj : j = 0 ∨ j = 1 := by
      have := (List.getElem?_eq_some_iff.1 hu).1
      simp at this
      omega
    rcases hj with rfl | rfl
    · simp at hu; subst hu; exact obj_at (heap_alloc_new _ _) 0 _ rfl
    · simp at hu; subst hu; exact obj_at (heap_alloc_new _ _) 1 _ rfl⟩⟩
/-- two lists of tickets, while a loop makes them -/
structure TwoR (u w : World) (v1 v2 : Value) (r1 r2 : List Row) : Prop where
  ok1 : RowsOk w r1
  ok2 : RowsOk w r2
  f11 : RowsFar w v1 r1
  f12 : RowsFar w v2 r1
  f21 : RowsFar w v1 r2
  f22 : RowsFar w v2 r2
  o1 : w.ownsRow u.heap.size 34 2 v1 r1.length (cellsT r1)
  o2 : w.ownsRow u.heap.size 34 2 v2 r2.length (cellsT r2)
  ap : Apart v1 v2
  bel : Below u.heap.size u w
theorem TwoR.start (u : World) : TwoR u u (.slice none 0 0) (.slice none 0 0) [] [] :=
  ⟨fun r hr => by simp at hr, fun r hr => by simp at hr, fun r hr => by simp at hr, fun r hr => by simp at hr, fun r hr => by simp at hr, fun r hr => by simp at hr, World.ownsRow_nil _ _ _ _, World.ownsRow_nil _ _ _ _, Apart.none _ _, Below.refl _ _⟩
theorem TwoR.swap {u w : World} {v1 v2 : Value} {r1 r2 : List Row} (h : TwoR u w v1 v2 r1 r2) : TwoR u w v2 v1 r2 r1 := ⟨h.ok2, h.ok1, h.f22, h.f21, h.f12, h.f11, h.o2, h.o1, h.ap.symm, h.bel⟩
theorem TwoR.ext {u w w' : World} {v1 v2 : Value} {r1 r2 : List Row} (h : TwoR u w v1 v2 r1 r2) (hb : Below w.heap.size w w') : TwoR u w' v1 v2 r1 r2 :=
  ⟨h.ok1.ext hb, h.ok2.ext hb, h.f11.ext hb, h.f12.ext hb, h.f21.ext hb, h.f22.ext hb, ownsRow_grows h.o1 hb, ownsRow_grows h.o2 hb, h.ap, below_step h.bel hb h.bel.size⟩
theorem RowsFar.app {w : World} {v : Value} {a : List Row} {r : Row} (h : RowsFar w v a) (hr : ∀ b o, r.1 = some ⟨b, o, none⟩ → b < w.heap.size ∧ Far v b) : RowsFar w v (a ++ [r]) := fun x hx b o e => by
  rcases List.mem_append.1 hx with hx | hx
  · exact h x hx b o e
  · rw [List.mem_singleton.1 hx] at e; exact hr b o e
theorem RowsFar.grown {w w' : World} {v v' : Value} {a : List Row} (h : RowsFar w v a) (hz : w.heap.size ≤ w'.heap.size) (hf : ∀ b, b < w.heap.size → Far v b → Far v' b) : RowsFar w' v' a := fun x hx b o e => ⟨Nat.lt_of_lt_of_le (h x hx b o e).1 hz, hf b (h x hx b o e).1 (h x hx b o e).2⟩
theorem TwoR.add {u w w' : World} {v1 v2 v1' : Value} {r1 r2 : List Row} {r : Row} (h : TwoR u w v1 v2 r1 r2) (hr : I64 w r.1 r.2.1 ∧ r.2.1.length ≤ r.2.2.1) (hrb : ∀ b o, r.1 = some ⟨b, o, none⟩ → b < w.heap.size ∧ Far v1 b ∧ Far v2 b)
    (hO : w'.ownsRow u.heap.size 34 2 v1' (r1.length + 1) (cellsT r1 ++ cellsT [r])) (hg : w.grownBy w' v1.ownBlock) (hf : ∀ b, b < w.heap.size → Far v1 b → Far v1' b) : TwoR u w' v1' v2 (r1 ++ [r]) r2 := by
  have hz := hg.size
  refine ⟨?_, ?_, ?_, ?_, h.f21.grown hz hf, h.f22.grown hz (fun _ _ hh => hh), ?_, own_other h.o2 hg h.ap.symm, Apart.grown (W := w) (W' := w') h.ap h.o2 hf, gb_below h.bel hg h.bel.size (fun g hg => (h.o1.lt g hg).1)⟩
  · refine RowsOk.app (fun x hx => ⟨i64_grownF (h.ok1 x hx).1 hg (fun b o e => (h.f11 x hx b o e).2), (h.ok1 x hx).2⟩) (fun x hx => ?_)
    rw [List.mem_singleton.1 hx]
    exact ⟨i64_grownF hr.1 hg (fun b o e => (hrb b o e).2.1), hr.2⟩
  · exact fun x hx => ⟨i64_grownF (h.ok2 x hx).1 hg (fun b o e => (h.f21 x hx b o e).2), (h.ok2 x hx).2⟩
  · exact (h.f11.grown hz hf).app (fun b o e => ⟨Nat.lt_of_lt_of_le (hrb b o e).1 hz, hf b (hrb b o e).1 (hrb b o e).2.1⟩)
  · exact (h.f12.grown hz (fun _ _ hh => hh)).app (fun b o e => ⟨Nat.lt_of_lt_of_le (hrb b o e).1 hz, (hrb b o e).2.2⟩)
  · rw [cellsT_app, List.length_append]; exact hO
/-- a block that begins with these numbers -/
def Nums (cs : Array Value) (l : List Nat) : Prop := ∀ (j : Nat) (x : Nat), l[j]? = some x → cs[j]? = some (Value.int .i64 (x : Nat))
theorem nums_i64 {w : World} {b : Nat} {cs : Array Value} {t : TypeId} {l : List Nat} (h : BlkAt w b cs t) (hn : Nums cs l) : I64 w (some ⟨b, 0, none⟩) (zs l) := by
  intro k x hk
  have hlt := obj_lt h
  unfold zs at hk
  rw [List.getElem?_map] at hk
  cases e : l[k]? with
  | none => rw [e] at hk; cases hk
  | some y =>
    rw [e] at hk
    cases hk
    exact ⟨b, 0, rfl, hlt, Nat.le_of_lt hlt, by rw [Nat.zero_add]; exact obj_at h k _ (hn k y e)⟩
theorem Nums.set {cs : Array Value} {l : List Nat} (h : Nums cs l) (k v : Nat) : Nums (cs.setIfInBounds k (.int .i64 (v : Nat))) (l.set k v) := by
  intro j x hj
  rw [List.getElem?_set] at hj
  by_cases e : k = j
  · subst e
    rw [if_pos rfl] at hj
    split at hj
    · cases hj
      rename_i hlt
      have := h k l[k] (List.getElem?_eq_getElem hlt)
      have hk : k < cs.size := (Array.getElem?_eq_some_iff.1 this).1
      rw [Array.getElem?_setIfInBounds_self_of_lt hk]
    · cases hj
  · rw [if_neg e] at hj
    rw [Array.getElem?_setIfInBounds_ne e]
    exact h j x hj
theorem nums_of {cs : Array Value} {l : List Nat} (h : ∀ (j : Nat) (u : Value), ((zs l).map (Value.int .i64))[j]? = some u → cs[j]? = some u) : Nums cs l := fun j x hj => h j _ (by unfold zs; rw [List.getElem?_map, List.getElem?_map, hj]; rfl)
end Go.Proofs.Ytlbkaeoagdbemaa
