/- Proved here: regions whose loads come ahead of their stores, rows of rows, a part of the proofs about the ticket laws. Conditions: those that each theorem names, no others. -/
import Derived.Test.YtgjfejpibielaaaQ24
import Derived.Test.YtgjfejpibielaaaQ23
import Derived.WalkKit
import Derived.WalkSpells
import Derived.WalkLawsBesides
import Derived.Below
import Derived.Deep.QuietTactic
import Derived.BigQuiet
import Derived.Deep.Light
import Derived.Deep.RegionHeld3
import Derived.Deep.CutRange
import Derived.Deep.AppendSrc
import Derived.Laws.OwnMore
set_option linter.unusedSimpArgs false
set_option linter.unusedVariables false
namespace Go.Proofs.Ytgjfejpibielaaa
open Go.RowKit Go.Maps Go.Shelf
/-- a slice value that does not lie in this block -/
def Far (v : Value) (b : Nat) : Prop := ∀ g, v.ownBlock = some g → b ≠ g
theorem app_runN {P : Program} (w : World) (base : Nat) (t ty e : TypeId) (i : TypeInfo) (z : Value) (size bytes : Nat) (ht : P.underlying t = some (.slice e)) (hi : P.info? e = some i) (hz : i.zero = some z)
 (hsize : i.size = size) (hby : i.bytes = bytes) (hzs : z.cells.size = size) (hsz : 0 < size) (v : Value) (n : Nat) (xs : List Value) (hown : w.ownsRow base e size v n xs)
 (A : Option Addr) (m c : Nat) (news : List Value) (hr : Rd w size A m news) (h1 : ∀ u ∈ news, u.oneCell' = true) (h63 : n + m ≤ maxLen) (hbytes : (n + m) * bytes ≤ 140737488355328) (hbase : base ≤ w.heap.size) :
 ∃ v' w', (Builtin.append_ #[t, t] ty #[v, .slice A m c]).run P w = .ok v' w' ∧ w'.ownsRow base e size v' (n + m) (xs ++ news) ∧ w.grownBy w' v.ownBlock ∧ ∀ b, b < w.heap.size → Far v b → Far v' b := by
 have key : ∀ (ad : Addr), A = some ad → (∀ j u, news[j]? = some u → w.cell? (ad.add j) = some u) → ∃ v' w', (Builtin.append_ #[t, t] ty #[v, .slice A m c]).run P w = .ok v' w' ∧ w'.ownsRow base e size v' (n + m) (xs ++ news) ∧ w.grownBy w' v.ownBlock ∧ ∀ b, b < w.heap.size → Far v b → Far v' b := by
  rintro ad rfl hc
  obtain ⟨v', w', hrun, h2, h3, _, h5⟩ := run_append_own_at (P := P) w base t ty e i z size bytes ht hi hz hsize hby hzs hsz v n xs hown ad m c news hr.1 hc h1 h63 hbytes hbase
  refine ⟨v', w', hrun, h2, h3, fun b hb hf g hg => ?_⟩
  rcases h5 with h5 | h5
  · exact hf g (h5 ▸ hg)
  · rw [h5] at hg
    have := Option.some.inj hg
    omega
 rcases Nat.eq_zero_or_pos m with h0 | h0
 · subst h0
   have hn : news = [] := List.eq_nil_of_length_eq_zero (by simpa using hr.1)
   subst hn
   rcases A with _ | ad
   · exact ⟨v, w, app_nil w base t ty e i size ht hi v n xs hown c, by simpa using hown, World.grownBy.refl w _, fun b _ hf => hf⟩
   · exact key ad rfl (by simp)
 · obtain ⟨b, off, rfl, _, hc⟩ := hr.2 h0
   exact key _ rfl (fun j u hu => by rw [add_none]; exact hc j u hu)
theorem wp_appN {P : Program} (w : World) {o : Oper} {a : Act} {K : Act → World → Prop} {Q : Exit → Act → World → Prop} (s x : Operand) (t : TypeId)
 (ho : o.op = .call { callee := .builtin .append, args := #[s, x], argTypes := #[t, t] })
 (base : Nat) (e : TypeId) (i : TypeInfo) (z : Value) (size bytes : Nat) (ht : P.underlying t = some (.slice e)) (hi : P.info? e = some i) (hz : i.zero = some z)
 (hsize : i.size = size) (hby : i.bytes = bytes) (hzs : z.cells.size = size) (hsz : 0 < size) (v : Value) (n : Nat) (xs : List Value) (hs : a.eval s = v) (hown : w.ownsRow base e size v n xs)
 (A : Option Addr) (m c : Nat) (news : List Value) (hx : a.eval x = .slice A m c) (hr : Rd w size A m news) (h1 : ∀ u ∈ news, u.oneCell' = true) (h63 : n + m ≤ maxLen) (hbytes : (n + m) * bytes ≤ 140737488355328) (hbase : base ≤ w.heap.size)
 (h : ∀ A' c' w', w'.ownsRow base e size (.slice A' (n + m) c') (n + m) (xs ++ news) → w.grownBy w' v.ownBlock → (∀ b, b < w.heap.size → Far v b → Far (.slice A' (n + m) c') b) → K (a.put o.dst (.slice A' (n + m) c')) w') : o.wp P a w K Q := by
 obtain ⟨v', w', hrun, h2, h3, h4⟩ := app_runN (P := P) w base t o.type e i z size bytes ht hi hz hsize hby hzs hsz v n xs hown A m c news hr h1 h63 hbytes hbase
 obtain ⟨A', c', rfl⟩ := own_form h2
 unfold Oper.wp execOp
 simp only [ho, resolve, invoke, builtin, Sem.run_bind, Sem.run_pure, Result.andThen_ok, List.map_toArray, List.map_cons, List.map_nil, hs, hx, hrun]
 exact h A' c' w' h2 h3 h4
theorem step_appN {P : Program} (w : World) {ops : Array Oper} {o : Oper} {a : Act} {K : Act → World → Prop} {Q : Exit → Act → World → Prop} {E : Prop} (hgd : o.guard = none) (s x : Operand) (t : TypeId)
 (ho : o.op = .call { callee := .builtin .append, args := #[s, x], argTypes := #[t, t] })
 (base : Nat) (e : TypeId) (i : TypeInfo) (z : Value) (size bytes : Nat) (ht : P.underlying t = some (.slice e)) (hi : P.info? e = some i) (hz : i.zero = some z)
 (hsize : i.size = size) (hby : i.bytes = bytes) (hzs : z.cells.size = size) (hsz : 0 < size) (v : Value) (n : Nat) (xs : List Value) (hs : a.eval s = v) (hown : w.ownsRow base e size v n xs)
 (A : Option Addr) (m c : Nat) (news : List Value) (hx : a.eval x = .slice A m c) (hr : Rd w size A m news) (h1 : ∀ u ∈ news, u.oneCell' = true) (h63 : n + m ≤ maxLen) (hbytes : (n + m) * bytes ≤ 140737488355328) (hbase : base ≤ w.heap.size)
 (h : ∀ A' c' w', w'.ownsRow base e size (.slice A' (n + m) c') (n + m) (xs ++ news) → w.grownBy w' v.ownBlock → (∀ b, b < w.heap.size → Far v b → Far (.slice A' (n + m) c') b) → K (a.put o.dst (.slice A' (n + m) c')) w') :
 if Region.wanted o (yielded ops a.tmps) = true then Oper.wp P o a w K Q else E := by
 have hw : Region.wanted o (yielded ops a.tmps) = true := by simp [Region.wanted, hgd]
 rw [if_pos hw]
 exact wp_appN w s x t ho base e i z size bytes ht hi hz hsize hby hzs hsz v n xs hs hown A m c news hx hr h1 h63 hbytes hbase h
section
variable {P : Program} {ops : Array Oper} {Q : Exit → Act → World → Prop} {md : Region.Mode} {S0 S1 : World → Prop} {F : List Nat}
/-- none of these operations has come up -/
def noF (F : List Nat) (listed : Array Bool) : Bool := F.all fun f => !(listed.getD f true)
/-- Whatever order is picked: S0 holds behind every operation, S1 till one of F has come up. -/
def wpAnyF (P : Program) (md : Region.Mode) (ops : Array Oper) (Q : Exit → Act → World → Prop) (S0 S1 : World → Prop) (F : List Nat) : Nat → Array Bool → Act → World → Prop
 | 0, listed, a, w => Region.ready md ops listed = [] ∧ Q .normal a w
 | fuel + 1, listed, a, w =>
   (Region.ready md ops listed = [] → Q .normal a w) ∧
   ∀ i ∈ Region.ready md ops listed, wpOp P ops Q i (fun a' w' => (S0 w' ∧ (noF F (listed.setIfInBounds i true) = true → S1 w')) ∧ wpAnyF P md ops Q S0 S1 F fuel (listed.setIfInBounds i true) a' w') a w
theorem wpAny_of_F : ∀ (fuel : Nat) (listed : Array Bool) (a : Act) (w : World), wpAnyF P md ops Q S0 S1 F fuel listed a w → wpAny P md ops Q fuel listed a w
 | 0, _, _, _, h => h
 | fuel + 1, _, _, _, h => ⟨h.1, fun i hi => wpOp_mono (fun a' w' h' => wpAny_of_F fuel _ a' w' h'.2) (h.2 i hi)⟩
theorem noF_set {listed : Array Bool} {i : Nat} (hi : F.contains i = false) : noF F (listed.setIfInBounds i true) = noF F listed := by
 unfold noF
 rw [Bool.eq_iff_iff, List.all_eq_true, List.all_eq_true]
 have key : ∀ f, f ∈ F → (listed.setIfInBounds i true).getD f true = listed.getD f true := fun f hf => by
  refine getD_set_ne true (fun e => ?_)
  subst e
  rw [List.contains_iff_mem.2 hf] at hi
  cases hi
 exact ⟨fun h f hf => by rw [← key f hf]; exact h f hf, fun h f hf => by rw [key f hf]; exact h f hf⟩
/-- An operation that yields its value wherever S0 holds may be taken first. -/
theorem wpAnyF_first0 {i : Nat} {oi : Oper} {v : Value} (hi : ops[i]? = some oi) (hiF : F.contains i = false) (hsel : ∀ (j : Nat) (o : Oper) cs b, ops[j]? = some o → o.op ≠ .select cs b)
 (hQ : ∀ c a w, Q (.panic c) (a.put oi.dst v) w → Q (.panic c) a w) :
 ∀ (fuel : Nat) (listed : Array Bool) (a : Act) (w : World),
  (∀ j oj, ops[j]? = some oj → j ≠ i → listed.getD j true = false → (∀ e ∈ oj.after, Region.binds md e = true → e.on ≠ i) → oi.apart ops oj = true) →
  i ∈ Region.ready md ops listed → YieldsIf P ops S0 oi v a → S0 w → (noF F listed = true → S1 w) →
  wpAnyF P md ops Q S0 S1 F fuel (listed.setIfInBounds i true) (a.put oi.dst v) w → wpAnyF P md ops Q S0 S1 F (fuel + 1) listed a w := by
 intro fuel
 induction fuel with
 | zero =>
   intro listed a w _ hr hy hS hS1 H
   refine ⟨fun h => (by rw [h] at hr; cases hr), fun j hj => ?_⟩
   by_cases hji : j = i
   · subst hji; exact hy.wpOp hi hS ⟨⟨hS, by rw [noF_set hiF]; exact hS1⟩, H⟩
   · have := ready_mono hj hji
     rw [H.1] at this
     cases this
 | succ fuel ih =>
   intro listed a w hfree hr hy hS hS1 H
   refine ⟨fun h => (by rw [h] at hr; cases hr), fun j hj => ?_⟩
   by_cases hji : j = i
   · subst hji; exact hy.wpOp hi hS ⟨⟨hS, by rw [noF_set hiF]; exact hS1⟩, H⟩
   · have h1 := H.2 j (ready_mono hj hji)
     obtain ⟨hjun, oj, hoj, hall⟩ := mem_ready.1 hj
     have hnot : ∀ e ∈ oj.after, Region.binds md e = true → e.on ≠ i := fun e he hb heq => by
      have h1 := hall e he hb
      have h0 := (mem_ready.1 hr).1
      rw [heq] at h1
      rcases Nat.lt_or_ge i listed.size with h' | h'
      · simp [h'] at h0 h1; rw [h0] at h1; cases h1
      · simp [Array.getElem?_eq_none h'] at h1
     have h2 := wpOp_putIf hoj (hfree j oj hoj hji hjun hnot) (fun cs b => hsel i oi cs b hi) (fun cs b => hsel j oj cs b hoj) hQ hy h1
     have hfree' : ∀ k ok, ops[k]? = some ok → k ≠ i → (listed.setIfInBounds j true).getD k true = false →
      (∀ e ∈ ok.after, Region.binds md e = true → e.on ≠ i) → oi.apart ops ok = true := fun k ok hk hki hun hno => by
      refine hfree k ok hk hki ?_ hno
      by_cases hjk : j = k
      · subst hjk; exact hjun
      · rw [getD_set_ne true hjk] at hun; exact hun
     refine wpOp_mono (fun a' w' h3 => ?_) h2
     obtain ⟨hy', ⟨hS', hS1'⟩, h4⟩ := h3
     rw [Array.setIfInBounds_comm _ _ (Ne.symm hji)] at hS1' h4
     rw [noF_set hiF] at hS1'
     exact ⟨⟨hS', hS1'⟩, ih (listed.setIfInBounds j true) a' w' hfree' (ready_mono hr (Ne.symm hji)) hy' hS' hS1' h4⟩
/-- An operation for which all of F wait, and that yields its value wherever S0 and S1 hold, may be taken first. -/
theorem wpAnyF_first1 {i : Nat} {oi : Oper} {v : Value} (hi : ops[i]? = some oi) (hiF : F.contains i = false) (hF : ∀ f of, f ∈ F → ops[f]? = some of → ∃ e ∈ of.after, Region.binds md e = true ∧ e.on = i) (hsel : ∀ (j : Nat) (o : Oper) cs b, ops[j]? = some o → o.op ≠ .select cs b)
 (hQ : ∀ c a w, Q (.panic c) (a.put oi.dst v) w → Q (.panic c) a w) :
 ∀ (fuel : Nat) (listed : Array Bool) (a : Act) (w : World),
  (∀ j oj, ops[j]? = some oj → j ≠ i → listed.getD j true = false → (∀ e ∈ oj.after, Region.binds md e = true → e.on ≠ i) → oi.apart ops oj = true) →
  i ∈ Region.ready md ops listed → YieldsIf P ops (fun w => S0 w ∧ S1 w) oi v a → S0 w → noF F listed = true → S1 w →
  wpAnyF P md ops Q S0 S1 F fuel (listed.setIfInBounds i true) (a.put oi.dst v) w → wpAnyF P md ops Q S0 S1 F (fuel + 1) listed a w := by
 intro fuel
 induction fuel with
 | zero =>
   intro listed a w _ hr hy hS hn hS1 H
   refine ⟨fun h => (by rw [h] at hr; cases hr), fun j hj => ?_⟩
   by_cases hji : j = i
   · subst hji; exact hy.wpOp hi ⟨hS, hS1⟩ ⟨⟨hS, fun _ => hS1⟩, H⟩
   · have := ready_mono hj hji
     rw [H.1] at this
     cases this
 | succ fuel ih =>
   intro listed a w hfree hr hy hS hn hS1 H
   refine ⟨fun h => (by rw [h] at hr; cases hr), fun j hj => ?_⟩
   by_cases hji : j = i
   · subst hji; exact hy.wpOp hi ⟨hS, hS1⟩ ⟨⟨hS, fun _ => hS1⟩, H⟩
   · have h1 := H.2 j (ready_mono hj hji)
     obtain ⟨hjun, oj, hoj, hall⟩ := mem_ready.1 hj
     have hnot : ∀ e ∈ oj.after, Region.binds md e = true → e.on ≠ i := fun e he hb heq => by
      have h1 := hall e he hb
      have h0 := (mem_ready.1 hr).1
      rw [heq] at h1
      rcases Nat.lt_or_ge i listed.size with h' | h'
      · simp [h'] at h0 h1; rw [h0] at h1; cases h1
      · simp [Array.getElem?_eq_none h'] at h1
     have hjF : F.contains j = false := by
      rw [Bool.eq_false_iff]
      intro g
      obtain ⟨e, he, hb, hon⟩ := hF j oj (List.contains_iff_mem.1 g) hoj
      exact hnot e he hb hon
     have h2 := wpOp_putIf hoj (hfree j oj hoj hji hjun hnot) (fun cs b => hsel i oi cs b hi) (fun cs b => hsel j oj cs b hoj) hQ hy h1
     have hfree' : ∀ k ok, ops[k]? = some ok → k ≠ i → (listed.setIfInBounds j true).getD k true = false →
      (∀ e ∈ ok.after, Region.binds md e = true → e.on ≠ i) → oi.apart ops ok = true := fun k ok hk hki hun hno => by
      refine hfree k ok hk hki ?_ hno
      by_cases hjk : j = k
      · subst hjk; exact hjun
      · rw [getD_set_ne true hjk] at hun; exact hun
     refine wpOp_mono (fun a' w' h3 => ?_) h2
     obtain ⟨hy', ⟨hS', hS1'⟩, h4⟩ := h3
     rw [Array.setIfInBounds_comm _ _ (Ne.symm hji)] at hS1' h4
     rw [noF_set hiF, noF_set hjF] at hS1'
     exact ⟨⟨hS', fun _ => hS1' hn⟩, ih (listed.setIfInBounds j true) a' w' hfree' (ready_mono hr (Ne.symm hji)) hy' hS' (by rw [noF_set hjF]; exact hn) (hS1' hn) h4⟩
theorem wpAnyF_take0 {i : Nat} {oi : Oper} {v : Value} {fuel : Nat} {listed : Array Bool} {a : Act} {w : World} (hi : ops[i]? = some oi) (hiF : F.contains i = false)
 (hs : Region.noSelect ops = true) (hf : Region.free md ops listed i = true) (hr : (Region.ready md ops listed).contains i = true)
 (hQ : ∀ c a w, Q (.panic c) (a.put oi.dst v) w → Q (.panic c) a w) (hy : YieldsIf P ops S0 oi v a) (hS : S0 w) (hS1 : noF F listed = true → S1 w)
 (h : wpAnyF P md ops Q S0 S1 F fuel (listed.setIfInBounds i true) (a.put oi.dst v) w) : wpAnyF P md ops Q S0 S1 F (fuel + 1) listed a w :=
 wpAnyF_first0 hi hiF (Region.noSelect_spec hs) hQ fuel listed a w (Region.free_spec hi hf) (by simpa using hr) hy hS hS1 h
def waitF (md : Region.Mode) (ops : Array Oper) (F : List Nat) (i : Nat) : Bool := F.all fun f => match ops[f]? with | some of => of.after.any (fun e => Region.binds md e && (e.on == i)) | none => true
theorem waitF_spec {i : Nat} (h : waitF md ops F i = true) : ∀ f of, f ∈ F → ops[f]? = some of → ∃ e ∈ of.after, Region.binds md e = true ∧ e.on = i := fun f of hf ho => by
 have h1 := List.all_eq_true.1 h f hf
 rw [ho] at h1
 simp only [Array.any_eq_true, Bool.and_eq_true, beq_iff_eq] at h1
 obtain ⟨k, hk, h2, h3⟩ := h1
 exact ⟨of.after[k], Array.getElem_mem hk, h2, h3⟩
theorem wpAnyF_take1 {i : Nat} {oi : Oper} {v : Value} {fuel : Nat} {listed : Array Bool} {a : Act} {w : World} (hi : ops[i]? = some oi) (hiF : F.contains i = false) (hF : waitF md ops F i = true)
 (hs : Region.noSelect ops = true) (hf : Region.free md ops listed i = true) (hr : (Region.ready md ops listed).contains i = true)
 (hQ : ∀ c a w, Q (.panic c) (a.put oi.dst v) w → Q (.panic c) a w) (hy : YieldsIf P ops (fun w => S0 w ∧ S1 w) oi v a) (hS : S0 w) (hn : noF F listed = true) (hS1 : S1 w)
 (h : wpAnyF P md ops Q S0 S1 F fuel (listed.setIfInBounds i true) (a.put oi.dst v) w) : wpAnyF P md ops Q S0 S1 F (fuel + 1) listed a w :=
 wpAnyF_first1 hi hiF (waitF_spec hF) (Region.noSelect_spec hs) hQ fuel listed a w (Region.free_spec hi hf) (by simpa using hr) hy hS hn hS1 h
theorem wpAnyF_done {listed : Array Bool} {a : Act} {w : World} (hr : Region.ready md ops listed = []) (h : Q .normal a w) :
 ∀ fuel, wpAnyF P md ops Q S0 S1 F fuel listed a w
 | 0 => ⟨hr, h⟩
 | _ + 1 => ⟨fun _ => h, by rw [hr]; simp⟩
theorem wp_region_F {id : Nat} {a : Act} {w : World} (F : List Nat) (S0 S1 : World → Prop) (hm : P.follows .mixedOrders = true)
 (h : wpAnyF P .any ops Q S0 S1 F ops.size (Array.replicate ops.size false) a w.drew) : (Code.region id ops true).wp P Q a w :=
 wp_region_any hm (wpAny_of_F _ _ _ _ h)
end
section
variable {P : Program} {ops : Array Oper} {Q : Exit → Act → World → Prop} {md : Region.Mode} {S0 S1 : World → Prop} {F : List Nat}
def AllReadyF (P : Program) (md : Region.Mode) (ops : Array Oper) (Q : Exit → Act → World → Prop) (S0 S1 : World → Prop) (F : List Nat) (fuel : Nat) (listed : Array Bool) (a : Act) (w : World) (rs : List Nat) : Prop :=
 ∀ i ∈ rs, wpOp P ops Q i (fun a' w' => (S0 w' ∧ (noF F (listed.setIfInBounds i true) = true → S1 w')) ∧ wpAnyF P md ops Q S0 S1 F fuel (listed.setIfInBounds i true) a' w') a w
theorem AllReadyF.nil {fuel : Nat} {listed : Array Bool} {a : Act} {w : World} : AllReadyF P md ops Q S0 S1 F fuel listed a w [] := fun _ h => by cases h
theorem AllReadyF.cons {fuel : Nat} {listed : Array Bool} {a : Act} {w : World} {i : Nat} {o : Oper} {rs : List Nat} (ho : ops[i]? = some o)
 (h : ∀ K' : Act → World → Prop, Shut (∀ a w, S0 w → (noF F (listed.setIfInBounds i true) = true → S1 w) → (S0 w → wpAnyF P md ops Q S0 S1 F fuel (listed.setIfInBounds i true) a w) → K' a w) → if Region.wanted o (yielded ops a.tmps) = true then Oper.wp P o a w K' Q else K' (a.put o.dst undef) w)
 (hs : AllReadyF P md ops Q S0 S1 F fuel listed a w rs) : AllReadyF P md ops Q S0 S1 F fuel listed a w (i :: rs) := fun j hj => by
 rcases List.mem_cons.1 hj with rfl | hj
 · exact wpOp_step ho (fun K' hK => h K' (fun a w hS hS1 hW => hK a w ⟨⟨hS, hS1⟩, hW hS⟩))
 · exact hs j hj
theorem wpAnyF_ready {rs : List Nat} {fuel : Nat} {listed : Array Bool} {a : Act} {w : World} (hr : Region.ready md ops listed = rs) (hne : rs ≠ [])
 (h : AllReadyF P md ops Q S0 S1 F fuel listed a w rs) : wpAnyF P md ops Q S0 S1 F (fuel + 1) listed a w :=
 ⟨fun h0 => absurd (hr.symm.trans h0) hne, fun i hi => h i (by rw [← hr]; exact hi)⟩
end
/-- two rows that lie in blocks of their own -/
def Apart (v u : Value) : Prop := ∀ g, v.ownBlock = some g → Far u g
theorem Apart.none (c : Nat) (u : Value) : Apart (.slice none 0 c) u := fun g h => by cases h
theorem Apart.symm {v u : Value} (h : Apart v u) : Apart u v := fun g hg g' hg' e => h g' hg' g hg e.symm
theorem Apart.grown {W W' : World} {v v' u : Value} {B n sz : Nat} {e : TypeId} {xs : List Value} (h : Apart v u) (hU : W.ownsRow B e sz u n xs) (hf : ∀ b, b < W.heap.size → Far v b → Far v' b) : Apart v' u :=
 Apart.symm (fun g hg => hf g (hU.lt g hg).2 (h.symm g hg))
theorem own_other {W W' : World} {v u : Value} {B n sz : Nat} {e : TypeId} {xs : List Value} (hU : W.ownsRow B e sz u n xs) (hg : W.grownBy W' v.ownBlock) (h : Apart u v) : W'.ownsRow B e sz u n xs := by
 refine hU.kept hg ?_
 cases ho : u.ownBlock with
 | none => exact .inl rfl
 | some k => exact .inr (fun e => h k ho k e.symm rfl)
/-- no row lies in a list's own block -/
def LFar (v : Value) (rows : List LRow) : Prop := ∀ r, r ∈ rows → ∀ b o, r.1 = some ⟨b, o, none⟩ → Far v b
/-- rows of numbers of the call's own -/
structure Rows (B : Nat) (w : World) (rows : List LRow) : Prop where
 i : ∀ r, r ∈ rows → I64 w r.1 r.2.1
 b : ∀ r, r ∈ rows → ∀ b o, r.1 = some ⟨b, o, none⟩ → B ≤ b ∧ b < w.heap.size
theorem Rows.nil (B : Nat) (w : World) : Rows B w [] := ⟨fun r h => (by cases h), fun r h => (by cases h)⟩
theorem Rows.gx {B : Nat} {S : List Nat} {w w' : World} {rows : List LRow} (h : Rows B w rows) (g : GX S w w') (hs : ∀ s, s ∈ S → s < B ∨ w.heap.size ≤ s) : Rows B w' rows :=
 ⟨fun r hr => (h.i r hr).gx g (fun b o e hb => by have := h.b r hr b o e; have := hs b hb; omega), fun r hr b o e => by have := h.b r hr b o e; have := g.size; omega⟩
theorem Rows.grown {B : Nat} {w w' : World} {rows : List LRow} {v : Value} (h : Rows B w rows) (g : w.grownBy w' v.ownBlock) (hf : LFar v rows) : Rows B w' rows :=
 ⟨fun r hr k x hk => by
  obtain ⟨b, o, e, h1, h2, h3⟩ := h.i r hr k x hk
  have hz := g.size
  exact ⟨b, o, e, by omega, by omega, (gb_cell g b h1 (fun q hq => hf r hr b o e q hq) _).trans h3⟩, fun r hr b o e => by have := h.b r hr b o e; have := g.size; omega⟩
theorem Rows.app {B : Nat} {w : World} {rows : List LRow} (h : Rows B w rows) {r : LRow} (hi : I64 w r.1 r.2.1) (hb : ∀ b o, r.1 = some ⟨b, o, none⟩ → B ≤ b ∧ b < w.heap.size) : Rows B w (rows ++ [r]) :=
 ⟨fun x hx => by
  rcases List.mem_append.1 hx with hx | hx
  · exact h.i x hx
  · rw [List.mem_singleton.1 hx]; exact hi, fun x hx => by
  rcases List.mem_append.1 hx with hx | hx
  · exact h.b x hx
  · rw [List.mem_singleton.1 hx]; exact hb⟩
theorem LFar.nil (v : Value) : LFar v [] := fun r h => by cases h
theorem LFar.app {v : Value} {rows : List LRow} (h : LFar v rows) {r : LRow} (hr : ∀ b o, r.1 = some ⟨b, o, none⟩ → Far v b) : LFar v (rows ++ [r]) := fun x hx => by
 rcases List.mem_append.1 hx with hx | hx
 · exact h x hx
 · rw [List.mem_singleton.1 hx]; exact hr
theorem LFar.to {v v' : Value} {B : Nat} {w : World} {rows : List LRow} (h : LFar v rows) (hr : Rows B w rows) (hf : ∀ b, b < w.heap.size → Far v b → Far v' b) : LFar v' rows := fun r hm b o e => hf b (hr.b r hm b o e).2 (h r hm b o e)
theorem own_cells53 {w : World} {B : Nat} {n c : Nat} {A : Option Addr} {rows : List LRow} (h : w.ownsRow B 53 1 (.slice A n c) n (rows.map cellL)) (hr : Rows B w rows) : Lst w A rows ∧ n = rows.length := by
 have hl : n = rows.length := by have := h.1; rw [List.length_map] at this; omega
 subst hl
 exact ⟨⟨rd_own h (by decide), hr.i⟩, rfl⟩
end Go.Proofs.Ytgjfejpibielaaa
