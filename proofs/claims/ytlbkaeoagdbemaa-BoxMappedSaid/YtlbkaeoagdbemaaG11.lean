/- Proved here: what a map says, a part of the proofs about the box laws. Conditions: those that each theorem names, no others. -/
import Derived.Test.YtlbkaeoagdbemaaG9
import Derived.WalkKit
import Derived.WalkSpells
import Derived.WalkLawsBesides
import Derived.Below
import Derived.Deep.QuietTactic
import Derived.BigQuiet
import Derived.Deep.Light
set_option linter.unusedSimpArgs false
set_option linter.unusedVariables false
namespace Go.Proofs.Ytlbkaeoagdbemaa
open Bm
def fullS (p : Tk) : Nat := if 0 < p.2 then size p.1 else 0
def mostK (ps : List Tk) : Nat → Nat
  | 0 => 0
  | k + 1 => max (mostK ps k) (ps.getD k ([], 0)).2
def noneK (ps : List Tk) : Nat → Bool
  | 0 => false
  | k + 1 => noneK ps k || (ps.getD k ([], 0)).2 == 0
def unitK (ps : List Tk) (o : List Nat) : Nat → Int
  | 0 => -1
  | k + 1 => if wrongN (ps.getD k ([], 0)).1 o = 0 then ((ps.getD k ([], 0)).2 : Nat) else unitK ps o k
def fullK (ps : List Tk) : Nat → Nat := sumTo fun i => fullS (ps.getD i ([], 0))
theorem fullK_succ (ps : List Tk) (k : Nat) : fullK ps (k + 1) = fullK ps k + fullS (ps.getD k ([], 0)) := by unfold fullK sumTo; rw [List.range_succ, List.map_append, List.sum_append]; simp
theorem fullK_mono (ps : List Tk) {k n : Nat} (h : k ≤ n) : fullK ps k ≤ fullK ps n := by
  induction n with
  | zero => rw [Nat.le_zero.1 h]; exact Nat.le_refl _
  | succ n ih =>
    rcases Nat.lt_or_ge n k with h1 | h1
    · rw [show k = n + 1 by omega]; exact Nat.le_refl _
    · have := ih h1
      rw [fullK_succ]; omega
structure IsMap (R : List Nat) (ts ps : List Tk) : Prop where
  box : ∀ p, p ∈ ps → isBox R p.1 = true
  zero : refMap (outs R) ts ps = 0
theorem IsMap.nc {R : List Nat} {ts ps : List Tk} (h : IsMap R ts ps) : ∀ o, o ∈ outs R → NoClash ps o := (refMap_zero (R := R).1 h.zero).1
/-- each outcome is in one part -/
theorem IsMap.one {R : List Nat} {ts ps : List Tk} (h : IsMap R ts ps) {o : List Nat} (ho : o ∈ outs R) : ∃ p, ps.filter (fun p => win p.1 o) = [p] ∧ p.2 = uni ts o := by
  obtain ⟨h0, he⟩ := (refMap_zero (R := R).1 h.zero).2.2 o ho
  have h1 := filter_one (h.nc o ho)
  rw [if_pos h0] at h1
  obtain ⟨p, hp⟩ := List.length_eq_one_iff.1 h1
  refine ⟨p, hp, ?_⟩
  have hm : p ∈ ps.filter (fun p => win p.1 o) := by rw [hp]; simp
  obtain ⟨hm, hw⟩ := List.mem_filter.1 hm
  obtain ⟨i, hi, rfl⟩ := List.getElem_of_mem hm
  have e := own_is (h.nc o ho) hi (by rw [getD_at _ _ hi]; exact hw)
  rw [e, Int.toNat_natCast, getD_at _ _ hi] at he
  exact he
theorem IsMap.at {R : List Nat} {ts ps : List Tk} (h : IsMap R ts ps) {o : List Nat} (ho : o ∈ outs R) : ∃ i, ∃ _ : i < ps.length, ps[i].2 = uni ts o := by
  obtain ⟨p, hp, he⟩ := h.one ho
  have hm : p ∈ ps.filter (fun p => win p.1 o) := by rw [hp]; simp
  obtain ⟨i, hi, rfl⟩ := List.getElem_of_mem (List.mem_filter.1 hm).1
  exact ⟨i, hi, he⟩
theorem IsMap.some {R : List Nat} {ts ps : List Tk} (h : IsMap R ts ps) {i : Nat} (hi : i < ps.length) : ∃ o, o ∈ outs R ∧ ps[i].2 = uni ts o := by
  obtain ⟨o, ho, hw⟩ := box_some (h.box ps[i] (List.getElem_mem hi))
  obtain ⟨p, hp, he⟩ := h.one ho
  have hm : ps[i] ∈ ps.filter (fun p => win p.1 o) := List.mem_filter.2 ⟨List.getElem_mem hi, hw⟩
  rw [hp, List.mem_singleton] at hm
  exact ⟨o, ho, by rw [hm]; exact he⟩
theorem IsMap.count {R : List Nat} {ts ps : List Tk} (h6 : ∀ n, n ∈ R → n ≤ 6) (h : IsMap R ts ps) : ps.length ≤ (outs R).length := by
  have := parts_count ps (outs R) (fun _ => true) (fun _ => true)
  simp only [if_true, Bool.and_true] at this
  have h1 : ps.length ≤ (ps.map fun p => (outs R).countP fun o => win p.1 o).sum := by
    have key : ∀ l : List Tk, (∀ p, p ∈ l → isBox R p.1 = true) → l.length ≤ (l.map fun p => (outs R).countP fun o => win p.1 o).sum := fun l => by
      induction l with
      | nil => intro _; simp
      | cons p l ih =>
        intro hl
        have e1 := ih (fun q hq => hl q (by simp [hq]))
        obtain ⟨o, ho, hw⟩ := box_some (hl p (by simp))
        have e2 : 0 < (outs R).countP fun o => win p.1 o := List.countP_pos_iff.2 ⟨o, ho, hw⟩
        rw [List.map_cons, List.sum_cons, List.length_cons]; omega
    exact key ps h.box
  refine Nat.le_trans h1 (Nat.le_of_eq (this.trans ?_))
  have e : (outs R).map (fun o => ((ps.filter fun p => win p.1 o).filter fun p => true).length) = (outs R).map fun _ => 1 := by
    refine List.map_congr_left fun o ho => ?_
    obtain ⟨p, hp, _⟩ := h.one ho
    rw [hp]; rfl
  rw [e, sum_const, Nat.mul_one]
theorem IsMap.full {R : List Nat} {ts ps : List Tk} (h6 : ∀ n, n ∈ R → n ≤ 6) (h : IsMap R ts ps) : fullK ps ps.length = afterN R ts [] := by
  unfold fullK afterN
  rw [← map_sumTo ps fullS ([], 0)]
  have := parts_count ps (outs R) (fun u => decide (0 < u)) (fun _ => true)
  simp only [if_true, Bool.and_true] at this
  rw [countP_sum]
  refine Eq.trans ?_ (this.trans ?_)
  · refine sum_map_congr fun p hp => ?_
    unfold fullS
    rw [← size_count (by rw [List.all_eq_true]; intro n hn; simpa using h6 n hn) (h.box p hp)]
    by_cases h0 : 0 < p.2 <;> simp [h0]
  · refine sum_map_congr fun o ho => ?_
    obtain ⟨p, hp, he⟩ := h.one ho
    rw [hp]
    by_cases h0 : 0 < uni ts o
    · simp [he, h0]
    · simp [he, h0]
theorem mostK_spec (ps : List Tk) : ∀ k, k ≤ ps.length → (∀ i, (hi : i < ps.length) → i < k → ps[i].2 ≤ mostK ps k) ∧ (mostK ps k = 0 ∨ ∃ i, ∃ _ : i < ps.length, ps[i].2 = mostK ps k)
  | 0, _ => ⟨fun i _ h => by omega, .inl rfl⟩
  | k + 1, h => by
    obtain ⟨h1, h2⟩ := mostK_spec ps k (by omega)
    have e : mostK ps (k + 1) = max (mostK ps k) ps[k].2 := by rw [mostK, getD_at _ _ (by omega)]
    refine ⟨fun i hi hk => ?_, ?_⟩
    · rw [e]
      by_cases hik : i = k
      · subst hik; exact Nat.le_max_right _ _
      · exact Nat.le_trans (h1 i hi (by omega)) (Nat.le_max_left _ _)
    · rw [e]
      rcases Nat.le_total (mostK ps k) ps[k].2 with h3 | h3
      · rw [Nat.max_eq_right h3]; exact .inr ⟨k, by omega, rfl⟩
      · rw [Nat.max_eq_left h3]; exact h2
theorem IsMap.most {R : List Nat} {ts ps : List Tk} (hok : Ok R ts) (h : IsMap R ts ps) : mostK ps ps.length = uni ts (deepO R ts) := by
  obtain ⟨h1, h2⟩ := mostK_spec ps ps.length (Nat.le_refl _)
  obtain ⟨i, hi, he⟩ := h.at (deep_mem hok)
  have h3 := h1 i hi hi
  rw [he] at h3
  rcases h2 with h2 | ⟨j, hj, h2⟩
  · omega
  · obtain ⟨o, ho, h4⟩ := h.some hj
    have := deep_most hok ho
    omega
theorem noneK_iff (ps : List Tk) : ∀ k, k ≤ ps.length → (noneK ps k = true ↔ ∃ i, ∃ _ : i < ps.length, i < k ∧ ps[i].2 = 0)
  | 0, _ => by simp [noneK]
  | k + 1, h => by
    have e : noneK ps (k + 1) = (noneK ps k || ps[k].2 == 0) := by rw [noneK, getD_at _ _ (by omega)]
    rw [e, Bool.or_eq_true, noneK_iff ps k (by omega), beq_iff_eq]
    constructor
    · rintro (⟨i, hi, h1, h2⟩ | h1)
      · exact ⟨i, hi, by omega, h2⟩
      · exact ⟨k, by omega, by omega, h1⟩
    · rintro ⟨i, hi, h1, h2⟩
      by_cases hik : i = k
      · subst hik; exact .inr h2
      · exact .inl ⟨i, hi, by omega, h2⟩
theorem IsMap.none {R : List Nat} {ts ps : List Tk} (h : IsMap R ts ps) : noneK ps ps.length = ((outs R).find? (fun o => decide (uni ts o = 0))).isSome := by
  rw [Bool.eq_iff_iff, noneK_iff ps _ (Nat.le_refl _), List.find?_isSome]
  constructor
  · rintro ⟨i, hi, _, h2⟩
    obtain ⟨o, ho, he⟩ := h.some hi
    exact ⟨o, ho, by rw [decide_eq_true_eq]; omega⟩
  · rintro ⟨o, ho, he⟩
    rw [decide_eq_true_eq] at he
    obtain ⟨i, hi, h1⟩ := h.at ho
    exact ⟨i, hi, hi, by omega⟩
theorem unitK_own (ps : List Tk) (o : List Nat) : ∀ k, unitK ps o k = if 0 ≤ ownS ps o k then ((ps.getD (ownS ps o k).toNat ([], 0)).2 : Int) else -1
  | 0 => by simp [unitK, ownS]
  | k + 1 => by
    rw [unitK, ownS, unitK_own ps o k]
    by_cases h : wrongN (ps.getD k ([], 0)).1 o = 0
    · rw [if_pos h, if_pos h, if_pos (by omega), Int.toNat_natCast]
    · rw [if_neg h, if_neg h]
theorem IsMap.unit {R : List Nat} {ts ps : List Tk} (h : IsMap R ts ps) {o : List Nat} (ho : o ∈ outs R) : unitK ps o ps.length = (uni ts o : Nat) := by
  obtain ⟨h0, he⟩ := (refMap_zero (R := R).1 h.zero).2.2 o ho
  rw [unitK_own]
  unfold ownO at h0 he
  rw [if_pos h0, he]
end Go.Proofs.Ytlbkaeoagdbemaa
