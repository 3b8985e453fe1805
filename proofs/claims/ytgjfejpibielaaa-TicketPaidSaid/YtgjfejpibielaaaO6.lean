/- Proved here: plain laws of the outright laws, part 3, a part of the proofs about the ticket laws. Conditions: those that each theorem names, no others. -/
import Derived.Test.YtgjfejpibielaaaO4
import Derived.WalkKit
import Derived.WalkSpells
import Derived.WalkLawsBesides
import Derived.Below
import Derived.Deep.QuietTactic
import Derived.BigQuiet
import Derived.Deep.Light

set_option linter.unusedSimpArgs false
set_option linter.unusedVariables false
namespace Go.Proofs.Ytgjfejpibielaaa
open Tt
/-- the letters of the codes that fit, taken as a torn ticket -/
theorem sure_same {L rest : Nat} {K T : List Nat} (hT : T.length = K.length) {w : List Nat} (hw : w ∈ codes L rest K) : fitsW (orL K.length ((codes L rest K).filter (fitsW T))) w = fitsW T w := by
  obtain ⟨w1, w2, _⟩ := codes_sum hw
  have hl := orL_len K.length ((codes L rest K).filter (fitsW T))
  have key : ∀ p, (h : p < K.length) → ((orL K.length ((codes L rest K).filter (fitsW T)))[p]'(by omega)).testBit (w[p]'(by omega)) = ((codes L rest K).filter (fitsW T)).any fun v => decide (v.getD p 0 = w[p]'(by omega)) := fun p h => by
    rw [orL_at _ _ _ h, orK_bit]
  rw [Bool.eq_iff_iff, fits_iff _ _ (by omega), fits_iff _ _ (by omega)]
  constructor
  · intro h p h1 h2
    have h3 := h p (by omega) h2
    rw [key p (by omega), List.any_eq_true] at h3
    obtain ⟨v, hv, e⟩ := h3
    obtain ⟨hv, hf⟩ := List.mem_filter.1 hv
    obtain ⟨v1, v2, _⟩ := codes_sum hv
    have h4 := (fits_iff _ _ (by omega)).1 hf p h1 (by omega)
    have e2 := of_decide_eq_true e
    rw [List.getD_eq_getElem?_getD, List.getElem?_eq_getElem (by omega), Option.getD_some] at e2
    rwa [e2] at h4
  · intro h p h1 h2
    rw [key p (by omega), List.any_eq_true]
    refine ⟨w, List.mem_filter.2 ⟨hw, (fits_iff _ _ (by omega)).2 h⟩, decide_eq_true ?_⟩
    rw [List.getD_eq_getElem?_getD, List.getElem?_eq_getElem h2]; rfl
theorem fitL_congr {L rest : Nat} {K T S : List Nat} (h : ∀ w, w ∈ codes L rest K → fitsW S w = fitsW T w) : fitL L rest K S = fitL L rest K T := by
  unfold fitL
  refine List.filter_congr fun i hi => ?_
  have hi := List.mem_range.1 hi
  unfold fitN
  rw [List.getElem?_eq_getElem hi]
  exact h _ (List.getElem_mem hi)
theorem sure_fit {L rest : Nat} {K T : List Nat} (hT : T.length = K.length) : fitL L rest K (orL K.length ((codes L rest K).filter (fitsW T))) = fitL L rest K T := fitL_congr fun _ hw => sure_same hT hw
theorem sure_again {L rest : Nat} {K T : List Nat} (hT : T.length = K.length) : orL K.length ((codes L rest K).filter (fitsW (orL K.length ((codes L rest K).filter (fitsW T))))) = orL K.length ((codes L rest K).filter (fitsW T)) := by
  rw [List.filter_congr fun _ hw => sure_same hT hw]
theorem sure_in {L rest : Nat} {K T : List Nat} (hne : (codes L rest K).filter (fitsW T) ≠ []) : ∀ t, t ∈ orL K.length ((codes L rest K).filter (fitsW T)) → 1 ≤ t ∧ t < 2 ^ L := fun t ht => by
  obtain ⟨p, hp, rfl⟩ := List.getElem_of_mem ht
  rw [orL_len] at hp
  rw [orL_at _ _ _ hp]
  constructor
  · obtain ⟨v, hv⟩ := List.exists_mem_of_ne_nil _ hne
    have h1 : (orK ((codes L rest K).filter (fitsW T)) p).testBit (v.getD p 0) = true := by
      rw [orK_bit, List.any_eq_true]; exact ⟨v, hv, by simp⟩
    rcases Nat.eq_zero_or_pos (orK ((codes L rest K).filter (fitsW T)) p) with h | h
    · rw [h, Nat.zero_testBit] at h1; cases h1
    · exact h
  · apply Nat.lt_pow_two_of_testBit
    intro i hi
    rw [orK_bit, List.any_eq_false]
    intro v hv
    obtain ⟨hv, _⟩ := List.mem_filter.1 hv
    obtain ⟨v1, v2, _⟩ := codes_sum hv
    rw [List.getD_eq_getElem?_getD, List.getElem?_eq_getElem (by omega), Option.getD_some]
    have := v2 _ (List.getElem_mem (show p < v.length by omega))
    simp; omega
theorem code_fit_at {L rest : Nat} {K T : List Nat} {i : Nat} (hi : i < (fitL L rest K T).length) : ∃ h : (fitL L rest K T)[i] < (codes L rest K).length, ∃ h2 : i < ((codes L rest K).filter (fitsW T)).length, (codes L rest K)[(fitL L rest K T)[i]] = ((codes L rest K).filter (fitsW T))[i] := by
  obtain ⟨h1, _⟩ := fit_in (List.getElem_mem hi)
  refine ⟨h1, by rw [← fitL_map]; exact hi, ?_⟩
  have h2 := codes_fit L rest K T
  have h3 : i < ((codes L rest K).filter (fitsW T)).length := by rw [← fitL_map]; exact hi
  have h4 : ((codes L rest K).filter (fitsW T))[i]? = some (codes L rest K)[(fitL L rest K T)[i]] := by
    rw [h2, List.getElem?_map, List.getElem?_eq_getElem hi]
    simp only [Option.map_some, List.getElem?_eq_getElem h1, Option.getD_some]
  rw [List.getElem?_eq_getElem h3] at h4
  exact (Option.some.inj h4).symm
/-- what was sold, by its ranges -/
theorem can_sum {L rest : Nat} {K T : List Nat} {qs : List (Nat × Nat)} (h : okSold (codes L rest K).length 0 qs = true) : (canN L rest K T qs).length = (qs.map fun r => (span (fitN L rest K T) r.1 r.2).length).sum := by
  unfold canN
  rw [← sold_list _ _ _ h, List.length_flatMap]
theorem okSold_sub {n : Nat} : ∀ {ps qs : List (Nat × Nat)} {a b : Nat}, ps.Sublist qs → a ≤ b → okSold n b qs = true → okSold n a ps = true
  | [], _, _, _, _, _, _ => rfl
  | p :: ps, q :: qs, a, b, hs, hab, h => by
    unfold okSold at h ⊢
    simp only [Bool.and_eq_true, decide_eq_true_eq] at h ⊢
    cases hs with
    | cons _ hs =>
      have h2 := okSold_sub (a := a) (b := q.2 + 1) hs (by omega) h.2
      unfold okSold at h2
      simpa only [Bool.and_eq_true, decide_eq_true_eq] using h2
    | cons_cons _ hs =>
      exact ⟨⟨by omega, by omega⟩, okSold_sub hs (Nat.le_refl _) h.2⟩
/-- the elements at some places -/
def pick {α : Type} (g : Nat → Bool) (l : List α) (k : Nat) : List α := (List.range k).filterMap fun i => if g i then l[i]? else none
theorem pick_succ {α : Type} (g : Nat → Bool) (l : List α) (k : Nat) (h : k < l.length) : pick g l (k + 1) = pick g l k ++ (if g k then [l[k]] else []) := by
  unfold pick
  rw [List.range_succ, List.filterMap_append]
  cases hg : g k <;> simp [hg, h]
theorem pick_sub {α : Type} (g : Nat → Bool) (l : List α) : ∀ k, k ≤ l.length → (pick g l k).Sublist (l.take k)
  | 0, _ => by simp [pick]
  | k + 1, h => by
    rw [pick_succ g l k (by omega), List.take_add_one, List.getElem?_eq_getElem (by omega)]
    refine List.Sublist.append (pick_sub g l k (by omega)) ?_
    cases g k <;> simp
theorem pick_sum {α : Type} (g : Nat → Bool) (l : List α) (f : α → Nat) : ∀ k, k ≤ l.length → ((pick g l k).map f).sum + ((pick (fun i => !g i) l k).map f).sum = ((l.take k).map f).sum
  | 0, _ => by simp [pick]
  | k + 1, h => by
    have := pick_sum g l f k (by omega)
    rw [pick_succ g l k (by omega), pick_succ (fun i => !g i) l k (by omega), List.take_add_one, List.getElem?_eq_getElem (by omega)]
    rw [List.map_append, List.map_append, List.map_append, List.sum_append, List.sum_append, List.sum_append]
    cases hg : g k
    · simp only [Bool.not_false, if_true, Bool.false_eq_true, if_false, Option.toList_some, List.map_cons, List.map_nil, List.sum_cons, List.sum_nil]; omega
    · simp only [Bool.not_true, if_true, Bool.false_eq_true, if_false, Option.toList_some, List.map_cons, List.map_nil, List.sum_cons, List.sum_nil]; omega
theorem can_parts {L rest : Nat} {K T : List Nat} {qs : List (Nat × Nat)} (g : Nat → Bool) (h : okSold (codes L rest K).length 0 qs = true) : okSold (codes L rest K).length 0 (pick g qs qs.length) = true ∧ okSold (codes L rest K).length 0 (pick (fun i => !g i) qs qs.length) = true ∧ (canN L rest K T (pick g qs qs.length)).length + (canN L rest K T (pick (fun i => !g i) qs qs.length)).length = (canN L rest K T qs).length := by
  have h1 := pick_sub g qs qs.length (Nat.le_refl _)
  have h2 := pick_sub (fun i => !g i) qs qs.length (Nat.le_refl _)
  have h3 := pick_sum g qs (fun r => (span (fitN L rest K T) r.1 r.2).length) qs.length (Nat.le_refl _)
  rw [List.take_length] at h1 h2 h3
  have o1 := okSold_sub h1 (Nat.le_refl _) h
  have o2 := okSold_sub h2 (Nat.le_refl _) h
  exact ⟨o1, o2, by rw [can_sum o1, can_sum o2, can_sum h]; exact h3⟩
theorem can_le {L rest : Nat} {K T : List Nat} {qs : List (Nat × Nat)} : (canN L rest K T qs).length ≤ (fitL L rest K T).length := by
  rw [can_count]; exact List.countP_le_length
/-- a set parted into two -/
theorem fits_part {T w : List Nat} {k a b : Nat} (hl : T.length = w.length) (hk : k < T.length) (hab : ∀ j, T[k].testBit j = (a.testBit j != b.testBit j)) (hor : ∀ j, T[k].testBit j = (a.testBit j || b.testBit j)) : (if fitsW (T.set k a) w then 1 else 0) + (if fitsW (T.set k b) w then 1 else 0) = if fitsW T w then 1 else 0 := by
  have hs : ∀ x, fitsW (T.set k x) w = true ↔ (∀ i, (h1 : i < T.length) → (h2 : i < w.length) → i ≠ k → T[i].testBit w[i] = true) ∧ x.testBit (w[k]'(by omega)) = true := fun x => by
    rw [fits_iff _ _ (by simpa using hl)]
    constructor
    · intro h
      refine ⟨fun i h1 h2 hne => ?_, ?_⟩
      · have := h i (by simpa using h1) h2
        rwa [List.getElem_set_ne (by omega)] at this
      · have := h k (by simpa using hk) (by omega)
        rwa [List.getElem_set_self] at this
    · rintro ⟨h, hx⟩ i h1 h2
      rw [List.getElem_set]
      split
      · rename_i e; subst e; exact hx
      · rename_i e; exact h i (by simpa using h1) h2 (fun e2 => e e2.symm)
  have hT : fitsW T w = true ↔ (∀ i, (h1 : i < T.length) → (h2 : i < w.length) → i ≠ k → T[i].testBit w[i] = true) ∧ T[k].testBit (w[k]'(by omega)) = true := by
    have h := hs T[k]
    rwa [List.set_getElem_self] at h
  by_cases hA : ∀ i, (h1 : i < T.length) → (h2 : i < w.length) → i ≠ k → T[i].testBit w[i] = true
  · have e1 : fitsW (T.set k a) w = a.testBit (w[k]'(by omega)) := by rw [Bool.eq_iff_iff, hs]; exact ⟨fun h => h.2, fun h => ⟨fun i h1 h2 h3 => hA i h1 h2 h3, h⟩⟩
    have e2 : fitsW (T.set k b) w = b.testBit (w[k]'(by omega)) := by rw [Bool.eq_iff_iff, hs]; exact ⟨fun h => h.2, fun h => ⟨fun i h1 h2 h3 => hA i h1 h2 h3, h⟩⟩
    have e3 : fitsW T w = T[k].testBit (w[k]'(by omega)) := by rw [Bool.eq_iff_iff, hT]; exact ⟨fun h => h.2, fun h => ⟨fun i h1 h2 h3 => hA i h1 h2 h3, h⟩⟩
    rw [e1, e2, e3]
    have x1 := hab (w[k]'(by omega))
    have x2 := hor (w[k]'(by omega))
    revert x1 x2
    cases a.testBit (w[k]'(by omega)) <;> cases b.testBit (w[k]'(by omega)) <;> cases T[k].testBit (w[k]'(by omega)) <;> simp
  · have e : ∀ x, fitsW (T.set k x) w = false := fun x => by
      cases h : fitsW (T.set k x) w with
      | false => rfl
      | true => exact absurd ((hs x).1 h).1 hA
    have e3 : fitsW T w = false := by
      cases h : fitsW T w with
      | false => rfl
      | true => exact absurd (hT.1 h).1 hA
    rw [e, e, e3]; rfl
theorem count_two {α : Type} (l : List α) (f g h : α → Bool) (he : ∀ x, x ∈ l → (if f x then 1 else 0) + (if g x then 1 else 0) = if h x then 1 else 0) : l.countP f + l.countP g = l.countP h := by
  induction l with
  | nil => rfl
  | cons a l ih =>
    have h1 := ih (fun x hx => he x (by simp [hx]))
    have h2 := he a (by simp)
    rw [List.countP_cons, List.countP_cons, List.countP_cons]
    omega
theorem parted {L rest : Nat} {K T : List Nat} {k a b : Nat} {qs : List (Nat × Nat)} (hT : T.length = K.length) (hk : k < T.length) (hab : ∀ j, T[k].testBit j = (a.testBit j != b.testBit j)) (hor : ∀ j, T[k].testBit j = (a.testBit j || b.testBit j)) : (fitL L rest K T).length = (fitL L rest K (T.set k a)).length + (fitL L rest K (T.set k b)).length ∧ (canN L rest K T qs).length = (canN L rest K (T.set k a) qs).length + (canN L rest K (T.set k b) qs).length := by
  have h1 : ∀ i, i ∈ List.range (codes L rest K).length → (if fitN L rest K (T.set k a) i then 1 else 0) + (if fitN L rest K (T.set k b) i then 1 else 0) = if fitN L rest K T i then 1 else 0 := fun i hi => by
    have hi := List.mem_range.1 hi
    obtain ⟨w1, _, _⟩ := codes_sum (List.getElem_mem hi)
    unfold fitN
    rw [List.getElem?_eq_getElem hi]
    exact fits_part (by omega) hk hab hor
  constructor
  · unfold fitL
    rw [← List.countP_eq_length_filter, ← List.countP_eq_length_filter, ← List.countP_eq_length_filter]
    exact (count_two _ _ _ _ h1).symm
  · unfold canN
    rw [← List.countP_eq_length_filter, ← List.countP_eq_length_filter, ← List.countP_eq_length_filter]
    refine (count_two _ _ _ _ fun i hi => ?_).symm
    have := h1 i hi
    cases soldB qs i
    · simp
    · simpa using this
theorem bits_part (t a : Nat) (ht : t < 64) : (∀ j, t.testBit j = ((t &&& a).testBit j != (t - (t &&& a)).testBit j)) ∧ ∀ j, t.testBit j = ((t &&& a).testBit j || (t - (t &&& a)).testBit j) := by
  have h : t - (t &&& a) = t ^^^ (t &&& a) := by
    have hu : t &&& a ≤ t := Nat.and_le_left
    have hv : t ^^^ (t &&& a) < 2 ^ 6 := Nat.xor_lt_two_pow (show t < 2 ^ 6 from ht) (Nat.lt_of_le_of_lt hu ht)
    have h1 := BitVec.add_eq_or_of_and_eq_zero (BitVec.ofNat 8 (t &&& a)) (BitVec.ofNat 8 (t ^^^ (t &&& a))) (by
      apply BitVec.eq_of_toNat_eq
      rw [BitVec.toNat_and, BitVec.toNat_ofNat, BitVec.toNat_ofNat, Nat.mod_eq_of_lt (by omega), Nat.mod_eq_of_lt (by omega)]
      apply Nat.eq_of_testBit_eq
      intro i
      simp only [Nat.testBit_and, Nat.testBit_xor, BitVec.toNat_ofNat, Nat.zero_mod, Nat.zero_testBit]
      cases t.testBit i <;> cases a.testBit i <;> rfl)
    have h2 := congrArg BitVec.toNat h1
    rw [BitVec.toNat_or, BitVec.toNat_add, BitVec.toNat_ofNat, BitVec.toNat_ofNat, Nat.mod_eq_of_lt (show t &&& a < 2 ^ 8 by omega), Nat.mod_eq_of_lt (show t ^^^ (t &&& a) < 2 ^ 8 by omega), Nat.mod_eq_of_lt (by omega)] at h2
    have h3 : (t &&& a) ||| (t ^^^ (t &&& a)) = t := by
      apply Nat.eq_of_testBit_eq
      intro i
      simp only [Nat.testBit_or, Nat.testBit_and, Nat.testBit_xor]
      cases t.testBit i <;> cases a.testBit i <;> rfl
    omega
  rw [h]
  constructor <;> intro j <;> simp only [Nat.testBit_xor, Nat.testBit_and] <;> cases t.testBit j <;> cases a.testBit j <;> rfl
end Go.Proofs.Ytgjfejpibielaaa
