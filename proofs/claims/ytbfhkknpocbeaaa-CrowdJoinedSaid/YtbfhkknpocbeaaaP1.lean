/- Proved here: contracts and laws of P1, a part of the proofs about the crowd laws: what some functions of the program and of the reference compute, and plain facts about it. Conditions: those that each theorem names, no others. -/
import Derived.Test.YtbfhkknpocbeaaaC33
import Derived.Test.YtbfhkknpocbeaaaK1
set_option linter.unusedSimpArgs false
set_option linter.unusedVariables false
namespace Go.Proofs.Ytbfhkknpocbeaaa
open Go.RowKit
theorem fewest_mono {m : Int} {ps qs : List P3} (hm : 0 ≤ m) (h : ∀ fr ti, fallsN fr ti qs ≤ fallsN fr ti ps) : fewest m qs ≤ fewest m ps := by
  have h1 := (fewest_le_iff hm (ps := ps) (k := fewest m ps)).1 (Int.le_refl _)
  rw [fewest_le_iff hm]
  refine ⟨h1.1, fun fr ti a b c => ?_⟩
  have h2 := h1.2 fr ti a b c
  have h3 := h fr ti
  omega
theorem falls_le {ps qs : List P3} (hl : qs.length = ps.length) {fr ti : Int} (h : ∀ i (h1 : i < qs.length) (h2 : i < ps.length), fallsB fr ti qs[i] = true → fallsB fr ti ps[i] = true) : fallsN fr ti qs ≤ fallsN fr ti ps := by
  unfold fallsN
  induction ps generalizing qs with
  | nil => have : qs = [] := List.eq_nil_of_length_eq_zero (by simpa using hl); subst this; simp
  | cons p l ih =>
    match qs, hl with
    | q :: t, hl =>
      have h0 := h 0 (by simp) (by simp)
      have h1 := ih (qs := t) (by simpa using hl) (fun i a b => by have := h (i + 1) (by simpa using a) (by simpa using b); simpa using this)
      simp only [List.getElem_cons_zero] at h0
      rw [List.filter_cons, List.filter_cons]
      by_cases hq : fallsB fr ti q = true
      · rw [if_pos hq, if_pos (h0 hq)]; simp; exact h1
      · rw [if_neg hq]; split
        · simp; omega
        · exact h1
def setHi (ps : List P3) (i : Nat) (l : Int) : List P3 := ps.modify i (fun p => { p with hi := l })
def setUn (ps : List P3) (i : Nat) (l : Int) : List P3 := ps.modify i (fun p => { p with un := l })
def without (ps : List P3) (i : Nat) : List P3 := ps.take i ++ ps.drop (i + 1)
theorem setHi_at (ps : List P3) (i : Nat) (l : Int) (j : Nat) (h : j < (setHi ps i l).length) (h2 : j < ps.length) : (setHi ps i l)[j] = if i = j then { ps[j] with hi := l } else ps[j] := List.getElem_modify _ _ _ _ _
theorem setUn_at (ps : List P3) (i : Nat) (l : Int) (j : Nat) (h : j < (setUn ps i l).length) (h2 : j < ps.length) : (setUn ps i l)[j] = if i = j then { ps[j] with un := l } else ps[j] := List.getElem_modify _ _ _ _ _
theorem setHi_len (ps : List P3) (i : Nat) (l : Int) : (setHi ps i l).length = ps.length := by simp [setHi]
theorem setUn_len (ps : List P3) (i : Nat) (l : Int) : (setUn ps i l).length = ps.length := by simp [setUn]
theorem without_len (ps : List P3) (i : Nat) (h : i < ps.length) : (without ps i).length = ps.length - 1 := by simp [without]; omega
theorem flat_hi (ps : List P3) (i : Nat) (l : Int) (h : i < ps.length) : (ps.flatMap P3.cells).set (i * 3 + 1) (.int .i64 l) = (setHi ps i l).flatMap P3.cells := by
  unfold setHi
  induction ps generalizing i with
  | nil => simp at h
  | cons q t ih =>
    cases i with
    | zero => simp [List.flatMap_cons, P3.cells]
    | succ i =>
      have := ih i (by simpa using h)
      rw [show (i + 1) * 3 = i * 3 + 3 by omega]
      simpa [List.flatMap_cons, P3.cells] using this
theorem flat_un (ps : List P3) (i : Nat) (l : Int) (h : i < ps.length) : (ps.flatMap P3.cells).set (i * 3 + 1 + 1) (.int .i64 l) = (setUn ps i l).flatMap P3.cells := by
  unfold setUn
  induction ps generalizing i with
  | nil => simp at h
  | cons q t ih =>
    cases i with
    | zero => simp [List.flatMap_cons, P3.cells]
    | succ i =>
      have := ih i (by simpa using h)
      rw [show (i + 1) * 3 = i * 3 + 3 by omega]
      simpa [List.flatMap_cons, P3.cells] using this
theorem falls_iff {fr ti : Int} {p : P3} : fallsB fr ti p = true ↔ p.lo ≤ p.un ∧ fr ≤ min p.hi p.un ∧ p.un ≤ ti := by
  unfold fallsB canB lastP; simp; omega
theorem okay_modify {m : Int} {ps : List P3} (h : Okay m ps) {i : Nat} {f : P3 → P3} (hf : ∀ (hi : i < ps.length), 1 ≤ (f ps[i]).lo ∧ (f ps[i]).lo ≤ (f ps[i]).hi ∧ (f ps[i]).hi ≤ m ∧ 1 ≤ (f ps[i]).un ∧ (f ps[i]).un ≤ m) : Okay m (ps.modify i f) := by
  refine ⟨h.m1, h.m2, fun p hp => ?_⟩
  obtain ⟨j, hj, rfl⟩ := List.mem_iff_getElem.1 hp
  rw [List.getElem_modify]
  have hj2 : j < ps.length := by simpa using hj
  split
  · rename_i e; subst e; exact hf hj2
  · exact h.ok _ (List.getElem_mem hj2)
theorem hi_less {m : Int} {ps : List P3} (h : Okay m ps) {i : Nat} (hi : i < ps.length) {d : Int} (hd : 0 ≤ d) : Okay m (setHi ps i (max ps[i].lo (ps[i].hi - d))) ∧ fewest m (setHi ps i (max ps[i].lo (ps[i].hi - d))) ≤ fewest m ps ∧ (setHi ps i (max ps[i].lo (ps[i].hi - d))).map soonP = ps.map soonP := by
  have ho := h.ok _ (List.getElem_mem hi)
  refine ⟨okay_modify h (fun _ => by simp only; omega), fewest_mono (by have := h.m1; omega) (fun fr ti => falls_le (by simp [setHi]) (fun j h1 h2 => ?_)), ?_⟩
  · rw [setHi_at _ _ _ _ _ h2]
    split
    · rename_i e; subst e; rw [falls_iff, falls_iff]; simp only; omega
    · exact id
  · apply List.ext_getElem
    · simp [setHi]
    · intro j h1 h2
      rw [List.getElem_map, List.getElem_map]
      rw [setHi_at _ _ _ _ _ (by simpa [setHi] using h1)]
      split
      · rename_i e; subst e; rfl
      · rfl
theorem un_more {m : Int} {ps : List P3} (h : Okay m ps) {i : Nat} (hi : i < ps.length) {d : Int} (hd : 0 ≤ d) (hu : ps[i].hi ≤ ps[i].un) : Okay m (setUn ps i (min m (ps[i].un + d))) ∧ fewest m (setUn ps i (min m (ps[i].un + d))) ≤ fewest m ps ∧ fewest m ((setUn ps i (min m (ps[i].un + d))).map soonP) ≤ fewest m (ps.map soonP) := by
  have ho := h.ok _ (List.getElem_mem hi)
  have hm := h.m1
  refine ⟨okay_modify h (fun _ => by simp only; omega), fewest_mono (by omega) (fun fr ti => falls_le (by simp [setUn]) (fun j h1 h2 => ?_)), fewest_mono (by omega) (fun fr ti => falls_le (by simp [setUn]) (fun j h1 h2 => ?_))⟩
  · rw [setUn_at _ _ _ _ _ h2]
    split
    · rename_i e; subst e; rw [falls_iff, falls_iff]; simp only; omega
    · exact id
  · rw [List.getElem_map, List.getElem_map]
    rw [setUn_at _ _ _ _ _ (by simpa [setUn] using h2)]
    split
    · rename_i e; subst e; rw [falls_iff, falls_iff]; simp only [soonP]; omega
    · exact id
theorem falls_append (fr ti : Int) (ps qs : List P3) : fallsN fr ti (ps ++ qs) = fallsN fr ti ps + fallsN fr ti qs := by
  unfold fallsN; rw [List.filter_append, List.length_append]
theorem fewest_append {m : Int} {ps qs : List P3} (hm : 0 ≤ m) : fewest m (ps ++ qs) ≤ fewest m ps + fewest m qs ∧ fewest m ps ≤ fewest m (ps ++ qs) ∧ fewest m qs ≤ fewest m (ps ++ qs) := by
  refine ⟨?_, fewest_mono hm (fun fr ti => by rw [falls_append]; omega), fewest_mono hm (fun fr ti => by rw [falls_append]; omega)⟩
  have h1 := (fewest_le_iff hm (ps := ps) (k := fewest m ps)).1 (Int.le_refl _)
  have h2 := (fewest_le_iff hm (ps := qs) (k := fewest m qs)).1 (Int.le_refl _)
  rw [fewest_le_iff hm]
  refine ⟨by omega, fun fr ti a b c => ?_⟩
  have h3 := h1.2 fr ti a b c
  have h4 := h2.2 fr ti a b c
  rw [falls_append, Int.mul_add]
  omega
theorem falls_one (fr ti : Int) (p : P3) : fallsN fr ti [p] ≤ 1 := by
  have := List.length_filter_le (fallsB fr ti) [p]; simpa [fallsN] using this
theorem fewest_one {m : Int} {p : P3} (hm : 0 ≤ m) : fewest m [p] ≤ 1 := by
  rw [fewest_le_iff hm]
  refine ⟨by omega, fun fr ti a b c => ?_⟩
  have := falls_one fr ti p
  omega
theorem fewest_perm {m : Int} {ps qs : List P3} (hm : 0 ≤ m) (h : ∀ fr ti, fallsN fr ti qs = fallsN fr ti ps) : fewest m qs = fewest m ps := by
  have h1 := fewest_mono hm (ps := ps) (qs := qs) (fun fr ti => Nat.le_of_eq (h fr ti))
  have h2 := fewest_mono hm (ps := qs) (qs := ps) (fun fr ti => Nat.le_of_eq (h fr ti).symm)
  omega
theorem take_one_drop {α : Type} (l : List α) (i : Nat) (hi : i < l.length) : l = l.take i ++ ([l[i]] ++ l.drop (i + 1)) := by
  rw [List.singleton_append, ← List.drop_eq_getElem_cons hi, List.take_append_drop]
theorem fewest_without {m : Int} {ps : List P3} (hm : 0 ≤ m) {i : Nat} (hi : i < ps.length) : fewest m (without ps i) ≤ fewest m ps ∧ fewest m ps - 1 ≤ fewest m (without ps i) := by
  have e : fewest m ps = fewest m (without ps i ++ [ps[i]]) := fewest_perm hm (fun fr ti => by
    have h := congrArg (fallsN fr ti) (take_one_drop ps i hi)
    rw [falls_append, falls_append] at h
    unfold without
    rw [falls_append, falls_append]
    omega)
  have h1 := fewest_append (m := m) (ps := without ps i) (qs := [ps[i]]) hm
  have h2 := fewest_one (m := m) (p := ps[i]) hm
  omega
theorem without_soon (ps : List P3) (i : Nat) : (without ps i).map soonP = without (ps.map soonP) i := by
  unfold without; rw [List.map_append, List.map_take, List.map_drop]
theorem without_okay {m : Int} {ps : List P3} (h : Okay m ps) (i : Nat) : Okay m (without ps i) :=
  ⟨h.m1, h.m2, fun p hp => h.ok p (by
    unfold without at hp
    rcases List.mem_append.1 hp with h1 | h1
    · exact List.mem_of_mem_take h1
    · exact List.mem_of_mem_drop h1)⟩
theorem append_okay {m : Int} {ps qs : List P3} (h : Okay m ps) (k : Okay m qs) : Okay m (ps ++ qs) :=
  ⟨h.m1, h.m2, fun p hp => by
    rcases List.mem_append.1 hp with h1 | h1
    · exact h.ok p h1
    · exact k.ok p h1⟩
theorem planR_zero {m : Int} {ps : List P3} {k : Int} {ts : List Int} : planR m ps k ts = 0 ↔ (ts.zip ps).all inRb = true ∧ fitR m k ts = true := by
  unfold planR
  by_cases h1 : (ts.zip ps).all inRb = true <;> by_cases h2 : fitR m k ts = true <;> simp [h1, h2]
theorem cntZ_append (a b : List Int) (t : Int) : cntZ (a ++ b) t = cntZ a t + cntZ b t := by
  unfold cntZ; rw [List.filter_append, List.length_append]
theorem plan_join {m k l : Int} {ps qs : List P3} {ts us : List Int} (h1 : ts.length = ps.length) (hp : planR m ps k ts = 0) (hq : planR m qs l us = 0) : planR m (ps ++ qs) (k + l) (ts ++ us) = 0 := by
  rw [planR_zero] at hp hq ⊢
  refine ⟨?_, ?_⟩
  · rw [List.zip_append h1, List.all_append, hp.1, hq.1]; rfl
  · have a := hp.2
    have b := hq.2
    unfold fitR at a b ⊢
    rw [List.all_eq_true] at a b ⊢
    intro j hj
    have a1 := a j hj
    have b1 := b j hj
    rw [decide_eq_true_eq] at a1 b1 ⊢
    rw [cntZ_append]
    omega
theorem checkPl_join {m k l : Int} {ps qs : List P3} {ts us : List Int} (ha : asked m (ps ++ qs) (k + l) = 0) (hk : asked m ps k = 0) (hl : asked m qs l = 0) (h1 : ts.length = ps.length) (h2 : us.length = qs.length) (hp : checkPl m ps k ts = 0) (hq : checkPl m qs l us = 0) : checkPl m (ps ++ qs) (k + l) (ts ++ us) = 0 := by
  unfold checkPl at hp hq ⊢
  rw [if_neg (by simp [hk]), if_neg (by simp [h1])] at hp
  rw [if_neg (by simp [hl]), if_neg (by simp [h2])] at hq
  rw [if_neg (by simp [ha]), if_neg (by simp [h1, h2])]
  exact plan_join h1 hp hq
end Go.Proofs.Ytbfhkknpocbeaaa
