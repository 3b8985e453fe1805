/- Proved here: contracts and laws of C13, a part of the proofs about the crowd laws: what some functions of the program and of the reference compute, and plain facts about it. Conditions: those that each theorem names, no others. -/
import Derived.Test.YtbfhkknpocbeaaaC12
set_option linter.unusedSimpArgs false
set_option linter.unusedVariables false
namespace Go.Proofs.Ytbfhkknpocbeaaa
open Go.RowKit Go.Maps
/-- who is the first of the least -/
def pickN (q : Nat → Bool) (u : Nat → Int) : Nat → Option Nat
  | 0 => none
  | k + 1 => match pickN q u k with
    | none => if q k = true then some k else none
    | some b => if q k = true ∧ u k < u b then some k else some b
theorem keyLitS (p : P2) : WideAt.IsKeyLit (litS p) := trivial
theorem pickN_none {q : Nat → Bool} {u : Nat → Int} {n : Nat} : pickN q u n = none ↔ ∀ i, i < n → q i = false := by
  induction n with
  | zero => simp [pickN]
  | succ k ih =>
    unfold pickN
    cases hp : pickN q u k with
    | none =>
      rw [hp] at ih
      simp only [true_iff] at ih
      by_cases hq : q k = true
      · simp only [hq, if_true]
        constructor
        · intro h; cases h
        · intro h; have := h k (by omega); rw [hq] at this; cases this
      · simp only [hq, Bool.false_eq_true, if_false, true_iff]
        intro i hi
        by_cases e : i = k
        · subst e; simpa using hq
        · exact ih i (by omega)
    | some b =>
      rw [hp] at ih
      simp only [reduceCtorEq, false_iff] at ih
      constructor
      · intro h; simp only at h; split at h <;> cases h
      · intro h; exact absurd (fun i hi => h i (by omega)) ih
theorem pickN_some {q : Nat → Bool} {u : Nat → Int} {n b : Nat} (h : pickN q u n = some b) : b < n ∧ q b = true ∧ ∀ i, i < n → q i = true → u b < u i ∨ (u b = u i ∧ b ≤ i) := by
  induction n generalizing b with
  | zero => simp [pickN] at h
  | succ k ih =>
    unfold pickN at h
    cases hp : pickN q u k with
    | none =>
      rw [hp] at h
      have hn := pickN_none.1 hp
      simp only at h
      split at h
      · rename_i hq
        cases h
        refine ⟨by omega, hq, fun i hi hqi => ?_⟩
        by_cases e : i = k
        · subst e; right; exact ⟨rfl, Nat.le_refl _⟩
        · rw [hn i (by omega)] at hqi; cases hqi
      · cases h
    | some c =>
      rw [hp] at h
      obtain ⟨h1, h2, h3⟩ := ih hp
      simp only at h
      split at h
      · rename_i hq
        cases h
        refine ⟨by omega, hq.1, fun i hi hqi => ?_⟩
        by_cases e : i = k
        · subst e; right; exact ⟨rfl, Nat.le_refl _⟩
        · rcases h3 i (by omega) hqi with h4 | ⟨h4, h5⟩
          · left; omega
          · left; omega
      · rename_i hq
        cases h
        refine ⟨by omega, h2, fun i hi hqi => ?_⟩
        by_cases e : i = k
        · subst e
          have : ¬ u i < u b := fun hl => hq ⟨hqi, hl⟩
          by_cases e2 : u b = u i
          · right; exact ⟨e2, by omega⟩
          · left; omega
        · exact h3 i (by omega) hqi
theorem pickN_congr {q q' : Nat → Bool} {u : Nat → Int} {n : Nat} (h : ∀ i, i < n → q i = q' i) : pickN q u n = pickN q' u n := by
  induction n with
  | zero => rfl
  | succ k ih => unfold pickN; rw [ih (fun i hi => h i (by omega)), h k (by omega)]

theorem slipLt_iff {a b : P2} : slipLt a b = true ↔ a.un < b.un ∨ (a.un = b.un ∧ a.pn < b.pn) := by simp [slipLt]
theorem minS_fold (l : List P2) (x : P2) : (l.foldl (fun m y => if slipLt y m then y else m) x) ∈ x :: l ∧ ∀ y, y ∈ x :: l → slipLt y (l.foldl (fun m y => if slipLt y m then y else m) x) = false := by
  induction l generalizing x with
  | nil => simp [slipLt]
  | cons z l ih =>
    simp only [List.foldl_cons]
    by_cases hz : slipLt z x = true
    · simp only [hz, if_true]
      obtain ⟨h1, h2⟩ := ih z
      refine ⟨by rw [List.mem_cons] at h1 ⊢; right; rw [List.mem_cons]; exact h1, fun y hy => ?_⟩
      rw [List.mem_cons] at hy
      rcases hy with rfl | hy
      · have h3 := h2 z (by simp)
        revert h3
        generalize l.foldl (fun m y => if slipLt y m then y else m) z = m
        intro h3
        rw [slipLt_iff] at hz
        rw [Bool.eq_false_iff, ne_eq, slipLt_iff] at h3 ⊢
        omega
      · exact h2 y hy
    · simp only [hz, Bool.false_eq_true, if_false]
      obtain ⟨h1, h2⟩ := ih x
      refine ⟨by rw [List.mem_cons] at h1 ⊢; rcases h1 with h1 | h1; exact Or.inl h1; right; simp [h1], fun y hy => ?_⟩
      rw [List.mem_cons, List.mem_cons] at hy
      rcases hy with rfl | rfl | hy
      · exact h2 y (by simp)
      · have h3 := h2 x (by simp)
        revert h3
        generalize l.foldl (fun m y => if slipLt y m then y else m) x = m
        intro h3
        rw [slipLt_iff] at hz
        rw [Bool.eq_false_iff, ne_eq, slipLt_iff] at h3 ⊢
        omega
      · exact h2 y (by simp [hy])
theorem minS_least {ss : List P2} (h : ss ≠ []) : minS ss ∈ ss ∧ ∀ y, y ∈ ss → slipLt y (minS ss) = false := by
  cases ss with
  | nil => exact absurd rfl h
  | cons x l => exact minS_fold l x

/-- the datum D holds just the slips of those for whom q stands -/
structure HasQ {H : Type} (D : DataW H) (u : Nat → Int) (n : Nat) (q : Nat → Bool) : Prop where
  tidy : Tidy D
  has : ∀ p, okS p → (Maps.has D (litS p) = true ↔ ∃ i, i < n ∧ q i = true ∧ p = ⟨u i, i⟩)
  size : Maps.size D = (List.range n).countP q
theorem HasQ.congr {H : Type} {D : DataW H} {u : Nat → Int} {n : Nat} {q q' : Nat → Bool} (h : HasQ D u n q) (e : ∀ i, i < n → q i = q' i) : HasQ D u n q' where
  tidy := h.tidy
  has p hp := by
    rw [h.has p hp]
    constructor
    · rintro ⟨i, h1, h2, h3⟩; exact ⟨i, h1, by rw [← e i h1]; exact h2, h3⟩
    · rintro ⟨i, h1, h2, h3⟩; exact ⟨i, h1, by rw [e i h1]; exact h2, h3⟩
  size := by rw [h.size]; exact List.countP_congr (fun i hi => by rw [e i (by simpa using hi)])
theorem countP_add {n k : Nat} {q : Nat → Bool} (hk : k < n) (hq : q k = false) : (List.range n).countP (fun i => q i || decide (i = k)) = (List.range n).countP q + 1 := by
  induction n with
  | zero => omega
  | succ m ih =>
    rw [List.range_succ, List.countP_append, List.countP_append]
    by_cases e : k = m
    · subst e
      have : (List.range k).countP (fun i => q i || decide (i = k)) = (List.range k).countP q := List.countP_congr (fun i hi => by
        have : i < k := by simpa using hi
        have hne : ¬ i = k := by omega
        simp [hne])
      rw [this]; simp [hq]
    · rw [ih (by omega)]
      have : ¬ m = k := fun h => e h.symm
      simp [List.countP_cons, this]; omega
theorem countP_sub {n k : Nat} {q : Nat → Bool} (hk : k < n) (hq : q k = true) : (List.range n).countP (fun i => q i && !decide (i = k)) + 1 = (List.range n).countP q := by
  have := countP_add (q := fun i => q i && !decide (i = k)) hk (by simp)
  rw [← this]
  refine List.countP_congr (fun i _ => ?_)
  by_cases e : i = k
  · subst e; simp [hq]
  · simp [e]
theorem HasQ.put {H : Type} {D : DataW H} {u : Nat → Int} {n : Nat} {q : Nat → Bool} (h : HasQ D u n q) (d : DataW H) {k : Nat} (hk : k < n) (hq : q k = false) (hok : okS ⟨u k, k⟩) : HasQ (D.put (litS ⟨u k, k⟩) d) u n (fun i => q i || decide (i = k)) where
  tidy := h.tidy.put (keyLitS _) d
  has p hp := by
    by_cases e : p = ⟨u k, k⟩
    · subst e
      rw [has_put_same h.tidy.isMap (keyLitS _)]
      simp only [true_iff]
      exact ⟨k, hk, by simp, rfl⟩
    · have hne : litS p ≠ litS ⟨u k, k⟩ := fun e2 => e (litS_inj hp hok e2)
      rw [has_put_other hne, h.has p hp]
      constructor
      · rintro ⟨i, h1, h2, h3⟩; exact ⟨i, h1, by simp [h2], h3⟩
      · rintro ⟨i, h1, h2, rfl⟩
        refine ⟨i, h1, ?_, rfl⟩
        rw [Bool.or_eq_true] at h2
        rcases h2 with h2 | h2
        · exact h2
        · have : i = k := by simpa using h2
          subst this; exact absurd rfl e
  size := by
    rw [size_put h.tidy d, countP_add hk hq, h.size]
    have : Maps.has D (litS ⟨u k, k⟩) ≠ true := by
      rw [ne_eq, h.has _ hok]
      rintro ⟨i, h1, h2, h3⟩
      have : i = k := by have := congrArg P2.pn h3; simp at this; omega
      subst this; rw [hq] at h2; cases h2
    simp [this]
theorem HasQ.del {H : Type} {D : DataW H} {u : Nat → Int} {n : Nat} {q : Nat → Bool} (h : HasQ D u n q) {k : Nat} (hk : k < n) (hq : q k = true) (hok : okS ⟨u k, k⟩) : HasQ (D.del (litS ⟨u k, k⟩)) u n (fun i => q i && !decide (i = k)) where
  tidy := h.tidy.del _
  has p hp := by
    by_cases e : p = ⟨u k, k⟩
    · subst e
      rw [has_del_same]
      simp only [Bool.false_eq_true, false_iff]
      rintro ⟨i, h1, h2, h3⟩
      have : i = k := by have := congrArg P2.pn h3; simp at this; omega
      subst this; simp at h2
    · have hne : litS p ≠ litS ⟨u k, k⟩ := fun e2 => e (litS_inj hp hok e2)
      rw [has_del_other hne, h.has p hp]
      constructor
      · rintro ⟨i, h1, h2, rfl⟩
        refine ⟨i, h1, ?_, rfl⟩
        have : ¬ i = k := fun e2 => e (by rw [e2])
        simp [h2, this]
      · rintro ⟨i, h1, h2, h3⟩
        simp at h2
        exact ⟨i, h1, h2.1, h3⟩
  size := by
    have h1 := size_del (k := litS ⟨u k, k⟩) h.tidy
    have : Maps.has D (litS ⟨u k, k⟩) = true := (h.has _ hok).2 ⟨k, hk, hq, rfl⟩
    rw [this, h.size] at h1
    have h2 := countP_sub hk hq
    simp at h1
    omega
theorem HasQ.empty {H : Type} (u : Nat → Int) (n : Nat) (q : Nat → Bool) (hq : ∀ i, i < n → q i = false) : HasQ (.map [] : DataW H) u n q where
  tidy := tidy_empty
  has p _ := by
    simp only [Maps.has_eq, List.any_nil, Bool.false_eq_true, false_iff]
    rintro ⟨i, h1, h2, _⟩; rw [hq i h1] at h2; cases h2
  size := by
    rw [Maps.size_eq, eq_comm, List.length_nil, List.countP_eq_zero]
    intro i hi; rw [hq i (by simpa using hi)]; simp
theorem HasQ.zero {H : Type} {D : DataW H} {u : Nat → Int} {n : Nat} {q : Nat → Bool} (h : HasQ D u n q) : Maps.size D = 0 ↔ pickN q u n = none := by
  rw [h.size, List.countP_eq_zero, pickN_none]
  constructor
  · intro h i hi; simpa using h i (by simpa using hi)
  · intro h i hi; rw [h i (by simpa using hi)]; simp
theorem HasQ.min {H : Type} {D : DataW H} {u : Nat → Int} {n : Nat} {q : Nat → Bool} (h : HasQ D u n q) (hok : ∀ i, i < n → okS ⟨u i, i⟩) {ss : List P2} (hs : GotS D ss) {b : Nat} (hb : pickN q u n = some b) : ss ≠ [] ∧ minS ss = ⟨u b, b⟩ := by
  obtain ⟨h1, h2, h3⟩ := pickN_some hb
  have hm : ∀ x, x ∈ ss ↔ ∃ i, i < n ∧ q i = true ∧ x = ⟨u i, i⟩ := fun x => by
    rw [hs.2 x]
    constructor
    · rintro ⟨ho, hh⟩; exact (h.has x ho).1 hh
    · rintro ⟨i, e1, e2, rfl⟩; exact ⟨hok i e1, (h.has _ (hok i e1)).2 ⟨i, e1, e2, rfl⟩⟩
  have hbm : (⟨u b, b⟩ : P2) ∈ ss := (hm _).2 ⟨b, h1, h2, rfl⟩
  have hne : ss ≠ [] := fun e => by rw [e] at hbm; cases hbm
  refine ⟨hne, ?_⟩
  obtain ⟨g1, g2⟩ := minS_least hne
  obtain ⟨i, e1, e2, e3⟩ := (hm _).1 g1
  have g3 := g2 _ hbm
  rw [e3, Bool.eq_false_iff, ne_eq, slipLt_iff] at g3
  have g4 := h3 i e1 e2
  simp only at g3
  rw [e3]
  have : i = b := by omega
  subst this; rfl
theorem HasQ.small {H : Type} {D : DataW H} {u : Nat → Int} {n : Nat} {q : Nat → Bool} (h : HasQ D u n q) : Maps.size D ≤ n := by
  rw [h.size]; exact Nat.le_trans List.countP_le_length (by simp)
/-- while the map is gone over: seen -/
structure HasR {H : Type} (D : DataW H) (left : Lit → Bool) (u : Nat → Int) (n : Nat) (t : Int) (q seen : Nat → Bool) : Prop where
  hq : HasQ D u n (fun i => q i && !(seen i && decide (u i = t)))
  left : ∀ p, okS p → (left (litS p) = true ↔ ∃ i, i < n ∧ q i = true ∧ seen i = false ∧ p = ⟨u i, i⟩)
theorem HasR.start {H : Type} {D : DataW H} {u : Nat → Int} {n : Nat} {q : Nat → Bool} (h : HasQ D u n q) (t : Int) : HasR D (Maps.has D) u n t q (fun _ => false) :=
  ⟨h.congr (fun i _ => by simp), fun p hp => by rw [h.has p hp]; simp⟩
theorem HasR.who {H : Type} {D : DataW H} {left : Lit → Bool} {u : Nat → Int} {n : Nat} {t : Int} {q seen : Nat → Bool} (h : HasR D left u n t q seen) {x : P2} (hx : okS x) (hl : left (litS x) = true) : ∃ i, i < n ∧ q i = true ∧ seen i = false ∧ x = ⟨u i, i⟩ := (h.left x hx).1 hl
theorem HasR.strike {H : Type} {D : DataW H} {left : Lit → Bool} {u : Nat → Int} {n : Nat} {t : Int} {q seen : Nat → Bool} (h : HasR D left u n t q seen) {k : Nat} (hok : okS ⟨u k, k⟩) (p : P2) (hp : okS p) :
    ((fun z => left z && !z.sameKey (litS ⟨u k, k⟩)) (litS p) = true ↔ ∃ i, i < n ∧ q i = true ∧ (seen i || decide (i = k)) = false ∧ p = ⟨u i, i⟩) := by
  simp only [Bool.and_eq_true, h.left p hp]
  constructor
  · rintro ⟨⟨i, e1, e2, e3, rfl⟩, e4⟩
    refine ⟨i, e1, e2, ?_, rfl⟩
    have : ¬ i = k := by rintro rfl; rw [sameKey_same] at e4; cases e4
    simp [e3, this]
  · rintro ⟨i, e1, e2, e3, rfl⟩
    simp at e3
    refine ⟨⟨i, e1, e2, e3.1, rfl⟩, ?_⟩
    rw [sameKey_ne (fun e => e3.2 (by have := congrArg P2.pn (litS_inj hp hok e); simp at this; omega))]
    rfl
theorem HasR.pass {H : Type} {D : DataW H} {left : Lit → Bool} {u : Nat → Int} {n : Nat} {t : Int} {q seen : Nat → Bool} (h : HasR D left u n t q seen) {k : Nat} (hok : okS ⟨u k, k⟩) (hne : u k ≠ t) :
    HasR D (fun z => left z && !z.sameKey (litS ⟨u k, k⟩)) u n t q (fun i => seen i || decide (i = k)) :=
  ⟨h.hq.congr (fun i _ => by by_cases e : i = k; subst e; simp [hne]; simp [e]), h.strike hok⟩
theorem HasR.gone {H : Type} {D : DataW H} {left : Lit → Bool} {u : Nat → Int} {n : Nat} {t : Int} {q seen : Nat → Bool} (h : HasR D left u n t q seen) {k : Nat} (hk : k < n) (hok : okS ⟨u k, k⟩) (he : u k = t) (hq : q k = true) (hs : seen k = false) :
    HasR (D.del (litS ⟨u k, k⟩)) (fun z => left z && !z.sameKey (litS ⟨u k, k⟩)) u n t q (fun i => seen i || decide (i = k)) :=
  ⟨(h.hq.del hk (by simp [hq, hs]) hok).congr (fun i _ => by
    by_cases e : i = k
    · subst e; simp [he]
    · simp [e]), h.strike hok⟩
theorem HasR.done {H : Type} {D : DataW H} {left : Lit → Bool} {u : Nat → Int} {n : Nat} {t : Int} {q seen : Nat → Bool} (h : HasR D left u n t q seen) (hok : ∀ i, i < n → okS ⟨u i, i⟩) (hl : ∀ kl, left kl = false) : ∀ i, i < n → q i = true → seen i = true := by
  intro i hi hq
  cases hs : seen i with
  | true => rfl
  | false => have := (h.left _ (hok i hi)).2 ⟨i, hi, hq, hs, rfl⟩; rw [hl] at this; cases this
end Go.Proofs.Ytbfhkknpocbeaaa
