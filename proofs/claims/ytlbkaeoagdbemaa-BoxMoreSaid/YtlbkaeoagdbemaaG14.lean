/- Proved here: one ticket more, a part of the proofs about the box laws. Conditions: those that each theorem names, no others. -/
import Derived.Test.YtlbkaeoagdbemaaG9
import Derived.WalkKit
import Derived.WalkSpells
import Derived.WalkLawsBesides
import Derived.Below
import Derived.Deep.QuietTactic
import Derived.BigQuiet
import Derived.Deep.Light
set_option linter.unusedSimpArgs false
set_option linter.unusedVariables false
namespace Go.Proofs.Ytlbkaeoagdbemaa
open Bm
/-- ys has one ticket more than xs -/
def OneMore (xs : List Tk) (t : Tk) (ys : List Tk) : Prop := ∀ o, uni ys o = uni xs o + if win t.1 o then t.2 else 0
theorem more_last (ts : List Tk) (t : Tk) : OneMore ts t (ts ++ [t]) := fun o => by
  unfold uni
  rw [List.map_append, List.sum_append]
  simp
theorem more_mid (ts : List Tk) {i : Nat} (hi : i < ts.length) : OneMore (ts.take i ++ ts.drop (i + 1)) ts[i] ts := fun o => by
  have e : ts = ts.take i ++ ts[i] :: ts.drop (i + 1) := by rw [← List.drop_eq_getElem_cons hi, List.take_append_drop]
  generalize ts[i] = t at *
  generalize ts.take i = a at *
  generalize ts.drop (i + 1) = b at *
  subst e
  unfold uni
  simp only [List.map_append, List.sum_append, List.map_cons, List.sum_cons]
  omega
theorem after_nil (R : List Nat) (ts : List Tk) : afterN R ts [] = (outs R).countP fun o => decide (0 < uni ts o) := by
  unfold afterN
  exact List.countP_congr fun o _ => by simp
theorem OneMore.cov {xs ys : List Tk} {t : Tk} (h : OneMore xs t ys) (R : List Nat) : afterN R xs [] ≤ afterN R ys [] := by
  rw [after_nil, after_nil]
  refine List.countP_mono_left fun o _ h1 => ?_
  rw [decide_eq_true_eq] at h1 ⊢
  have := h o
  omega
theorem countP_or {α : Type} (l : List α) (p q r : α → Bool) (h : ∀ x, x ∈ l → r x = true → p x = true ∨ q x = true) : l.countP r ≤ l.countP p + l.countP q := by
  induction l with
  | nil => simp
  | cons a l ih =>
    have ih := ih (fun x hx => h x (by simp [hx]))
    have ha := h a (by simp)
    simp only [List.countP_cons]
    cases hr : r a <;> cases hp : p a <;> cases hq : q a <;> simp_all <;> omega
theorem OneMore.size {xs ys : List Tk} {t : Tk} (h : OneMore xs t ys) {R : List Nat} (h6 : ∀ n, n ∈ R → n ≤ 6) (hb : isBox R t.1 = true) : afterN R ys [] ≤ afterN R xs [] + size t.1 := by
  rw [after_nil, after_nil, ← size_count (by rw [List.all_eq_true]; intro n hn; simpa using h6 n hn) hb]
  refine countP_or _ _ _ _ fun o _ h1 => ?_
  rw [decide_eq_true_eq] at h1 ⊢
  have := h o
  cases hw : win t.1 o with
  | true => exact .inr rfl
  | false => rw [hw] at this; simp only [Bool.false_eq_true, if_false] at this; exact .inl (by omega)
theorem OneMore.deep {xs ys : List Tk} {t : Tk} (h : OneMore xs t ys) {R : List Nat} (hx : Ok R xs) (hy : Ok R ys) : uni xs (deepO R xs) ≤ uni ys (deepO R ys) ∧ uni ys (deepO R ys) ≤ uni xs (deepO R xs) + t.2 := by
  have h1 := deep_most hy (deep_mem hx)
  have h2 := deep_most hx (deep_mem hy)
  have h3 := h (deepO R xs)
  have h4 := h (deepO R ys)
  refine ⟨by omega, ?_⟩
  split at h4 <;> omega
theorem mem_idle (R : List Nat) (ts : List Tk) (i : Nat) : ∀ n, i ∈ idleN R ts n ↔ i < n ∧ soloN R ts (ts.getD i ([], 0)) = false
  | 0 => by simp [idleN]
  | n + 1 => by
    rw [idleN, List.mem_append, mem_idle R ts i n]
    by_cases hi : i = n
    · subst hi
      cases soloN R ts (ts.getD i ([], 0)) <;> simp
    · cases hs : soloN R ts (ts.getD n ([], 0)) <;> simp [hi] <;> omega
theorem solo_iff (R : List Nat) (ts : List Tk) (t : Tk) : soloN R ts t = true ↔ ∃ o, o ∈ outs R ∧ win t.1 o = true ∧ uni ts o = t.2 := by
  unfold soloN soloF
  rw [List.any_eq_true]
  refine ⟨fun ⟨o, ho, h⟩ => ⟨o, ho, ?_⟩, fun ⟨o, ho, h1, h2⟩ => ⟨o, ho, ?_⟩⟩
  · rw [Bool.and_eq_true, decide_eq_true_eq, decide_eq_true_eq] at h
    exact ⟨wrong_win.1 h.1, h.2⟩
  · rw [Bool.and_eq_true, decide_eq_true_eq, decide_eq_true_eq]
    exact ⟨wrong_win.2 h1, h2⟩
theorem uni_ge {ts : List Tk} {t : Tk} {o : List Nat} (ht : t ∈ ts) (hw : win t.1 o = true) : t.2 ≤ uni ts o := by
  unfold uni
  refine sum_mem_le (List.mem_map.2 ⟨t, ht, ?_⟩)
  rw [if_pos hw]
/-- a ticket that was idle still is -/
theorem OneMore.still {xs ys : List Tk} {t q : Tk} (h : OneMore xs t ys) {R : List Nat} (hq : q ∈ xs) (h1 : soloN R ys q = true) : soloN R xs q = true := by
  obtain ⟨o, ho, hw, he⟩ := (solo_iff R ys q).1 h1
  refine (solo_iff R xs q).2 ⟨o, ho, hw, ?_⟩
  have h2 := uni_ge hq hw
  have h3 := h o
  omega
theorem count_same {α : Type} {l : List α} {p q : α → Bool} (h : ∀ x, x ∈ l → p x = true → q x = true) : l.countP p = l.countP q ↔ ∀ x, x ∈ l → q x = true → p x = true := by
  induction l with
  | nil => simp
  | cons a l ih =>
    have ih := ih (fun x hx => h x (by simp [hx]))
    have hm := List.countP_mono_left (l := l) (p := p) (q := q) (fun x hx => h x (by simp [hx]))
    have ha := h a (by simp)
    simp only [List.countP_cons, List.mem_cons, forall_eq_or_imp]
    cases hp : p a <;> cases hq : q a
    · simpa using ih
    · simp; omega
    · simp_all
    · simpa using ih
theorem OneMore.same {xs ys : List Tk} {t : Tk} (h : OneMore xs t ys) (ht : 1 ≤ t.2) (R : List Nat) : afterN R xs [] = afterN R ys [] ↔ ∀ o, o ∈ outs R → (uni xs o = 0 ↔ uni ys o = 0) := by
  rw [after_nil, after_nil, count_same (fun o _ h1 => by rw [decide_eq_true_eq] at h1 ⊢; have := h o; omega)]
  refine ⟨fun h1 o ho => ⟨fun h2 => ?_, fun h2 => ?_⟩, fun h1 o ho h2 => ?_⟩
  · have h3 := h1 o ho
    rw [decide_eq_true_eq, decide_eq_true_eq] at h3
    omega
  · have := h o; omega
  · rw [decide_eq_true_eq] at h2 ⊢
    have := h1 o ho
    omega
/-- the ticket is idle just if no fewer are covered without it -/
theorem OneMore.idle {xs ys : List Tk} {t : Tk} (h : OneMore xs t ys) (ht : 1 ≤ t.2) (R : List Nat) : soloN R ys t = false ↔ afterN R xs [] = afterN R ys [] := by
  rw [h.same ht R, ← Bool.not_eq_true, solo_iff]
  constructor
  · intro hn o ho
    have h1 := h o
    cases hw : win t.1 o with
    | false => rw [hw] at h1; simp only [Bool.false_eq_true, if_false] at h1; omega
    | true =>
      rw [hw] at h1; simp only [if_true] at h1
      have h2 : uni ys o ≠ t.2 := fun e => hn ⟨o, ho, hw, e⟩
      omega
  · rintro h1 ⟨o, ho, hw, he⟩
    have h2 := h o
    rw [hw] at h2; simp only [if_true] at h2
    have := h1 o ho
    omega
theorem find_congr {α : Type} {l : List α} {p q : α → Bool} (h : ∀ x, x ∈ l → p x = q x) : l.find? p = l.find? q := by
  induction l with
  | nil => rfl
  | cons a l ih => rw [List.find?_cons, List.find?_cons, h a (by simp), ih (fun x hx => h x (by simp [hx]))]
theorem OneMore.open {xs ys : List Tk} {t : Tk} (h : OneMore xs t ys) (ht : 1 ≤ t.2) {R : List Nat} (he : afterN R xs [] = afterN R ys []) : (outs R).find? (fun o => decide (uni xs o = 0)) = (outs R).find? (fun o => decide (uni ys o = 0)) :=
  find_congr fun o ho => by have := (h.same ht R).1 he o ho; simp [this]
theorem find_up {α : Type} {l : List α} {p q : α → Bool} {b : α} (h : ∀ x, x ∈ l → q x = true → p x = true) (hf : l.find? p = some b) (hq : q b = true) : l.find? q = some b := by
  induction l with
  | nil => cases hf
  | cons a l ih =>
    rw [List.find?_cons] at hf ⊢
    cases hp : p a with
    | true =>
      rw [hp] at hf
      injection hf with hf
      subst hf
      rw [hq]
    | false =>
      rw [hp] at hf
      have : q a = false := by
        cases hqa : q a with
        | false => rfl
        | true => rw [h a (by simp) hqa] at hp; cases hp
      rw [this]
      exact ih (fun x hx => h x (by simp [hx])) hf
/-- without the ticket Open finds what it found, or an outcome of the ticket -/
theorem OneMore.free {xs ys : List Tk} {t : Tk} (h : OneMore xs t ys) (ht : 1 ≤ t.2) {R : List Nat} (he : afterN R xs [] ≠ afterN R ys []) : ∃ p, (outs R).find? (fun o => decide (uni xs o = 0)) = some p ∧ p ∈ outs R ∧ ((outs R).find? (fun o => decide (uni ys o = 0)) = some p ∨ win t.1 p = true) := by
  cases hf : (outs R).find? (fun o => decide (uni xs o = 0)) with
  | none =>
    rw [List.find?_eq_none] at hf
    refine absurd ((h.same ht R).2 fun o ho => ?_) he
    have h1 := hf o ho
    rw [decide_eq_true_eq] at h1
    have := h o
    omega
  | some p =>
    have hm := List.mem_of_find?_eq_some hf
    refine ⟨p, rfl, hm, ?_⟩
    cases hw : win t.1 p with
    | true => exact .inr rfl
    | false =>
      refine .inl (find_up (fun o _ h1 => ?_) hf ?_)
      · rw [decide_eq_true_eq] at h1 ⊢
        have := h o; omega
      · have h1 := List.find?_some hf
        rw [decide_eq_true_eq] at h1 ⊢
        have h2 := h p
        rw [hw] at h2; simp only [Bool.false_eq_true, if_false] at h2
        omega
end Go.Proofs.Ytlbkaeoagdbemaa
