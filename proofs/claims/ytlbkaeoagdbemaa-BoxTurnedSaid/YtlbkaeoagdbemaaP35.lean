/- Proved here: boxes and their outcomes; the reference's parts and their owners; the program and the reference agree about maps; the program and the reference agree about what is covered, open, deepest, idle; the whole contracts of the program and of the reference, a part of the proofs about the box laws. Conditions: those that each theorem names, no others. -/
import Derived.Test.YtlbkaeoagdbemaaP34
import Derived.WalkKit
import Derived.WalkSpells
import Derived.WalkLawsBesides
import Derived.Below
import Derived.Deep.QuietTactic
import Derived.BigQuiet
import Derived.Deep.Light
set_option linter.unusedSimpArgs false
set_option linter.unusedVariables false
namespace Go.Proofs.Ytlbkaeoagdbemaa
open Bm
theorem mem_cons_outs {n : Nat} {R o : List Nat} : o ∈ outs (n :: R) ↔ ∃ i o', i < n ∧ o' ∈ outs R ∧ o = i :: o' := by
  simp only [outs, List.mem_flatMap, List.mem_range, List.mem_map]
  constructor
  · rintro ⟨i, hi, o', ho', rfl⟩; exact ⟨i, o', hi, ho', rfl⟩
  · rintro ⟨i, o', hi, ho', rfl⟩; exact ⟨i, hi, o', ho', rfl⟩
theorem bit_ex {s n : Nat} (h1 : 1 ≤ s) (h2 : s < 2 ^ n) : ∃ i, i < n ∧ s.testBit i = true := by
  have hs : s ≠ 0 := by omega
  obtain ⟨i, hi⟩ := Nat.exists_testBit_of_ne_zero hs
  refine ⟨i, ?_, hi⟩
  rcases Nat.lt_or_ge i n with h | h
  · exact h
  · rw [Nat.testBit_lt_two_pow (Nat.lt_of_lt_of_le h2 (Nat.pow_le_pow_right (by omega) h))] at hi; cases hi
theorem box_cons {n s : Nat} {R S : List Nat} (h : isBox (n :: R) (s :: S) = true) : 1 ≤ s ∧ s < 2 ^ n ∧ isBox R S = true := by
  simp only [isBox, Bool.and_eq_true, decide_eq_true_eq] at h; exact ⟨h.1.1, h.1.2, h.2⟩
theorem box_some : ∀ {R S : List Nat}, isBox R S = true → ∃ o, o ∈ outs R ∧ win S o = true
  | [], [], _ => ⟨[], by simp [outs], rfl⟩
  | [], _ :: _, h => by simp [isBox] at h
  | _ :: _, [], h => by simp [isBox] at h
  | n :: R, s :: S, h => by
    obtain ⟨h1, h2, h3⟩ := box_cons h
    obtain ⟨i, hi, hb⟩ := bit_ex h1 h2
    obtain ⟨o, ho, hw⟩ := box_some h3
    exact ⟨i :: o, mem_cons_outs.2 ⟨i, o, hi, ho, rfl⟩, by simp [win, hb, hw]⟩
theorem has_iff : ∀ {R S T : List Nat}, isBox R S = true → isBox R T = true → (hasB S T = true ↔ ∀ o, o ∈ outs R → win T o = true → win S o = true)
  | [], [], [], _, _ => by simp [hasB, outs, win]
  | [], _ :: _, _, h, _ => by simp [isBox] at h
  | [], [], _ :: _, _, h => by simp [isBox] at h
  | _ :: _, [], _, h, _ => by simp [isBox] at h
  | _ :: _, _ :: _, [], _, h => by simp [isBox] at h
  | n :: R, s :: S, t :: T, hS, hT => by
    obtain ⟨s1, s2, s3⟩ := box_cons hS
    obtain ⟨t1, t2, t3⟩ := box_cons hT
    have ih := has_iff s3 t3
    have e : hasB (s :: S) (t :: T) = (decide (s &&& t = t) && hasB S T) := by simp [hasB, hasP]
    rw [e, Bool.and_eq_true, decide_eq_true_eq, ih]
    constructor
    · rintro ⟨h1, h2⟩ o ho hw
      obtain ⟨i, o', hi, ho', rfl⟩ := mem_cons_outs.1 ho
      simp only [win, Bool.and_eq_true] at hw ⊢
      refine ⟨?_, h2 o' ho' hw.2⟩
      have := hw.1
      rw [← h1, Nat.testBit_and, Bool.and_eq_true] at this
      exact this.1
    · intro h
      obtain ⟨o0, ho0, hw0⟩ := box_some t3
      obtain ⟨i0, hi0, hb0⟩ := bit_ex t1 t2
      have key : ∀ i, t.testBit i = true → s.testBit i = true := fun i hi => by
        have hin : i < n := by
          rcases Nat.lt_or_ge i n with h | h
          · exact h
          · rw [Nat.testBit_lt_two_pow (Nat.lt_of_lt_of_le t2 (Nat.pow_le_pow_right (by omega) h))] at hi; cases hi
        have := h (i :: o0) (mem_cons_outs.2 ⟨i, o0, hin, ho0, rfl⟩) (by simp [win, hi, hw0])
        simp only [win, Bool.and_eq_true] at this
        exact this.1
      refine ⟨?_, fun o ho hw => ?_⟩
      · apply Nat.eq_of_testBit_eq
        intro i
        rw [Nat.testBit_and]
        cases hb : t.testBit i with
        | false => simp
        | true => simp [key i hb]
      · have := h (i0 :: o) (mem_cons_outs.2 ⟨i0, o, hi0, ho, rfl⟩) (by simp [win, hb0, hw])
        simp only [win, Bool.and_eq_true] at this
        exact this.2
theorem meet_iff : ∀ {R S T : List Nat}, isBox R S = true → isBox R T = true → (meetB S T = true ↔ ∃ o, o ∈ outs R ∧ win S o = true ∧ win T o = true)
  | [], [], [], _, _ => by simp [meetB, outs, win]
  | [], _ :: _, _, h, _ => by simp [isBox] at h
  | [], [], _ :: _, _, h => by simp [isBox] at h
  | _ :: _, [], _, h, _ => by simp [isBox] at h
  | _ :: _, _ :: _, [], _, h => by simp [isBox] at h
  | n :: R, s :: S, t :: T, hS, hT => by
    obtain ⟨s1, s2, s3⟩ := box_cons hS
    obtain ⟨t1, t2, t3⟩ := box_cons hT
    have ih := meet_iff s3 t3
    have e : meetB (s :: S) (t :: T) = (!decide (s &&& t = 0) && meetB S T) := by simp [meetB, meetP]
    rw [e, Bool.and_eq_true, ih, Bool.not_eq_true', decide_eq_false_iff_not]
    constructor
    · rintro ⟨h1, o, ho, hw, hw2⟩
      obtain ⟨i, hi, hb⟩ := bit_ex (s := s &&& t) (n := n) (by omega) (Nat.lt_of_le_of_lt Nat.and_le_left s2)
      rw [Nat.testBit_and, Bool.and_eq_true] at hb
      exact ⟨i :: o, mem_cons_outs.2 ⟨i, o, hi, ho, rfl⟩, by simp [win, hb.1, hw], by simp [win, hb.2, hw2]⟩
    · rintro ⟨o, ho, hw, hw2⟩
      obtain ⟨i, o', hi, ho', rfl⟩ := mem_cons_outs.1 ho
      simp only [win, Bool.and_eq_true] at hw hw2
      refine ⟨fun h0 => ?_, o', ho', hw.2, hw2.2⟩
      have : (s &&& t).testBit i = true := by rw [Nat.testBit_and, hw.1, hw2.1]; rfl
      rw [h0] at this; simp at this
theorem outs_total : ∀ R : List Nat, (outs R).length = total R
  | [] => rfl
  | n :: R => by
    simp only [outs, List.length_flatMap, List.length_map, total]
    rw [sum_const, outs_total R]; simp
theorem size_allP : ∀ {R : List Nat}, (∀ n, n ∈ R → n ≤ 6) → size (allP R) = total R
  | [], _ => rfl
  | n :: R, h => by
    have ih := size_allP (R := R) (fun x hx => h x (by simp [hx]))
    have hn := h n (by simp)
    show popc (2 ^ n - 1) * size (allP R) = n * total R
    rw [ih]
    congr 1
    have : n = 0 ∨ n = 1 ∨ n = 2 ∨ n = 3 ∨ n = 4 ∨ n = 5 ∨ n = 6 := by omega
    rcases this with rfl | rfl | rfl | rfl | rfl | rfl | rfl <;> decide
/-- a sum over parts is one over outcomes: each outcome is counted once for each part that has it -/
theorem parts_count (ps : List Tk) (L : List (List Nat)) (g : Nat → Bool) (Q : List Nat → Bool) : (ps.map fun p => if g p.2 then L.countP (fun o => win p.1 o && Q o) else 0).sum = (L.map fun o => if Q o then ((ps.filter fun p => win p.1 o).filter fun p => g p.2).length else 0).sum := by
  have e1 : (fun p : Tk => if g p.2 then L.countP (fun o => win p.1 o && Q o) else 0) = fun p => (L.map fun o => if win p.1 o && (g p.2 && Q o) then 1 else 0).sum := by
    funext p
    rw [countP_sum]
    cases g p.2 with
    | false => simp only [Bool.false_eq_true, if_false, Bool.false_and, Bool.and_false]; rw [sum_const]; simp
    | true => simp only [if_true, Bool.true_and]
  rw [e1, sum_swap]
  refine sum_map_congr fun o _ => ?_
  induction ps with
  | nil => simp
  | cons p ps ih =>
    rw [List.map_cons, List.sum_cons, ih]
    cases hQ : Q o with
    | false => simp
    | true =>
      cases hw : win p.1 o with
      | false => simp [hw]
      | true =>
        rw [List.filter_cons_of_pos (p := fun p : Tk => win p.1 o) hw]
        cases hg : g p.2 with
        | false => simp [hg]
        | true => simp [hg]; omega
theorem size_cut : ∀ {R S won : List Nat}, (∀ n, n ∈ R → n ≤ 6) → isBox R S = true → won.length ≤ R.length → (∀ k, k < won.length → won.getD k 0 < R.getD k 0) → size (cutWon S won) = (outs R).countP fun o => win S o && decide (o.take won.length = won)
  | R, S, [], h6, hb, _, _ => by
    rw [cutWon_nil, ← size_count (by rw [List.all_eq_true]; intro n hn; simpa using h6 n hn) hb]
    congr 1; funext o; simp
  | [], _, _ :: _, _, _, hl, _ => by simp at hl
  | _ :: _, [], _ :: _, _, hb, _, _ => by simp [isBox] at hb
  | n :: R, s :: S, i :: won, h6, hb, hl, hw => by
    obtain ⟨s1, s2, s3⟩ := box_cons hb
    have ih := size_cut (won := won) (fun x hx => h6 x (by simp [hx])) s3 (by simpa using hl) (fun k hk => by have := hw (k + 1) (by simpa using hk); simpa using this)
    have hi : i < n := by have := hw 0 (by simp); simpa using this
    have hn6 := h6 n (by simp)
    rw [cutWon, size, ih, countP_outs]
    have e : ∀ j, j ∈ List.range n → ((outs R).countP fun o => win (s :: S) (j :: o) && decide ((j :: o).take (i :: won).length = i :: won)) = if j = i then (if s.testBit i then (outs R).countP (fun o => win S o && decide (o.take won.length = won)) else 0) else 0 := fun j _ => by
      by_cases hj : j = i
      · subst hj
        rw [if_pos rfl]
        cases hs : s.testBit j with
        | false => simp [win, hs]
        | true => simp [win, hs]
      · rw [if_neg hj]
        rw [List.countP_eq_zero]
        intro o _
        simp [hj]
    rw [sum_map_congr e]
    have hsum : ∀ (m c : Nat), ((List.range m).map fun j => if j = i then c else 0).sum = if i < m then c else 0 := fun m c => by
      induction m with
      | zero => simp
      | succ m ihm =>
        rw [List.range_succ, List.map_append, List.sum_append, ihm]
        simp only [List.map_cons, List.map_nil, List.sum_cons, List.sum_nil, Nat.add_zero]
        by_cases h1 : i < m
        · rw [if_pos h1, if_neg (by omega), if_pos (by omega)]; omega
        · rw [if_neg h1]
          by_cases h2 : m = i
          · rw [if_pos h2, if_pos (by omega)]; omega
          · rw [if_neg h2, if_neg (by omega)]
    rw [hsum, if_pos hi]
    have hp : popc (s &&& 2 ^ i) = if s.testBit i then 1 else 0 := by
      have hs64 : s < 64 := Nat.lt_of_lt_of_le s2 (Nat.le_trans (Nat.pow_le_pow_right (by omega) hn6) (by decide))
      have hi6 : i < 6 := by omega
      have : ∀ s, s < 64 → ∀ i, i < 6 → popc (s &&& 2 ^ i) = if s.testBit i then 1 else 0 := by decide +kernel
      exact this s hs64 i hi6
    rw [hp]
    cases s.testBit i <;> simp
end Go.Proofs.Ytlbkaeoagdbemaa
namespace Go.Proofs.Ytlbkaeoagdbemaa
open Bm
theorem wrong_win {S o : List Nat} : wrongN S o = 0 ↔ win S o = true := by rw [win_wrong]; simp
theorem own_pos (ps : List Tk) (o : List Nat) : ∀ i, 0 ≤ ownS ps o i ↔ ∃ j, j < i ∧ win (ps.getD j ([], 0)).1 o = true
  | 0 => by simp [ownS]
  | i + 1 => by
    have ih := own_pos ps o i
    rw [ownS]
    by_cases h : wrongN (ps.getD i ([], 0)).1 o = 0
    · rw [if_pos h]
      exact ⟨fun _ => ⟨i, by omega, wrong_win.1 h⟩, fun _ => by omega⟩
    · rw [if_neg h, ih]
      constructor
      · rintro ⟨j, hj, hw⟩; exact ⟨j, by omega, hw⟩
      · rintro ⟨j, hj, hw⟩
        refine ⟨j, ?_, hw⟩
        rcases Nat.lt_or_ge j i with h2 | h2
        · exact h2
        · have : j = i := by omega
          subst this; exact absurd (wrong_win.2 hw) h
theorem own_win (ps : List Tk) (o : List Nat) : ∀ i, 0 ≤ ownS ps o i → (ownS ps o i).toNat < i ∧ win (ps.getD (ownS ps o i).toNat ([], 0)).1 o = true
  | 0, h => by simp [ownS] at h
  | i + 1, h => by
    rw [ownS] at h ⊢
    by_cases hw : wrongN (ps.getD i ([], 0)).1 o = 0
    · rw [if_pos hw, Int.toNat_natCast]; exact ⟨by omega, wrong_win.1 hw⟩
    · rw [if_neg hw] at h ⊢
      have := own_win ps o i h
      exact ⟨by omega, this.2⟩
/-- no outcome is in two parts -/
def NoClash (ps : List Tk) (o : List Nat) : Prop := ∀ i j, i < ps.length → j < ps.length → win (ps.getD i ([], 0)).1 o = true → win (ps.getD j ([], 0)).1 o = true → i = j
theorem clash_iff (ps : List Tk) (o : List Nat) : clashB ps o = true ↔ ∃ j i, j < i ∧ i < ps.length ∧ win (ps.getD i ([], 0)).1 o = true ∧ win (ps.getD j ([], 0)).1 o = true := by
  unfold clashB hitB
  simp only [List.any_eq_true, List.mem_range, Bool.and_eq_true, decide_eq_true_eq]
  constructor
  · rintro ⟨i, hi, h1, h2⟩
    obtain ⟨j, hj, hw⟩ := (own_pos ps o i).1 h2
    exact ⟨j, i, hj, hi, wrong_win.1 h1, hw⟩
  · rintro ⟨j, i, hj, hi, h1, h2⟩
    exact ⟨i, hi, wrong_win.2 h1, (own_pos ps o i).2 ⟨j, hj, h2⟩⟩
theorem noclash_iff (ps : List Tk) (o : List Nat) : clashB ps o = false ↔ NoClash ps o := by
  rw [← Bool.not_eq_true, clash_iff]
  constructor
  · intro h i j hi hj h1 h2
    rcases Nat.lt_trichotomy i j with h3 | h3 | h3
    · exact absurd ⟨i, j, h3, hj, h2, h1⟩ h
    · exact h3
    · exact absurd ⟨j, i, h3, hi, h1, h2⟩ h
  · rintro h ⟨j, i, hj, hi, h1, h2⟩
    have := h i j hi (by omega) h1 h2
    omega
theorem own_is {ps : List Tk} {o : List Nat} (hn : NoClash ps o) {i : Nat} (hi : i < ps.length) (hw : win (ps.getD i ([], 0)).1 o = true) : ownO ps o = (i : Int) := by
  have h0 : 0 ≤ ownO ps o := (own_pos ps o ps.length).2 ⟨i, hi, hw⟩
  obtain ⟨h1, h2⟩ := own_win ps o ps.length h0
  have := hn _ _ h1 hi h2 hw
  unfold ownO at *
  omega
theorem own_iff {ps : List Tk} {o : List Nat} (hn : NoClash ps o) {i : Nat} (hi : i < ps.length) : ownO ps o = (i : Int) ↔ win (ps.getD i ([], 0)).1 o = true := by
  refine ⟨fun h => ?_, own_is hn hi⟩
  have h0 : 0 ≤ ownO ps o := by omega
  have := (own_win ps o ps.length h0).2
  rwa [show (ownS ps o ps.length).toNat = i by unfold ownO at h; omega] at this
/-- a ticket wins with some of the first outcomes of a part -/
def sawB (ps : List Tk) (t : Tk) (L : List (List Nat)) (v : Bool) (k i : Nat) : Bool := (L.take k).any fun o => decide (ownO ps o = (i : Int)) && (win t.1 o == v)
theorem saw_step (ps : List Tk) (t : Tk) (L : List (List Nat)) (v : Bool) (k i : Nat) (hk : k < L.length) : sawB ps t L v (k + 1) i = (sawB ps t L v k i || (decide (ownO ps L[k] = (i : Int)) && (win t.1 L[k] == v))) := by
  unfold sawB; rw [any_step _ _ _ hk]
theorem seen_saw (ps : List Tk) (t : Tk) (L : List (List Nat)) : ∀ k, k ≤ L.length → ∀ i, seenT ps t L k i = (if sawB ps t L true k i then 1 else 0) ||| (if sawB ps t L false k i then 2 else 0)
  | 0, _, i => by simp [seenT, sawB]
  | k + 1, h, i => by
    have hk : k < L.length := by omega
    have ih := seen_saw ps t L k (by omega) i
    rw [saw_step _ _ _ _ _ _ hk, saw_step _ _ _ _ _ _ hk, seenT, getD_at _ _ hk]
    by_cases h0 : ownO ps L[k] < 0
    · rw [if_pos h0, ih]
      have : ¬ ownO ps L[k] = (i : Int) := by omega
      simp [this]
    · rw [if_neg h0]
      show (if i = (ownO ps L[k]).toNat then _ else _) = _
      by_cases hi : i = (ownO ps L[k]).toNat
      · have he : ownO ps L[k] = (i : Int) := by omega
        rw [if_pos hi, ih, win_wrong]
        simp only [he, decide_true, Bool.true_and]
        cases sawB ps t L true k i <;> cases sawB ps t L false k i <;> by_cases hw : wrongN t.1 L[k] = 0 <;> simp [hw]
      · have he : ¬ ownO ps L[k] = (i : Int) := by omega
        rw [if_neg hi, ih]
        simp [he]
theorem saw_iff (ps : List Tk) (t : Tk) (L : List (List Nat)) (v : Bool) (k i : Nat) : sawB ps t L v k i = true ↔ ∃ j, ∃ _ : j < L.length, j < k ∧ ownO ps L[j] = (i : Int) ∧ win t.1 L[j] = v := by
  unfold sawB
  simp only [List.any_eq_true, Bool.and_eq_true, decide_eq_true_eq, beq_iff_eq]
  constructor
  · rintro ⟨o, ho, h1, h2⟩
    obtain ⟨j, hj, rfl⟩ := List.mem_take_iff_getElem.1 ho
    exact ⟨j, by omega, by omega, h1, h2⟩
  · rintro ⟨j, hj, hjk, h1, h2⟩
    exact ⟨L[j], List.mem_take_iff_getElem.2 ⟨j, by omega, rfl⟩, h1, h2⟩
theorem m3_iff (ps : List Tk) (t : Tk) (L : List (List Nat)) : m3T ps L t = true ↔ ∃ o o', o ∈ L ∧ o' ∈ L ∧ 0 ≤ ownO ps o ∧ ownO ps o = ownO ps o' ∧ win t.1 o = true ∧ win t.1 o' = false := by
  unfold m3T m3K
  simp only [List.any_eq_true, List.mem_range, Bool.and_eq_true, decide_eq_true_eq]
  have h3 : ∀ a b : Bool, ((if a then 1 else 0) ||| (if b then 2 else 0) : Nat) = 3 ↔ a = true ∧ b = true := by decide
  constructor
  · rintro ⟨k, hk, h1, h2⟩
    rw [getD_at _ _ hk] at h1 h2
    rw [seen_saw ps t L (k + 1) (by omega), h3, saw_iff, saw_iff] at h2
    obtain ⟨⟨j1, hj1, _, e1, w1⟩, ⟨j2, hj2, _, e2, w2⟩⟩ := h2
    exact ⟨L[j1], L[j2], List.getElem_mem _, List.getElem_mem _, by omega, by omega, w1, w2⟩
  · rintro ⟨o, o', ho, ho', h1, h2, h4, h5⟩
    obtain ⟨j1, hj1, rfl⟩ := List.getElem_of_mem ho
    obtain ⟨j2, hj2, rfl⟩ := List.getElem_of_mem ho'
    have key : ∀ k, (hk : k < L.length) → (k = j1 ∨ k = j2) → j1 ≤ k → j2 ≤ k → ∃ x, x < L.length ∧ 0 ≤ ownO ps (L.getD x []) ∧ seenT ps t L (x + 1) (ownO ps (L.getD x [])).toNat = 3 := by
      intro k hk he g1 g2
      refine ⟨k, hk, ?_, ?_⟩
      · rw [getD_at _ _ hk]; rcases he with rfl | rfl <;> omega
      · rw [getD_at _ _ hk, seen_saw ps t L (k + 1) (by omega), h3, saw_iff, saw_iff]
        refine ⟨⟨j1, hj1, by omega, ?_, h4⟩, ⟨j2, hj2, by omega, ?_, h5⟩⟩
        · rcases he with rfl | rfl <;> omega
        · rcases he with rfl | rfl <;> omega
    rcases Nat.le_total j1 j2 with h | h
    · exact key j2 hj2 (.inr rfl) h (Nat.le_refl _)
    · exact key j1 hj1 (.inl rfl) (Nat.le_refl _) h
end Go.Proofs.Ytlbkaeoagdbemaa
namespace Go.Proofs.Ytlbkaeoagdbemaa
open Bm
theorem meetB_comm : ∀ (a b : List Nat), meetB a b = meetB b a
  | [], [] => rfl
  | [], _ :: _ => rfl
  | _ :: _, [] => rfl
  | x :: a, y :: b => by
    have ih := meetB_comm a b
    unfold meetB at ih ⊢
    rw [List.zip_cons_cons, List.zip_cons_cons, List.all_cons, List.all_cons, ih]
    unfold meetP; simp only [Nat.and_comm]
theorem m2_any {R : List Nat} {ps : List Tk} (hps : ∀ t, t ∈ ps → isBox R t.1 = true) : (List.range ps.length).any (m2B ps) = (outs R).any (clashB ps) := by
  rw [Bool.eq_iff_iff, List.any_eq_true, List.any_eq_true]
  have hb : ∀ i, i < ps.length → isBox R (ps.getD i ([], 0)).1 = true := fun i hi => by rw [getD_at _ _ hi]; exact hps _ (List.getElem_mem hi)
  constructor
  · rintro ⟨i, hi, hm⟩
    have hi' := List.mem_range.1 hi
    unfold m2B at hm
    obtain ⟨t, ht, hm⟩ := List.any_eq_true.1 hm
    obtain ⟨j, hj, rfl⟩ := List.mem_take_iff_getElem.1 ht
    rw [tz_len] at hj
    have hjl : j < ps.length := by omega
    rw [tz_at _ _ hjl] at hm
    unfold meetN at hm
    rw [zs_nat] at hm
    obtain ⟨o, ho, h1, h2⟩ := (meet_iff (hb i hi') (hps _ (List.getElem_mem hjl))).1 hm
    exact ⟨o, ho, (clash_iff ps o).2 ⟨j, i, by omega, hi', h1, by rw [getD_at _ _ hjl]; exact h2⟩⟩
  · rintro ⟨o, ho, hc⟩
    obtain ⟨j, i, hj, hi, h1, h2⟩ := (clash_iff ps o).1 hc
    have hjl : j < ps.length := by omega
    refine ⟨i, List.mem_range.2 hi, ?_⟩
    unfold m2B
    refine List.any_eq_true.2 ⟨(tz ps)[j]'(by rw [tz_len]; exact hjl), List.mem_take_iff_getElem.2 ⟨j, by rw [tz_len]; omega, rfl⟩, ?_⟩
    rw [tz_at _ _ hjl]
    unfold meetN
    rw [zs_nat]
    rw [getD_at _ _ hjl] at h2
    exact (meet_iff (hb i hi) (hps _ (List.getElem_mem hjl))).2 ⟨o, ho, h1, h2⟩
theorem m3_any {R : List Nat} {ts ps : List Tk} (hts : ∀ t, t ∈ ts → isBox R t.1 = true) (hps : ∀ t, t ∈ ps → isBox R t.1 = true) (hn : ∀ o, o ∈ outs R → NoClash ps o) : (List.range ps.length).any (m3B ts ps) = ts.any (m3T ps (outs R)) := by
  have hb : ∀ i, i < ps.length → isBox R (ps.getD i ([], 0)).1 = true := fun i hi => by rw [getD_at _ _ hi]; exact hps _ (List.getElem_mem hi)
  rw [Bool.eq_iff_iff, List.any_eq_true, List.any_eq_true]
  constructor
  · rintro ⟨i, hi, hm⟩
    have hi' := List.mem_range.1 hi
    unfold m3B at hm
    obtain ⟨t', ht', hm⟩ := List.any_eq_true.1 hm
    obtain ⟨t, ht, rfl⟩ := List.mem_map.1 ht'
    unfold crossN at hm
    simp only [zs_nat, Bool.and_eq_true, Bool.not_eq_true'] at hm
    obtain ⟨o, ho, h1, h2⟩ := (meet_iff (hts t ht) (hb i hi')).1 hm.1
    have hnot : ¬ ∀ o, o ∈ outs R → win (ps.getD i ([], 0)).1 o = true → win t.1 o = true := fun h => by
      rw [(has_iff (hts t ht) (hb i hi')).2 h] at hm; cases hm.2
    obtain ⟨o', ho', h3, h4⟩ : ∃ o', o' ∈ outs R ∧ win (ps.getD i ([], 0)).1 o' = true ∧ win t.1 o' = false := by
      refine Classical.byContradiction fun hc => hnot fun o' ho' hw => ?_
      cases hv : win t.1 o' with
      | true => rfl
      | false => exact absurd ⟨o', ho', hw, hv⟩ hc
    refine ⟨t, ht, (m3_iff ps t _).2 ⟨o, o', ho, ho', ?_, ?_, h1, h4⟩⟩
    · rw [own_is (hn o ho) hi' h2]; omega
    · rw [own_is (hn o ho) hi' h2, own_is (hn o' ho') hi' h3]
  · rintro ⟨t, ht, hm⟩
    obtain ⟨o, o', ho, ho', h0, he, h1, h2⟩ := (m3_iff ps t _).1 hm
    obtain ⟨hi, hw⟩ := own_win ps o ps.length h0
    have hw' : win (ps.getD (ownS ps o ps.length).toNat ([], 0)).1 o' = true := by
      have h0' : 0 ≤ ownO ps o' := by omega
      have := (own_win ps o' ps.length h0').2
      unfold ownO at he
      rw [he]; exact this
    refine ⟨(ownS ps o ps.length).toNat, List.mem_range.2 hi, ?_⟩
    unfold m3B
    refine List.any_eq_true.2 ⟨(zs t.1, (t.2 : Int)), List.mem_map.2 ⟨t, ht, rfl⟩, ?_⟩
    unfold crossN
    simp only [zs_nat, Bool.and_eq_true, Bool.not_eq_true']
    refine ⟨(meet_iff (hts t ht) (hb _ hi)).2 ⟨o, ho, h1, hw⟩, ?_⟩
    rw [← Bool.not_eq_true, has_iff (hts t ht) (hb _ hi)]
    intro h
    rw [h o' ho' hw'] at h2; cases h2
/-- where no ticket has some and not all of a part, the units of an outcome are those of its part -/
theorem uni_part {R : List Nat} {ts : List Tk} {P o : List Nat} (hts : ∀ t, t ∈ ts → isBox R t.1 = true) (hP : isBox R P = true) (ho : o ∈ outs R) (hw : win P o = true) (hall : ∀ t, t ∈ ts → ∀ o', o' ∈ outs R → win P o' = true → win t.1 o' = win t.1 o) : unitsB ts P = uni ts o := by
  unfold unitsB uni
  congr 1
  refine List.map_congr_left fun t ht => ?_
  have : hasB t.1 P = win t.1 o := by
    rw [Bool.eq_iff_iff, has_iff (hts t ht) hP]
    exact ⟨fun h => h o ho hw, fun h o' ho' hw' => by rw [hall t ht o' ho' hw', h]⟩
  rw [this]
/-- no ticket has some and not all of a part -/
def NoCross (R : List Nat) (ts ps : List Tk) : Prop := ∀ i, i < ps.length → ∀ t, t ∈ ts → ∀ o o', o ∈ outs R → o' ∈ outs R → win (ps.getD i ([], 0)).1 o = true → win (ps.getD i ([], 0)).1 o' = true → win t.1 o' = win t.1 o
theorem nocross_of {R : List Nat} {ts ps : List Tk} (hn : ∀ o, o ∈ outs R → NoClash ps o) (h : ts.any (m3T ps (outs R)) = false) : NoCross R ts ps := fun i hi t ht o o' ho ho' hw hw' => by
  rw [List.any_eq_false] at h
  have key : ∀ o o', o ∈ outs R → o' ∈ outs R → win (ps.getD i ([], 0)).1 o = true → win (ps.getD i ([], 0)).1 o' = true → win t.1 o = true → win t.1 o' = true := fun o o' ho ho' hw hw' h1 => by
    cases h2 : win t.1 o' with
    | true => rfl
    | false =>
      exact absurd ((m3_iff ps t _).2 ⟨o, o', ho, ho', by rw [own_is (hn o ho) hi hw]; omega, by rw [own_is (hn o ho) hi hw, own_is (hn o' ho') hi hw'], h1, h2⟩) (h t ht)
  rw [Bool.eq_iff_iff]
  exact ⟨key o' o ho' ho hw' hw, key o o' ho ho' hw hw'⟩
theorem cross_of {R : List Nat} {ts ps : List Tk} (h : NoCross R ts ps) : ts.any (m3T ps (outs R)) = false := by
  rw [List.any_eq_false]
  intro t ht hm
  obtain ⟨o, o', ho, ho', h0, he, h1, h2⟩ := (m3_iff ps t _).1 hm
  obtain ⟨hi, hw⟩ := own_win ps o ps.length h0
  have h0' : 0 ≤ ownO ps o' := by omega
  have hw' := (own_win ps o' ps.length h0').2
  unfold ownO at he
  rw [← he] at hw'
  have := h _ hi t ht o o' ho ho' hw hw'
  rw [h1, h2] at this; cases this
theorem filter_one {ps : List Tk} {o : List Nat} (hn : NoClash ps o) : (ps.filter fun p => win p.1 o).length = if 0 ≤ ownO ps o then 1 else 0 := by
  have hcount : (ps.filter fun p => win p.1 o).length = (List.range ps.length).countP fun i => win (ps.getD i ([], 0)).1 o := by
    rw [← List.countP_eq_length_filter]
    have : ps = (List.range ps.length).map fun i => ps.getD i ([], 0) := by
      apply List.ext_getElem
      · simp
      · intro i h1 h2; simp [h1]
    conv => lhs; rw [this]
    rw [List.countP_map]; rfl
  rw [hcount]
  by_cases h0 : 0 ≤ ownO ps o
  · obtain ⟨hi, hw⟩ := own_win ps o ps.length h0
    rw [if_pos h0]
    have e : (List.range ps.length).countP (fun i => win (ps.getD i ([], 0)).1 o) = (List.range ps.length).countP (fun i => i == (ownS ps o ps.length).toNat) := by
      refine List.countP_congr fun j hj => ?_
      have hj' := List.mem_range.1 hj
      rw [beq_iff_eq]
      exact ⟨fun h => hn _ _ hj' hi h hw, fun h => by rw [h]; exact hw⟩
    rw [e]
    have hr : ∀ (a n : Nat), (List.range n).countP (fun i => i == a) = if a < n then 1 else 0 := fun a n => by
      induction n with
      | zero => simp
      | succ n ih =>
        rw [List.range_succ, List.countP_append, ih]
        by_cases h1 : a < n
        · rw [if_pos h1, if_pos (by omega)]
          have : (n == a) = false := by simp; omega
          simp [List.countP_cons, this]
        · rw [if_neg h1]
          by_cases h2 : n = a
          · subst h2; rw [if_pos (by omega)]; simp [List.countP_cons]
          · rw [if_neg (by omega)]
            have : (n == a) = false := by simpa using h2
            simp [List.countP_cons, this]
    rw [hr, if_pos hi]
  · rw [if_neg h0, List.countP_eq_zero]
    intro j hj hw
    exact h0 ((own_pos ps o ps.length).2 ⟨j, List.mem_range.1 hj, hw⟩)
theorem sizes_sum (ps : List Tk) : sizesTo ps ps.length = (ps.map fun p => size p.1).sum := by
  unfold sizesTo
  rw [map_sumTo ps (fun p => size p.1) ([], 0)]
theorem sizes_own {R : List Nat} {ps : List Tk} (h6 : ∀ n, n ∈ R → n ≤ 6) (hps : ∀ t, t ∈ ps → isBox R t.1 = true) (hn : ∀ o, o ∈ outs R → NoClash ps o) : sizesTo ps ps.length = (outs R).countP fun o => decide (0 ≤ ownO ps o) := by
  rw [sizes_sum]
  have := parts_count ps (outs R) (fun _ => true) (fun _ => true)
  simp only [if_true, Bool.and_true] at this
  rw [countP_sum]
  refine Eq.trans ?_ (this.trans ?_)
  · refine sum_map_congr fun p hp => ?_
    rw [← size_count (by rw [List.all_eq_true]; intro n hn; simpa using h6 n hn) (hps p hp)]
  · refine sum_map_congr fun o ho => ?_
    have h1 := filter_one (hn o ho)
    rw [List.filter_eq_self.2 (fun _ _ => rfl), h1]
    by_cases h : 0 ≤ ownO ps o <;> simp [h]
theorem count_lt_iff {α : Type} (l : List α) (p : α → Bool) : l.countP p ≠ l.length ↔ ∃ x, x ∈ l ∧ p x = false := by
  constructor
  · intro h
    refine Classical.byContradiction fun hc => h ?_
    rw [List.countP_eq_length]
    intro x hx
    cases hp : p x with
    | true => rfl
    | false => exact absurd ⟨x, hx, hp⟩ hc
  · rintro ⟨x, hx, hp⟩ h
    rw [List.countP_eq_length] at h
    rw [h x hx] at hp; cases hp
/-- the program and the reference agree about maps -/
theorem map_eq {R : List Nat} {ts ps : List Tk} (hok : Ok R ts) (hps : ∀ t, t ∈ ps → isBox R t.1 = true) : mapR R ts ps = refMap (outs R) ts ps := by
  unfold mapR refMap
  rw [m2_any hps]
  cases h2 : (outs R).any (clashB ps) with
  | true => rfl
  | false =>
    have hn : ∀ o, o ∈ outs R → NoClash ps o := fun o ho => (noclash_iff ps o).1 (by rw [List.any_eq_false] at h2; simpa using h2 o ho)
    rw [m3_any hok.tb hps hn]
    cases h3 : ts.any (m3T ps (outs R)) with
    | true => rfl
    | false =>
      have hx := nocross_of hn h3
      have hb : ∀ i, i < ps.length → isBox R (ps.getD i ([], 0)).1 = true := fun i hi => by rw [getD_at _ _ hi]; exact hps _ (List.getElem_mem hi)
      simp only [Bool.false_eq_true, if_false]
      have hlen : (outs R).length = size (allP R) := by rw [outs_total, size_allP hok.r6]
      have hs := sizes_own hok.r6 hps hn
      rw [hs, ← hlen]
      have key : (outs R).any (m4O ts ps) = true ↔ (List.range ps.length).any (m4B ts ps) = true ∨ (outs R).countP (fun o => decide (0 ≤ ownO ps o)) ≠ (outs R).length := by
        rw [count_lt_iff, List.any_eq_true, List.any_eq_true]
        constructor
        · rintro ⟨o, ho, hm⟩
          unfold m4O at hm
          rw [Bool.or_eq_true, decide_eq_true_eq, decide_eq_true_eq] at hm
          by_cases h0 : 0 ≤ ownO ps o
          · obtain ⟨hi, hw⟩ := own_win ps o ps.length h0
            refine .inl ⟨(ownS ps o ps.length).toNat, List.mem_range.2 hi, ?_⟩
            unfold m4B
            rw [decide_eq_true_eq, uni_part hok.tb (hb _ hi) ho hw (fun t ht o' ho' hw' => hx _ hi t ht o o' ho ho' hw hw')]
            rcases hm with hm | hm
            · omega
            · exact fun e => hm e.symm
          · exact .inr ⟨o, ho, by simpa using h0⟩
        · rintro (⟨i, hi, hm⟩ | ⟨o, ho, h0⟩)
          · have hi' := List.mem_range.1 hi
            obtain ⟨o, ho, hw⟩ := box_some (hb i hi')
            refine ⟨o, ho, ?_⟩
            unfold m4B at hm
            rw [decide_eq_true_eq, uni_part hok.tb (hb i hi') ho hw (fun t ht o' ho' hw' => hx _ hi' t ht o o' ho ho' hw hw')] at hm
            unfold m4O
            rw [own_is (hn o ho) hi' hw, Int.toNat_natCast, Bool.or_eq_true, decide_eq_true_eq, decide_eq_true_eq]
            exact .inr fun e => hm e.symm
          · refine ⟨o, ho, ?_⟩
            unfold m4O
            have : ownO ps o < 0 := by simpa using h0
            rw [decide_eq_true this]; rfl
      cases h4 : (outs R).any (m4O ts ps) with
      | true =>
        rcases key.1 h4 with h | h
        · rw [if_pos h]; rfl
        · by_cases h' : (List.range ps.length).any (m4B ts ps) = true
          · rw [if_pos h']; rfl
          · rw [if_neg h', if_pos h]; rfl
      | false =>
        rw [if_neg (fun h => by rw [key.2 (.inl h)] at h4; cases h4), if_neg (fun h => by rw [key.2 (.inr h)] at h4; cases h4)]
        rfl
/-- what a map is -/
theorem refMap_zero {R : List Nat} {ts ps : List Tk} : refMap (outs R) ts ps = 0 ↔ (∀ o, o ∈ outs R → NoClash ps o) ∧ ts.any (m3T ps (outs R)) = false ∧ ∀ o, o ∈ outs R → 0 ≤ ownO ps o ∧ (ps.getD (ownO ps o).toNat ([], 0)).2 = uni ts o := by
  unfold refMap
  constructor
  · intro h
    split at h
    · simp at h
    · rename_i h1
      split at h
      · simp at h
      · rename_i h2
        split at h
        · simp at h
        · rename_i h3
          rw [Bool.not_eq_true, List.any_eq_false] at h1 h3
          refine ⟨fun o ho => (noclash_iff ps o).1 (by simpa using h1 o ho), by simpa using h2, fun o ho => ?_⟩
          have := h3 o ho
          unfold m4O at this
          rw [Bool.not_eq_true, Bool.or_eq_false_iff, decide_eq_false_iff_not, decide_eq_false_iff_not] at this
          exact ⟨by omega, Classical.not_not.1 this.2⟩
  · rintro ⟨h1, h2, h3⟩
    rw [if_neg, if_neg, if_neg]
    · rw [Bool.not_eq_true, List.any_eq_false]
      intro o ho
      unfold m4O
      rw [Bool.not_eq_true, Bool.or_eq_false_iff, decide_eq_false_iff_not, decide_eq_false_iff_not]
      have := h3 o ho
      exact ⟨by omega, by simpa using this.2⟩
    · rw [h2]; simp
    · rw [Bool.not_eq_true, List.any_eq_false]
      intro o ho
      rw [(noclash_iff ps o).2 (h1 o ho)]; simp
end Go.Proofs.Ytlbkaeoagdbemaa
namespace Go.Proofs.Ytlbkaeoagdbemaa
open Bm
theorem sum_mem_le {l : List Nat} {x : Nat} (h : x ∈ l) : x ≤ l.sum := by
  induction l with
  | nil => cases h
  | cons a l ih =>
    rw [List.sum_cons]
    rcases List.mem_cons.1 h with rfl | h
    · omega
    · have := ih h; omega
theorem sum_two_le {l : List Nat} {i j : Nat} (hij : i < j) (hj : j < l.length) : l[i] + l[j] ≤ l.sum := by
  have e : l.sum = (l.take j).sum + (l.drop j).sum := by rw [← List.sum_append, List.take_append_drop]
  have h1 : l[i] ≤ (l.take j).sum := sum_mem_le (List.mem_take_iff_getElem.2 ⟨i, by omega, rfl⟩)
  have h2 : l[j] ≤ (l.drop j).sum := sum_mem_le (List.mem_drop_iff_getElem.2 ⟨0, by omega, by simp⟩)
  omega
theorem idx_uniq {α : Type} {ps : List α} {f : α → Bool} {p : α} (h : ps.filter f = [p]) {i j : Nat} (hi : i < ps.length) (hj : j < ps.length) (h1 : f ps[i] = true) (h2 : f ps[j] = true) : i = j := by
  have hc : (ps.map fun x => if f x then 1 else 0).sum = 1 := by rw [← countP_sum, List.countP_eq_length_filter, h]; rfl
  have key : ∀ i j, (hij : i < j) → (hj : j < ps.length) → f ps[i] = true → f ps[j] = true → False := fun i j hij hj h1 h2 => by
    have := sum_two_le (l := ps.map fun x => if f x then 1 else 0) hij (by simpa using hj)
    simp only [List.getElem_map, h1, h2, if_true] at this
    omega
  rcases Nat.lt_trichotomy i j with h3 | h3 | h3
  · exact (key i j h3 hj h1 h2).elim
  · exact h3
  · exact (key j i h3 hi h2 h1).elim
/-- each outcome is in just one of all parts, and has its units -/
theorem all_one {R : List Nat} {ts : List Tk} (hok : Ok R ts) {o : List Nat} (ho : o ∈ outs R) : ∃ p, (allParts R ts).filter (fun p => win p.1 o) = [p] ∧ p.2 = uni ts o := by
  have hl : okC (cols R ts 0) (alls ts).length := by have := cols_ok R ts 0; simpa [alls] using this
  have hr : o ∈ outs (rns (cols R ts 0)) := by rw [cols_rns, List.drop_zero]; exact ho
  obtain ⟨q, hq, he⟩ := cut_one hl hr
  refine ⟨(q.1, vals ts q.2), ?_, ?_⟩
  · rw [allParts_eq, List.filter_map]
    have : ((fun p : Tk => win p.1 o) ∘ fun p : List Nat × List Bool => (p.1, vals ts p.2)) = fun p => win p.1 o := rfl
    rw [this, hq]; rfl
  · show vals ts q.2 = _
    rw [he]; exact vals_uni hok.htl ho
theorem all_cross {R : List Nat} {ts : List Tk} (hok : Ok R ts) : NoCross R ts (allParts R ts) := fun i hi t ht o o' ho ho' hw hw' => by
  have hl : okC (cols R ts 0) (alls ts).length := by have := cols_ok R ts 0; simpa [alls] using this
  rw [getD_at _ _ hi] at hw hw'
  have hmem : (allParts R ts)[i] ∈ allParts R ts := List.getElem_mem hi
  generalize (allParts R ts)[i] = p at *
  rw [allParts_eq] at hmem
  obtain ⟨q, hq, rfl⟩ := List.mem_map.1 hmem
  have key : ∀ o, o ∈ outs R → win q.1 o = true → q.2 = ts.map fun t => win t.1 o := fun o ho hw => by
    have hr : o ∈ outs (rns (cols R ts 0)) := by rw [cols_rns, List.drop_zero]; exact ho
    obtain ⟨q', hq', he⟩ := cut_one hl hr
    have : q ∈ (cutC (cols R ts 0) (alls ts)).filter (fun p => win p.1 o) := List.mem_filter.2 ⟨hq, hw⟩
    rw [hq', List.mem_singleton] at this
    rw [this, he, run_all hok.htl ho]
  have e := (key o ho hw).symm.trans (key o' ho' hw')
  exact (List.map_inj_left.1 e t ht).symm
theorem all_map {R : List Nat} {ts : List Tk} (hok : Ok R ts) : refMap (outs R) ts (allParts R ts) = 0 := by
  have hn : ∀ o, o ∈ outs R → NoClash (allParts R ts) o := fun o ho i j hi hj h1 h2 => by
    obtain ⟨p, hp, _⟩ := all_one hok ho
    rw [getD_at _ _ hi] at h1
    rw [getD_at _ _ hj] at h2
    exact idx_uniq hp hi hj h1 h2
  refine refMap_zero.2 ⟨hn, cross_of (all_cross hok), fun o ho => ?_⟩
  obtain ⟨p, hp, he⟩ := all_one hok ho
  have hmem : p ∈ (allParts R ts).filter (fun p => win p.1 o) := by rw [hp]; exact List.mem_singleton.2 rfl
  obtain ⟨hm, hw⟩ := List.mem_filter.1 hmem
  obtain ⟨i, hi, rfl⟩ := List.getElem_of_mem hm
  have := own_is (hn o ho) hi (by rw [getD_at _ _ hi]; exact hw)
  rw [this, Int.toNat_natCast, getD_at _ _ hi]
  exact ⟨by omega, he⟩
/-- what is covered -/
theorem covered_eq {R : List Nat} {ts : List Tk} (hok : Ok R ts) {won : List Nat} (hl : won.length ≤ R.length) (hw : ∀ k, k < won.length → won.getD k 0 < R.getD k 0) : coveredP R ts won = afterN R ts won := by
  unfold coveredP covTo afterN
  have := parts_count (allParts R ts) (outs R) (fun u => decide (u ≠ 0)) (fun o => decide (o.take won.length = won))
  rw [countP_sum]
  refine Eq.trans ?_ (this.trans ?_)
  · refine sum_map_congr fun p hp => ?_
    unfold covOne
    rw [size_cut hok.r6 (allParts_box hok.r1 hp) hl hw]
    by_cases h : p.2 = 0 <;> simp [h]
  · refine sum_map_congr fun o ho => ?_
    obtain ⟨p, hp, he⟩ := all_one hok ho
    rw [hp]
    by_cases h1 : o.take won.length = won
    · by_cases h2 : uni ts o = 0
      · simp [h1, h2, he]
      · have h3 : 0 < uni ts o := by omega
        simp [h1, h2, h3, he]
    · simp [h1]
theorem find_split {α : Type} {pre post : List α} {b : α} {f : α → Bool} (h1 : ∀ x, x ∈ pre → f x = false) (hb : f b = true) : (pre ++ b :: post).find? f = some b := by
  induction pre with
  | nil => simp [hb]
  | cons a pre ih =>
    rw [List.cons_append, List.find?_cons_of_neg (by rw [h1 a (by simp)]; simp)]
    exact ih (fun x hx => h1 x (by simp [hx]))
theorem open_find {R : List Nat} {ts : List Tk} (hok : Ok R ts) : (outs R).find? (fun o => decide (uni ts o = 0)) = if 0 < uni ts (firstO R ts openV) then none else some (firstO R ts openV) := by
  have h := firstO_is hok openV
  generalize firstO R ts openV = b at *
  by_cases hb : 0 < uni ts b
  · rw [if_pos hb, List.find?_eq_none]
    intro o ho
    have := h.le ho
    unfold openV at this
    simp only [decide_eq_true_eq]
    omega
  · rw [if_neg hb]
    obtain ⟨pre, post, he, h1, h2⟩ := h
    rw [he]
    refine find_split (fun x hx => ?_) (by simp; omega)
    have : openV (uni ts b) < openV (uni ts x) := h1 x hx
    unfold openV at this
    simp only [decide_eq_false_iff_not]
    omega
theorem best_first {α : Type} (l : List α) (f : α → Int) (d : α) (h : 1 ≤ l.length) : IsFirst f l (l.getD (bestP (l.map f) l.length) d) := by
  obtain ⟨h1, h2, h3⟩ := best_spec (l.map f) l.length h
  generalize bestP (l.map f) l.length = b at *
  have hg : ∀ j, (hj : j < l.length) → (l.map f).getD j 0 = f l[j] := fun j hj => by simp [hj]
  rw [getD_at _ _ h1]
  refine ⟨l.take b, l.drop (b + 1), ?_, fun x hx => ?_, fun x hx => ?_⟩
  · rw [← List.drop_eq_getElem_cons h1, List.take_append_drop]
  · obtain ⟨j, hj, rfl⟩ := List.mem_take_iff_getElem.1 hx
    have := h3 j (by omega)
    rwa [hg b h1, hg j (by omega)] at this
  · obtain ⟨j, hj, rfl⟩ := List.mem_drop_iff_getElem.1 hx
    have := h2 (b + 1 + j) (by omega)
    rw [hg b h1, hg (b + 1 + j) (by omega)] at this
    exact this
theorem deep_eq {R : List Nat} {ts : List Tk} (hok : Ok R ts) (hne : 1 ≤ (outs R).length) : firstO R ts deepV = (outs R).getD (deepI R ts (outs R).length) [] := by
  have h := firstO_is hok deepV
  have h2 := best_first (outs R) (fun o => deepV (uni ts o)) [] hne
  unfold deepI
  exact h.uniq h2
theorem outs_pos {R : List Nat} (h1 : ∀ n, n ∈ R → 1 ≤ n) : 1 ≤ (outs R).length := by
  rw [outs_total]
  induction R with
  | nil => exact Nat.le_refl _
  | cons n R ih =>
    have := ih (fun x hx => h1 x (by simp [hx]))
    have hn := h1 n (by simp)
    rw [total]
    exact Nat.mul_le_mul hn this
theorem alive_eq {R : List Nat} {ts : List Tk} (hok : Ok R ts) {won : List Nat} (hl : won.length ≤ R.length) : ∀ k, k ≤ ts.length → aliveTo ts won k = aliveN ts won k
  | 0, _ => rfl
  | k + 1, h => by
    have hk : k < ts.length := by omega
    rw [aliveTo, aliveN, alive_eq hok hl k (by omega), getD_at _ _ hk]
    have hlen : won.length ≤ ts[k].1.length := by rw [hok.htl _ (List.getElem_mem hk)]; exact hl
    have hs : hasB (ts[k].1.take won.length) (singleP won) = win ts[k].1 won := by
      have e := has_single (ts[k].1.take won.length) won (by rw [List.length_take]; omega)
      rw [show singleP won = won.map fun i => 2 ^ i from rfl, e]
      have : ∀ (S o : List Nat), o.length ≤ S.length → win (S.take o.length) o = win S o := fun S => by
        induction S with
        | nil => intro o ho; cases o with
          | nil => rfl
          | cons => simp at ho
        | cons s S ih => intro o ho; cases o with
          | nil => simp [win]
          | cons i o => simp only [List.length_cons, List.take_succ_cons, win]; rw [ih o (by simpa using ho)]
      exact this _ _ hlen
    rw [hs, win_wrong]
    by_cases h0 : wrongN ts[k].1 won = 0 <;> simp [h0]
theorem fold_idle (ts : List Tk) (i : Nat) : ∀ (l : List Tk) (al : List Nat), al.length = ts.length → i < ts.length → ((l.foldl (idleStep ts) al).getD i 0 = 0 ↔ al.getD i 0 = 0 ∧ ∀ p, p ∈ l → ¬(ts.findIdx? (fun t => hasB t.1 p.1) = some i ∧ (ts.getD i ([], 0)).2 = p.2))
  | [], al, _, _ => by simp
  | p :: l, al, hl, hi => by
    rw [List.foldl_cons, fold_idle ts i l (idleStep ts al p) (by rw [idleStep_len, hl]) hi]
    have key : (idleStep ts al p).getD i 0 = 0 ↔ al.getD i 0 = 0 ∧ ¬(ts.findIdx? (fun t => hasB t.1 p.1) = some i ∧ (ts.getD i ([], 0)).2 = p.2) := by
      unfold idleStep
      cases hf : ts.findIdx? (fun t => hasB t.1 p.1) with
      | none => simp
      | some j =>
        simp only
        split
        · rename_i hj
          by_cases hij : j = i
          · subst hij
            have : (al.set j 1).getD j 0 = 1 := by simp [hl, hi]
            rw [this]
            exact ⟨fun h => (by cases h), fun ⟨_, h⟩ => absurd ⟨rfl, hj⟩ h⟩
          · have : (al.set j 1).getD i 0 = al.getD i 0 := by simp [List.getElem?_set_ne hij]
            rw [this]
            simp [hij]
        · rename_i hj
          constructor
          · intro h; exact ⟨h, fun ⟨e, g⟩ => hj (by rw [Option.some.inj e]; exact g)⟩
          · exact fun h => h.1
    rw [key]
    constructor
    · rintro ⟨⟨h1, h2⟩, h3⟩
      refine ⟨h1, fun q hq => ?_⟩
      rcases List.mem_cons.1 hq with rfl | hq
      · exact h2
      · exact h3 q hq
    · rintro ⟨h1, h2⟩
      exact ⟨⟨h1, h2 p (by simp)⟩, fun q hq => h2 q (by simp [hq])⟩
theorem uni_two {ts : List Tk} {o : List Nat} {i j : Nat} (hij : i ≠ j) (hi : i < ts.length) (hj : j < ts.length) (h1 : win ts[i].1 o = true) (h2 : win ts[j].1 o = true) : ts[i].2 + ts[j].2 ≤ uni ts o := by
  unfold uni
  have key : ∀ i j, (hij : i < j) → (hj : j < ts.length) → win ts[i].1 o = true → win ts[j].1 o = true → ts[i].2 + ts[j].2 ≤ (ts.map fun t => if win t.1 o then t.2 else 0).sum := fun i j hij hj h1 h2 => by
    have := sum_two_le (l := ts.map fun t => if win t.1 o then t.2 else 0) hij (by simpa using hj)
    simp only [List.getElem_map, h1, h2, if_true] at this
    exact this
  rcases Nat.lt_or_ge i j with h | h
  · exact key i j h hj h1 h2
  · have := key j i (by omega) hi h2 h1
    omega
/-- the idle tickets -/
theorem idle_at {R : List Nat} {ts : List Tk} (hok : Ok R ts) {i : Nat} (hi : i < ts.length) : (aloneP ts (allParts R ts)).getD i 0 = 0 ↔ soloN R ts ts[i] = false := by
  unfold aloneP
  rw [fold_idle ts i _ _ (by simp) hi, getD_at _ _ hi]
  have h0 : (List.replicate ts.length 0).getD i 0 = 0 := by simp [hi]
  have hpt : ∀ p o, p ∈ allParts R ts → o ∈ outs R → win p.1 o = true → p.2 = uni ts o ∧ ∀ t, t ∈ ts → hasB t.1 p.1 = win t.1 o := fun p o hp ho hw => by
    refine ⟨?_, fun t ht => ?_⟩
    · obtain ⟨q, hq, he⟩ := all_one hok ho
      have : p ∈ (allParts R ts).filter (fun p => win p.1 o) := List.mem_filter.2 ⟨hp, hw⟩
      rw [hq, List.mem_singleton] at this
      rw [this, he]
    · obtain ⟨k, hk, rfl⟩ := List.getElem_of_mem hp
      rw [Bool.eq_iff_iff, has_iff (hok.tb t ht) (allParts_box hok.r1 hp)]
      refine ⟨fun h => h o ho hw, fun h o' ho' hw' => ?_⟩
      have := all_cross hok k hk t ht o o' ho ho' (by rw [getD_at _ _ hk]; exact hw) (by rw [getD_at _ _ hk]; exact hw')
      rw [this, h]
  rw [h0]
  unfold soloN
  rw [List.any_eq_false]
  constructor
  · rintro ⟨_, h⟩ o ho hs
    unfold soloF at hs
    rw [Bool.and_eq_true, decide_eq_true_eq, decide_eq_true_eq] at hs
    have hw := wrong_win.1 hs.1
    obtain ⟨p, hp, he⟩ := all_one hok ho
    have hmem : p ∈ (allParts R ts).filter (fun p => win p.1 o) := by rw [hp]; exact List.mem_singleton.2 rfl
    obtain ⟨hm, hwp⟩ := List.mem_filter.1 hmem
    obtain ⟨e1, e2⟩ := hpt p o hm ho hwp
    refine h p hm ⟨?_, by rw [e1, hs.2]⟩
    rw [List.findIdx?_eq_some_iff_getElem]
    refine ⟨hi, by rw [e2 _ (List.getElem_mem hi)]; exact hw, fun j hj => ?_⟩
    have hjl : j < ts.length := by omega
    rw [e2 _ (List.getElem_mem hjl)]
    intro hwj
    have := uni_two (by omega) hjl hi hwj hw
    have := (hok.tu _ (List.getElem_mem hjl)).1
    omega
  · intro h
    refine ⟨rfl, fun p hp ⟨hf, hu⟩ => ?_⟩
    obtain ⟨o, ho, hw⟩ := box_some (allParts_box hok.r1 hp)
    obtain ⟨e1, e2⟩ := hpt p o hp ho hw
    rw [List.findIdx?_eq_some_iff_getElem] at hf
    obtain ⟨_, hf1, _⟩ := hf
    rw [e2 _ (List.getElem_mem hi)] at hf1
    refine h o ho ?_
    unfold soloF
    rw [Bool.and_eq_true, decide_eq_true_eq, decide_eq_true_eq]
    exact ⟨wrong_win.2 hf1, by rw [← e1, hu]⟩
theorem idle_eq {R : List Nat} {ts : List Tk} (hok : Ok R ts) : idleP R ts = idleN R ts ts.length := by
  unfold idleP
  have : ∀ k, k ≤ ts.length → idleTo (aloneP ts (allParts R ts)) k = idleN R ts k := fun k => by
    induction k with
    | zero => intro _; rfl
    | succ k ih =>
      intro h
      have hk : k < ts.length := by omega
      rw [idleTo_succ, idleN, ih (by omega), getD_at ts _ hk]
      congr 1
      have hia := idle_at hok hk
      by_cases h0 : (aloneP ts (allParts R ts)).getD k 0 = 0
      · rw [if_pos h0, hia.1 h0]; rfl
      · have hs : soloN R ts ts[k] = true := by
          cases h : soloN R ts ts[k] with
          | true => rfl
          | false => exact absurd (hia.2 h) h0
        rw [if_neg h0, hs]; rfl
  exact this _ (Nat.le_refl _)
end Go.Proofs.Ytlbkaeoagdbemaa
namespace Go.Proofs.Ytlbkaeoagdbemaa
open Go.RowKit Go.Maps Bm
/-- a number, a list, an error -/
def GivesA (w : World) (n : Int) (l : List Int) (er : Int) (e : Ending) (w' : World) : Prop := ∃ A c, e = .returned (.tuple #[.int .i64 n, .slice A l.length c, .int .i64 er]) ∧ (∃ g, w' = w.grow g) ∧ I64 w' A l
/-- a list, an error -/
def GivesB (w : World) (l : List Int) (er : Int) (e : Ending) (w' : World) : Prop := ∃ A c, e = .returned (.tuple #[.slice A l.length c, .int .i64 er]) ∧ (∃ g, w' = w.grow g) ∧ I64 w' A l
/-- parts, an error -/
def GivesC (w : World) (l : List Tz) (er : Int) (e : Ending) (w' : World) : Prop := ∃ A c, e = .returned (.tuple #[.slice A l.length c, .int .i64 er]) ∧ (∃ g, w' = w.grow g) ∧ Tks w' A l ∧ l.length ≤ c
def nt (ts : List Tz) : List Tk := ts.map fun t => (t.1.map Int.toNat, t.2.toNat)
theorem nt_tz (ts : List Tk) : nt (tz ts) = ts := by
  unfold nt tz
  rw [List.map_map]
  conv => rhs; rw [← List.map_id ts]
  refine List.map_congr_left fun t _ => ?_
  simp [zs_nat]
theorem tz_single {ts : List Tk} {S : List Int} {u : Int} (h : tz ts = [(S, u)]) : ∃ S' u', ts = [(S', u')] ∧ S = zs S' ∧ u = (u' : Nat) := by
  cases ts with
  | nil => simp [tz] at h
  | cons t ts =>
    cases ts with
    | nil =>
      obtain ⟨S', u'⟩ := t
      simp only [tz, List.map_cons, List.map_nil, List.cons.injEq, Prod.mk.injEq, and_true] at h
      exact ⟨S', u', rfl, h.1.symm, h.2.symm⟩
    | cons _ _ => simp [tz] at h
def nn (l : List Int) : List Nat := l.map Int.toNat
theorem nn_zs (l : List Nat) : nn (zs l) = l := zs_nat l
def sizeV (R S : List Int) (u : Int) : Int × Int := if chkT R [(S, u)] ≠ 0 then (0, chkT R [(S, u)]) else ((size (nn S) : Nat), 0)
def withinV (R S : List Int) (u v : Int) : Int × Int := if chkT R [(S, u)] ≠ 0 then (0, chkT R [(S, u)]) else if ¬(0 ≤ v ∧ v ≤ (R.length : Int)) then (0, 3) else ((withinN (nn R) (nn S) v.toNat : Nat), 0)
def coveredV (R : List Int) (ts : List Tz) : Int × Int := if chkT R ts ≠ 0 then (0, chkT R ts) else ((afterN (nn R) (nt ts) [] : Nat), 0)
def openVV (R : List Int) (ts : List Tz) : List Int × Int := if chkT R ts ≠ 0 then ([], chkT R ts) else match (outs (nn R)).find? (fun o => decide (uni (nt ts) o = 0)) with | some o => (zs o, 0) | none => ([], 5)
def deepO (R : List Nat) (ts : List Tk) : List Nat := (outs R).getD (deepI R ts (outs R).length) []
def deepVV (R : List Int) (ts : List Tz) : Int × List Int × Int := if chkT R ts ≠ 0 then (0, [], chkT R ts) else ((uni (nt ts) (deepO (nn R) (nt ts)) : Nat), zs (deepO (nn R) (nt ts)), 0)
def idleV (R : List Int) (ts : List Tz) : List Int × Int := if chkT R ts ≠ 0 then ([], chkT R ts) else (zs (idleN (nn R) (nt ts) ts.length), 0)
def paysV (R : List Int) (ts : List Tz) (p : Int) (won : List Int) : Value := if chkT R ts ≠ 0 then .tuple #[.int .i64 0, .int .i64 0, .int .i64 (chkT R ts)] else payV (nn R) (nt ts) p won
def afterV (R : List Int) (ts : List Tz) (won : List Int) : Int × List Int × Int := if chkT R ts ≠ 0 then (0, [], chkT R ts) else if R.length < won.length then (0, [], 6) else if runB (nn R) won = false then (0, [], 3) else ((afterN (nn R) (nt ts) (nn won) : Nat), zs (aliveN (nt ts) (nn won) ts.length), 0)
def cmapV (R : List Int) (ts ps : List Tz) : Int := if chkT R ts ≠ 0 then chkT R ts else if 7776 < ps.length then 6 else if areB R ps ≠ 0 then areB R ps else if ps.any negB = true then 3 else refMap (outs (nn R)) (nt ts) (nt ps)
def mapV (R : List Int) (ts : List Tz) : List Tz × Int := if chkT R ts ≠ 0 then ([], chkT R ts) else (tz (allParts (nn R) (nt ts)), 0)
theorem zs_bound {R : List Nat} {ts : List Tk} (hok : Ok R ts) : (∀ n, n ∈ R → n ≤ 6) := hok.r6
theorem tSize (A : Option Addr) (R : List Int) (c : Nat) (Y : Option Addr) (S : List Int) (yc : Nat) (u : Int) (w : World) (hA : I64 w A R) (hY : I64 w Y S) (hyc : S.length ≤ yc) (hl : R.length ≤ 1000000) (hS : S.length ≤ 1000000) : Calls Try.prog 25 #[.agg #[.slice A R.length c], .agg #[.slice Y S.length yc, .int .i64 u]] w (Gives w (.tuple #[.int .i64 (sizeV R S u).1, .int .i64 (sizeV R S u).2])) := by
  by_cases h0 : chkT R [(S, u)] = 0
  · obtain ⟨R', ts', rfl, hts, hok⟩ := chk_ok h0
    obtain ⟨S', u', rfl, rfl, rfl⟩ := tz_single hts.symm
    have hk := ok_chk hok
    have hyc' : S'.length ≤ yc := by rw [zs_len] at hyc; exact hyc
    unfold sizeV
    rw [if_neg (by simpa using h0), nn_zs, zs_len, zs_len]
    exact size_api_ok A R' c Y S' yc u' w hA hY hyc' hok
  · unfold sizeV
    rw [if_pos h0]
    exact size_api_bad A R c Y S yc u w hA hY hyc hl hS h0
theorem tWithin (A : Option Addr) (R : List Int) (c : Nat) (Y : Option Addr) (S : List Int) (yc : Nat) (u : Int) (w : World) (hA : I64 w A R) (hY : I64 w Y S) (hyc : S.length ≤ yc) (hl : R.length ≤ 1000000) (hS : S.length ≤ 1000000) (v : Int) : Calls Try.prog 27 #[.agg #[.slice A R.length c], .agg #[.slice Y S.length yc, .int .i64 u], .int .i64 v] w (Gives w (.tuple #[.int .i64 (withinV R S u v).1, .int .i64 (withinV R S u v).2])) := by
  by_cases h0 : chkT R [(S, u)] = 0
  · obtain ⟨R', ts', rfl, hts, hok⟩ := chk_ok h0
    obtain ⟨S', u', rfl, rfl, rfl⟩ := tz_single hts.symm
    have hk := ok_chk hok
    have hyc' : S'.length ≤ yc := by rw [zs_len] at hyc; exact hyc
    unfold withinV
    rw [if_neg (by simpa using h0), nn_zs, nn_zs, zs_len, zs_len]
    by_cases hv : 0 ≤ v ∧ v ≤ (R'.length : Int)
    · rw [if_neg (by simpa using hv)]
      obtain ⟨v', rfl⟩ : ∃ v' : Nat, v = (v' : Int) := ⟨v.toNat, by omega⟩
      rw [Int.toNat_natCast]
      exact within_ok A R' c Y S' yc u' v' w hA hY hyc' hok (by omega)
    · rw [if_pos hv]
      exact within_range A R' c Y S' yc u' v w hA hY hyc' hok hv
  · unfold withinV
    rw [if_pos h0]
    exact within_api_bad A R c Y S yc u v w hA hY hyc hl hS h0
theorem rtWithin (A : Option Addr) (R : List Int) (c : Nat) (Y : Option Addr) (S : List Int) (yc : Nat) (u : Int) (w : World) (hA : I64 w A R) (hY : I64 w Y S) (hyc : S.length ≤ yc) (hl : R.length ≤ 1000000) (hS : S.length ≤ 1000000) (v : Int) : Calls Try.prog 28 #[.agg #[.slice A R.length c], .agg #[.slice Y S.length yc, .int .i64 u], .int .i64 v] w (Gives w (.tuple #[.int .i64 (withinV R S u v).1, .int .i64 (withinV R S u v).2])) := by
  by_cases h0 : chkT R [(S, u)] = 0
  · obtain ⟨R', ts', rfl, hts, hok⟩ := chk_ok h0
    obtain ⟨S', u', rfl, rfl, rfl⟩ := tz_single hts.symm
    have hk := ok_chk hok
    have hyc' : S'.length ≤ yc := by rw [zs_len] at hyc; exact hyc
    unfold withinV
    rw [if_neg (by simpa using h0), nn_zs, nn_zs, zs_len, zs_len]
    by_cases hv : 0 ≤ v ∧ v ≤ (R'.length : Int)
    · rw [if_neg (by simpa using hv)]
      obtain ⟨v', rfl⟩ : ∃ v' : Nat, v = (v' : Int) := ⟨v.toNat, by omega⟩
      rw [Int.toNat_natCast, ← within_count (by rw [List.all_eq_true]; intro n hn; simpa using hok.r6 n hn) (hok.tb (S', u') (by simp))]
      exact rWithin_ok A R' c Y S' yc u' v' w hA hY hyc' hok (by omega)
    · rw [if_pos hv]
      exact rWithin_range A R' c Y S' yc u' v w hA hY hyc' hok hv
  · unfold withinV
    rw [if_pos h0]
    exact rWithin_bad A R c Y S yc u v w hA hY hyc hl hS h0
theorem size_within (R S : List Int) (u : Int) : withinV R S u 0 = sizeV R S u := by
  unfold withinV sizeV
  by_cases h0 : chkT R [(S, u)] = 0
  · obtain ⟨R', ts', rfl, hts, hok⟩ := chk_ok h0
    obtain ⟨S', u', rfl, rfl, rfl⟩ := tz_single hts.symm
    rw [if_neg (by simpa using h0), if_neg (by simp), if_neg (by simpa using h0), nn_zs, nn_zs]
    have h6 : R'.all (fun n => decide (n ≤ 6)) = true := by rw [List.all_eq_true]; intro n hn; simpa using hok.r6 n hn
    rw [show (0 : Int).toNat = 0 from rfl, ← within_count h6 (hok.tb (S', u') (by simp)), ← size_count h6 (hok.tb (S', u') (by simp))]
    have : (fun o => decide (wrongN S' o ≤ 0)) = win S' := by funext o; rw [win_wrong]; simp
    rw [this]
  · rw [if_pos h0, if_pos h0]
set_option maxRecDepth 100000 in
set_option maxHeartbeats 1000000 in
theorem rtSize (A : Option Addr) (R : List Int) (c : Nat) (Y : Option Addr) (S : List Int) (yc : Nat) (u : Int) (w : World) (hA : I64 w A R) (hY : I64 w Y S) (hyc : S.length ≤ yc) (hl : R.length ≤ 1000000) (hS : S.length ≤ 1000000) : Calls Try.prog 26 #[.agg #[.slice A R.length c], .agg #[.slice Y S.length yc, .int .i64 u]] w (Gives w (.tuple #[.int .i64 (sizeV R S u).1, .int .i64 (sizeV R S u).2])) := by
  have HW := hide (fun w' (h1 : I64 w' A R) (h2 : I64 w' Y S) => by
    have := rtWithin A R c Y S yc u w' h1 h2 hyc hl hS 0
    rw [size_within] at this
    exact this)
  generalize sizeV R S u = sv at *
  go_enter Try.func26, Try.ntmps26
  go_wp2_with (first
    | (go_at_call 28; refine (HW.out _ (hA.ext (by (repeat (first | exact Below.refl _ _ | assumption | (refine below_gr ?_ (by (first | omega | (simp only [size_grow, World.size_alloc, size_drewN, size_drew, size_setCell] at *; omega))) _) | (refine below_alloc ?_ (by (first | omega | (simp only [size_grow, World.size_alloc, size_drewN, size_drew, size_setCell] at *; omega))) _) | (refine Below.setCell ?_ (by (first | omega | (simp only [size_grow, World.size_alloc, size_drewN, size_drew, size_setCell] at *; omega))) _) | refine below_drewN ?_ _ | refine below_drew ?_ | (refine below_step ?_ (by assumption) (by (first | omega | (simp only [size_grow, World.size_alloc, size_drewN, size_drew, size_setCell] at *; omega)))))))) (hY.ext (by (repeat (first | exact Below.refl _ _ | assumption | (refine below_gr ?_ (by (first | omega | (simp only [size_grow, World.size_alloc, size_drewN, size_drew, size_setCell] at *; omega))) _) | (refine below_alloc ?_ (by (first | omega | (simp only [size_grow, World.size_alloc, size_drewN, size_drew, size_setCell] at *; omega))) _) | (refine Below.setCell ?_ (by (first | omega | (simp only [size_grow, World.size_alloc, size_drewN, size_drew, size_setCell] at *; omega))) _) | refine below_drewN ?_ _ | refine below_drew ?_ | (refine below_step ?_ (by assumption) (by (first | omega | (simp only [size_grow, World.size_alloc, size_drewN, size_drew, size_setCell] at *; omega))))))))).mono ?_; rintro e w1 ⟨rfl, hb1⟩; replace hb1 := ex_below hb1; have hz1 := hb1.size; (try simp only [size_grow, World.size_alloc, size_drewN, size_drew, size_setCell] at hz1); have hlt1 : ∀ b, b < w.heap.size → b < w1.heap.size := fun b hb => (by (first | omega | (simp only [size_grow, World.size_alloc, size_drewN, size_drew, size_setCell] at *; omega))); have hc1 : ∀ b o, b < w.heap.size → w1.cell? ⟨b, o, none⟩ = w.cell? ⟨b, o, none⟩ := old_cell (by (repeat (first | exact Below.refl _ _ | assumption | (refine below_gr ?_ (by (first | omega | (simp only [size_grow, World.size_alloc, size_drewN, size_drew, size_setCell] at *; omega))) _) | (refine below_alloc ?_ (by (first | omega | (simp only [size_grow, World.size_alloc, size_drewN, size_drew, size_setCell] at *; omega))) _) | (refine Below.setCell ?_ (by (first | omega | (simp only [size_grow, World.size_alloc, size_drewN, size_drew, size_setCell] at *; omega))) _) | refine below_drewN ?_ _ | refine below_drew ?_ | (refine below_step ?_ (by assumption) (by (first | omega | (simp only [size_grow, World.size_alloc, size_drewN, size_drew, size_setCell] at *; omega)))))))))

  go_ret2
  exact gives_of (rfl) (by (repeat (first | exact Below.refl _ _ | assumption | (refine below_gr ?_ (by (first | omega | (simp only [size_grow, World.size_alloc, size_drewN, size_drew, size_setCell] at *; omega))) _) | (refine below_alloc ?_ (by (first | omega | (simp only [size_grow, World.size_alloc, size_drewN, size_drew, size_setCell] at *; omega))) _) | (refine Below.setCell ?_ (by (first | omega | (simp only [size_grow, World.size_alloc, size_drewN, size_drew, size_setCell] at *; omega))) _) | refine below_drewN ?_ _ | refine below_drew ?_ | (refine below_step ?_ (by assumption) (by (first | omega | (simp only [size_grow, World.size_alloc, size_drewN, size_drew, size_setCell] at *; omega)))))))
theorem tCovered (A : Option Addr) (R : List Int) (c : Nat) (B : Option Addr) (ts : List Tz) (d : Nat) (w : World) (hA : I64 w A R) (hB : Tks w B ts) (hl : R.length ≤ 1000000) (hl2 : ts.length ≤ 1000000) (hts : ∀ t, t ∈ ts → t.1.length ≤ 1000000) : Calls Try.prog 32 #[.agg #[.slice A R.length c], .slice B ts.length d] w (Gives w (.tuple #[.int .i64 (coveredV R ts).1, .int .i64 (coveredV R ts).2])) := by
  unfold coveredV
  by_cases h0 : chkT R ts = 0
  · obtain ⟨R', ts', rfl, rfl, hok⟩ := chk_ok h0
    have hk := ok_chk hok
    rw [if_neg (by simpa using h0), nn_zs, nt_tz, zs_len, tz_len, ← covered_eq hok (by simp) (by simp)]
    exact covered_ok A R' c B ts' d w hA hB hok
  · rw [if_pos h0]
    exact covered_bad A R c B ts d w hA hB hl hl2 hts h0
theorem rtCovered (A : Option Addr) (R : List Int) (c : Nat) (B : Option Addr) (ts : List Tz) (d : Nat) (w : World) (hA : I64 w A R) (hB : Tks w B ts) (hl : R.length ≤ 1000000) (hl2 : ts.length ≤ 1000000) (hts : ∀ t, t ∈ ts → t.1.length ≤ 1000000) : Calls Try.prog 33 #[.agg #[.slice A R.length c], .slice B ts.length d] w (Gives w (.tuple #[.int .i64 (coveredV R ts).1, .int .i64 (coveredV R ts).2])) := by
  unfold coveredV
  by_cases h0 : chkT R ts = 0
  · obtain ⟨R', ts', rfl, rfl, hok⟩ := chk_ok h0
    have hk := ok_chk hok
    rw [if_neg (by simpa using h0), nn_zs, nt_tz, zs_len, tz_len]
    exact rCovered_ok A R' c B ts' d w hA hB hok
  · rw [if_pos h0]
    exact rCovered_bad A R c B ts d w hA hB hl hl2 hts h0
theorem tOpen (A : Option Addr) (R : List Int) (c : Nat) (B : Option Addr) (ts : List Tz) (d : Nat) (w : World) (hA : I64 w A R) (hB : Tks w B ts) (hl : R.length ≤ 1000000) (hl2 : ts.length ≤ 1000000) (hts : ∀ t, t ∈ ts → t.1.length ≤ 1000000) : Calls Try.prog 34 #[.agg #[.slice A R.length c], .slice B ts.length d] w (GivesB w (openVV R ts).1 (openVV R ts).2) := by
  unfold openVV
  by_cases h0 : chkT R ts = 0
  · obtain ⟨R', ts', rfl, rfl, hok⟩ := chk_ok h0
    have hk := ok_chk hok
    rw [if_neg (by simpa using h0), nn_zs, nt_tz, zs_len, tz_len, open_find hok]
    refine (open_api_ok A R' c B ts' d w hA hB hok).mono ?_
    intro e w' h
    unfold OpenP at h
    by_cases hp : 0 < uni ts' (firstO R' ts' openV)
    · rw [if_pos hp] at h ⊢
      obtain ⟨rfl, hg⟩ := h
      exact ⟨none, 0, rfl, hg, I64.nil _ _⟩
    · rw [if_neg hp] at h ⊢
      obtain ⟨O, oc, rfl, hg, hI, _⟩ := h
      exact ⟨O, oc, rfl, hg, hI⟩
  · rw [if_pos h0]
    refine (open_api_bad A R c B ts d w hA hB hl hl2 hts h0).mono ?_
    rintro e w' ⟨rfl, hg⟩
    exact ⟨none, 0, rfl, hg, I64.nil _ _⟩
theorem rtOpen (A : Option Addr) (R : List Int) (c : Nat) (B : Option Addr) (ts : List Tz) (d : Nat) (w : World) (hA : I64 w A R) (hB : Tks w B ts) (hl : R.length ≤ 1000000) (hl2 : ts.length ≤ 1000000) (hts : ∀ t, t ∈ ts → t.1.length ≤ 1000000) : Calls Try.prog 35 #[.agg #[.slice A R.length c], .slice B ts.length d] w (GivesB w (openVV R ts).1 (openVV R ts).2) := by
  unfold openVV
  by_cases h0 : chkT R ts = 0
  · obtain ⟨R', ts', rfl, rfl, hok⟩ := chk_ok h0
    have hk := ok_chk hok
    rw [if_neg (by simpa using h0), nn_zs, nt_tz, zs_len, tz_len]
    refine (rOpen_ok A R' c B ts' d w hA hB hok).mono ?_
    intro e w' h
    unfold GivesO at h
    cases hf : (outs R').find? (fun o => decide (uni ts' o = 0)) with
    | none =>
      rw [hf] at h
      obtain ⟨rfl, hg⟩ := h
      exact ⟨none, 0, rfl, hg, I64.nil _ _⟩
    | some o =>
      rw [hf] at h
      obtain ⟨O, oc, rfl, hg, hI⟩ := h
      exact ⟨O, oc, by rw [zs_len], hg, hI⟩
  · rw [if_pos h0]
    refine (rOpen_bad A R c B ts d w hA hB hl hl2 hts h0).mono ?_
    rintro e w' ⟨rfl, hg⟩
    exact ⟨none, 0, rfl, hg, I64.nil _ _⟩
theorem tDeepest (A : Option Addr) (R : List Int) (c : Nat) (B : Option Addr) (ts : List Tz) (d : Nat) (w : World) (hA : I64 w A R) (hB : Tks w B ts) (hl : R.length ≤ 1000000) (hl2 : ts.length ≤ 1000000) (hts : ∀ t, t ∈ ts → t.1.length ≤ 1000000) : Calls Try.prog 36 #[.agg #[.slice A R.length c], .slice B ts.length d] w (GivesA w (deepVV R ts).1 (deepVV R ts).2.1 (deepVV R ts).2.2) := by
  unfold deepVV
  by_cases h0 : chkT R ts = 0
  · obtain ⟨R', ts', rfl, rfl, hok⟩ := chk_ok h0
    have hk := ok_chk hok
    rw [if_neg (by simpa using h0), nn_zs, nt_tz, zs_len, tz_len]
    have hde : firstO R' ts' deepV = deepO R' ts' := deep_eq hok (outs_pos hok.r1)
    have := deepest_ok A R' c B ts' d w hA hB hok
    rw [hde] at this
    refine this.mono ?_
    rintro e w' ⟨O, oc, rfl, hg, hI, _⟩
    exact ⟨O, oc, rfl, hg, hI⟩
  · rw [if_pos h0]
    refine (deepest_bad A R c B ts d w hA hB hl hl2 hts h0).mono ?_
    rintro e w' ⟨rfl, hg⟩
    exact ⟨none, 0, rfl, hg, I64.nil _ _⟩
theorem rtDeepest (A : Option Addr) (R : List Int) (c : Nat) (B : Option Addr) (ts : List Tz) (d : Nat) (w : World) (hA : I64 w A R) (hB : Tks w B ts) (hl : R.length ≤ 1000000) (hl2 : ts.length ≤ 1000000) (hts : ∀ t, t ∈ ts → t.1.length ≤ 1000000) : Calls Try.prog 37 #[.agg #[.slice A R.length c], .slice B ts.length d] w (GivesA w (deepVV R ts).1 (deepVV R ts).2.1 (deepVV R ts).2.2) := by
  unfold deepVV
  by_cases h0 : chkT R ts = 0
  · obtain ⟨R', ts', rfl, rfl, hok⟩ := chk_ok h0
    have hk := ok_chk hok
    rw [if_neg (by simpa using h0), nn_zs, nt_tz, zs_len, tz_len]
    refine (rDeepest_ok A R' c B ts' d w hA hB hok (outs_pos hok.r1)).mono ?_
    rintro e w' ⟨O, oc, rfl, hg, hI⟩
    exact ⟨O, oc, by rw [zs_len]; rfl, hg, hI⟩
  · rw [if_pos h0]
    refine (rDeepest_bad A R c B ts d w hA hB hl hl2 hts h0).mono ?_
    rintro e w' ⟨rfl, hg⟩
    exact ⟨none, 0, rfl, hg, I64.nil _ _⟩
theorem tIdle (A : Option Addr) (R : List Int) (c : Nat) (B : Option Addr) (ts : List Tz) (d : Nat) (w : World) (hA : I64 w A R) (hB : Tks w B ts) (hl : R.length ≤ 1000000) (hl2 : ts.length ≤ 1000000) (hts : ∀ t, t ∈ ts → t.1.length ≤ 1000000) : Calls Try.prog 38 #[.agg #[.slice A R.length c], .slice B ts.length d] w (GivesB w (idleV R ts).1 (idleV R ts).2) := by
  unfold idleV
  by_cases h0 : chkT R ts = 0
  · obtain ⟨R', ts', rfl, rfl, hok⟩ := chk_ok h0
    have hk := ok_chk hok
    rw [if_neg (by simpa using h0), nn_zs, nt_tz, zs_len, tz_len, ← idle_eq hok]
    refine (idle_ok A R' c B ts' d w hA hB hok).mono ?_
    rintro e w' ⟨O, oc, rfl, hg, hI, _⟩
    exact ⟨O, oc, rfl, hg, hI⟩
  · rw [if_pos h0]
    refine (idle_bad A R c B ts d w hA hB hl hl2 hts h0).mono ?_
    rintro e w' ⟨rfl, hg⟩
    exact ⟨none, 0, rfl, hg, I64.nil _ _⟩
theorem rtIdle (A : Option Addr) (R : List Int) (c : Nat) (B : Option Addr) (ts : List Tz) (d : Nat) (w : World) (hA : I64 w A R) (hB : Tks w B ts) (hl : R.length ≤ 1000000) (hl2 : ts.length ≤ 1000000) (hts : ∀ t, t ∈ ts → t.1.length ≤ 1000000) : Calls Try.prog 39 #[.agg #[.slice A R.length c], .slice B ts.length d] w (GivesB w (idleV R ts).1 (idleV R ts).2) := by
  unfold idleV
  by_cases h0 : chkT R ts = 0
  · obtain ⟨R', ts', rfl, rfl, hok⟩ := chk_ok h0
    have hk := ok_chk hok
    rw [if_neg (by simpa using h0), nn_zs, nt_tz, zs_len, tz_len]
    refine (rIdle_ok A R' c B ts' d w hA hB hok).mono ?_
    rintro e w' ⟨O, oc, rfl, hg, hI, _⟩
    exact ⟨O, oc, rfl, hg, hI⟩
  · rw [if_pos h0]
    refine (rIdle_bad A R c B ts d w hA hB hl hl2 hts h0).mono ?_
    rintro e w' ⟨rfl, hg⟩
    exact ⟨none, 0, rfl, hg, I64.nil _ _⟩
theorem tPays (A : Option Addr) (R : List Int) (c : Nat) (B : Option Addr) (ts : List Tz) (d : Nat) (w : World) (hA : I64 w A R) (hB : Tks w B ts) (hl : R.length ≤ 1000000) (hl2 : ts.length ≤ 1000000) (hts : ∀ t, t ∈ ts → t.1.length ≤ 1000000) (X : Option Addr) (won : List Int) (xc : Nat) (hX : I64 w X won) (hw : won.length ≤ 1000000) (p : Int) : Calls Try.prog 41 #[.agg #[.slice A R.length c], .slice B ts.length d, .int .i64 p, .slice X won.length xc] w (Gives w (paysV R ts p won)) := by
  unfold paysV
  by_cases h0 : chkT R ts = 0
  · obtain ⟨R', ts', rfl, rfl, hok⟩ := chk_ok h0
    have hk := ok_chk hok
    rw [if_neg (by simpa using h0), nn_zs, nt_tz, zs_len, tz_len]
    by_cases hp : 0 ≤ p ∧ p ≤ 1099511627776
    · by_cases hwl : won.length = R'.length
      · cases hr : runB R' won with
        | true => exact pays_ok A R' c B ts' d X won xc p w hA hB hX hw hok hp hwl hr
        | false =>
          have := pays_range A R' c B ts' d X won xc p w hA hB hX hw hok hp hwl hr
          unfold payV
          rwa [if_neg (by simpa using hp), if_neg (by simpa using hwl), if_pos hr]
      · have := pays_many A R' c B ts' d X won xc p w hA hB hX hw hok hp hwl
        unfold payV
        rwa [if_neg (by simpa using hp), if_pos hwl]
    · have := pays_pool A R' c B ts' d X won xc p w hA hB hX hw hok hp
      unfold payV
      rwa [if_pos hp]
  · rw [if_pos h0]
    exact pays_bad A R c B ts d w hA hB hl hl2 hts h0 X won.length xc p
theorem rtPays (A : Option Addr) (R : List Int) (c : Nat) (B : Option Addr) (ts : List Tz) (d : Nat) (w : World) (hA : I64 w A R) (hB : Tks w B ts) (hl : R.length ≤ 1000000) (hl2 : ts.length ≤ 1000000) (hts : ∀ t, t ∈ ts → t.1.length ≤ 1000000) (X : Option Addr) (won : List Int) (xc : Nat) (hX : I64 w X won) (hw : won.length ≤ 1000000) (p : Int) : Calls Try.prog 42 #[.agg #[.slice A R.length c], .slice B ts.length d, .int .i64 p, .slice X won.length xc] w (Gives w (paysV R ts p won)) := by
  unfold paysV
  by_cases h0 : chkT R ts = 0
  · obtain ⟨R', ts', rfl, rfl, hok⟩ := chk_ok h0
    have hk := ok_chk hok
    rw [if_neg (by simpa using h0), nn_zs, nt_tz, zs_len, tz_len]
    exact rPays_ok A R' c B ts' d X won xc p w hA hB hX hw hok
  · rw [if_pos h0]
    exact rPays_bad A R c B ts d w hA hB hl hl2 hts h0 X won.length xc p
theorem tAfter (A : Option Addr) (R : List Int) (c : Nat) (B : Option Addr) (ts : List Tz) (d : Nat) (w : World) (hA : I64 w A R) (hB : Tks w B ts) (hl : R.length ≤ 1000000) (hl2 : ts.length ≤ 1000000) (hts : ∀ t, t ∈ ts → t.1.length ≤ 1000000) (X : Option Addr) (won : List Int) (xc : Nat) (hX : I64 w X won) (hw : won.length ≤ 1000000) : Calls Try.prog 43 #[.agg #[.slice A R.length c], .slice B ts.length d, .slice X won.length xc] w (GivesA w (afterV R ts won).1 (afterV R ts won).2.1 (afterV R ts won).2.2) := by
  unfold afterV
  by_cases h0 : chkT R ts = 0
  · obtain ⟨R', ts', rfl, rfl, hok⟩ := chk_ok h0
    have hk := ok_chk hok
    rw [if_neg (by simpa using h0), nn_zs, nt_tz, zs_len, tz_len]
    by_cases hwl : R'.length < won.length
    · rw [if_pos hwl]
      refine (after_many A R' c B ts' d X won xc w hA hB hX hw hok hwl).mono ?_
      rintro e w' ⟨rfl, hg⟩
      exact ⟨none, 0, rfl, hg, I64.nil _ _⟩
    · rw [if_neg hwl]
      cases hr : runB R' won with
      | false =>
        rw [if_pos rfl]
        refine (after_range A R' c B ts' d X won xc w hA hB hX hw hok (by omega) hr).mono ?_
        rintro e w' ⟨rfl, hg⟩
        exact ⟨none, 0, rfl, hg, I64.nil _ _⟩
      | true =>
        rw [if_neg (by simp)]
        obtain ⟨o, hwo, hol, holt⟩ := runB_zs R' won (by omega) hr
        have hno : nn won = o := by rw [hwo, nn_zs]
        rw [hno]
        have := after_ok A R' c B ts' d X won xc w hA hB hX hw hok (by omega) hr
        rw [show won.map Int.toNat = o from hno, covered_eq hok (by omega) holt, alive_eq hok (by omega) _ (Nat.le_refl _)] at this
        refine this.mono ?_
        rintro e w' ⟨O, oc, rfl, hg, hI, _⟩
        exact ⟨O, oc, rfl, hg, hI⟩
  · rw [if_pos h0]
    refine (after_bad A R c B ts d w hA hB hl hl2 hts h0 X won.length xc).mono ?_
    rintro e w' ⟨rfl, hg⟩
    exact ⟨none, 0, rfl, hg, I64.nil _ _⟩
theorem rtAfter (A : Option Addr) (R : List Int) (c : Nat) (B : Option Addr) (ts : List Tz) (d : Nat) (w : World) (hA : I64 w A R) (hB : Tks w B ts) (hl : R.length ≤ 1000000) (hl2 : ts.length ≤ 1000000) (hts : ∀ t, t ∈ ts → t.1.length ≤ 1000000) (X : Option Addr) (won : List Int) (xc : Nat) (hX : I64 w X won) (hw : won.length ≤ 1000000) : Calls Try.prog 44 #[.agg #[.slice A R.length c], .slice B ts.length d, .slice X won.length xc] w (GivesA w (afterV R ts won).1 (afterV R ts won).2.1 (afterV R ts won).2.2) := by
  unfold afterV
  by_cases h0 : chkT R ts = 0
  · obtain ⟨R', ts', rfl, rfl, hok⟩ := chk_ok h0
    have hk := ok_chk hok
    rw [if_neg (by simpa using h0), nn_zs, nt_tz, zs_len, tz_len]
    by_cases hwl : R'.length < won.length
    · rw [if_pos hwl]
      refine (rAfter_many A R' c B ts' d X won xc w hA hB hX hw hok hwl).mono ?_
      rintro e w' ⟨rfl, hg⟩
      exact ⟨none, 0, rfl, hg, I64.nil _ _⟩
    · rw [if_neg hwl]
      cases hr : runB R' won with
      | false =>
        rw [if_pos rfl]
        refine (rAfter_range A R' c B ts' d X won xc w hA hB hX hw hok (by omega) hr).mono ?_
        rintro e w' ⟨rfl, hg⟩
        exact ⟨none, 0, rfl, hg, I64.nil _ _⟩
      | true =>
        rw [if_neg (by simp)]
        refine (rAfter_ok A R' c B ts' d X won xc w hA hB hX hw hok (by omega) hr).mono ?_
        rintro e w' ⟨O, oc, rfl, hg, hI, _⟩
        exact ⟨O, oc, rfl, hg, hI⟩
  · rw [if_pos h0]
    refine (rAfter_bad A R c B ts d w hA hB hl hl2 hts h0 X won.length xc).mono ?_
    rintro e w' ⟨rfl, hg⟩
    exact ⟨none, 0, rfl, hg, I64.nil _ _⟩
theorem tMap (A : Option Addr) (R : List Int) (c : Nat) (B : Option Addr) (ts : List Tz) (d : Nat) (w : World) (hA : I64 w A R) (hB : Tks w B ts) (hl : R.length ≤ 1000000) (hl2 : ts.length ≤ 1000000) (hts : ∀ t, t ∈ ts → t.1.length ≤ 1000000) : Calls Try.prog 29 #[.agg #[.slice A R.length c], .slice B ts.length d] w (GivesC w (mapV R ts).1 (mapV R ts).2) := by
  unfold mapV
  by_cases h0 : chkT R ts = 0
  · obtain ⟨R', ts', rfl, rfl, hok⟩ := chk_ok h0
    have hk := ok_chk hok
    rw [if_neg (by simpa using h0), nn_zs, nt_tz, zs_len, tz_len]
    refine (map_ok A R' c B ts' d w hA hB hok).mono ?_
    rintro e w' ⟨O, oc, rfl, hg, hI, hc⟩
    exact ⟨O, oc, by rw [tz_len], hg, hI, by rw [tz_len]; exact hc⟩
  · rw [if_pos h0]
    refine (map_bad A R c B ts d w hA hB hl hl2 hts h0).mono ?_
    rintro e w' ⟨rfl, hg⟩
    exact ⟨none, 0, rfl, hg, Tks.nil _ _, Nat.le_refl _⟩
theorem tCMap (A : Option Addr) (R : List Int) (c : Nat) (B : Option Addr) (ts : List Tz) (d : Nat) (w : World) (hA : I64 w A R) (hB : Tks w B ts) (hl : R.length ≤ 1000000) (hl2 : ts.length ≤ 1000000) (hts : ∀ t, t ∈ ts → t.1.length ≤ 1000000) (D : Option Addr) (ps : List Tz) (dd : Nat) (hD : Tks w D ps) (hdd : ps.length ≤ dd) (hl3 : ps.length ≤ 1000000) (hps : ∀ t, t ∈ ps → t.1.length ≤ 1000000) : Calls Try.prog 30 #[.agg #[.slice A R.length c], .slice B ts.length d, .slice D ps.length dd] w (Gives w (.int .i64 (cmapV R ts ps))) := by
  unfold cmapV
  by_cases h0 : chkT R ts = 0
  · obtain ⟨R', ts', rfl, rfl, hok⟩ := chk_ok h0
    have hk := ok_chk hok
    rw [if_neg (by simpa using h0), nn_zs, nt_tz, zs_len, tz_len]
    by_cases h7 : 7776 < ps.length
    · rw [if_pos h7]
      exact cmap_many A R' c B ts' d D ps dd w hA hB hD hl3 hps hok h7
    · rw [if_neg h7]
      by_cases ha : areB (zs R') ps = 0
      · rw [if_neg (by simpa using ha)]
        cases hn : ps.any negB with
        | true =>
          rw [if_pos rfl]
          exact cmap_neg A R' c B ts' d D ps dd w hA hB hD hl3 hps hok (by omega) ha hn
        | false =>
          obtain ⟨ps', rfl, hb⟩ := boxes_nat ha hn
          rw [if_neg (by simp), nt_tz, ← map_eq hok hb, tz_len]
          exact cmap_ok A R' c B ts' d D ps' dd w hA hB hD (by rw [tz_len] at hdd; exact hdd) (by rw [tz_len] at h7; omega) hb hok
      · rw [if_pos ha]
        exact cmap_box A R' c B ts' d D ps dd w hA hB hD hl3 hps hok (by omega) ha
  · rw [if_pos h0]
    exact cmap_bad A R c B ts d w hA hB hl hl2 hts h0 D ps.length dd
theorem rtCMap (A : Option Addr) (R : List Int) (c : Nat) (B : Option Addr) (ts : List Tz) (d : Nat) (w : World) (hA : I64 w A R) (hB : Tks w B ts) (hl : R.length ≤ 1000000) (hl2 : ts.length ≤ 1000000) (hts : ∀ t, t ∈ ts → t.1.length ≤ 1000000) (D : Option Addr) (ps : List Tz) (dd : Nat) (hD : Tks w D ps) (hdd : ps.length ≤ dd) (hl3 : ps.length ≤ 1000000) (hps : ∀ t, t ∈ ps → t.1.length ≤ 1000000) : Calls Try.prog 31 #[.agg #[.slice A R.length c], .slice B ts.length d, .slice D ps.length dd] w (Gives w (.int .i64 (cmapV R ts ps))) := by
  unfold cmapV
  by_cases h0 : chkT R ts = 0
  · obtain ⟨R', ts', rfl, rfl, hok⟩ := chk_ok h0
    have hk := ok_chk hok
    rw [if_neg (by simpa using h0), nn_zs, nt_tz, zs_len, tz_len]
    by_cases h7 : 7776 < ps.length
    · rw [if_pos h7]
      exact rcmap_many A R' c B ts' d D ps dd w hA hB hD hl3 hps hok h7
    · rw [if_neg h7]
      by_cases ha : areB (zs R') ps = 0
      · rw [if_neg (by simpa using ha)]
        cases hn : ps.any negB with
        | true =>
          rw [if_pos rfl]
          exact rcmap_neg A R' c B ts' d D ps dd w hA hB hD hl3 hps hok (by omega) ha hn
        | false =>
          obtain ⟨ps', rfl, hb⟩ := boxes_nat ha hn
          rw [if_neg (by simp), nt_tz, tz_len]
          exact rcmap_ok A R' c B ts' d D ps' dd w hA hB hD (by rw [tz_len] at h7; omega) hb hok
      · rw [if_pos ha]
        exact rcmap_box A R' c B ts' d D ps dd w hA hB hD hl3 hps hok (by omega) ha
  · rw [if_pos h0]
    exact rcmap_bad A R c B ts d w hA hB hl hl2 hts h0 D ps.length dd
end Go.Proofs.Ytlbkaeoagdbemaa
