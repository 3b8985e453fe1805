/- Proved here: contracts and laws of M1, a part of the proofs about the crowd laws: what some functions of the program and of the reference compute, and plain facts about it. Conditions: those that each theorem names, no others. -/
import Derived.Test.YtbfhkknpocbeaaaC28
import Derived.WalkKit
import Derived.WalkSpells
import Derived.WalkLawsBesides
import Derived.Below
import Derived.Deep.QuietTactic
import Derived.BigQuiet
import Derived.Deep.Light

set_option linter.unusedSimpArgs false
set_option linter.unusedVariables false
namespace Go.Proofs.Ytbfhkknpocbeaaa
/-- how many are served in minute t -/
def cnt (F : Nat → Int) (n : Nat) (t : Int) : Nat := (List.range n).countP (fun i => decide (F i = t))
theorem cntP_mono {n : Nat} {p q : Nat → Bool} (h : ∀ i, i < n → p i = true → q i = true) : (List.range n).countP p ≤ (List.range n).countP q :=
  List.countP_mono_left (fun i hi => h i (by simpa using hi))
theorem cntP_congr {n : Nat} {p q : Nat → Bool} (h : ∀ i, i < n → p i = q i) : (List.range n).countP p = (List.range n).countP q :=
  List.countP_congr (fun i hi => by rw [h i (by simpa using hi)])
theorem cntP_one {n b : Nat} (hb : b < n) {p : Nat → Bool} (h : ∀ i, i < n → (p i = true ↔ i = b)) : (List.range n).countP p = 1 := by
  rw [cntP_congr (q := fun i => i == b) (fun i hi => by rw [Bool.eq_iff_iff, h i hi]; simp)]
  have : (List.range n).countP (fun i => i == b) = (List.range n).count b := rfl
  rw [this, List.nodup_range.count]; simp [hb]
theorem cntP_lt {n b : Nat} (hb : b < n) {p q : Nat → Bool} (h : ∀ i, i < n → p i = true → q i = true ∧ i ≠ b) (hq : q b = true) : (List.range n).countP p + 1 ≤ (List.range n).countP q := by
  rw [← cntP_one hb (p := fun i => decide (i = b)) (fun i _ => by simp)]
  rw [← countP_or (r := fun i => p i || decide (i = b)) (fun i hi => ⟨rfl, by
    rw [Bool.eq_false_iff]; intro hc; simp only [Bool.and_eq_true, decide_eq_true_eq] at hc; exact (h i hi hc.1).2 hc.2⟩)]
  refine cntP_mono (fun i hi hp => ?_)
  simp only [Bool.or_eq_true, decide_eq_true_eq] at hp
  rcases hp with hp | rfl
  · exact (h i hi hp).1
  · exact hq
theorem cnt_span (F : Nat → Int) (n : Nat) (s : Int) (k : Nat) : (List.range n).countP (fun i => decide (s ≤ F i ∧ F i < s + (k + 1 : Nat))) = (List.range n).countP (fun i => decide (s ≤ F i ∧ F i < s + (k : Nat))) + cnt F n (s + k) := by
  refine countP_or (fun i _ => ?_)
  constructor
  · rw [Bool.eq_iff_iff]; simp only [decide_eq_true_eq, Bool.or_eq_true]; omega
  · rw [Bool.eq_false_iff]; simp only [ne_eq, decide_eq_true_eq, Bool.and_eq_true]; omega
theorem cnt_span_eq (F : Nat → Int) (n mc : Nat) (s : Int) (k : Nat) (h : ∀ t, s ≤ t → t < s + k → cnt F n t = mc) : (List.range n).countP (fun i => decide (s ≤ F i ∧ F i < s + (k : Nat))) = k * mc := by
  induction k with
  | zero =>
    rw [Nat.zero_mul, List.countP_eq_zero]
    intro i _; simp only [decide_eq_true_eq]; omega
  | succ k ih => rw [cnt_span, ih (fun t h1 h2 => h t h1 (by omega)), h _ (by omega) (by omega), Nat.succ_mul]
theorem cnt_span_le (F : Nat → Int) (n mc : Nat) (s : Int) (k : Nat) (h : ∀ t, s ≤ t → t < s + k → cnt F n t ≤ mc) : (List.range n).countP (fun i => decide (s ≤ F i ∧ F i < s + (k : Nat))) ≤ k * mc := by
  induction k with
  | zero =>
    rw [Nat.zero_mul, Nat.le_zero, List.countP_eq_zero]
    intro i _; simp only [decide_eq_true_eq]; omega
  | succ k ih =>
    have h1 := ih (fun t h1 h2 => h t h1 (by omega))
    have h2 := h (s + k) (by omega) (by omega)
    rw [cnt_span, Nat.succ_mul]; omega
/-- how many must be served within some minutes -/
def fallG (c u : Nat → Int) (n : Nat) (s D : Int) : Nat := (List.range n).countP (fun i => decide (s ≤ c i ∧ u i ≤ D ∧ c i ≤ u i))
theorem hall_easy {n mc : Nat} {F c u : Nat → Int} {s D : Int} (hsD : s ≤ D) (hs : 1 ≤ s) (h0 : ∀ i, i < n → c i ≤ u i → s ≤ c i → u i ≤ D → c i ≤ F i ∧ F i ≤ u i)
    (hle : ∀ t, 1 ≤ t → t ≤ D → cnt F n t ≤ mc) : (fallG c u n s D : Int) ≤ (D - s + 1) * mc := by
  obtain ⟨k, hk⟩ : ∃ k : Nat, (k : Int) = D - s + 1 := ⟨(D - s + 1).toNat, by omega⟩
  have h1 := cnt_span_le F n mc s k (fun t h1 h2 => hle t (by omega) (by omega))
  have h2 : fallG c u n s D ≤ (List.range n).countP (fun i => decide (s ≤ F i ∧ F i < s + (k : Nat))) := cntP_mono (fun i hi h => by
    simp only [decide_eq_true_eq] at h ⊢
    obtain ⟨a, b⟩ := h0 i hi h.2.2 h.1 h.2.1
    omega)
  rw [← hk]
  exact_mod_cast Nat.le_trans h2 h1
theorem edf_start {n mc M : Nat} {F c u : Nat → Int} (hc : ∀ i, i < n → 1 ≤ c i)
    (hb : ∀ t i, 1 ≤ t → t ≤ (M : Int) → i < n → c i ≤ t → t ≤ u i → (F i = 0 ∨ t < F i) → cnt F n t = mc ∧ ∀ b, b < n → F b = t → u b ≤ u i) (D : Int) (hD : D ≤ M) :
    ∀ a : Nat, (a : Int) + 1 ≤ D + 1 → (∀ t, (a : Int) + 1 ≤ t → t ≤ D → cnt F n t = mc ∧ ∀ b, b < n → F b = t → u b ≤ D) →
    ∃ s : Int, 1 ≤ s ∧ s ≤ a + 1 ∧ (∀ t, s ≤ t → t ≤ D → cnt F n t = mc ∧ ∀ b, b < n → F b = t → u b ≤ D) ∧ ∀ j, j < n → u j ≤ D → s ≤ u j → (F j = 0 ∨ s ≤ F j) → s ≤ c j
  | 0, _, hP => ⟨1, by omega, by omega, fun t h1 h2 => hP t (by omega) h2, fun j hj _ _ _ => hc j hj⟩
  | a + 1, ha, hP => by
    by_cases hp : cnt F n (a + 1 : Nat) = mc ∧ ∀ b, b < n → F b = (a + 1 : Nat) → u b ≤ D
    · obtain ⟨s, h1, h2, h3, h4⟩ := edf_start hc hb D hD a (by omega) (fun t h1 h2 => by
        by_cases e : t = (a + 1 : Nat)
        · subst e; exact hp
        · exact hP t (by omega) h2)
      exact ⟨s, h1, by omega, h3, h4⟩
    · refine ⟨(a + 1 : Nat) + 1, by omega, by omega, hP, fun j hj hu1 hu2 hF => ?_⟩
      by_cases e : (a + 1 : Nat) + 1 ≤ c j
      · exact e
      · exfalso
        apply hp
        obtain ⟨h1, h2⟩ := hb (a + 1 : Nat) j (by omega) (by omega) hj (by omega) (by omega) (by omega)
        exact ⟨h1, fun b hb' hFb => Int.le_trans (h2 b hb' hFb) hu1⟩
theorem hall_hard {n mc M : Nat} {F c u : Nat → Int} (hc : ∀ i, i < n → 1 ≤ c i) (hu : ∀ i, i < n → u i ≤ M)
    (hs : ∀ i, i < n → F i ≠ 0 → c i ≤ F i ∧ F i ≤ u i)
    (hb : ∀ t i, 1 ≤ t → t ≤ (M : Int) → i < n → c i ≤ t → t ≤ u i → (F i = 0 ∨ t < F i) → cnt F n t = mc ∧ ∀ b, b < n → F b = t → u b ≤ u i)
    {i0 : Nat} (hi : i0 < n) (h1 : c i0 ≤ u i0) (h2 : F i0 = 0) : ∃ s D : Int, 1 ≤ s ∧ s ≤ D ∧ D ≤ M ∧ (D - s + 1) * mc < fallG c u n s D := by
  have hci := hc i0 hi
  have hui := hu i0 hi
  obtain ⟨s, s1, s2, s3, s4⟩ := edf_start hc hb (u i0) hui (c i0 - 1).toNat (by omega) (fun t ht1 ht2 => hb t i0 (by omega) (by omega) hi (by omega) ht2 (.inl h2))
  refine ⟨s, u i0, s1, by omega, hui, ?_⟩
  obtain ⟨k, hk⟩ : ∃ k : Nat, (k : Int) = u i0 - s + 1 := ⟨(u i0 - s + 1).toNat, by omega⟩
  have e1 := cnt_span_eq F n mc s k (fun t h1 h2 => (s3 t h1 (by omega)).1)
  have e2 : (List.range n).countP (fun i => decide (s ≤ F i ∧ F i < s + (k : Nat))) + 1 ≤ fallG c u n s (u i0) := cntP_lt hi (fun i hin h => by
    simp only [decide_eq_true_eq] at h ⊢
    have a1 := hs i hin (by omega)
    have a2 := (s3 (F i) h.1 (by omega)).2 i hin rfl
    have a3 := s4 i hin a2 (by omega) (.inr h.1)
    exact ⟨⟨a3, a2, by omega⟩, fun e => by subst e; omega⟩) (by
    simp only [decide_eq_true_eq]
    exact ⟨s4 i0 hi (by omega) (by omega) (.inl h2), by omega, h1⟩)
  rw [← hk]
  have : k * mc < fallG c u n s (u i0) := by omega
  exact_mod_cast this
/-- one minute -/
theorem minute_full {u : Nat → Int} {cm : List Int} {n : Nat} {t : Int} {out : List Int} (hl : out.length = n) (ht : t ≠ 0) (h0 : ∀ i, i < n → atI out i ≠ t) (j : Nat) :
    cnt (atI (minuteM u cm n t j out)) n t ≤ j ∧ ∀ i, i < n → inQ u cm (minuteM u cm n t j out) t i = true → cnt (atI (minuteM u cm n t j out)) n t = j ∧ ∀ b, b < n → atI (minuteM u cm n t j out) b = t → u b ≤ u i := by
  induction j with
  | zero =>
    have hz : cnt (atI (minuteM u cm n t 0 out)) n t = 0 := by
      unfold cnt; rw [List.countP_eq_zero]; intro i hi; rw [decide_eq_true_eq]; exact h0 i (by simpa using hi)
    exact ⟨by omega, fun i hi _ => ⟨hz, fun b hb hbt => absurd hbt (h0 b hb)⟩⟩
  | succ j ih =>
    have hlj : (minuteM u cm n t j out).length = n := by rw [minuteM_len]; exact hl
    rw [minuteM]
    generalize minuteM u cm n t j out = o at *
    unfold stepM
    cases hp : pickN (inQ u cm o t) u n with
    | none =>
      simp only
      refine ⟨by omega, fun i hi hq => ?_⟩
      rw [pickN_none.1 hp i hi] at hq; cases hq
    | some b =>
      obtain ⟨p1, p2, p3⟩ := pickN_some hp
      simp only
      have hb0 : atI o b = 0 := by unfold inQ at p2; simp only [decide_eq_true_eq] at p2; exact p2.1
      have hcnt : cnt (atI (o.set b t)) n t = cnt (atI o) n t + 1 := by
        unfold cnt
        rw [← cntP_one p1 (p := fun i => decide (i = b)) (fun i _ => by simp)]
        refine countP_or (fun i _ => ?_)
        rw [atI_set _ _ _ (by omega)]
        by_cases e : i = b
        · subst e; simp [hb0, ht.symm]
        · simp [e]
      have hst := fun i => inQ_step ht hlj hp i
      refine ⟨by omega, fun i hi hq => ?_⟩
      rw [← hst i] at hq
      simp only [Bool.and_eq_true, Bool.not_eq_true', decide_eq_false_iff_not] at hq
      obtain ⟨c1, c2⟩ := ih.2 i hi hq.1
      refine ⟨by omega, fun b' hb' hbt => ?_⟩
      rw [atI_set _ _ _ (by omega)] at hbt
      by_cases e : b' = b
      · subst e
        rcases p3 i hi hq.1 with h | h <;> omega
      · rw [if_neg e] at hbt; exact c2 b' hb' hbt
theorem served_range {u : Nat → Int} {cm : List Int} {n mc : Nat} (t : Nat) (i : Nat) : 0 ≤ atI (servedT u cm n mc t) i ∧ atI (servedT u cm n mc t) i ≤ t := by
  induction t with
  | zero =>
    unfold atI servedT; rw [List.getD_eq_getElem?_getD]
    by_cases e : i < n
    · simp [e]
    · simp [e]
  | succ t ih =>
    rw [servedT]
    rcases minuteM_at (u := u) (cm := cm) (t := (t + 1 : Nat)) (servedT_len (mc := mc) t) i mc with e | ⟨_, _, e⟩
    · rw [e]; omega
    · rw [e]; omega
/-- what is behind a minute stays -/
theorem served_le {u : Nat → Int} {cm : List Int} {n mc : Nat} (t : Nat) (d : Nat) (i : Nat) : (atI (servedT u cm n mc (t + d)) i = atI (servedT u cm n mc t) i) ∨ (atI (servedT u cm n mc t) i = 0 ∧ (t : Int) < atI (servedT u cm n mc (t + d)) i) := by
  induction d with
  | zero => exact .inl rfl
  | succ d ih =>
    rw [← Nat.add_assoc, servedT]
    rcases minuteM_at (u := u) (cm := cm) (t := (t + d + 1 : Nat)) (servedT_len (mc := mc) (t + d)) i mc with e | ⟨e1, _, e⟩
    · rw [e]; exact ih
    · have h0 : atI (servedT u cm n mc (t + d)) i = 0 := by unfold inQ at e1; simp only [decide_eq_true_eq] at e1; exact e1.1
      rw [e]
      rcases ih with h | h
      · right; rw [← h]; exact ⟨h0, by omega⟩
      · omega
theorem served_iff {u : Nat → Int} {cm : List Int} {n mc : Nat} {t M : Nat} (h : t ≤ M) (i : Nat) (x : Int) (h1 : 1 ≤ x) (h2 : x ≤ t) : atI (servedT u cm n mc M) i = x ↔ atI (servedT u cm n mc t) i = x := by
  obtain ⟨d, rfl⟩ : ∃ d, M = t + d := ⟨M - t, by omega⟩
  rcases served_le (u := u) (cm := cm) (n := n) (mc := mc) t d i with e | ⟨e1, e2⟩
  · rw [e]
  · omega
theorem served_at {u : Nat → Int} {cm : List Int} {n mc M : Nat} (i : Nat) (h : atI (servedT u cm n mc M) i ≠ 0) :
    atI cm i ≤ atI (servedT u cm n mc M) i ∧ atI (servedT u cm n mc M) i ≤ u i := by
  induction M with
  | zero => exact absurd (by have := served_range (u := u) (cm := cm) (n := n) (mc := mc) 0 i; omega) h
  | succ t ih =>
    rw [servedT] at h ⊢
    rcases minuteM_at (u := u) (cm := cm) (t := (t + 1 : Nat)) (servedT_len (mc := mc) t) i mc with e | ⟨e1, _, e⟩
    · rw [e] at h ⊢; exact ih h
    · rw [e]; unfold inQ at e1; simp only [decide_eq_true_eq] at e1; omega
theorem served_full {u : Nat → Int} {cm : List Int} {n mc M : Nat} (t : Nat) (h1 : 1 ≤ t) (h2 : t ≤ M) :
    cnt (atI (servedT u cm n mc M)) n t ≤ mc ∧ ∀ i, i < n → atI cm i ≤ t → (t : Int) ≤ u i → (atI (servedT u cm n mc M) i = 0 ∨ (t : Int) < atI (servedT u cm n mc M) i) →
      cnt (atI (servedT u cm n mc M)) n t = mc ∧ ∀ b, b < n → atI (servedT u cm n mc M) b = t → u b ≤ u i := by
  obtain ⟨s, rfl⟩ : ∃ s, t = s + 1 := ⟨t - 1, by omega⟩
  have hf := minute_full (u := u) (cm := cm) (n := n) (t := (s + 1 : Nat)) (servedT_len (u := u) (cm := cm) (mc := mc) s) (by omega) (fun i _ => by have := served_range (u := u) (cm := cm) (n := n) (mc := mc) s i; omega) mc
  change cnt (atI (servedT u cm n mc (s + 1))) n (s + 1 : Nat) ≤ mc ∧ ∀ i, i < n → inQ u cm (servedT u cm n mc (s + 1)) (s + 1 : Nat) i = true → cnt (atI (servedT u cm n mc (s + 1))) n (s + 1 : Nat) = mc ∧ ∀ b, b < n → atI (servedT u cm n mc (s + 1)) b = (s + 1 : Nat) → u b ≤ u i at hf
  have hc : cnt (atI (servedT u cm n mc M)) n (s + 1 : Nat) = cnt (atI (servedT u cm n mc (s + 1))) n (s + 1 : Nat) := cntP_congr (fun i _ => by
    rw [Bool.eq_iff_iff, decide_eq_true_eq, decide_eq_true_eq, served_iff h2 i _ (by omega) (by omega)])
  rw [hc]
  refine ⟨hf.1, fun i hi g1 g2 g3 => ?_⟩
  obtain ⟨c1, c2⟩ := hf.2 i hi (by
    unfold inQ
    simp only [decide_eq_true_eq]
    refine ⟨?_, g1, by omega, g2⟩
    obtain ⟨d, rfl⟩ : ∃ d, M = s + 1 + d := ⟨M - (s + 1), by omega⟩
    rcases served_le (u := u) (cm := cm) (n := n) (mc := mc) (s + 1) d i with e | e
    · have := served_range (u := u) (cm := cm) (n := n) (mc := mc) (s + 1) i
      rcases g3 with g | g
      · rw [← e]; exact g
      · rw [e] at g; omega
    · exact e.1)
  exact ⟨c1, fun b hb hbt => c2 b hb ((served_iff h2 b _ (by omega) (by omega)).1 hbt)⟩
/-- THE LAW OF THE HALL: nobody is shut out just if no span has too many -/
theorem shut_iff {u : Nat → Int} {cm : List Int} {n mc M : Nat} (hc : ∀ i, i < n → 1 ≤ atI cm i) (hu : ∀ i, i < n → u i ≤ M) :
    shutN u cm (servedT u cm n mc M) n ((M : Int) + 1) = 0 ↔ ∀ s D : Int, 1 ≤ s → s ≤ D → D ≤ M → (fallG (atI cm) u n s D : Int) ≤ (D - s + 1) * mc := by
  have hz : shutN u cm (servedT u cm n mc M) n ((M : Int) + 1) = 0 ↔ ∀ i, i < n → atI cm i ≤ u i → atI (servedT u cm n mc M) i ≠ 0 := by
    unfold shutN
    rw [List.countP_eq_zero]
    constructor
    · intro h i hi hcu h0
      have := h i (by simpa using hi)
      simp only [decide_eq_true_eq] at this
      exact this ⟨hcu, h0, by have := hu i hi; omega⟩
    · intro h i hi
      simp only [decide_eq_true_eq]
      rintro ⟨a, b, _⟩
      exact h i (by simpa using hi) a b
  rw [hz]
  constructor
  · intro h s D h1 h2 h3
    refine hall_easy (F := atI (servedT u cm n mc M)) h2 h1 (fun i hi a _ _ => served_at i (h i hi a)) (fun t t1 t2 => ?_)
    obtain ⟨T, rfl⟩ : ∃ T : Nat, t = (T : Int) := ⟨t.toNat, by omega⟩
    exact (served_full T (by omega) (by omega)).1
  · intro h i hi hcu h0
    obtain ⟨s, D, h1, h2, h3, h4⟩ := hall_hard (F := atI (servedT u cm n mc M)) (c := atI cm) (mc := mc) hc hu (fun i _ h => served_at i h) (fun t i t1 t2 hi a b c => by
      obtain ⟨T, rfl⟩ : ∃ T : Nat, t = (T : Int) := ⟨t.toNat, by omega⟩
      exact (served_full T (by omega) (by omega)).2 i hi a b c) hi hcu h0
    have := h s D h1 h2 h3
    omega
theorem ceil_le {N d k : Int} (hd : 0 < d) : (N + d - 1) / d ≤ k ↔ N ≤ d * k := by
  have h : (N + d - 1) / d ≤ k ↔ (N + d - 1) / d < k + 1 := by omega
  rw [h, Int.ediv_lt_iff_lt_mul hd, Int.add_mul, Int.one_mul, Int.mul_comm k d]
  omega
theorem boundOf_le_iff {fr ti : Int} {ps : List P3} (h : fr ≤ ti) (k : Int) : boundOf fr ti ps ≤ k ↔ (fallsN fr ti ps : Int) ≤ (ti - fr + 1) * k := by
  unfold boundOf; exact ceil_le (by omega)
theorem fewIn_le_iff {ps : List P3} {fr k : Int} (j : Nat) (n : Int) : fewIn ps fr j n ≤ k ↔ n ≤ k ∧ ∀ i, i < j → boundOf fr (fr + (i : Nat)) ps ≤ k := by
  induction j with
  | zero => simp [fewIn]
  | succ j ih =>
    rw [fewIn, Int.max_le, ih]
    constructor
    · rintro ⟨⟨h1, h2⟩, h3⟩
      exact ⟨h1, fun i hi => by
        by_cases e : i = j
        · subst e; exact h3
        · exact h2 i (by omega)⟩
    · rintro ⟨h1, h2⟩
      exact ⟨⟨h1, fun i hi => h2 i (by omega)⟩, h2 j (by omega)⟩
theorem fewOut_le_iff {m : Int} {ps : List P3} {k : Int} (i : Nat) (hi : (i : Int) ≤ m) : fewOut m ps i ≤ k ↔ 0 ≤ k ∧ ∀ fr ti : Int, 1 ≤ fr → fr ≤ i → fr ≤ ti → ti ≤ m → boundOf fr ti ps ≤ k := by
  induction i with
  | zero =>
    rw [fewOut]
    exact ⟨fun h => ⟨h, fun fr ti h1 h2 => by omega⟩, fun h => h.1⟩
  | succ i ih =>
    rw [fewOut, fewIn_le_iff, ih (by omega)]
    constructor
    · rintro ⟨⟨h1, h2⟩, h3⟩
      refine ⟨h1, fun fr ti a b c d => ?_⟩
      by_cases e : fr ≤ i
      · exact h2 fr ti a e c d
      · have : fr = 1 + (i : Int) := by omega
        subst this
        have h4 := h3 (ti - (1 + i)).toNat (by omega)
        rwa [show 1 + (i : Int) + ((ti - (1 + i)).toNat : Nat) = ti by omega] at h4
    · rintro ⟨h1, h2⟩
      exact ⟨⟨h1, fun fr ti a b c d => h2 fr ti a (by omega) c d⟩, fun j hj => h2 _ _ (by omega) (by omega) (by omega) (by omega)⟩
theorem fewest_le_iff {m : Int} (hm : 0 ≤ m) {ps : List P3} {k : Int} : fewest m ps ≤ k ↔ 0 ≤ k ∧ ∀ fr ti : Int, 1 ≤ fr → fr ≤ ti → ti ≤ m → (fallsN fr ti ps : Int) ≤ (ti - fr + 1) * k := by
  unfold fewest
  rw [fewOut_le_iff _ (by omega)]
  constructor
  · rintro ⟨h1, h2⟩; exact ⟨h1, fun fr ti a b c => (boundOf_le_iff b k).1 (h2 fr ti a (by omega) b c)⟩
  · rintro ⟨h1, h2⟩; exact ⟨h1, fun fr ti a b c d => (boundOf_le_iff c k).2 (h2 fr ti a c d)⟩
theorem bound_fewest {m : Int} (hm : 0 ≤ m) {ps : List P3} {fr ti : Int} (h1 : 1 ≤ fr) (h2 : fr ≤ ti) (h3 : ti ≤ m) : boundOf fr ti ps ≤ fewest m ps :=
  (boundOf_le_iff h2 _).2 ((fewest_le_iff hm).1 (Int.le_refl _) |>.2 fr ti h1 h2 h3)
theorem lastOr_ok {p : P3} (h : 1 ≤ p.un) : lastOr p = if p.lo ≤ p.un then lastP p else p.lo := by
  unfold lastOr windowP
  by_cases e : p.un < p.lo
  · rw [if_pos e, if_pos rfl, if_neg (by omega)]
  · rw [if_neg e, if_neg (by simp only; omega), if_pos (by omega)]
theorem falls_lastOr {p : P3} (h : 1 ≤ p.un) (fr ti : Int) : fallsB fr ti p = decide (fr ≤ lastOr p ∧ p.un ≤ ti ∧ lastOr p ≤ p.un) := by
  rw [lastOr_ok h, Bool.eq_iff_iff]
  unfold fallsB canB
  simp only [Bool.and_eq_true, decide_eq_true_eq]
  by_cases e : p.lo ≤ p.un
  · rw [if_pos e]; unfold lastP; omega
  · rw [if_neg e]; omega
theorem length_filter_range (ps : List P3) (f : P3 → Bool) (g : Nat → Bool) (h : ∀ i (hi : i < ps.length), f ps[i] = g i) : (ps.filter f).length = (List.range ps.length).countP g := by
  rw [← List.countP_eq_length_filter]
  have : ps = (List.range ps.length).attach.map (fun i => ps[i.1]'(by simpa using i.2)) := by
    apply List.ext_getElem
    · simp
    · intro i h1 h2; simp
  conv => lhs; rw [this]
  rw [List.countP_map]
  have e : (f ∘ fun i : {x // x ∈ List.range ps.length} => ps[i.1]'(by simpa using i.2)) = g ∘ Subtype.val := by
    funext i; exact h i.1 (by simpa using i.2)
  rw [e, ← List.countP_map, List.attach_map_subtype_val]
theorem atI_map (ps : List P3) (f : P3 → Int) (i : Nat) (hi : i < ps.length) : atI (ps.map f) i = f ps[i] := by
  rw [atI_at (by simpa using hi)]; simp
theorem fallsN_eq {ps : List P3} (h : ∀ p, p ∈ ps → 1 ≤ p.un) {u : Nat → Int} (hu : ∀ i (hi : i < ps.length), u i = ps[i].un) (fr ti : Int) : fallsN fr ti ps = fallG (atI (ps.map lastOr)) u ps.length fr ti := by
  unfold fallsN fallG
  refine length_filter_range ps _ _ (fun i hi => ?_)
  rw [falls_lastOr (h _ (List.getElem_mem hi)), atI_map ps lastOr i hi, hu i hi]
/-- a hall: what the walk knows of it -/
structure Okay (m : Int) (ps : List P3) : Prop where
  m1 : 1 ≤ m
  m2 : m ≤ 60
  ok : ∀ p, p ∈ ps → 1 ≤ p.lo ∧ p.lo ≤ p.hi ∧ p.hi ≤ m ∧ 1 ≤ p.un ∧ p.un ≤ m
theorem okay_of {m : Int} {ps : List P3} (h : checkHall m ps = 0) : Okay m ps := let ⟨a, b, _, d⟩ := check_val h; ⟨a, b, d⟩
theorem Okay.last {m : Int} {ps : List P3} (h : Okay m ps) {p : P3} (hp : p ∈ ps) : 1 ≤ lastOr p ∧ lastOr p ≤ m := by
  obtain ⟨a, b, c, d, e⟩ := h.ok p hp
  rw [lastOr_ok d]
  unfold lastP
  split <;> omega
/-- THE LAW: nobody is shut out, if people come at their last minutes, just if there are machines enough -/
theorem shutS_iff {m : Int} {ps qs : List P3} {k : Int} (hk : 0 ≤ k) (h : Okay m qs) (hun : qs.map P3.un = ps.map P3.un) : shutS m ps k (qs.map lastOr) = 0 ↔ fewest m qs ≤ k := by
  obtain ⟨M, rfl⟩ : ∃ M : Nat, m = (M : Int) := ⟨m.toNat, by have := h.m1; omega⟩
  obtain ⟨K, rfl⟩ : ∃ K : Nat, k = (K : Int) := ⟨k.toNat, by omega⟩
  have hlen : qs.length = ps.length := by have := congrArg List.length hun; simpa using this
  have hu : ∀ i (hi : i < qs.length), untN ps i = qs[i].un := fun i hi => by
    unfold untN; rw [← hun]; simp [List.getD_eq_getElem?_getD, hi]
  unfold shutS outS
  rw [Int.toNat_natCast, Int.toNat_natCast, ← hlen, shut_iff (fun i hi => by rw [atI_map qs lastOr i hi]; exact (h.last (List.getElem_mem hi)).1) (fun i hi => by rw [hu i hi]; exact (h.ok _ (List.getElem_mem hi)).2.2.2.2),
    fewest_le_iff (by omega)]
  have e := fun s D => fallsN_eq (fun p hp => (h.ok p hp).2.2.2.1) hu s D
  constructor
  · intro g; exact ⟨by omega, fun fr ti a b c => by rw [e]; exact g fr ti a b c⟩
  · rintro ⟨_, g⟩ s D a b c; rw [← e]; exact g s D a b c
theorem shutS_fewest {m : Int} {ps : List P3} {k : Int} (hk : 0 ≤ k) (h : Okay m ps) : shutS m ps k (ps.map lastOr) = 0 ↔ fewest m ps ≤ k := shutS_iff hk h rfl
/-- as many machines as the program finds are the fewest -/
theorem fewP_eq {m : Int} {ps qs : List P3} (h : Okay m qs) (hun : qs.map P3.un = ps.map P3.un) (hl : qs.length ≤ 30) : fewP m ps (qs.map lastOr) = fewest m qs := by
  have hb := fewest_bd m qs
  unfold fewP
  have hf : ∀ k : Nat, decide (shutS m ps (k : Nat) (qs.map lastOr) = 0) = decide (fewest m qs ≤ (k : Int)) := fun k => by
    rw [Bool.eq_iff_iff, decide_eq_true_eq, decide_eq_true_eq]; exact shutS_iff (by omega) h hun
  simp only [hf]
  by_cases e : fewest m qs < 30
  · rw [range_hit (k := (fewest m qs).toNat) (by omega) (by
      rw [List.all_eq_true]; intro j hj; rw [List.mem_range] at hj
      simp only [Bool.not_eq_true', decide_eq_false_iff_not]; omega) (by simp only [decide_eq_true_eq]; omega)]
    omega
  · rw [range_none (by
      rw [List.all_eq_true]; intro j hj; rw [List.mem_range] at hj
      simp only [Bool.not_eq_true', decide_eq_false_iff_not]; omega)]
    omega
def inRb (q : Int × P3) : Bool := if canB q.2 = true then decide (lastP q.2 ≤ q.1 ∧ q.1 ≤ q.2.un) else decide (q.1 = 0)
/-- how often a number comes -/
def cntZ (ts : List Int) (t : Int) : Nat := (ts.filter (fun x => decide (x = t))).length
def fitR (m k : Int) (ts : List Int) : Bool := (List.range m.toNat).all (fun j => decide ((cntZ ts ((j : Int) + 1) : Int) ≤ k))
def planW (ps : List P3) (k : Int) (ts : List Int) : Int := if (ts.zip ps).all inW = true then (if fitB k ts = true then 0 else 23) else 16
def planR (m : Int) (ps : List P3) (k : Int) (ts : List Int) : Int := if (ts.zip ps).all inRb = true then (if fitR m k ts = true then 0 else 23) else 16
theorem inW_inRb {x : Int} {p : P3} (h : 1 ≤ p.un) : inW (x, p) = inRb (x, p) := by
  rw [Bool.eq_iff_iff, inW_iff]
  unfold inRb canB windowP
  by_cases e : p.un < p.lo
  · rw [if_pos e, if_neg (by simp only [decide_eq_true_eq]; omega), decide_eq_true_eq]; simp only; omega
  · rw [if_neg e, if_pos (by simp only [decide_eq_true_eq]; omega), decide_eq_true_eq]
theorem cntZ_range (ts : List Int) (t : Int) : cntZ ts t = cnt (atI ts) ts.length t := by
  unfold cntZ cnt
  rw [← List.countP_eq_length_filter]
  have : ts = (List.range ts.length).attach.map (fun i => ts[i.1]'(by simpa using i.2)) := by
    apply List.ext_getElem
    · simp
    · intro i h1 h2; simp
  conv => lhs; rw [this]
  rw [List.countP_map]
  have e : ((fun x => decide (x = t)) ∘ fun i : {x // x ∈ List.range ts.length} => ts[i.1]'(by simpa using i.2)) = (fun i => decide (atI ts i = t)) ∘ Subtype.val := by
    funext i; simp only [Function.comp_apply]; rw [atI_at (by simpa using i.2)]
  rw [e, ← List.countP_map, List.attach_map_subtype_val]
theorem cntZ_zero {ts : List Int} {t : Int} (h : ∀ x, x ∈ ts → x ≠ t) : cntZ ts t = 0 := by
  unfold cntZ
  rw [List.length_eq_zero_iff, List.filter_eq_nil_iff]
  intro x hx; simpa using h x hx
theorem zip_mem {ts : List Int} {ps : List P3} (hl : ts.length = ps.length) {x : Int} (hx : x ∈ ts) : ∃ p, p ∈ ps ∧ (x, p) ∈ ts.zip ps := by
  obtain ⟨i, hi, rfl⟩ := List.getElem_of_mem hx
  exact ⟨ps[i], List.getElem_mem _, by rw [List.mem_iff_getElem]; exact ⟨i, by simp; omega, by simp⟩⟩
theorem plan_eq {m : Int} {ps : List P3} {k : Int} {ts : List Int} (h : Okay m ps) (hk : 0 ≤ k) (hl : ts.length = ps.length) : planW ps k ts = planR m ps k ts := by
  have e1 : (ts.zip ps).all inW = (ts.zip ps).all inRb := by
    rw [Bool.eq_iff_iff, List.all_eq_true, List.all_eq_true]
    constructor
    · intro g q hq; rw [← inW_inRb (h.ok _ (List.of_mem_zip hq).2).2.2.2.1]; exact g q hq
    · intro g q hq; rw [inW_inRb (h.ok _ (List.of_mem_zip hq).2).2.2.2.1]; exact g q hq
  unfold planW planR
  rw [e1]
  by_cases ha : (ts.zip ps).all inRb = true
  · rw [if_pos ha, if_pos ha]
    have hb : ∀ x, x ∈ ts → x ≤ m := fun x hx => by
      obtain ⟨p, hp, hq⟩ := zip_mem hl hx
      have := (List.all_eq_true.1 ha) _ hq
      have h1 := h.ok p hp
      have h2 := h.m1
      unfold inRb at this
      simp only at this
      split at this <;> simp only [decide_eq_true_eq] at this <;> omega
    have : fitB k ts = fitR m k ts := by
      rw [Bool.eq_iff_iff]
      unfold fitB fitR
      rw [List.all_eq_true, List.all_eq_true]
      have h1 := h.m1
      have h2 := h.m2
      constructor
      · intro g j hj
        rw [List.mem_range] at hj
        have := g (j + 1) (List.mem_range.2 (by omega))
        rw [cntL_at _ _ (by omega)] at this
        rw [decide_eq_true_eq]; simpa [cntZ] using this
      · intro g j hj
        rw [List.mem_range] at hj
        rw [cntL_at _ _ hj]
        by_cases e : j = 0
        · simp [e]
        · by_cases e2 : (j : Int) ≤ m
          · have := g (j - 1) (List.mem_range.2 (by omega))
            rw [show ((j - 1 : Nat) : Int) + 1 = (j : Int) by omega] at this
            simp only [Bool.or_eq_true, decide_eq_true_eq] at this ⊢
            exact .inr this
          · have : cntZ ts (j : Int) = 0 := cntZ_zero (fun x hx => by have := hb x hx; omega)
            unfold cntZ at this
            rw [this]
            simp [hk]
    rw [this]
  · rw [if_neg ha, if_neg ha]
theorem untN_is {ps : List P3} (i : Nat) (hi : i < ps.length) : untN ps i = ps[i].un := untN_at hi
theorem outS_cnt {m : Int} {ps : List P3} {k : Int} {cm : List Int} (hm : 0 ≤ m) (hk : 0 ≤ k) (t : Int) (h1 : 1 ≤ t) : (cntZ (outS m ps k cm) t : Int) ≤ k := by
  rw [cntZ_range, outS_len]
  by_cases e : t ≤ m
  · have := (served_full (u := untN ps) (cm := cm) (n := ps.length) (mc := k.toNat) (M := m.toNat) t.toNat (by omega) (by omega)).1
    rw [show ((t.toNat : Nat) : Int) = t by omega] at this
    unfold outS; omega
  · have : cnt (atI (outS m ps k cm)) ps.length t = 0 := by
      unfold cnt; rw [List.countP_eq_zero]
      intro i _
      have := served_range (u := untN ps) (cm := cm) (n := ps.length) (mc := k.toNat) m.toNat i
      rw [decide_eq_true_eq]; unfold outS; omega
    rw [this]; exact hk
theorem shut_zero {m : Int} {ps : List P3} {k : Int} {cm : List Int} (h : Okay m ps) (hz : shutS m ps k cm = 0) (i : Nat) (hi : i < ps.length) (hcu : atI cm i ≤ ps[i].un) : atI (outS m ps k cm) i ≠ 0 := by
  unfold shutS shutN at hz
  rw [List.countP_eq_zero] at hz
  intro h0
  have := hz i (by simpa using hi)
  rw [decide_eq_true_eq, untN_at hi] at this
  exact this ⟨hcu, h0, by have := (h.ok _ (List.getElem_mem hi)).2.2.2.2; omega⟩
theorem outS_at {m : Int} {ps : List P3} {k : Int} {cm : List Int} (i : Nat) (hi : i < ps.length) (h0 : atI (outS m ps k cm) i ≠ 0) : atI cm i ≤ atI (outS m ps k cm) i ∧ atI (outS m ps k cm) i ≤ ps[i].un := by
  have := served_at (u := untN ps) (cm := cm) (n := ps.length) (mc := k.toNat) (M := m.toNat) i h0
  rw [untN_at hi] at this
  exact this
/-- the plan that the program returns is one -/
theorem plan_served {m : Int} {ps : List P3} {k : Int} (h : Okay m ps) (hk : 0 ≤ k) (hz : shutS m ps k (ps.map lastOr) = 0) : planR m ps k (outS m ps k (ps.map lastOr)) = 0 := by
  have hm := h.m1
  unfold planR
  rw [if_pos, if_pos]
  · unfold fitR
    rw [List.all_eq_true]
    intro j _
    rw [decide_eq_true_eq]
    exact outS_cnt (by omega) hk _ (by omega)
  · rw [List.all_eq_true]
    intro q hq
    obtain ⟨i, hi, rfl⟩ := List.mem_iff_getElem.1 hq
    have hi2 : i < ps.length := by simp at hi; omega
    have hlo : i < (outS m ps k (ps.map lastOr)).length := by rw [outS_len]; exact hi2
    rw [List.getElem_zip]
    have ha := atI_at hlo
    rw [← ha]
    have hz1 := shut_zero h hz i hi2
    have hz2 := outS_at (m := m) (k := k) (cm := ps.map lastOr) i hi2
    rw [atI_map ps lastOr i hi2, lastOr_ok (h.ok _ (List.getElem_mem hi2)).2.2.2.1] at hz1 hz2
    generalize atI (outS m ps k (ps.map lastOr)) i = x at *
    unfold inRb canB
    simp only [decide_eq_true_eq]
    by_cases e : ps[i].lo ≤ ps[i].un
    · rw [if_pos e, decide_eq_true_eq]
      rw [if_pos e] at hz1 hz2
      exact hz2 (hz1 (by unfold lastP; omega))
    · rw [if_neg e, decide_eq_true_eq]
      rw [if_neg e] at hz2
      by_cases ex : x = 0
      · exact ex
      · have := hz2 ex; omega
/-- one span comes before another one -/
def lexB (x y : SpanV) : Prop := x.fr < y.fr ∨ (x.fr = y.fr ∧ x.ti < y.ti)
theorem mem_spans {m : Nat} (hm : m ≤ 60) (x : SpanV) : x ∈ spansL m ↔ x.ti ≤ m := by
  unfold spansL upS rowS
  simp only [List.mem_flatMap, List.mem_range, List.mem_map]
  have hx := x.ok
  constructor
  · rintro ⟨i, hi, e, he, rfl⟩
    rw [mkS_eq (by omega)]; simp only; omega
  · intro h
    refine ⟨(x.fr - 1).toNat, by omega, (x.ti - x.fr).toNat, by omega, ?_⟩
    rw [mkS_eq (by omega)]
    obtain ⟨a, b, c⟩ := x
    simp only [SpanV.mk.injEq] at *
    omega
theorem spans_sorted {m : Nat} (hm : m ≤ 60) : (spansL m).Pairwise lexB := by
  unfold spansL upS
  rw [List.pairwise_flatMap]
  constructor
  · intro i hi
    rw [List.mem_range] at hi
    unfold rowS
    rw [List.pairwise_map]
    refine List.Pairwise.imp_of_mem (fun {a b} ha hb h => ?_) (List.pairwise_lt_range (n := m - i))
    rw [List.mem_range] at ha hb
    rw [mkS_eq (by omega), mkS_eq (by omega)]
    exact Or.inr ⟨rfl, by simp only; omega⟩
  · refine List.Pairwise.imp_of_mem (fun {a b} ha hb h => ?_) (List.pairwise_lt_range (n := m))
    rw [List.mem_range] at ha hb
    unfold rowS
    intro x hx y hy
    simp only [List.mem_map, List.mem_range] at hx hy
    obtain ⟨e, he, rfl⟩ := hx
    obtain ⟨f, hf, rfl⟩ := hy
    rw [mkS_eq (by omega), mkS_eq (by omega)]
    left; simp only; omega
theorem best_inv (ps : List P3) (l : List SpanV) (hps : ∀ x, x ∈ l → 0 ≤ boundW x.fr x.ti ps) : ∀ k, k ≤ l.length →
    ((bestS ps (l.take k)).fr = 0 ∧ (bestS ps (l.take k)).ti = 0 ∧ (bestS ps (l.take k)).top = 0 ∧ ∀ x, x ∈ l.take k → boundW x.fr x.ti ps = 0) ∨
    (∃ l1 x l2, l.take k = l1 ++ x :: l2 ∧ bestS ps (l.take k) = ⟨x.fr, x.ti, boundW x.fr x.ti ps⟩ ∧ 0 < boundW x.fr x.ti ps ∧ (∀ y, y ∈ l1 → boundW y.fr y.ti ps < boundW x.fr x.ti ps) ∧ ∀ y, y ∈ l2 → boundW y.fr y.ti ps ≤ boundW x.fr x.ti ps) := by
  intro k
  induction k with
  | zero => intro _; left; simp [bestS]
  | succ k ih =>
    intro hk
    have hlt : k < l.length := by omega
    have h0 := hps _ (List.getElem_mem hlt)
    rw [take_snoc l k hlt, bestS_snoc]
    rcases ih (by omega) with ⟨h1, h2, h3, h4⟩ | ⟨l1, x, l2, e, hb, hp, g1, g2⟩
    · unfold bestStep
      rw [h3]
      by_cases hz : 0 < boundW l[k].fr l[k].ti ps
      · rw [if_pos hz]
        right
        exact ⟨l.take k, l[k], [], rfl, rfl, hz, fun y hy => by rw [h4 y hy]; exact hz, by simp⟩
      · rw [if_neg hz]
        left
        refine ⟨h1, h2, h3, fun x hx => ?_⟩
        rw [List.mem_append, List.mem_singleton] at hx
        rcases hx with hx | rfl
        · exact h4 x hx
        · omega
    · right
      rw [hb]
      unfold bestStep
      simp only
      by_cases hz : boundW x.fr x.ti ps < boundW l[k].fr l[k].ti ps
      · rw [if_pos hz]
        refine ⟨l.take k, l[k], [], rfl, rfl, by omega, fun y hy => ?_, by simp⟩
        rw [e, List.mem_append, List.mem_cons] at hy
        rcases hy with hy | rfl | hy
        · have := g1 y hy; omega
        · exact hz
        · have := g2 y hy; omega
      · rw [if_neg hz]
        refine ⟨l1, x, l2 ++ [l[k]], by rw [e]; simp, rfl, hp, g1, fun y hy => ?_⟩
        rw [List.mem_append, List.mem_singleton] at hy
        rcases hy with hy | rfl
        · exact g2 y hy
        · omega
/-- the first span with so great a bound -/
structure First (m n : Int) (ps : List P3) (fr ti : Int) : Prop where
  a1 : 1 ≤ fr
  a2 : fr ≤ ti
  a3 : ti ≤ m
  big : n ≤ boundOf fr ti ps
  pre : ∀ a b : Int, 1 ≤ a → a ≤ b → b ≤ m → (a < fr ∨ (a = fr ∧ b < ti)) → boundOf a b ps < n
theorem allok_of {m : Int} {ps : List P3} (h : checkHall m ps = 0) : ps.all (okP m) = true := by
  unfold checkHall at h
  split at h
  · cases h
  · split at h
    · cases h
    · split at h
      · assumption
      · cases h
theorem best_first {m : Int} {ps : List P3} (h : checkHall m ps = 0) :
    (fewest m ps = 0 ∧ (bestS ps (spansL m.toNat)).fr = 0 ∧ (bestS ps (spansL m.toNat)).ti = 0) ∨
    (0 < fewest m ps ∧ First m (fewest m ps) ps (bestS ps (spansL m.toNat)).fr (bestS ps (spansL m.toNat)).ti) := by
  obtain ⟨v1, v2, v3, v4⟩ := check_val h
  have hall := allok_of h
  obtain ⟨M, rfl⟩ : ∃ M : Nat, m = (M : Int) := ⟨m.toNat, by omega⟩
  rw [Int.toNat_natCast]
  have hM : M ≤ 60 := by omega
  have hbw := fun fr ti => boundW_eq M fr ti ps hall
  have hspan : ∀ a b : Int, (h1 : 1 ≤ a) → (h2 : a ≤ b) → (h3 : b ≤ M) → (⟨a, b, by omega⟩ : SpanV) ∈ spansL M := fun a b h1 h2 h3 => (mem_spans hM _).2 h3
  have hfb := fewest_bd M ps
  have := best_inv ps (spansL M) (fun x _ => by rw [hbw]; exact (boundOf_le _ _ _ x.ok.2.1).1) (spansL M).length (Nat.le_refl _)
  rw [List.take_length] at this
  rcases this with ⟨h1, h2, h3, h4⟩ | ⟨l1, x, l2, e, hb, hp, g1, g2⟩
  · left
    refine ⟨?_, h1, h2⟩
    have hz : ∀ a b : Int, 1 ≤ a → a ≤ b → b ≤ (M : Int) → boundOf a b ps ≤ 0 := fun a b p1 p2 p3 => by
      have h5 := h4 _ (hspan a b p1 p2 p3)
      rw [hbw] at h5
      exact Int.le_of_eq h5
    have h6 : fewest (M : Int) ps ≤ 0 := by
      rw [fewest_le_iff (by omega)]
      exact ⟨Int.le_refl _, fun fr ti a b c => (boundOf_le_iff b 0).1 (hz fr ti a b c)⟩
    omega
  · right
    rw [hb]
    simp only
    have hx := (mem_spans hM x).1 (by rw [e]; simp)
    have hz : ∀ a b : Int, 1 ≤ a → a ≤ b → b ≤ (M : Int) → boundOf a b ps ≤ boundW x.fr x.ti ps := fun fr ti a b c => by
      have hm := hspan fr ti a b c
      rw [e, List.mem_append, List.mem_cons] at hm
      rw [← hbw]
      rcases hm with hm | hm | hm
      · have h5 := g1 _ hm
        exact Int.le_of_lt h5
      · rw [← hm]; exact Int.le_refl _
      · have h5 := g2 _ hm
        exact h5
    have hle : fewest (M : Int) ps ≤ boundW x.fr x.ti ps := by
      rw [fewest_le_iff (by omega)]
      exact ⟨by omega, fun fr ti a b c => (boundOf_le_iff b _).1 (hz fr ti a b c)⟩
    have hge := bound_fewest (m := M) (ps := ps) (by omega) x.ok.1 x.ok.2.1 hx
    rw [← hbw] at hge
    refine ⟨by omega, x.ok.1, x.ok.2.1, hx, by rw [← hbw]; exact hle, fun a b p1 p2 p3 p4 => ?_⟩
    have hm := hspan a b p1 p2 p3
    have hs := spans_sorted hM
    rw [e] at hs hm
    rw [List.pairwise_append, List.pairwise_cons] at hs
    rw [List.mem_append, List.mem_cons] at hm
    have : fewest M ps = boundW x.fr x.ti ps := by omega
    rw [this, ← hbw]
    rcases hm with hm | hm | hm
    · have h5 := g1 _ hm
      exact h5
    · exfalso; rw [← hm] at p4; simp only at p4; omega
    · exfalso
      have := hs.2.1.1 _ hm
      unfold lexB at this
      simp only at this
      omega
theorem First.unique {m n : Int} {ps : List P3} {a b c d : Int} (h : First m n ps a b) (k : First m n ps c d) : a = c ∧ b = d := by
  rcases Int.lt_trichotomy a c with g | g | g
  · have := k.pre a b h.a1 h.a2 h.a3 (.inl g); have := h.big; omega
  · rcases Int.lt_trichotomy b d with g2 | g2 | g2
    · have := k.pre a b h.a1 h.a2 h.a3 (.inr ⟨g, g2⟩); have := h.big; omega
    · exact ⟨g, g2⟩
    · have := h.pre c d k.a1 k.a2 k.a3 (.inr ⟨g.symm, g2⟩); have := k.big; omega
  · have := h.pre c d k.a1 k.a2 k.a3 (.inl g); have := k.big; omega
/-! Late -/
theorem withP_len (ps : List P3) (j : Nat) (x : Int) : (withP ps j x).length = ps.length := by simp [withP]
theorem withP_at (ps : List P3) (j : Nat) (x : Int) (i : Nat) (hi : i < ps.length) : (withP ps j x)[i]'(by rw [withP_len]; exact hi) = if i = j then { ps[i] with lo := x, hi := x } else ps[i] := by
  unfold withP
  rw [List.getElem_modify]
  by_cases e : j = i
  · rw [if_pos e, if_pos e.symm]
  · rw [if_neg e, if_neg (fun h => e h.symm)]
theorem withP_un (ps : List P3) (j : Nat) (x : Int) : (withP ps j x).map P3.un = ps.map P3.un := by
  apply List.ext_getElem
  · simp [withP]
  · intro i h1 h2
    rw [List.getElem_map, List.getElem_map, withP_at _ _ _ _ (by simpa using h2)]
    split <;> rfl
theorem withP_last (ps : List P3) (j : Nat) (x : Int) (hj : j < ps.length) (h1 : 1 ≤ x) (h2 : x ≤ ps[j].un) : (withP ps j x).map lastOr = (ps.map lastOr).set j x := by
  apply List.ext_getElem
  · simp [withP]
  · intro i h3 h4
    have hi : i < ps.length := by simpa using h4
    rw [List.getElem_map, withP_at _ _ _ _ hi, List.getElem_set]
    by_cases e : i = j
    · subst e
      rw [if_pos rfl, if_pos rfl, lastOr_ok (by simp only; omega)]
      simp only [if_pos h2]
      unfold lastP
      simp only
      omega
    · rw [if_neg e, if_neg (fun h => e h.symm), List.getElem_map]
theorem withP_ok {m : Int} {ps : List P3} (h : Okay m ps) (j : Nat) (x : Int) (h1 : 1 ≤ x) (h2 : x ≤ m) : Okay m (withP ps j x) := by
  refine ⟨h.m1, h.m2, fun p hp => ?_⟩
  obtain ⟨i, hi, rfl⟩ := List.getElem_of_mem hp
  rw [withP_len] at hi
  have := h.ok _ (List.getElem_mem hi)
  rw [withP_at _ _ _ _ hi]
  split
  · simp only; omega
  · exact this
/-- how late somebody can come -/
structure LateSpec (m : Int) (ps : List P3) (k : Int) (j : Nat) (l0 un L : Int) : Prop where
  lo : l0 ≤ L
  hi : L ≤ un
  good : ∀ x, l0 < x → x ≤ L → fewest m (withP ps j x) ≤ k
  stop : L < un → k < fewest m (withP ps j (L + 1))
theorem find_getD {f : Nat → Bool} {D : Nat} : ((List.range D).find? f).getD D ≤ D ∧ (∀ d, d < ((List.range D).find? f).getD D → f d = false) ∧ (((List.range D).find? f).getD D < D → f (((List.range D).find? f).getD D) = true) := by
  cases h : (List.range D).find? f with
  | none =>
    rw [List.find?_eq_none] at h
    simp only [Option.getD_none]
    exact ⟨Nat.le_refl _, fun d hd => by simpa using h d (List.mem_range.2 hd), fun h => absurd h (Nat.lt_irrefl _)⟩
  | some d =>
    rw [List.find?_eq_some_iff_getElem] at h
    obtain ⟨h1, i, h2, h3, h4⟩ := h
    simp only [List.length_range] at h2
    rw [List.getElem_range] at h3
    subst h3
    simp only [Option.getD_some]
    exact ⟨by omega, fun d hd => by simpa using h4 d hd, fun _ => h1⟩
theorem late_spec {m : Int} {ps : List P3} {k : Int} {j : Nat} (hk : 0 ≤ k) (h : Okay m ps) (hj : j < ps.length) (hc : ps[j].lo ≤ ps[j].un) :
    LateSpec m ps k j (lastP ps[j]) ps[j].un (lastP ps[j] + (lateD m ps k j (lastP ps[j]) (ps[j].un - lastP ps[j]).toNat : Nat)) := by
  have ho := h.ok _ (List.getElem_mem hj)
  have hl : lastP ps[j] ≤ ps[j].un ∧ 1 ≤ lastP ps[j] := by unfold lastP; omega
  have hf := find_getD (f := fun d => decide (shutS m ps k ((ps.map lastOr).set j (lastP ps[j] + ((d + 1 : Nat) : Int))) ≠ 0)) (D := (ps[j].un - lastP ps[j]).toNat)
  change lateD m ps k j (lastP ps[j]) (ps[j].un - lastP ps[j]).toNat ≤ _ ∧ (∀ d, d < lateD m ps k j (lastP ps[j]) (ps[j].un - lastP ps[j]).toNat → _) ∧ (lateD m ps k j (lastP ps[j]) (ps[j].un - lastP ps[j]).toNat < _ → decide (shutS m ps k ((ps.map lastOr).set j (lastP ps[j] + ((lateD m ps k j (lastP ps[j]) (ps[j].un - lastP ps[j]).toNat + 1 : Nat) : Int))) ≠ 0) = true) at hf
  generalize lateD m ps k j (lastP ps[j]) (ps[j].un - lastP ps[j]).toNat = d at *
  obtain ⟨h1, h2, h3⟩ := hf
  have key : ∀ x, 1 ≤ x → x ≤ ps[j].un → (shutS m ps k ((ps.map lastOr).set j x) = 0 ↔ fewest m (withP ps j x) ≤ k) := fun x a b => by
    rw [← withP_last ps j x hj a b]
    exact shutS_iff hk (withP_ok h j x a (by omega)) (withP_un ps j x)
  refine ⟨by omega, by omega, fun x a b => ?_, fun a => ?_⟩
  · have := h2 (x - lastP ps[j] - 1).toNat (by omega)
    rw [decide_eq_false_iff_not, Decidable.not_not, show lastP ps[j] + (((x - lastP ps[j] - 1).toNat + 1 : Nat) : Int) = x by omega, key x (by omega) (by omega)] at this
    exact this
  · have := h3 (by omega)
    rw [decide_eq_true_eq, show lastP ps[j] + ((d + 1 : Nat) : Int) = lastP ps[j] + d + 1 by omega, ne_eq, key _ (by omega) (by omega)] at this
    omega
/-! Room -/
theorem falls_and (ps : List P3) (t : Int) (n : Nat) (fr ti : Int) : fallsN fr ti (andP ps t n) = fallsN fr ti ps + if fr ≤ t ∧ t ≤ ti then n else 0 := by
  unfold fallsN andP
  rw [List.filter_append, List.length_append]
  congr 1
  by_cases h : fr ≤ t ∧ t ≤ ti
  · rw [if_pos h, List.filter_replicate_of_pos (by simp [fallsB, canB, lastP]; omega), List.length_replicate]
  · rw [if_neg h, List.filter_replicate_of_neg (by simp [fallsB, canB, lastP]; omega)]; rfl
def leftW (k : Int) (ps : List P3) (x : SpanV) : Int := k * (x.ti - x.fr + 1) - fallsWN x.fr x.ti ps
def roomStep (k t : Int) (ps : List P3) (r : Int) (x : SpanV) : Int := if x.fr ≤ t ∧ t ≤ x.ti then min r (leftW k ps x) else r
def roomV (k t : Int) (ps : List P3) (l : List SpanV) : Int := l.foldl (roomStep k t ps) k
theorem roomV_snoc (k t : Int) (ps : List P3) (l : List SpanV) (x : SpanV) : roomV k t ps (l ++ [x]) = roomStep k t ps (roomV k t ps l) x := by simp [roomV]
theorem room_fold (k t : Int) (ps : List P3) (l : List SpanV) : ∀ (r n : Int), n ≤ l.foldl (roomStep k t ps) r ↔ n ≤ r ∧ ∀ x, x ∈ l → x.fr ≤ t → t ≤ x.ti → n ≤ leftW k ps x := by
  induction l with
  | nil => simp
  | cons x l ih =>
    intro r n
    rw [List.foldl_cons, ih]
    unfold roomStep
    constructor
    · rintro ⟨h1, h2⟩
      by_cases h : x.fr ≤ t ∧ t ≤ x.ti
      · rw [if_pos h] at h1
        refine ⟨by omega, fun y hy a b => ?_⟩
        rcases List.mem_cons.1 hy with rfl | hy
        · omega
        · exact h2 y hy a b
      · rw [if_neg h] at h1
        refine ⟨h1, fun y hy a b => ?_⟩
        rcases List.mem_cons.1 hy with rfl | hy
        · exact absurd ⟨a, b⟩ h
        · exact h2 y hy a b
    · rintro ⟨h1, h2⟩
      refine ⟨?_, fun y hy => h2 y (List.mem_cons_of_mem _ hy)⟩
      by_cases h : x.fr ≤ t ∧ t ≤ x.ti
      · rw [if_pos h]; have := h2 x (by simp) h.1 h.2; omega
      · rw [if_neg h]; exact h1
/-- how many more there is room for -/
structure RoomSpec (m : Int) (ps : List P3) (k t r : Int) : Prop where
  lo : 0 ≤ r
  hi : r ≤ k
  iff : ∀ n : Nat, (n : Int) ≤ k → (fewest m (andP ps t n) ≤ k ↔ (n : Int) ≤ r)
theorem left_fewest {m : Int} {ps : List P3} {k : Int} (h : checkHall m ps = 0) (hk : 0 ≤ k) : fewest m ps ≤ k ↔ ∀ x, x ∈ spansL m.toNat → 0 ≤ leftW k ps x := by
  obtain ⟨v1, v2, v3, v4⟩ := check_val h
  rw [fewest_le_iff (by omega)]
  have hw := fun fr ti => fallsW_eq m fr ti ps (allok_of h)
  constructor
  · rintro ⟨_, g⟩ x hx
    have := g x.fr x.ti x.ok.1 x.ok.2.1 (by have := (mem_spans (m := m.toNat) (by omega) x).1 hx; omega)
    unfold leftW; rw [hw, Int.mul_comm]; omega
  · intro g
    refine ⟨hk, fun fr ti a b c => ?_⟩
    have := g ⟨fr, ti, by omega⟩ ((mem_spans (m := m.toNat) (by omega) _).2 (by simp only; omega))
    unfold leftW at this; rw [hw, Int.mul_comm] at this; simp only at this; omega
theorem room_spec {m : Int} {ps : List P3} {k t : Int} (h : checkHall m ps = 0) (hk : 0 ≤ k) (ht : 1 ≤ t) (ht2 : t ≤ m) (hf : fewest m ps ≤ k) : RoomSpec m ps k t (roomV k t ps (spansL m.toNat)) := by
  obtain ⟨v1, v2, v3, v4⟩ := check_val h
  have hl := (left_fewest h hk).1 hf
  have hw := fun fr ti => fallsW_eq m fr ti ps (allok_of h)
  refine ⟨?_, ?_, fun n hn => ?_⟩
  · exact (room_fold k t ps _ k 0).2 ⟨hk, fun x hx _ _ => hl x hx⟩
  · exact ((room_fold k t ps _ k _).1 (Int.le_refl _)).1
  · unfold roomV
    rw [room_fold, fewest_le_iff (by omega)]
    constructor
    · rintro ⟨_, g⟩
      refine ⟨hn, fun x hx a b => ?_⟩
      have := g x.fr x.ti x.ok.1 x.ok.2.1 (by have := (mem_spans (m := m.toNat) (by omega) x).1 hx; omega)
      rw [falls_and, if_pos ⟨a, b⟩] at this
      unfold leftW; rw [hw, Int.mul_comm]; omega
    · rintro ⟨_, g⟩
      refine ⟨hk, fun fr ti a b c => ?_⟩
      have hx := (mem_spans (m := m.toNat) (by omega) ⟨fr, ti, by omega⟩).2 (by simp only; omega)
      have h0 := hl _ hx
      rw [falls_and]
      unfold leftW at h0; rw [hw, Int.mul_comm] at h0; simp only at h0
      by_cases e : fr ≤ t ∧ t ≤ ti
      · have := g _ hx e.1 e.2
        unfold leftW at this; rw [hw, Int.mul_comm] at this; simp only at this
        rw [if_pos e]; omega
      · rw [if_neg e]; omega

end Go.Proofs.Ytbfhkknpocbeaaa
