/- Proved here: the plain law of tapes, part 1; the plain law of tapes, part 2; the plain law of tapes, part 3; the plain law of tapes, part 4; the plain law of tapes, part 5; the plain law of tapes, part 6; the plain law of tapes, part 7; the plain law of tapes, part 8; the plain law of tapes, part 9; the plain law of tapes, part 10, a part of the proofs about the tape laws. Conditions: those that each theorem names, no others. -/
set_option linter.unusedSimpArgs false
set_option linter.unusedVariables false
namespace Go.Proofs.Ytafncmgijbkomaa.Tm
/-- what is left of a tape behind an impulse of a window -/
def beh (c : Int) : List Int → List Int
  | [] => []
  | x :: r => if x = c then r else x :: r
def behs (c : Int) (ts : List (List Int)) : List (List Int) := ts.map (beh c)
def over (ts : List (List Int)) : Bool := ts.all List.isEmpty
def hasN (W : Nat) : Nat → List (List Int) → Bool
  | 0, ts => over ts
  | n + 1, ts => (List.range W).any (fun c => hasN W n (behs (c : Nat) ts))
inductive lessT : List (List Int) → List (List Int) → Prop
  | nil : lessT [] []
  | cons {t u : List Int} {ts us : List (List Int)} (h : t <:+ u) (k : lessT ts us) : lessT (t :: ts) (u :: us)
theorem beh_suffix (c : Int) (s : List Int) : beh c s <:+ s := by
  cases s with
  | nil => exact List.suffix_refl _
  | cons x r =>
    show (if x = c then r else x :: r) <:+ x :: r
    split
    · exact List.suffix_cons _ _
    · exact List.suffix_refl _
theorem beh_mono {c : Int} {t u : List Int} (h : t <:+ u) : beh c t <:+ beh c u := by
  obtain ⟨p, rfl⟩ := h
  cases p with
  | nil => exact List.suffix_refl _
  | cons x p =>
    refine (beh_suffix c t).trans ?_
    show t <:+ (if x = c then p ++ t else x :: (p ++ t))
    split
    · exact List.suffix_append _ _
    · exact (List.suffix_append _ _).trans (List.suffix_cons _ _)
theorem lessT_refl (ts : List (List Int)) : lessT ts ts := by
  induction ts with
  | nil => exact .nil
  | cons t ts ih => exact .cons (List.suffix_refl _) ih
theorem lessT_behs (c : Int) (ts : List (List Int)) : lessT (behs c ts) ts := by
  induction ts with
  | nil => exact .nil
  | cons t ts ih => exact .cons (beh_suffix _ _) ih
theorem lessT_mono {c : Int} {ts us : List (List Int)} (h : lessT ts us) : lessT (behs c ts) (behs c us) := by
  induction h with
  | nil => exact .nil
  | cons h1 _ ih => exact .cons (beh_mono h1) ih
theorem over_less {ts us : List (List Int)} (h : lessT ts us) (ho : over us = true) : over ts = true := by
  induction h with
  | nil => rfl
  | @cons t u ts us h1 _ ih =>
    simp only [over, List.all_cons, Bool.and_eq_true] at ho ⊢
    refine ⟨?_, ih ho.2⟩
    have : u = [] := by simpa using ho.1
    subst this
    have := List.suffix_nil.1 h1
    simp [this]
theorem hasN_less {W n : Nat} {ts us : List (List Int)} (h : lessT ts us) (hn : hasN W n us = true) : hasN W n ts = true := by
  induction n generalizing ts us with
  | zero => exact over_less h hn
  | succ n ih =>
    simp only [hasN, List.any_eq_true, List.mem_range] at hn ⊢
    obtain ⟨c, hc, h1⟩ := hn
    exact ⟨c, hc, ih (lessT_mono h) h1⟩
theorem hasN_step {W n : Nat} {ts : List (List Int)} {c : Nat} (hc : c < W) (h : hasN W n (behs c ts) = true) : hasN W (n + 1) ts = true := by
  simp only [hasN, List.any_eq_true, List.mem_range]; exact ⟨c, hc, h⟩
theorem hasN_succ {W n : Nat} {ts : List (List Int)} (hW : 0 < W) (h : hasN W n ts = true) : hasN W (n + 1) ts = true :=
  hasN_step hW (hasN_less (lessT_behs _ _) h)
theorem hasN_le {W n m : Nat} {ts : List (List Int)} (hW : 0 < W) (hm : n ≤ m) (h : hasN W n ts = true) : hasN W m ts = true := by
  induction hm with
  | refl => exact h
  | step _ ih => exact hasN_succ hW ih
def total (ts : List (List Int)) : Nat := (ts.map List.length).sum
def lettersOk (W : Nat) (ts : List (List Int)) : Prop := ∀ t, t ∈ ts → ∀ x, x ∈ t → 0 ≤ x ∧ x < (W : Int)
theorem ok_less {W : Nat} {ts us : List (List Int)} (h : lessT ts us) (hu : lettersOk W us) : lettersOk W ts := by
  induction h with
  | nil => exact hu
  | cons h1 _ ih =>
    intro t ht x hx
    rcases List.mem_cons.1 ht with rfl | ht
    · exact hu _ (by simp) x (h1.subset hx)
    · exact ih (fun t ht => hu t (by simp [ht])) t ht x hx
theorem ok_behs {W : Nat} {c : Int} {ts : List (List Int)} (h : lettersOk W ts) : lettersOk W (behs c ts) := ok_less (lessT_behs _ _) h
theorem total_less {ts us : List (List Int)} (h : lessT ts us) : total ts ≤ total us := by
  induction h with
  | nil => exact Nat.le_refl _
  | cons h1 _ ih =>
    have := h1.length_le
    simp only [total, List.map_cons, List.sum_cons] at ih ⊢; omega
theorem total_behs {c : Int} {ts : List (List Int)} (h : behs c ts ≠ ts) : total (behs c ts) < total ts := by
  induction ts with
  | nil => exact absurd rfl h
  | cons t ts ih =>
    have h2 := total_less (lessT_behs c ts)
    have h3 := (beh_suffix c t).length_le
    simp only [behs, List.map_cons, total, List.sum_cons] at h2 ⊢
    by_cases e : beh c t = t
    · have : behs c ts ≠ ts := fun e2 => h (by simp only [behs, List.map_cons, e] at e2 ⊢; rw [e2])
      have := ih this
      simp only [behs, total] at this
      omega
    · have : (beh c t).length < t.length := by
        rcases Nat.lt_or_ge (beh c t).length t.length with h4 | h4
        · exact h4
        · exact absurd ((beh_suffix c t).eq_of_length (by omega)) e
      omega
/-- who is not over has an impulse that comes next -/
theorem next_of {W : Nat} {ts : List (List Int)} (h : lettersOk W ts) (ho : over ts = false) : ∃ c : Nat, c < W ∧ behs c ts ≠ ts := by
  unfold over at ho
  rw [List.all_eq_false] at ho
  obtain ⟨t, ht, hne⟩ := ho
  match t, hne with
  | x :: r, _ =>
    have hx := h _ ht x (by simp)
    refine ⟨x.toNat, by omega, fun e => ?_⟩
    rw [show ((x.toNat : Nat) : Int) = x by omega] at e
    have h1 : ∀ t, t ∈ ts → beh x t = t := fun t ht => by
      obtain ⟨i, hi, rfl⟩ := List.mem_iff_getElem.1 ht
      have := congrArg (fun l => l[i]?) e
      simpa [behs, hi] using this
    have h2 : (if x = x then r else x :: r) = x :: r := h1 _ ht
    rw [if_pos rfl] at h2
    have := congrArg List.length h2
    simp at this
theorem hasN_total {W : Nat} (hW : 0 < W) {ts : List (List Int)} (h : lettersOk W ts) : hasN W (total ts) ts = true := by
  generalize hn : total ts = n
  induction n using Nat.strongRecOn generalizing ts with
  | ind n ih =>
    by_cases ho : over ts = true
    · exact hasN_le hW (Nat.zero_le _) (show hasN W 0 ts = true from ho)
    · obtain ⟨c, hc, hne⟩ := next_of h (by simpa using ho)
      have hlt := total_behs hne
      have := ih (total (behs c ts)) (by omega) (ok_behs h) rfl
      obtain ⟨m, rfl⟩ : ∃ m, n = m + 1 := ⟨n - 1, by omega⟩
      exact hasN_le hW (by omega) (hasN_step hc this)
/-- the fewest impulses -/
def fewN (W : Nat) (ts : List (List Int)) : Nat := ((List.range (total ts)).find? (fun n => hasN W n ts)).getD (total ts)
theorem fewN_spec {W : Nat} (hW : 0 < W) {ts : List (List Int)} (h : lettersOk W ts) (n : Nat) : hasN W n ts = true ↔ fewN W ts ≤ n := by
  have key : hasN W (fewN W ts) ts = true ∧ ∀ k, k < fewN W ts → hasN W k ts = false := by
    unfold fewN
    cases hf : (List.range (total ts)).find? (fun n => hasN W n ts) with
    | none =>
      rw [List.find?_eq_none] at hf
      refine ⟨hasN_total hW h, fun k hk => ?_⟩
      have := hf k (List.mem_range.2 hk)
      simpa using this
    | some m =>
      have h1 := List.find?_some hf
      refine ⟨h1, fun k hk => ?_⟩
      rw [List.find?_range_eq_some] at hf
      have := hf.2.2 k hk
      simpa using this
  constructor
  · intro hn
    rcases Nat.lt_or_ge n (fewN W ts) with h1 | h1
    · rw [key.2 n h1] at hn; cases hn
    · exact h1
  · intro hn; exact hasN_le hW hn key.1
theorem fewN_total {W : Nat} (hW : 0 < W) {ts : List (List Int)} (h : lettersOk W ts) : fewN W ts ≤ total ts := (fewN_spec hW h _).1 (hasN_total hW h)
theorem fewN_zero {W : Nat} (hW : 0 < W) {ts : List (List Int)} (h : lettersOk W ts) : fewN W ts = 0 ↔ over ts = true := by
  have := fewN_spec hW h 0
  rw [show hasN W 0 ts = over ts from rfl] at this
  rw [this]; omega
theorem fewN_next {W : Nat} (hW : 0 < W) {ts : List (List Int)} (h : lettersOk W ts) {c : Nat} (hc : c < W) : fewN W ts ≤ fewN W (behs c ts) + 1 :=
  (fewN_spec hW h _).1 (hasN_step hc ((fewN_spec hW (ok_behs h) _).2 (Nat.le_refl _)))
theorem fewN_some {W : Nat} (hW : 0 < W) {ts : List (List Int)} (h : lettersOk W ts) (ho : over ts = false) : ∃ c : Nat, c < W ∧ behs c ts ≠ ts ∧ fewN W ts = fewN W (behs c ts) + 1 := by
  have h0 : fewN W ts ≠ 0 := fun e => by rw [(fewN_zero hW h).1 e] at ho; cases ho
  obtain ⟨m, hm⟩ : ∃ m, fewN W ts = m + 1 := ⟨fewN W ts - 1, by omega⟩
  have h1 := (fewN_spec hW h (m + 1)).2 (by omega)
  simp only [hasN, List.any_eq_true, List.mem_range] at h1
  obtain ⟨c, hc, h2⟩ := h1
  have h3 := (fewN_spec hW (ok_behs h) m).1 h2
  have h4 := fewN_next hW h hc
  refine ⟨c, hc, fun e => ?_, by omega⟩
  rw [e] at h3; omega
/-- a night has the tapes -/
def hasS (night : List Int) (ts : List (List Int)) : Bool := over (night.foldl (fun t c => behs c t) ts)
theorem hasN_iff {W n : Nat} {ts : List (List Int)} : hasN W n ts = true ↔ ∃ s : List Int, s.length = n ∧ (∀ x, x ∈ s → 0 ≤ x ∧ x < (W : Int)) ∧ hasS s ts = true := by
  induction n generalizing ts with
  | zero =>
    constructor
    · intro h; exact ⟨[], rfl, by simp, h⟩
    · rintro ⟨s, hs, _, h⟩
      have : s = [] := List.eq_nil_of_length_eq_zero hs
      subst this; exact h
  | succ n ih =>
    simp only [hasN, List.any_eq_true, List.mem_range]
    constructor
    · rintro ⟨c, hc, h⟩
      obtain ⟨s, h1, h2, h3⟩ := ih.1 h
      refine ⟨(c : Int) :: s, by simp [h1], ?_, h3⟩
      intro x hx
      rcases List.mem_cons.1 hx with rfl | hx
      · omega
      · exact h2 x hx
    · rintro ⟨s, h1, h2, h3⟩
      match s, h1 with
      | x :: s, h1 =>
        have hx := h2 x (by simp)
        refine ⟨x.toNat, by omega, ih.2 ⟨s, by simpa using h1, fun y hy => h2 y (by simp [hy]), ?_⟩⟩
        rw [show ((x.toNat : Nat) : Int) = x by omega]; exact h3
theorem beh_hasS (night : List Int) (ts : List (List Int)) : night.foldl (fun t c => behs c t) ts = ts.map (fun s => night.foldl (fun t c => beh c t) s) := by
  induction night generalizing ts with
  | nil => simp
  | cons c night ih => rw [List.foldl_cons, ih]; simp [behs, List.map_map, Function.comp_def]
/-- a night has one tape -/
def hasT (night s : List Int) : Bool := (night.foldl (fun t c => beh c t) s).isEmpty
theorem hasS_all (night : List Int) (ts : List (List Int)) : hasS night ts = ts.all (hasT night) := by
  unfold hasS; rw [beh_hasS]; unfold over; rw [List.all_map]; rfl
theorem foldl_nil (night : List Int) : night.foldl (fun t c => beh c t) [] = [] := by
  induction night with
  | nil => rfl
  | cons c night ih => exact ih
/-! how many nights -/
def cntU (W : Nat) : Nat → List (List Int) → Nat
  | 0, ts => if over ts = true then 1 else 0
  | n + 1, ts => ((List.range W).map (fun c => cntU W n (behs (c : Nat) ts))).sum
def most : Nat := 1099511627777
def cntC (W : Nat) : Nat → List (List Int) → Nat
  | 0, ts => if over ts = true then 1 else 0
  | n + 1, ts => min ((List.range W).map (fun c => cntC W n (behs (c : Nat) ts))).sum most
theorem sum_cap {α : Type} (l : List α) (f g : α → Nat) (M : Nat) (h : ∀ x, x ∈ l → g x = min (f x) M) : min (l.map g).sum M = min (l.map f).sum M := by
  induction l with
  | nil => rfl
  | cons x l ih =>
    have h1 := h x (by simp)
    have h2 := ih (fun y hy => h y (by simp [hy]))
    simp only [List.map_cons, List.sum_cons]
    omega
theorem cntC_eq (W n : Nat) (ts : List (List Int)) : cntC W n ts = min (cntU W n ts) most := by
  induction n generalizing ts with
  | zero => unfold cntC cntU; split <;> decide
  | succ n ih =>
    unfold cntC cntU
    exact sum_cap _ _ _ _ (fun c _ => ih _)
theorem sum_pos {α : Type} (l : List α) (f : α → Nat) : 0 < (l.map f).sum ↔ ∃ x, x ∈ l ∧ 0 < f x := by
  induction l with
  | nil => simp
  | cons x l ih =>
    simp only [List.map_cons, List.sum_cons, List.mem_cons, exists_eq_or_imp]
    rw [← ih]; omega
theorem cntU_pos (W n : Nat) (ts : List (List Int)) : 0 < cntU W n ts ↔ hasN W n ts = true := by
  induction n generalizing ts with
  | zero => unfold cntU hasN; split <;> simp_all
  | succ n ih =>
    unfold cntU hasN
    rw [sum_pos]
    simp only [List.mem_range, List.any_eq_true]
    exact ⟨fun ⟨c, hc, h⟩ => ⟨c, hc, (ih _).1 h⟩, fun ⟨c, hc, h⟩ => ⟨c, hc, (ih _).2 h⟩⟩
theorem cntC_pos (W n : Nat) (ts : List (List Int)) : 0 < cntC W n ts ↔ hasN W n ts = true := by
  rw [cntC_eq, ← cntU_pos]; unfold most; omega
/-- the nights, in order -/
def nights (W : Nat) : Nat → List (List Int) → List (List Int)
  | 0, ts => if over ts = true then [[]] else []
  | n + 1, ts => (List.range W).flatMap (fun c => (nights W n (behs (c : Nat) ts)).map (fun s => ((c : Nat) : Int) :: s))
theorem nights_len (W n : Nat) (ts : List (List Int)) : (nights W n ts).length = cntU W n ts := by
  induction n generalizing ts with
  | zero => unfold nights cntU; split <;> rfl
  | succ n ih =>
    unfold nights cntU
    rw [List.length_flatMap]
    congr 1
    exact List.map_congr_left (fun c _ => by rw [List.length_map, ih])
theorem nights_mem {W n : Nat} {ts : List (List Int)} {s : List Int} : s ∈ nights W n ts ↔ s.length = n ∧ (∀ x, x ∈ s → 0 ≤ x ∧ x < (W : Int)) ∧ hasS s ts = true := by
  induction n generalizing ts s with
  | zero =>
    unfold nights
    constructor
    · intro h
      split at h
      · rename_i ho
        have : s = [] := by simpa using h
        subst this; exact ⟨rfl, by simp, ho⟩
      · simp at h
    · rintro ⟨h1, _, h3⟩
      have : s = [] := List.eq_nil_of_length_eq_zero h1
      subst this
      rw [if_pos (show over ts = true from h3)]; simp
  | succ n ih =>
    unfold nights
    simp only [List.mem_flatMap, List.mem_range, List.mem_map]
    constructor
    · rintro ⟨c, hc, t, ht, rfl⟩
      obtain ⟨h1, h2, h3⟩ := ih.1 ht
      refine ⟨by simp [h1], fun x hx => ?_, h3⟩
      rcases List.mem_cons.1 hx with rfl | hx
      · omega
      · exact h2 x hx
    · rintro ⟨h1, h2, h3⟩
      match s, h1 with
      | x :: s, h1 =>
        have hx := h2 x (by simp)
        refine ⟨x.toNat, by omega, s, ih.2 ⟨by simpa using h1, fun y hy => h2 y (by simp [hy]), ?_⟩, by rw [show ((x.toNat : Nat) : Int) = x by omega]⟩
        rw [show ((x.toNat : Nat) : Int) = x by omega]; exact h3
/-- nights in order: each before the next -/
def ltS : List Int → List Int → Bool
  | [], [] => false
  | [], _ :: _ => true
  | _ :: _, [] => false
  | x :: s, y :: t => decide (x < y) || (decide (x = y) && ltS s t)
theorem nights_sorted (W n : Nat) (ts : List (List Int)) : (nights W n ts).Pairwise (fun a b => ltS a b = true) := by
  induction n generalizing ts with
  | zero => unfold nights; split <;> simp
  | succ n ih =>
    unfold nights
    rw [List.pairwise_flatMap]
    refine ⟨fun c _ => ?_, ?_⟩
    · rw [List.pairwise_map]
      exact (ih _).imp (fun h => by simp [ltS, h])
    · refine List.pairwise_lt_range.imp (fun {a b} hab s hs t ht => ?_)
      obtain ⟨s', _, rfl⟩ := List.mem_map.1 hs
      obtain ⟨t', _, rfl⟩ := List.mem_map.1 ht
      simp only [ltS, Bool.or_eq_true, decide_eq_true_eq]
      left; omega
/-- the night before which so many others come -/
def nightA (W : Nat) : Nat → List (List Int) → Nat → List Int
  | 0, _, _ => []
  | n + 1, ts, i => goA (fun c => cntC W n (behs (c : Nat) ts)) (fun c j => nightA W n (behs (c : Nat) ts) j) 0 W i
where
  /-- the window with the i-th of what begins with it or a later one: c: the next window, k: how many are left -/
  goA (f : Nat → Nat) (g : Nat → Nat → List Int) (c : Nat) : Nat → Nat → List Int
    | 0, _ => []
    | k + 1, i => if i < f c then ((c : Nat) : Int) :: g c i else goA f g (c + 1) k (i - f c)
theorem goA_eq (f : Nat → Nat) (h : Nat → List (List Int)) (g : Nat → Nat → List Int) (M : Nat) (hf : ∀ c, f c = min (h c).length M) (k c i : Nat) (hi : i < M) (hg : ∀ c j, j < (h c).length → j < M → (h c)[j]? = some (g c j)) (hl : i < (((List.range k).map (fun e => (h (c + e)).length)).sum)) :
    ((List.range k).flatMap (fun e => (h (c + e)).map (fun s => (((c + e : Nat)) : Int) :: s)))[i]? = some (nightA.goA f g c k i) := by
  induction k generalizing c i with
  | zero => simp at hl
  | succ k ih =>
    rw [List.range_succ_eq_map] at hl ⊢
    simp only [List.map_cons, List.map_map, List.sum_cons, List.flatMap_cons, List.flatMap_map, Nat.add_zero, Function.comp_def] at hl ⊢
    unfold nightA.goA
    by_cases h1 : i < (h c).length
    · rw [if_pos (by rw [hf]; omega), List.getElem?_append_left (by simpa using h1), List.getElem?_map, hg c i h1 hi]; rfl
    · rw [if_neg (by rw [hf]; omega), List.getElem?_append_right (by simpa using h1), List.length_map]
      have h2 := ih (c + 1) (i - (h c).length) (by omega) (by
        have e : (fun e => (h (c + 1 + e)).length) = (fun x => (h (c + Nat.succ x)).length) := funext (fun e => by rw [show c + 1 + e = c + Nat.succ e by omega])
        rw [e]
        omega)
      rw [show i - f c = i - (h c).length by rw [hf]; omega]
      rw [← h2]
      congr 2
      · funext e; rw [show c + e.succ = c + 1 + e by omega]
theorem nightA_eq (W n : Nat) (ts : List (List Int)) (i : Nat) (hi : i < (nights W n ts).length) (hM : i < most) : (nights W n ts)[i]? = some (nightA W n ts i) := by
  induction n generalizing ts i with
  | zero =>
    unfold nights at hi ⊢
    split at hi
    · rename_i ho
      rw [if_pos ho]
      have : i = 0 := by simpa using hi
      subst this; rfl
    · simp at hi
  | succ n ih =>
    have hl := hi
    rw [nights_len] at hl
    unfold cntU at hl
    unfold nights nightA
    have := goA_eq (fun c => cntC W n (behs (c : Nat) ts)) (fun c => nights W n (behs (c : Nat) ts)) (fun c j => nightA W n (behs (c : Nat) ts) j) most (fun c => by rw [cntC_eq, nights_len]) W 0 i hM (fun c j h1 h2 => ih _ j h1 h2) (by simpa [nights_len] using hl)
    simpa using this
end Go.Proofs.Ytafncmgijbkomaa.Tm
namespace Go.Proofs.Ytafncmgijbkomaa.Tm
/-! how many letters of a window -/
def manyS (w : Int) (s : List Int) : Nat := (s.filter (fun x => decide (x = w))).length
theorem manyS_cons (w x : Int) (s : List Int) : manyS w (x :: s) = manyS w s + if x = w then 1 else 0 := by
  unfold manyS; rw [List.filter_cons]; by_cases h : x = w <;> simp [h]
theorem manyS_le (w : Int) (s : List Int) : manyS w s ≤ s.length := List.length_filter_le _ _
/-- as the program reckons it -/
def pullsP (W : Nat) (w : Int) : Nat → List (List Int) → Int × Int
  | 0, _ => (0, 0)
  | n + 1, ts => (List.range W).foldl (fun (o : Int × Int) c =>
      if hasN W n (behs (c : Nat) ts) = true then
        let own := pullsP W w n (behs (c : Nat) ts)
        let d : Int := if ((c : Nat) : Int) = w then 1 else 0
        (min o.1 (own.1 + d), max o.2 (own.2 + d))
      else o) (20, -1)
/-- what is the least, and the greatest, of some -/
def Ends (l : List (List Int)) (w : Int) (r : Int × Int) : Prop :=
  (∃ s, s ∈ l ∧ (manyS w s : Int) = r.1) ∧ (∃ s, s ∈ l ∧ (manyS w s : Int) = r.2) ∧ ∀ s, s ∈ l → r.1 ≤ manyS w s ∧ (manyS w s : Int) ≤ r.2
theorem Ends.unique {l : List (List Int)} {w : Int} {r q : Int × Int} (h : Ends l w r) (k : Ends l w q) : r = q := by
  obtain ⟨⟨s1, m1, e1⟩, ⟨s2, m2, e2⟩, h3⟩ := h
  obtain ⟨⟨t1, n1, f1⟩, ⟨t2, n2, f2⟩, k3⟩ := k
  have a1 := h3 _ n1
  have a2 := h3 _ n2
  have b1 := k3 _ m1
  have b2 := k3 _ m2
  apply Prod.ext <;> omega
/-- a fold that joins what parts have -/
theorem fold_ends {W n : Nat} {w : Int} {ts : List (List Int)} (hn : n < 20) (cs : List Nat) (l0 : List (List Int)) (o : Int × Int)
    (h0 : (l0 = [] ∧ o = (20, -1)) ∨ Ends l0 w o)
    (ih : ∀ c, c ∈ cs → hasN W n (behs (c : Nat) ts) = true → Ends (nights W n (behs (c : Nat) ts)) w (pullsP W w n (behs (c : Nat) ts)) ∧ (pullsP W w n (behs (c : Nat) ts)).2 ≤ n ∧ 0 ≤ (pullsP W w n (behs (c : Nat) ts)).1) :
    let r := cs.foldl (fun (o : Int × Int) c =>
      if hasN W n (behs (c : Nat) ts) = true then
        let own := pullsP W w n (behs (c : Nat) ts)
        let d : Int := if ((c : Nat) : Int) = w then 1 else 0
        (min o.1 (own.1 + d), max o.2 (own.2 + d))
      else o) o
    let l := l0 ++ cs.flatMap (fun c => (nights W n (behs (c : Nat) ts)).map (fun s => ((c : Nat) : Int) :: s))
    (l = [] ∧ r = (20, -1)) ∨ Ends l w r := by
  induction cs generalizing l0 o with
  | nil => simpa using h0
  | cons c cs ihc =>
    simp only [List.foldl_cons, List.flatMap_cons]
    rw [← List.append_assoc]
    refine ihc _ _ ?_ (fun c hc => ih c (by simp [hc]))
    by_cases hh : hasN W n (behs (c : Nat) ts) = true
    · rw [if_pos hh]
      obtain ⟨⟨⟨s1, m1, e1⟩, ⟨s2, m2, e2⟩, h3⟩, hb, hb0⟩ := ih c (by simp) hh
      right
      have hs : ∀ s, (manyS w (((c : Nat) : Int) :: s) : Int) = manyS w s + (if ((c : Nat) : Int) = w then 1 else 0) := fun s => by
        rw [manyS_cons]; split <;> simp
      generalize (if ((c : Nat) : Int) = w then (1 : Int) else 0) = d at *
      generalize pullsP W w n (behs (c : Nat) ts) = own at *
      have hmem : ∀ s, s ∈ nights W n (behs (c : Nat) ts) → (((c : Nat) : Int) :: s) ∈ (nights W n (behs (c : Nat) ts)).map (fun s => ((c : Nat) : Int) :: s) := fun s hs => List.mem_map.2 ⟨s, hs, rfl⟩
      have hall : ∀ t, t ∈ (nights W n (behs (c : Nat) ts)).map (fun s => ((c : Nat) : Int) :: s) → own.1 + d ≤ manyS w t ∧ (manyS w t : Int) ≤ own.2 + d := fun t ht => by
        obtain ⟨s, hsm, rfl⟩ := List.mem_map.1 ht
        have := h3 s hsm
        rw [hs]; omega
      have g1 := hs s1
      have g2 := hs s2
      rcases h0 with ⟨rfl, rfl⟩ | ⟨⟨t1, n1, f1⟩, ⟨t2, n2, f2⟩, k3⟩
      · have hd : own.1 + d ≤ 20 ∧ -1 ≤ own.2 + d := by
          have a1 := hall _ (hmem s1 m1)
          have a2 := manyS_le w s1
          have a3 := (nights_mem.1 m1).1
          have a4 : (manyS w (((c : Nat) : Int) :: s1)) ≤ n + 1 := by have := manyS_le w (((c : Nat) : Int) :: s1); simp [a3] at this; exact this
          omega
        refine ⟨⟨_, List.mem_append_right _ (hmem s1 m1), ?_⟩, ⟨_, List.mem_append_right _ (hmem s2 m2), ?_⟩, fun t ht => ?_⟩
        · simp only; omega
        · simp only; omega
        · have := hall t (by simpa using ht)
          simp only; omega
      · refine ⟨?_, ?_, fun t ht => ?_⟩
        · by_cases hx : o.1 ≤ own.1 + d
          · exact ⟨t1, List.mem_append_left _ n1, by simp only; omega⟩
          · exact ⟨_, List.mem_append_right _ (hmem s1 m1), by simp only; omega⟩
        · by_cases hx : own.2 + d ≤ o.2
          · exact ⟨t2, List.mem_append_left _ n2, by simp only; omega⟩
          · exact ⟨_, List.mem_append_right _ (hmem s2 m2), by simp only; omega⟩
        · rcases List.mem_append.1 ht with ht | ht
          · have := k3 t ht; simp only; omega
          · have := hall t ht; simp only; omega
    · rw [if_neg hh]
      have : nights W n (behs (c : Nat) ts) = [] := by
        have h1 : ¬ 0 < cntU W n (behs (c : Nat) ts) := fun h => hh ((cntU_pos _ _ _).1 h)
        rw [← nights_len] at h1
        exact List.eq_nil_of_length_eq_zero (by omega)
      rw [this, List.map_nil, List.append_nil]
      exact h0
theorem pullsP_ends {W n : Nat} {w : Int} {ts : List (List Int)} (hn : n ≤ 20) (h : hasN W n ts = true) :
    Ends (nights W n ts) w (pullsP W w n ts) ∧ (pullsP W w n ts).2 ≤ n ∧ 0 ≤ (pullsP W w n ts).1 := by
  have bound : ∀ {n ts}, Ends (nights W n ts) w (pullsP W w n ts) → (pullsP W w n ts).2 ≤ n ∧ 0 ≤ (pullsP W w n ts).1 := by
    rintro n ts ⟨⟨s1, m1, e1⟩, ⟨s2, m2, e2⟩, -⟩
    have := manyS_le w s2
    have := (nights_mem.1 m2).1
    omega
  have key : Ends (nights W n ts) w (pullsP W w n ts) := by
    induction n generalizing ts with
    | zero =>
      unfold nights pullsP
      rw [if_pos (show over ts = true from h)]
      exact ⟨⟨[], by simp, rfl⟩, ⟨[], by simp, rfl⟩, by simp [manyS]⟩
    | succ n ih =>
      have := fold_ends (W := W) (w := w) (ts := ts) (n := n) (by omega) (List.range W) [] (20, -1) (.inl ⟨rfl, rfl⟩) (fun c hc hh => ⟨ih (by omega) hh, bound (ih (by omega) hh)⟩)
      simp only [List.nil_append] at this
      rcases this with ⟨h1, _⟩ | h1
      · exfalso
        have h2 := (cntU_pos W (n + 1) ts).2 h
        rw [← nights_len] at h2
        unfold nights at h2
        rw [h1] at h2; simp at h2
      · exact h1
  exact ⟨key, bound key⟩
/-- as the reference reckons it -/
def pullsR (w : Int) (l : List (List Int)) : Int × Int := l.foldl (fun (o : Int × Int) s => (min o.1 (manyS w s), max o.2 (manyS w s))) (20, 0)
theorem pullsR_fold {w : Int} (l : List (List Int)) (l0 : List (List Int)) (o : Int × Int) (hl : ∀ s, s ∈ l → s.length ≤ 20) (h : (l0 = [] ∧ o = (20, 0)) ∨ Ends l0 w o) :
    let r := l.foldl (fun (o : Int × Int) s => (min o.1 (manyS w s), max o.2 (manyS w s))) o
    (l0 ++ l = [] ∧ r = (20, 0)) ∨ Ends (l0 ++ l) w r := by
  induction l generalizing l0 o with
  | nil => simpa using h
  | cons s l ih =>
    simp only [List.foldl_cons]
    rw [show l0 ++ s :: l = (l0 ++ [s]) ++ l by simp]
    refine ih _ _ (fun t ht => hl t (by simp [ht])) (.inr ?_)
    have h1 := manyS_le w s
    have h2 := hl s (by simp)
    rcases h with ⟨rfl, rfl⟩ | ⟨⟨t1, n1, f1⟩, ⟨t2, n2, f2⟩, k3⟩
    · refine ⟨⟨s, by simp, by simp only; omega⟩, ⟨s, by simp, by simp only; omega⟩, fun t ht => ?_⟩
      have : t = s := by simpa using ht
      subst this; simp only; omega
    · refine ⟨?_, ?_, fun t ht => ?_⟩
      · by_cases hx : o.1 ≤ manyS w s
        · exact ⟨t1, List.mem_append_left _ n1, by simp only; omega⟩
        · exact ⟨s, by simp, by simp only; omega⟩
      · by_cases hx : (manyS w s : Int) ≤ o.2
        · exact ⟨t2, List.mem_append_left _ n2, by simp only; omega⟩
        · exact ⟨s, by simp, by simp only; omega⟩
      · rcases List.mem_append.1 ht with ht | ht
        · have := k3 t ht; simp only; omega
        · have : t = s := by simpa using ht
          subst this; simp only; omega
theorem pulls_eq {W n : Nat} {w : Int} {ts : List (List Int)} (hn : n ≤ 20) (h : hasN W n ts = true) : pullsP W w n ts = pullsR w (nights W n ts) := by
  have h1 := (pullsP_ends (w := w) hn h).1
  have h2 := pullsR_fold (w := w) (nights W n ts) [] (20, 0) (fun s hs => by rw [(nights_mem.1 hs).1]; exact hn) (.inl ⟨rfl, rfl⟩)
  simp only [List.nil_append] at h2
  rcases h2 with ⟨h3, _⟩ | h3
  · have h2 := (cntU_pos W n ts).2 h
    rw [← nights_len, h3] at h2; simp at h2
  · exact h1.unique h3
end Go.Proofs.Ytafncmgijbkomaa.Tm
namespace Go.Proofs.Ytafncmgijbkomaa.Tm
/-! which impulse comes before which other one -/
def oneK (jo c : Int) (o : Nat) : Nat := if c = jo ∧ 0 < o then o - 1 else o
def twoK (jt c : Int) (t : Nat) : Nat := if c = jt then t - 1 else t
/-- how many more of the one are waited for: one, if both come at once -/
def oneZ (jo jt c : Int) (o t : Nat) : Nat := if oneK jo c o = 0 ∧ twoK jt c t = 0 ∧ 0 < o then 1 else oneK jo c o
def endsP (W : Nat) (jo jt : Int) : Nat → List (List Int) → Nat → Nat → Nat
  | 0, ts, o, t => if over ts = true then (if o = 0 ∧ t = 0 then 1 else 2) else 0
  | n + 1, ts, o, t => if hasN W (n + 1) ts = true then
      (if o = 0 ∧ t = 0 then 1 else if t = 0 ∨ n + 1 < o ∨ n + 1 < t then 2 else
        (List.range W).foldl (fun a c => a ||| endsP W jo jt n (behs (c : Nat) ts) (oneZ jo jt (c : Nat) o t) (twoK jt (c : Nat) t)) 0) else 0
def bf (jo jt : Int) : List Int → Nat → Nat → Bool
  | _, o, 0 => decide (o = 0)
  | [], _, _ + 1 => false
  | c :: s, o, t + 1 => bf jo jt s (oneZ jo jt c o (t + 1)) (twoK jt c (t + 1))
def bits (l : List (List Int)) (p : List Int → Bool) : Nat := (if l.any p = true then 1 else 0) ||| (if l.any (fun s => !p s) = true then 2 else 0)
theorem bits_append (l m : List (List Int)) (p : List Int → Bool) : bits (l ++ m) p = bits l p ||| bits m p := by
  unfold bits
  rw [List.any_append, List.any_append]
  cases l.any p <;> cases m.any p <;> cases l.any (fun s => !p s) <;> cases m.any (fun s => !p s) <;> rfl
theorem bits_map (l : List (List Int)) (f : List Int → List Int) (p : List Int → Bool) : bits (l.map f) p = bits l (fun s => p (f s)) := by
  unfold bits; rw [List.any_map, List.any_map]; rfl
theorem bits_congr {l : List (List Int)} {p q : List Int → Bool} (h : ∀ s, s ∈ l → p s = q s) : bits l p = bits l q := by
  unfold bits
  have h1 : l.any p = l.any q := by
    rw [Bool.eq_iff_iff, List.any_eq_true, List.any_eq_true]
    exact ⟨fun ⟨s, a, b⟩ => ⟨s, a, by rw [← h s a]; exact b⟩, fun ⟨s, a, b⟩ => ⟨s, a, by rw [h s a]; exact b⟩⟩
  have h2 : l.any (fun s => !p s) = l.any (fun s => !q s) := by
    rw [Bool.eq_iff_iff, List.any_eq_true, List.any_eq_true]
    exact ⟨fun ⟨s, a, b⟩ => ⟨s, a, by rw [← h s a]; exact b⟩, fun ⟨s, a, b⟩ => ⟨s, a, by rw [h s a]; exact b⟩⟩
  rw [h1, h2]
theorem bits_true {l : List (List Int)} {p : List Int → Bool} (hl : l ≠ []) (h : ∀ s, s ∈ l → p s = true) : bits l p = 1 := by
  rw [bits_congr (q := fun _ => true) h]
  match l, hl with
  | s :: l, _ => unfold bits; simp
theorem bits_false {l : List (List Int)} {p : List Int → Bool} (hl : l ≠ []) (h : ∀ s, s ∈ l → p s = false) : bits l p = 2 := by
  rw [bits_congr (q := fun _ => false) h]
  match l, hl with
  | s :: l, _ => unfold bits; simp
theorem bits_fold (g : Nat → List (List Int)) (p : List Int → Bool) (cs : List Nat) (a : Nat) (e : Nat → Nat) (he : ∀ c, c ∈ cs → e c = bits (g c) p) :
    cs.foldl (fun a c => a ||| e c) a = a ||| bits (cs.flatMap g) p := by
  induction cs generalizing a with
  | nil => simp [bits]
  | cons c cs ih =>
    rw [List.foldl_cons, ih _ (fun c hc => he c (by simp [hc])), he c (by simp), List.flatMap_cons, bits_append, Nat.or_assoc]
theorem bf_few {jo jt : Int} {s : List Int} {o t : Nat} (ht : 0 < t) (h : s.length < o ∨ s.length < t) : bf jo jt s o t = false := by
  induction s generalizing o t with
  | nil =>
    match t, ht with
    | t + 1, _ => rfl
  | cons c s ih =>
    match t, ht with
    | t + 1, _ =>
      unfold bf
      have h2 : t ≤ twoK jt c (t + 1) ∧ twoK jt c (t + 1) ≤ t + 1 := by unfold twoK; split <;> omega
      have h1 : 0 < o → o - 1 ≤ oneZ jo jt c o (t + 1) ∧ 0 < oneZ jo jt c o (t + 1) ∨ twoK jt c (t + 1) ≠ 0 ∧ o - 1 ≤ oneZ jo jt c o (t + 1) := by
        intro ho; unfold oneZ oneK; split <;> split <;> omega
      simp only [List.length_cons] at h
      by_cases hz : twoK jt c (t + 1) = 0
      · rw [hz]
        have : 0 < o := by omega
        have := h1 this
        unfold bf
        rw [decide_eq_false_iff_not]
        omega
      · refine ih (by omega) ?_
        rcases h with h | h
        · have := h1 (by omega)
          left; omega
        · right; omega
theorem endsP_eq {W : Nat} {jo jt : Int} {n : Nat} {ts : List (List Int)} {o t : Nat} : endsP W jo jt n ts o t = bits (nights W n ts) (fun s => bf jo jt s o t) := by
  induction n generalizing ts o t with
  | zero =>
    unfold endsP nights
    by_cases h : over ts = true
    · rw [if_pos h, if_pos h]
      cases t with
      | zero => by_cases ho : o = 0 <;> simp [bits, bf, ho]
      | succ t => simp [bits, bf]
    · rw [if_neg h, if_neg h]; simp [bits]
  | succ n ih =>
    have hne : hasN W (n + 1) ts = true ↔ nights W (n + 1) ts ≠ [] := by
      rw [← cntU_pos, ← nights_len]
      cases nights W (n + 1) ts <;> simp
    unfold endsP
    by_cases h : hasN W (n + 1) ts = true
    · rw [if_pos h]
      have hl := hne.1 h
      by_cases h1 : o = 0 ∧ t = 0
      · rw [if_pos h1, h1.1, h1.2]
        exact (bits_true hl (fun s _ => by unfold bf; rfl)).symm
      · rw [if_neg h1]
        by_cases h2 : t = 0 ∨ n + 1 < o ∨ n + 1 < t
        · rw [if_pos h2]
          refine (bits_false hl (fun s hs => ?_)).symm
          have hsl := (nights_mem.1 hs).1
          by_cases ht : t = 0
          · subst ht; unfold bf; rw [decide_eq_false_iff_not]; exact fun e => h1 ⟨e, rfl⟩
          · exact bf_few (by omega) (by omega)
        · rw [if_neg h2]
          rw [bits_fold (fun c => (nights W n (behs (c : Nat) ts)).map (fun s => ((c : Nat) : Int) :: s)) (fun s => bf jo jt s o t) (List.range W) 0 _ (fun c _ => by
            rw [ih, bits_map]
            refine bits_congr (fun s _ => ?_)
            match t, h2 with
            | 0, h2 => exact absurd (Or.inl rfl) h2
            | t + 1, _ => rfl), Nat.zero_or]
          rfl
    · rw [if_neg h]
      have : nights W (n + 1) ts = [] := Classical.byContradiction (fun e => h (hne.2 e))
      rw [this]; simp [bits]
/-- where an impulse stands -/
def atP (w : Int) : List Int → Nat → Int → Int
  | [], _, _ => -1
  | x :: s, k, i => if x = w then (if k = 1 then i else atP w s (k - 1) (i + 1)) else atP w s k (i + 1)
theorem atP_ge {w : Int} {s : List Int} {k : Nat} {i : Int} : atP w s k i = -1 ∨ i ≤ atP w s k i := by
  induction s generalizing k i with
  | nil => left; rfl
  | cons x s ih =>
    unfold atP
    split
    · split
      · right; omega
      · have := @ih (k - 1) (i + 1); omega
    · have := @ih k (i + 1); omega
theorem bf_zero {jo jt : Int} {s : List Int} {t : Nat} {i : Int} (ht : 0 < t) (hi : 0 ≤ i) : bf jo jt s 0 t = decide (0 ≤ atP jt s t i) := by
  induction s generalizing t i with
  | nil =>
    match t, ht with
    | t + 1, _ => simp [bf, atP]
  | cons c s ih =>
    match t, ht with
    | t + 1, _ =>
      unfold bf atP
      have h1 : oneZ jo jt c 0 (t + 1) = 0 := by unfold oneZ oneK; simp
      rw [h1]
      unfold twoK
      by_cases e : c = jt
      · rw [if_pos e, if_pos e]
        by_cases e2 : t + 1 = 1
        · have : t = 0 := by omega
          subst this
          rw [if_pos rfl]; unfold bf; simp [hi]
        · rw [if_neg e2]; exact ih (by omega) (by omega)
      · rw [if_neg e, if_neg e]; exact ih (by omega) (by omega)
theorem bf_before {jo jt : Int} {s : List Int} {o t : Nat} {i : Int} (ho : 0 < o) (ht : 0 < t) (hi : 0 ≤ i) : bf jo jt s o t = decide (0 ≤ atP jo s o i ∧ 0 ≤ atP jt s t i ∧ atP jo s o i < atP jt s t i) := by
  induction s generalizing o t i with
  | nil =>
    match t, ht with
    | t + 1, _ => simp [bf, atP]
  | cons c s ih =>
    match t, ht with
    | t + 1, _ =>
      unfold bf
      have g1 := @atP_ge jo s (o - 1) (i + 1)
      have g2 := @atP_ge jt s (t + 1 - 1) (i + 1)
      have g3 := @atP_ge jo s o (i + 1)
      have g4 := @atP_ge jt s (t + 1) (i + 1)
      by_cases e1 : c = jo <;> by_cases e2 : c = jt
      · have hk : oneK jo c o = o - 1 := by unfold oneK; rw [if_pos ⟨e1, ho⟩]
        have hk2 : twoK jt c (t + 1) = t := by unfold twoK; rw [if_pos e2]; omega
        unfold atP
        rw [if_pos e1, if_pos e2]
        unfold oneZ
        rw [hk, hk2]
        by_cases h1 : o = 1 <;> by_cases h2 : t + 1 = 1
        · have : t = 0 := by omega
          subst this; subst h1
          simp [bf]
        · subst h1
          rw [if_neg (by omega), if_pos rfl, if_neg h2]
          rw [show (1 : Nat) - 1 = 0 from rfl, bf_zero (i := i + 1) (by omega) (by omega)]
          rw [decide_eq_decide]
          simp only [Nat.add_sub_cancel] at g2 ⊢
          omega
        · have : t = 0 := by omega
          subst this
          rw [if_neg (by omega), if_neg h1, if_pos rfl]
          unfold bf
          rw [decide_eq_decide]; omega
        · rw [if_neg (by omega), if_neg h1, if_neg h2]
          rw [ih (i := i + 1) (by omega) (by omega) (by omega)]
          simp only [Nat.add_sub_cancel]
      · have hk : oneK jo c o = o - 1 := by unfold oneK; rw [if_pos ⟨e1, ho⟩]
        have hk2 : twoK jt c (t + 1) = t + 1 := by unfold twoK; rw [if_neg e2]
        unfold atP
        rw [if_pos e1, if_neg e2]
        unfold oneZ
        rw [hk, hk2, if_neg (by omega)]
        by_cases h1 : o = 1
        · subst h1
          rw [if_pos rfl, show (1 : Nat) - 1 = 0 from rfl, bf_zero (i := i + 1) (by omega) (by omega), decide_eq_decide]
          omega
        · rw [if_neg h1, ih (i := i + 1) (by omega) (by omega) (by omega)]
      · have hk : oneK jo c o = o := by unfold oneK; rw [if_neg (fun e => e1 e.1)]
        have hk2 : twoK jt c (t + 1) = t := by unfold twoK; rw [if_pos e2]; omega
        unfold atP
        rw [if_neg e1, if_pos e2]
        unfold oneZ
        rw [hk, hk2, if_neg (by omega)]
        by_cases h2 : t + 1 = 1
        · have : t = 0 := by omega
          subst this
          rw [if_pos rfl]
          unfold bf
          rw [decide_eq_decide]; omega
        · rw [if_neg h2, ih (i := i + 1) (by omega) (by omega) (by omega)]
          simp only [Nat.add_sub_cancel]
      · have hk : oneK jo c o = o := by unfold oneK; rw [if_neg (fun e => e1 e.1)]
        have hk2 : twoK jt c (t + 1) = t + 1 := by unfold twoK; rw [if_neg e2]
        unfold atP
        rw [if_neg e1, if_neg e2]
        unfold oneZ
        rw [hk, hk2, if_neg (by omega), ih (i := i + 1) (by omega) (by omega) (by omega)]
end Go.Proofs.Ytafncmgijbkomaa.Tm
namespace Go.Proofs.Ytafncmgijbkomaa.Tm
/-! places and their indexes; a place: for each tape how many of its impulses are over -/
def nextP (ts : List (List Int)) (p : List Nat) (c : Int) : List Nat := List.zipWith (fun s k => if s[k]? = some c then k + 1 else k) ts p
def remP (ts : List (List Int)) (p : List Nat) : List (List Int) := List.zipWith (fun s k => s.drop k) ts p
inductive IsPl : List (List Int) → List Nat → Prop
  | nil : IsPl [] []
  | cons {t : List Int} {k : Nat} {ts : List (List Int)} {p : List Nat} (h : k ≤ t.length) (r : IsPl ts p) : IsPl (t :: ts) (k :: p)
theorem drop_next (s : List Int) (k : Nat) (c : Int) : s.drop (if s[k]? = some c then k + 1 else k) = beh c (s.drop k) := by
  by_cases h : s[k]? = some c
  · rw [if_pos h]
    obtain ⟨hk, hc⟩ := List.getElem?_eq_some_iff.1 h
    rw [List.drop_eq_getElem_cons hk, hc]
    show _ = if c = c then s.drop (k + 1) else _
    rw [if_pos rfl]
  · rw [if_neg h]
    by_cases hk : k < s.length
    · rw [List.drop_eq_getElem_cons hk]
      show _ = if s[k] = c then s.drop (k + 1) else s[k] :: s.drop (k + 1)
      rw [if_neg (fun e => h (by rw [List.getElem?_eq_getElem hk, e]))]
    · rw [List.drop_eq_nil_of_le (by omega)]; rfl
theorem rem_next (ts : List (List Int)) (p : List Nat) (c : Int) : remP ts (nextP ts p c) = behs c (remP ts p) := by
  unfold remP nextP behs
  induction ts generalizing p with
  | nil => rfl
  | cons t ts ih =>
    cases p with
    | nil => rfl
    | cons k p => simp only [List.zipWith_cons_cons, List.map_cons, ih, drop_next]
theorem next_is {ts : List (List Int)} {p : List Nat} (h : IsPl ts p) (c : Int) : IsPl ts (nextP ts p c) := by
  induction h with
  | nil => exact .nil
  | @cons t k ts p h _ ih =>
    refine .cons ?_ ih
    show (if t[k]? = some c then k + 1 else k) ≤ t.length
    split
    · rename_i e; have := (List.getElem?_eq_some_iff.1 e).1; omega
    · exact h
def zeroP (ts : List (List Int)) : List Nat := ts.map (fun _ => 0)
def lastPl (ts : List (List Int)) : List Nat := ts.map List.length
theorem zero_is (ts : List (List Int)) : IsPl ts (zeroP ts) := by
  induction ts with
  | nil => exact .nil
  | cons t ts ih => exact .cons (Nat.zero_le _) ih
theorem last_is (ts : List (List Int)) : IsPl ts (lastPl ts) := by
  induction ts with
  | nil => exact .nil
  | cons t ts ih => exact .cons (Nat.le_refl _) ih
theorem rem_zero (ts : List (List Int)) : remP ts (zeroP ts) = ts := by
  unfold remP zeroP
  induction ts with
  | nil => rfl
  | cons t ts ih => simp only [List.map_cons, List.zipWith_cons_cons, List.drop_zero, ih]
theorem IsPl.len {ts : List (List Int)} {p : List Nat} (h : IsPl ts p) : p.length = ts.length := by
  induction h with
  | nil => rfl
  | cons _ _ ih => simp [ih]
theorem over_iff {ts : List (List Int)} {p : List Nat} (h : IsPl ts p) : over (remP ts p) = true ↔ p = lastPl ts := by
  induction h with
  | nil => simp [over, remP, lastPl]
  | @cons t k ts p h _ ih =>
    unfold over remP lastPl at ih ⊢
    simp only [List.zipWith_cons_cons, List.all_cons, Bool.and_eq_true, List.map_cons, List.cons.injEq, ih]
    refine and_congr ?_ Iff.rfl
    rw [List.isEmpty_iff, List.drop_eq_nil_iff]
    omega
theorem rem_inj {ts : List (List Int)} {p q : List Nat} (h : IsPl ts p) (k : IsPl ts q) (e : remP ts p = remP ts q) : p = q := by
  induction h generalizing q with
  | nil => cases k; rfl
  | @cons t a ts p h _ ih =>
    cases k with
    | @cons _ b _ q k r =>
      simp only [remP, List.zipWith_cons_cons, List.cons.injEq] at e
      have h1 := congrArg List.length e.1
      simp only [List.length_drop] at h1
      rw [ih r e.2, show a = b by omega]
/-- nothing comes next just if the place stays -/
theorem next_eq {ts : List (List Int)} {p : List Nat} (h : IsPl ts p) (c : Int) : nextP ts p c = p ↔ behs c (remP ts p) = remP ts p := by
  constructor
  · intro e; rw [← rem_next, e]
  · intro e; exact rem_inj (next_is h c) h (by rw [rem_next, e])
/-! indexes -/
def idxP : List (List Int) → List Nat → Nat → Nat
  | t :: ts, k :: p, n => idxP ts p (n * (t.length + 1) + k)
  | _, _, n => n
def manyP (ts : List (List Int)) : Nat := (ts.map (fun t => t.length + 1)).foldl (· * ·) 1
def prodP : List (List Int) → Nat
  | [] => 1
  | t :: ts => (t.length + 1) * prodP ts
theorem prod_pos (ts : List (List Int)) : 0 < prodP ts := by
  induction ts with
  | nil => decide
  | cons t ts ih => exact Nat.mul_pos (Nat.succ_pos _) ih
theorem idx_lin {ts : List (List Int)} {p : List Nat} (h : IsPl ts p) (n : Nat) : idxP ts p n = n * prodP ts + idxP ts p 0 ∧ idxP ts p 0 < prodP ts := by
  induction h generalizing n with
  | nil => exact ⟨by simp [idxP, prodP], by simp [idxP, prodP]⟩
  | @cons t k ts p h _ ih =>
    unfold idxP prodP
    have h1 := ih (n * (t.length + 1) + k)
    have h2 := ih (0 * (t.length + 1) + k)
    refine ⟨?_, ?_⟩
    · rw [h1.1, h2.1, Nat.zero_mul, Nat.zero_add, Nat.add_mul (n * (t.length + 1)) k (prodP ts), Nat.mul_assoc]; omega
    · rw [h2.1, Nat.zero_mul, Nat.zero_add]
      have : k * prodP ts ≤ t.length * prodP ts := Nat.mul_le_mul_right _ h
      rw [Nat.add_mul, Nat.one_mul]
      have := h2.2
      omega
theorem idx_cons {t : List Int} {k : Nat} {ts : List (List Int)} {p : List Nat} (h : IsPl ts p) : idxP (t :: ts) (k :: p) 0 = k * prodP ts + idxP ts p 0 := by
  show idxP ts p (0 * (t.length + 1) + k) = _
  rw [(idx_lin h _).1, Nat.zero_mul, Nat.zero_add]
theorem idx_inj {ts : List (List Int)} {p q : List Nat} (h : IsPl ts p) (k : IsPl ts q) (e : idxP ts p 0 = idxP ts q 0) : p = q := by
  induction h generalizing q with
  | nil => cases k; rfl
  | @cons t a ts p h r ih =>
    cases k with
    | @cons _ b _ q k s =>
      rw [idx_cons r, idx_cons s] at e
      have h1 := (idx_lin r 0).2
      have h2 := (idx_lin s 0).2
      have hab : a = b := by
        rcases Nat.lt_trichotomy a b with h3 | h3 | h3
        · have : (a + 1) * prodP ts ≤ b * prodP ts := Nat.mul_le_mul_right _ h3
          rw [Nat.add_mul] at this; omega
        · exact h3
        · have : (b + 1) * prodP ts ≤ a * prodP ts := Nat.mul_le_mul_right _ h3
          rw [Nat.add_mul] at this; omega
      subst hab
      rw [ih s (by omega)]
/-- a place that is further on has a greater index -/
theorem idx_next {ts : List (List Int)} {p : List Nat} (h : IsPl ts p) (c : Int) : idxP ts p 0 ≤ idxP ts (nextP ts p c) 0 := by
  induction h with
  | nil => exact Nat.le_refl _
  | @cons t k ts p h r ih =>
    have e : nextP (t :: ts) (k :: p) c = (if t[k]? = some c then k + 1 else k) :: nextP ts p c := rfl
    rw [e, idx_cons r, idx_cons (next_is r c)]
    have : k * prodP ts ≤ (if t[k]? = some c then k + 1 else k) * prodP ts := Nat.mul_le_mul_right _ (by split <;> omega)
    omega
theorem idx_next_lt {ts : List (List Int)} {p : List Nat} (h : IsPl ts p) {c : Int} (hn : nextP ts p c ≠ p) : idxP ts p 0 < idxP ts (nextP ts p c) 0 := by
  have h1 := idx_next h c
  rcases Nat.lt_or_ge (idxP ts p 0) (idxP ts (nextP ts p c) 0) with h2 | h2
  · exact h2
  · exact absurd (idx_inj (next_is h c) h (by omega)) hn
theorem idx_zero (ts : List (List Int)) : idxP ts (zeroP ts) 0 = 0 := by
  induction ts with
  | nil => rfl
  | cons t ts ih =>
    show idxP (t :: ts) (0 :: zeroP ts) 0 = 0
    rw [idx_cons (zero_is ts), ih]; simp
theorem idx_last (ts : List (List Int)) : idxP ts (lastPl ts) 0 + 1 = prodP ts := by
  induction ts with
  | nil => rfl
  | cons t ts ih =>
    show idxP (t :: ts) (t.length :: lastPl ts) 0 + 1 = _
    rw [idx_cons (last_is ts)]
    show _ = (t.length + 1) * prodP ts
    rw [Nat.add_mul, Nat.one_mul]; omega
/-- the place of an index -/
def placeP : List (List Int) → Nat → List Nat
  | [], _ => []
  | _ :: ts, n => n / prodP ts :: placeP ts (n % prodP ts)
theorem place_is {ts : List (List Int)} {n : Nat} (h : n < prodP ts) : IsPl ts (placeP ts n) ∧ idxP ts (placeP ts n) 0 = n := by
  induction ts generalizing n with
  | nil => unfold prodP at h; exact ⟨.nil, by unfold placeP idxP; omega⟩
  | cons t ts ih =>
    have hp := prod_pos ts
    have h1 := ih (Nat.mod_lt n hp)
    unfold prodP at h
    have h2 : n / prodP ts < t.length + 1 := Nat.div_lt_of_lt_mul (by rw [Nat.mul_comm]; exact h)
    refine ⟨.cons (by omega) h1.1, ?_⟩
    show idxP (t :: ts) (n / prodP ts :: placeP ts (n % prodP ts)) 0 = n
    rw [idx_cons h1.1, h1.2]
    exact Nat.div_add_mod' n (prodP ts)
theorem place_idx {ts : List (List Int)} {p : List Nat} (h : IsPl ts p) : placeP ts (idxP ts p 0) = p :=
  have h1 := place_is (ts := ts) (n := idxP ts p 0) (idx_lin h 0).2
  idx_inj h1.1 h h1.2
/-! the fewest, step by step -/
theorem fold_least {W : Nat} (hW : 0 < W) {ts : List (List Int)} (h : lettersOk W ts) (ho : over ts = false) (M : Nat) (hM : fewN W ts ≤ M) :
    (List.range W).foldl (fun (o : Nat) (c : Nat) => if behs (c : Nat) ts = ts then o else min o (fewN W (behs (c : Nat) ts) + 1)) M = fewN W ts := by
  have key : ∀ (cs : List Nat) (o : Nat), (∀ c, c ∈ cs → c < W) → fewN W ts ≤ o →
      let r := cs.foldl (fun (o : Nat) (c : Nat) => if behs (c : Nat) ts = ts then o else min o (fewN W (behs (c : Nat) ts) + 1)) o
      fewN W ts ≤ r ∧ r ≤ o ∧ ∀ c, c ∈ cs → behs (c : Nat) ts ≠ ts → r ≤ fewN W (behs (c : Nat) ts) + 1 := by
    intro cs
    induction cs with
    | nil => intro o _ ho; exact ⟨ho, Nat.le_refl _, by simp⟩
    | cons c cs ih =>
      intro o hc ho
      simp only [List.foldl_cons]
      have h1 := fewN_next hW h (hc c (by simp))
      by_cases e : behs (c : Nat) ts = ts
      · rw [if_pos e]
        obtain ⟨a, b, d⟩ := ih o (fun c hc2 => hc c (by simp [hc2])) ho
        refine ⟨a, b, fun c2 h2 hne => ?_⟩
        rcases List.mem_cons.1 h2 with rfl | h2
        · exact absurd e hne
        · exact d c2 h2 hne
      · rw [if_neg e]
        obtain ⟨a, b, d⟩ := ih (min o (fewN W (behs (c : Nat) ts) + 1)) (fun c hc2 => hc c (by simp [hc2])) (by omega)
        refine ⟨a, by omega, fun c2 h2 hne => ?_⟩
        rcases List.mem_cons.1 h2 with rfl | h2
        · omega
        · exact d c2 h2 hne
  obtain ⟨a, b, d⟩ := key (List.range W) M (fun c hc => List.mem_range.1 hc) hM
  obtain ⟨c, hc, hne, he⟩ := fewN_some hW h ho
  have := d c (List.mem_range.2 hc) hne
  omega
/-- the same with a mark for nothing yet -/
theorem fold_best {W : Nat} (hW : 0 < W) {ts : List (List Int)} (h : lettersOk W ts) (ho : over ts = false) :
    (List.range W).foldl (fun (o : Int) (c : Nat) => if behs (c : Nat) ts ≠ ts ∧ (o < 0 ∨ (fewN W (behs (c : Nat) ts) : Int) + 1 < o) then (fewN W (behs (c : Nat) ts) : Int) + 1 else o) (-1) = fewN W ts := by
  have key : ∀ (cs : List Nat) (o : Int), (∀ c, c ∈ cs → c < W) → (o = -1 ∨ (fewN W ts : Int) ≤ o) →
      let r := cs.foldl (fun (o : Int) (c : Nat) => if behs (c : Nat) ts ≠ ts ∧ (o < 0 ∨ (fewN W (behs (c : Nat) ts) : Int) + 1 < o) then (fewN W (behs (c : Nat) ts) : Int) + 1 else o) o
      (r = -1 ∧ o = -1 ∨ (fewN W ts : Int) ≤ r ∧ (o = -1 ∨ r ≤ o)) ∧ ∀ c, c ∈ cs → behs (c : Nat) ts ≠ ts → 0 ≤ r ∧ r ≤ (fewN W (behs (c : Nat) ts) : Int) + 1 := by
    intro cs
    induction cs with
    | nil => intro o _ ho; simp only [List.foldl_nil]; refine ⟨by omega, by simp⟩
    | cons c cs ih =>
      intro o hc ho
      simp only [List.foldl_cons]
      have h1 := fewN_next hW h (hc c (by simp))
      by_cases e : behs (c : Nat) ts ≠ ts ∧ (o < 0 ∨ (fewN W (behs (c : Nat) ts) : Int) + 1 < o)
      · rw [if_pos e]
        obtain ⟨a, d⟩ := ih ((fewN W (behs (c : Nat) ts) : Int) + 1) (fun c hc2 => hc c (by simp [hc2])) (by omega)
        refine ⟨by omega, fun c2 h2 hne => ?_⟩
        rcases List.mem_cons.1 h2 with rfl | h2
        · omega
        · exact d c2 h2 hne
      · rw [if_neg e]
        obtain ⟨a, d⟩ := ih o (fun c hc2 => hc c (by simp [hc2])) ho
        refine ⟨by omega, fun c2 h2 hne => ?_⟩
        rcases List.mem_cons.1 h2 with rfl | h2
        · have : ¬ (o < 0 ∨ (fewN W (behs (c2 : Nat) ts) : Int) + 1 < o) := fun g => e ⟨hne, g⟩
          omega
        · exact d c2 h2 hne
  obtain ⟨a, d⟩ := key (List.range W) (-1) (fun c hc => List.mem_range.1 hc) (.inl rfl)
  obtain ⟨c, hc, hne, he⟩ := fewN_some hW h ho
  have := d c (List.mem_range.2 hc) hne
  omega
/-! tables -/
def Right (W : Nat) (ts : List (List Int)) (t : Nat → Int) : Prop :=
  t (idxP ts (lastPl ts) 0) = 0 ∧ ∀ p, IsPl ts p → ∀ c : Nat, c < W → t (idxP ts p 0) ≤ t (idxP ts (nextP ts p (c : Nat)) 0) + 1
theorem right_le {W : Nat} {ts : List (List Int)} {t : Nat → Int} (ht : Right W ts t) {n : Nat} {p : List Nat} (hp : IsPl ts p) (hn : hasN W n (remP ts p) = true) : t (idxP ts p 0) ≤ n := by
  induction n generalizing p with
  | zero =>
    have : p = lastPl ts := (over_iff hp).1 hn
    rw [this, ht.1]; omega
  | succ n ih =>
    simp only [hasN, List.any_eq_true, List.mem_range] at hn
    obtain ⟨c, hc, h1⟩ := hn
    rw [← rem_next] at h1
    have := ih (next_is hp _) h1
    have := ht.2 p hp c hc
    omega
end Go.Proofs.Ytafncmgijbkomaa.Tm
namespace Go.Proofs.Ytafncmgijbkomaa.Tm
/-! the longest common string -/
def aft (c : Int) : List Int → Option (List Int)
  | [] => none
  | x :: r => if x = c then some r else aft c r
theorem hasT_nil (t : List Int) : hasT t [] = true := by unfold hasT; rw [foldl_nil]; rfl
theorem hasT_empty (s : List Int) : hasT [] s = s.isEmpty := rfl
theorem hasT_cons (x : Int) (t s : List Int) : hasT (x :: t) s = hasT t (beh x s) := rfl
theorem hasT_iff (t : List Int) (c : Int) (s : List Int) : hasT t (c :: s) = true ↔ ∃ r, aft c t = some r ∧ hasT r s = true := by
  induction t with
  | nil => simp [hasT_empty, aft]
  | cons x t ih =>
    rw [hasT_cons]
    have e : beh x (c :: s) = if c = x then s else c :: s := rfl
    rw [e]
    unfold aft
    by_cases h : c = x
    · subst h; rw [if_pos rfl, if_pos rfl]; simp
    · rw [if_neg h, if_neg (fun g => h g.symm)]; exact ih
theorem aft_mem {c : Int} {t r : List Int} (h : aft c t = some r) : c ∈ t ∧ ∀ x, x ∈ r → x ∈ t := by
  induction t with
  | nil => cases h
  | cons y t ih =>
    unfold aft at h
    by_cases e : y = c
    · rw [if_pos e] at h
      cases h
      exact ⟨by simp [e], fun x hx => by simp [hx]⟩
    · rw [if_neg e] at h
      obtain ⟨a, b⟩ := ih h
      exact ⟨by simp [a], fun x hx => by simp [b x hx]⟩
def IsC (s : List Int) (ts : List (List Int)) : Prop := ∀ t, t ∈ ts → hasT t s = true
def Best (s : List Int) (ts : List (List Int)) : Prop := IsC s ts ∧ ∀ u, IsC u ts → u.length < s.length ∨ (u.length = s.length ∧ ltS u s = false)
theorem ltS_total {s t : List Int} (h1 : ltS s t = false) (h2 : ltS t s = false) : s = t := by
  induction s generalizing t with
  | nil => cases t <;> simp [ltS] at h1 ⊢
  | cons x s ih =>
    cases t with
    | nil => simp [ltS] at h2
    | cons y t =>
      simp only [ltS, Bool.or_eq_false_iff, decide_eq_false_iff_not, Bool.and_eq_false_imp, decide_eq_true_eq] at h1 h2
      have e : x = y := by omega
      subst e
      rw [ih (h1.2 rfl) (h2.2 rfl)]
theorem ltS_irrefl (s : List Int) : ltS s s = false := by
  induction s with
  | nil => rfl
  | cons x s ih => simp [ltS, ih]
theorem Best.unique {s u : List Int} {ts : List (List Int)} (h : Best s ts) (k : Best u ts) : s = u := by
  have h1 := h.2 u k.1
  have h2 := k.2 s h.1
  refine ltS_total ?_ ?_
  · rcases h2 with h2 | h2
    · omega
    · exact h2.2
  · rcases h1 with h1 | h1
    · omega
    · exact h1.2
/-- what is left behind the next impulse of a window on each tape -/
def afts (c : Int) : List (List Int) → Option (List (List Int))
  | [] => some []
  | t :: ts => match aft c t, afts c ts with
    | some r, some rs => some (r :: rs)
    | _, _ => none
theorem afts_cons (c : Int) (t : List Int) (ts : List (List Int)) : afts c (t :: ts) = match aft c t, afts c ts with
    | some r, some rs => some (r :: rs)
    | _, _ => none := rfl
theorem isC_iff (c : Int) (s : List Int) (ts : List (List Int)) : IsC (c :: s) ts ↔ ∃ us, afts c ts = some us ∧ IsC s us := by
  induction ts with
  | nil => exact ⟨fun _ => ⟨[], rfl, fun t ht => by simp at ht⟩, fun _ t ht => by simp at ht⟩
  | cons t ts ih =>
    have e : IsC (c :: s) (t :: ts) ↔ hasT t (c :: s) = true ∧ IsC (c :: s) ts := by
      unfold IsC; simp
    rw [e, ih, hasT_iff, afts_cons]
    constructor
    · rintro ⟨⟨r, h1, h2⟩, us, h3, h4⟩
      rw [h1, h3]
      exact ⟨r :: us, rfl, fun t ht => by
        rcases List.mem_cons.1 ht with rfl | ht
        · exact h2
        · exact h4 t ht⟩
    · rintro ⟨us, h1, h2⟩
      cases ha : aft c t with
      | none => rw [ha] at h1; simp at h1
      | some r =>
        cases hb : afts c ts with
        | none => rw [ha, hb] at h1; simp at h1
        | some rs =>
          rw [ha, hb] at h1
          have : us = r :: rs := by simpa using h1.symm
          subst this
          exact ⟨⟨r, rfl, h2 r (by simp)⟩, rs, rfl, fun t ht => h2 t (by simp [ht])⟩
/-- as the program reckons it: b: the best of what each letter leaves -/
def comStep (ts : List (List Int)) (b : Nat → List Int) (o : List Int) (c : Nat) : List Int :=
  match afts (c : Nat) ts with
  | none => o
  | some _ => if o.length < (b c).length + 1 then ((c : Nat) : Int) :: b c else o
theorem com_best {W : Nat} {ts : List (List Int)} (hts : ts ≠ []) (h : lettersOk W ts) (b : Nat → List Int) (hb : ∀ c us, c < W → afts (c : Nat) ts = some us → Best (b c) us) :
    Best ((List.range W).foldl (comStep ts b) []) ts := by
  have key : ∀ k, k ≤ W → let o := (List.range k).foldl (comStep ts b) []
      IsC o ts ∧ (∀ x r, o = x :: r → 0 ≤ x ∧ x < (k : Int)) ∧ ∀ u, IsC u ts → (∀ x r, u = x :: r → x < (k : Int)) → u.length < o.length ∨ (u.length = o.length ∧ ltS u o = false) := by
    intro k
    induction k with
    | zero =>
      intro _
      refine ⟨fun t _ => hasT_nil t, by simp, fun u hu hx => ?_⟩
      cases u with
      | nil => right; exact ⟨rfl, rfl⟩
      | cons x r =>
        have h1 := hx x r rfl
        exfalso
        obtain ⟨t, ht⟩ := List.exists_mem_of_ne_nil ts hts
        obtain ⟨r', h2, _⟩ := (hasT_iff t x r).1 (hu t ht)
        have := h t ht x (aft_mem h2).1
        omega
    | succ k ih =>
      intro hk
      obtain ⟨i1, i2, i3⟩ := ih (by omega)
      rw [List.range_succ, List.foldl_append, List.foldl_cons, List.foldl_nil]
      generalize (List.range k).foldl (comStep ts b) [] = o at *
      unfold comStep
      cases ha : afts (k : Nat) ts with
      | none =>
        refine ⟨i1, fun x r e => by have := i2 x r e; omega, fun u hu hx => i3 u hu (fun x r e => ?_)⟩
        have h1 := hx x r e
        rcases Int.lt_or_le x k with h2 | h2
        · exact h2
        · have : x = (k : Int) := by omega
          subst this; subst e
          obtain ⟨us, h3, _⟩ := (isC_iff _ _ _).1 hu
          rw [ha] at h3; cases h3
      | some us =>
        have hB := hb k us (by omega) ha
        have hC : IsC (((k : Nat) : Int) :: b k) ts := (isC_iff _ _ _).2 ⟨us, ha, hB.1⟩
        have hcase : ∀ u, IsC u ts → (∀ x r, u = x :: r → x < ((k + 1 : Nat) : Int)) → (∀ x r, u = x :: r → x < (k : Int)) ∨ ∃ r, u = ((k : Nat) : Int) :: r ∧ (r.length < (b k).length ∨ (r.length = (b k).length ∧ ltS r (b k) = false)) := fun u hu hx => by
          cases u with
          | nil => left; intro x r e; cases e
          | cons x r =>
            have h1 := hx x r rfl
            rcases Int.lt_or_le x k with h2 | h2
            · left; intro y s e; cases e; exact h2
            · have : x = (k : Int) := by omega
              subst this
              obtain ⟨vs, h3, h4⟩ := (isC_iff _ _ _).1 hu
              rw [ha] at h3; cases h3
              exact .inr ⟨r, rfl, hB.2 r h4⟩
        show let o' := if o.length < (b k).length + 1 then ((k : Nat) : Int) :: b k else o
          IsC o' ts ∧ (∀ x r, o' = x :: r → 0 ≤ x ∧ x < ((k + 1 : Nat) : Int)) ∧ ∀ u, IsC u ts → (∀ x r, u = x :: r → x < ((k + 1 : Nat) : Int)) → u.length < o'.length ∨ (u.length = o'.length ∧ ltS u o' = false)
        by_cases hlt : o.length < (b k).length + 1
        · rw [if_pos hlt]
          refine ⟨hC, fun x r e => by cases e; omega, fun u hu hx => ?_⟩
          rcases hcase u hu hx with h1 | ⟨r, rfl, h2⟩
          · have := i3 u hu h1
            left; simp only [List.length_cons]; omega
          · simp only [List.length_cons, ltS]
            rcases h2 with h2 | ⟨h2, h3⟩
            · left; omega
            · right; exact ⟨by omega, by simp [h3]⟩
        · rw [if_neg hlt]
          refine ⟨i1, fun x r e => by have := i2 x r e; omega, fun u hu hx => ?_⟩
          rcases hcase u hu hx with h1 | ⟨r, rfl, h2⟩
          · exact i3 u hu h1
          · simp only [List.length_cons]
            by_cases hl : r.length + 1 < o.length
            · left; exact hl
            · right
              refine ⟨by omega, ?_⟩
              cases o with
              | nil => simp at hlt
              | cons y o =>
                have := i2 y o rfl
                simp only [ltS, Bool.or_eq_false_iff, decide_eq_false_iff_not, Bool.and_eq_false_imp, decide_eq_true_eq]
                exact ⟨by omega, fun e => by omega⟩
  obtain ⟨k1, _, k3⟩ := key W (Nat.le_refl _)
  refine ⟨k1, fun u hu => k3 u hu (fun x r e => ?_)⟩
  subst e
  obtain ⟨t, ht⟩ := List.exists_mem_of_ne_nil ts hts
  obtain ⟨r', h2, _⟩ := (hasT_iff t x r).1 (hu t ht)
  exact (h t ht x (aft_mem h2).1).2
/-- all strings that are left of a tape -/
def partsP : List Int → List (List Int)
  | [] => [[]]
  | x :: r => partsP r ++ (partsP r).map (fun s => x :: s)
theorem hasT_beh {t : List Int} {x : Int} {s : List Int} (h : hasT t s = true) : hasT t (beh x s) = true := by
  induction t generalizing s x with
  | nil =>
    rw [hasT_empty] at h ⊢
    have : s = [] := by simpa using h
    subst this; rfl
  | cons y t ih =>
    rw [hasT_cons] at h ⊢
    cases s with
    | nil => exact h
    | cons c s =>
      have e : ∀ z, beh z (c :: s) = if c = z then s else c :: s := fun _ => rfl
      rw [e] at h ⊢
      by_cases h1 : c = x
      · rw [if_pos h1]
        by_cases h2 : c = y
        · rw [if_pos h2] at h; exact ih h
        · rw [if_neg h2] at h
          have := ih (x := c) h
          rw [e, if_pos rfl] at this
          exact ih this
      · rw [if_neg h1, e]; exact h
theorem parts_mem (t s : List Int) : s ∈ partsP t ↔ hasT t s = true := by
  induction t generalizing s with
  | nil => unfold partsP; rw [hasT_empty]; simp
  | cons x t ih =>
    unfold partsP
    rw [List.mem_append, List.mem_map, hasT_cons]
    constructor
    · rintro (h | ⟨u, hu, rfl⟩)
      · exact hasT_beh ((ih s).1 h)
      · show hasT t (if x = x then u else x :: u) = true
        rw [if_pos rfl]; exact (ih u).1 hu
    · intro h
      cases s with
      | nil => left; exact (ih []).2 (hasT_nil t)
      | cons c s =>
        have e : beh x (c :: s) = if c = x then s else c :: s := rfl
        rw [e] at h
        by_cases h1 : c = x
        · rw [if_pos h1] at h; right; exact ⟨s, (ih s).2 h, by rw [h1]⟩
        · rw [if_neg h1] at h; left; exact (ih _).2 h
/-- as the reference reckons it -/
def refStep (all : List Int → Bool) (o s : List Int) : List Int := if all s = true ∧ (o.length < s.length ∨ (s.length = o.length ∧ ltS s o = true)) then s else o
theorem ltS_trans {a b c : List Int} (h1 : ltS a b = true) (h2 : ltS b c = true) : ltS a c = true := by
  induction a generalizing b c with
  | nil =>
    cases b with
    | nil => simp [ltS] at h1
    | cons y b => cases c <;> simp [ltS] at h2 ⊢
  | cons x a ih =>
    cases b with
    | nil => simp [ltS] at h1
    | cons y b =>
      cases c with
      | nil => simp [ltS] at h2
      | cons z c =>
        simp only [ltS, Bool.or_eq_true, decide_eq_true_eq, Bool.and_eq_true] at h1 h2 ⊢
        rcases h1 with h1 | ⟨rfl, h1⟩
        · rcases h2 with h2 | ⟨rfl, _⟩
          · left; omega
          · left; exact h1
        · rcases h2 with h2 | ⟨rfl, h2⟩
          · left; exact h2
          · right; exact ⟨rfl, ih h1 h2⟩
theorem ltS_not {a b c : List Int} (h1 : ltS a b = false) (h2 : ltS c b = true) : ltS a c = false := by
  cases h : ltS a c with
  | false => rfl
  | true => rw [ltS_trans h h2] at h1; cases h1
theorem ref_best {ts : List (List Int)} {t0 : List Int} (h0 : t0 ∈ ts) (all : List Int → Bool) (ha : ∀ s, all s = true ↔ IsC s ts) : Best ((partsP t0).foldl (refStep all) []) ts := by
  have key : ∀ (l : List (List Int)) (o : List Int), IsC o ts →
      let r := l.foldl (refStep all) o
      IsC r ts ∧ (o.length < r.length ∨ (o.length = r.length ∧ ltS o r = false)) ∧ ∀ u, u ∈ l → IsC u ts → u.length < r.length ∨ (u.length = r.length ∧ ltS u r = false) := by
    intro l
    induction l with
    | nil => intro o ho; exact ⟨ho, .inr ⟨rfl, ltS_irrefl _⟩, by simp⟩
    | cons s l ih =>
      intro o ho
      simp only [List.foldl_cons]
      by_cases e : all s = true ∧ (o.length < s.length ∨ (s.length = o.length ∧ ltS s o = true))
      · have e1 : refStep all o s = s := by unfold refStep; rw [if_pos e]
        rw [e1]
        obtain ⟨a, b, d⟩ := ih s ((ha s).1 e.1)
        refine ⟨a, ?_, fun u hu hc => ?_⟩
        · rcases e.2 with h1 | ⟨h1, h2⟩
          · left; rcases b with b | b <;> omega
          · rcases b with b | ⟨b, b2⟩
            · left; omega
            · right
              refine ⟨by omega, ?_⟩
              cases h : ltS o (l.foldl (refStep all) s) with
              | false => rfl
              | true => rw [ltS_trans h2 h] at b2; cases b2
        · rcases List.mem_cons.1 hu with rfl | hu
          · exact b
          · exact d u hu hc
      · have e1 : refStep all o s = o := by unfold refStep; rw [if_neg e]
        rw [e1]
        obtain ⟨a, b, d⟩ := ih o ho
        refine ⟨a, b, fun u hu hc => ?_⟩
        rcases List.mem_cons.1 hu with rfl | hu
        · have hall := (ha u).2 hc
          have h1 : ¬ (o.length < u.length ∨ (u.length = o.length ∧ ltS u o = true)) := fun g => e ⟨hall, g⟩
          rcases b with b | ⟨b, b2⟩
          · left; omega
          · by_cases hl : u.length = o.length
            · right
              refine ⟨by omega, ?_⟩
              have h2 : ltS u o = false := by
                cases h : ltS u o with
                | false => rfl
                | true => exact absurd (.inr ⟨hl, h⟩) h1
              -- not less than o, and o is not less than r: so u is not less than r
              cases h : ltS u (l.foldl (refStep all) o) with
              | false => rfl
              | true =>
                cases h3 : ltS (l.foldl (refStep all) o) o with
                | true => rw [ltS_trans h h3] at h2; cases h2
                | false =>
                  have := ltS_total b2 h3
                  rw [← this] at h; rw [h] at h2; cases h2
            · left; omega
        · exact d u hu hc
  obtain ⟨a, _, d⟩ := key (partsP t0) [] (fun t _ => hasT_nil t)
  exact ⟨a, fun u hu => d u ((parts_mem t0 u).2 (hu t0 h0)) hu⟩
end Go.Proofs.Ytafncmgijbkomaa.Tm
namespace Go.Proofs.Ytafncmgijbkomaa.Tm
theorem hasT_sub (t s : List Int) : hasT t s = true ↔ s.Sublist t := by
  induction t generalizing s with
  | nil => rw [hasT_empty, List.sublist_nil]; simp
  | cons x t ih =>
    rw [hasT_cons]
    cases s with
    | nil => rw [show beh x [] = [] from rfl, hasT_nil]; simp
    | cons c s =>
      have e : beh x (c :: s) = if c = x then s else c :: s := rfl
      rw [e]
      by_cases h : c = x
      · subst h; rw [if_pos rfl, ih, List.cons_sublist_cons]
      · rw [if_neg h, ih, List.sublist_cons_iff]
        constructor
        · intro g; exact .inl g
        · rintro (g | ⟨r, g, _⟩)
          · exact g
          · cases g; exact absurd rfl h
theorem hasS_sub (night : List Int) (ts : List (List Int)) : hasS night ts = true ↔ ∀ t, t ∈ ts → t.Sublist night := by
  rw [hasS_all, List.all_eq_true]
  exact ⟨fun h t ht => (hasT_sub _ _).1 (h t ht), fun h t ht => (hasT_sub _ _).2 (h t ht)⟩
theorem mem_nights {W n : Nat} {ts : List (List Int)} {s : List Int} : s ∈ nights W n ts ↔ s.length = n ∧ (∀ x, x ∈ s → 0 ≤ x ∧ x < (W : Int)) ∧ ∀ t, t ∈ ts → t.Sublist s := by
  rw [nights_mem, hasS_sub]
theorem isC_sub (s : List Int) (ts : List (List Int)) : IsC s ts ↔ ∀ t, t ∈ ts → s.Sublist t :=
  ⟨fun h t ht => (hasT_sub _ _).1 (h t ht), fun h t ht => (hasT_sub _ _).2 (h t ht)⟩
theorem nights_nodup (W n : Nat) (ts : List (List Int)) : (nights W n ts).Nodup :=
  (nights_sorted W n ts).imp (fun {a b} h e => by subst e; rw [ltS_irrefl] at h; cases h)
theorem hasN_mem {W n : Nat} {ts : List (List Int)} : hasN W n ts = true ↔ ∃ s, s ∈ nights W n ts := by
  rw [← cntU_pos, ← nights_len]
  cases nights W n ts with
  | nil => simp
  | cons a l => exact ⟨fun _ => ⟨a, by simp⟩, fun _ => by simp⟩
theorem nodup_map_inj {f : List Int → List Int} (hf : ∀ a b, f a = f b → a = b) {l : List (List Int)} (h : l.Nodup) : (l.map f).Nodup := by
  unfold List.Nodup at h ⊢
  rw [List.pairwise_map]
  exact h.imp (fun hne e => hne (hf _ _ e))
theorem cnt_inj {W n m : Nat} {ts us : List (List Int)} (f : List Int → List Int) (hf : ∀ a b, f a = f b → a = b) (h : ∀ s, s ∈ nights W n ts → f s ∈ nights W m us) : cntU W n ts ≤ cntU W m us := by
  rw [← nights_len, ← nights_len, ← List.length_map (f := f)]
  refine List.Nodup.length_le_of_subset (nodup_map_inj hf (nights_nodup _ _ _)) (fun x hx => ?_)
  obtain ⟨s, hs, rfl⟩ := List.mem_map.1 hx
  exact h s hs
/-! tapes that are turned -/
structure Turn (W : Nat) (f : List Int → List Int) : Prop where
  inv : ∀ s, f (f s) = s
  len : ∀ s, (f s).length = s.length
  ok : ∀ s, (∀ x, x ∈ s → 0 ≤ x ∧ x < (W : Int)) → ∀ x, x ∈ f s → 0 ≤ x ∧ x < (W : Int)
  sub : ∀ s t, t.Sublist s → (f t).Sublist (f s)
theorem Turn.inj {W : Nat} {f : List Int → List Int} (h : Turn W f) (a b : List Int) (e : f a = f b) : a = b := by rw [← h.inv a, e, h.inv]
theorem Turn.mem {W : Nat} {f : List Int → List Int} (h : Turn W f) {n : Nat} {ts : List (List Int)} {s : List Int} (hs : s ∈ nights W n ts) : f s ∈ nights W n (ts.map f) := by
  rw [mem_nights] at hs ⊢
  refine ⟨by rw [h.len]; exact hs.1, h.ok s hs.2.1, fun t ht => ?_⟩
  obtain ⟨u, hu, rfl⟩ := List.mem_map.1 ht
  exact h.sub _ _ (hs.2.2 u hu)
theorem Turn.twice {W : Nat} {f : List Int → List Int} (h : Turn W f) (ts : List (List Int)) : (ts.map f).map f = ts := by
  rw [List.map_map]
  conv => rhs; rw [← List.map_id ts]
  exact List.map_congr_left (fun s _ => h.inv s)
theorem Turn.mem_iff {W : Nat} {f : List Int → List Int} (h : Turn W f) {n : Nat} {ts : List (List Int)} {s : List Int} : s ∈ nights W n (ts.map f) ↔ f s ∈ nights W n ts :=
  ⟨fun hs => by have := h.mem hs; rwa [h.twice] at this, fun hs => by have := h.mem hs; rwa [h.inv] at this⟩
theorem Turn.cnt {W : Nat} {f : List Int → List Int} (h : Turn W f) (n : Nat) (ts : List (List Int)) : cntU W n (ts.map f) = cntU W n ts :=
  Nat.le_antisymm (cnt_inj f h.inj (fun s hs => h.mem_iff.1 hs)) (cnt_inj f h.inj (fun s hs => h.mem hs))
theorem Turn.cntC {W : Nat} {f : List Int → List Int} (h : Turn W f) (n : Nat) (ts : List (List Int)) : cntC W n (ts.map f) = cntC W n ts := by
  rw [cntC_eq, cntC_eq, h.cnt]
theorem Turn.hasN {W : Nat} {f : List Int → List Int} (h : Turn W f) (n : Nat) (ts : List (List Int)) : hasN W n (ts.map f) = hasN W n ts := by
  rw [Bool.eq_iff_iff, ← cntU_pos, ← cntU_pos, h.cnt]
theorem Turn.letters {W : Nat} {f : List Int → List Int} (h : Turn W f) {ts : List (List Int)} (ho : lettersOk W ts) : lettersOk W (ts.map f) := fun t ht => by
  obtain ⟨u, hu, rfl⟩ := List.mem_map.1 ht
  exact h.ok u (ho u hu)
theorem few_of_hasN {W : Nat} (hW : 0 < W) {ts us : List (List Int)} (h : lettersOk W ts) (k : lettersOk W us) (e : ∀ n, hasN W n us = true → hasN W n ts = true) : fewN W ts ≤ fewN W us :=
  (fewN_spec hW h _).1 (e _ ((fewN_spec hW k _).2 (Nat.le_refl _)))
theorem Turn.few {W : Nat} (hW : 0 < W) {f : List Int → List Int} (h : Turn W f) {ts : List (List Int)} (ho : lettersOk W ts) : fewN W (ts.map f) = fewN W ts :=
  Nat.le_antisymm (few_of_hasN hW (h.letters ho) ho (fun n hn => by rw [h.hasN]; exact hn)) (few_of_hasN hW ho (h.letters ho) (fun n hn => by rw [← h.hasN]; exact hn))
theorem Turn.isC {W : Nat} {f : List Int → List Int} (h : Turn W f) {s : List Int} {ts : List (List Int)} (hs : IsC s ts) : IsC (f s) (ts.map f) := by
  rw [isC_sub] at hs ⊢
  intro t ht
  obtain ⟨u, hu, rfl⟩ := List.mem_map.1 ht
  exact h.sub _ _ (hs u hu)
theorem Turn.best {W : Nat} {f : List Int → List Int} (h : Turn W f) {s u : List Int} {ts : List (List Int)} (hs : Best s ts) (hu : Best u (ts.map f)) : u.length = s.length := by
  have h1 := hs.2 (f u) (by have := h.isC hu.1; rwa [h.twice] at this)
  have h2 := hu.2 (f s) (h.isC hs.1)
  rw [h.len] at h1 h2
  omega
theorem Turn.ends {W : Nat} {f : List Int → List Int} (h : Turn W f) {n : Nat} {ts : List (List Int)} {w v : Int} {r : Int × Int} (hm : ∀ s, manyS v (f s) = manyS w s) (he : Ends (nights W n ts) w r) : Ends (nights W n (ts.map f)) v r := by
  obtain ⟨⟨s1, m1, e1⟩, ⟨s2, m2, e2⟩, h3⟩ := he
  refine ⟨⟨f s1, h.mem m1, by rw [hm]; exact e1⟩, ⟨f s2, h.mem m2, by rw [hm]; exact e2⟩, fun s hs => ?_⟩
  have h1 := h3 (f s) (h.mem_iff.1 hs)
  have h2 := hm (f s)
  rw [h.inv] at h2
  rw [h2]; exact h1
theorem turn_rev (W : Nat) : Turn W List.reverse where
  inv := List.reverse_reverse
  len s := List.length_reverse
  ok s h x hx := h x (List.mem_reverse.1 hx)
  sub s t h := List.reverse_sublist.2 h
theorem many_rev (w : Int) (s : List Int) : manyS w s.reverse = manyS w s := by
  unfold manyS; rw [List.filter_reverse, List.length_reverse]
def swapL (a b x : Int) : Int := if x = a then b else if x = b then a else x
theorem swap_swap (a b x : Int) : swapL a b (swapL a b x) = x := by
  unfold swapL
  by_cases h1 : x = a
  · rw [if_pos h1]; by_cases h2 : b = a
    · rw [if_pos h2, h1, h2]
    · rw [if_neg h2, if_pos rfl, h1]
  · rw [if_neg h1]; by_cases h2 : x = b
    · rw [if_pos h2, if_pos rfl, h2]
    · rw [if_neg h2, if_neg h1, if_neg h2]
theorem turn_swap {W : Nat} {a b : Int} (ha : 0 ≤ a ∧ a < (W : Int)) (hb : 0 ≤ b ∧ b < (W : Int)) : Turn W (List.map (swapL a b)) where
  inv s := by
    rw [List.map_map]
    conv => rhs; rw [← List.map_id s]
    exact List.map_congr_left (fun x _ => swap_swap a b x)
  len s := List.length_map _
  ok s h x hx := by
    obtain ⟨y, hy, rfl⟩ := List.mem_map.1 hx
    have := h y hy
    unfold swapL; split
    · exact hb
    · split
      · exact ha
      · exact this
  sub s t h := h.map _
theorem many_swap (a b : Int) (s : List Int) : manyS b (s.map (swapL a b)) = manyS a s := by
  unfold manyS
  rw [List.filter_map, List.length_map]
  congr 1
  refine List.filter_congr (fun x _ => ?_)
  simp only [Function.comp_apply]
  rw [decide_eq_decide]
  unfold swapL
  constructor
  · intro h
    by_cases h1 : x = a
    · exact h1
    · rw [if_neg h1] at h
      by_cases h2 : x = b
      · rw [if_pos h2] at h; rw [h2, h]
      · rw [if_neg h2] at h; exact absurd h h2
  · intro h; rw [if_pos h]
/-! two tapes -/
def lcs : List Int → List Int → Nat
  | [], _ => 0
  | _ :: _, [] => 0
  | x :: s, y :: t => if x = y then lcs s t + 1 else max (lcs s (y :: t)) (lcs (x :: s) t)
termination_by s t => s.length + t.length
theorem lcs_le (s t : List Int) : lcs s t ≤ s.length ∧ lcs s t ≤ t.length := by
  induction s, t using lcs.induct with
  | case1 t => unfold lcs; simp
  | case2 x s => unfold lcs; simp
  | case3 s y t h => unfold lcs; rw [if_pos rfl]; simp only [List.length_cons]; omega
  | case4 x s y t h h1 h2 => unfold lcs; rw [if_neg h]; simp only [List.length_cons] at h1 h2 ⊢; omega
theorem lcs_some (s t : List Int) : ∃ u : List Int, u.Sublist s ∧ u.Sublist t ∧ u.length = lcs s t := by
  induction s, t using lcs.induct with
  | case1 t => exact ⟨[], by simp, by simp, by unfold lcs; rfl⟩
  | case2 x s => exact ⟨[], by simp, by simp, by unfold lcs; rfl⟩
  | case3 s y t h =>
    obtain ⟨u, h1, h2, h3⟩ := h
    exact ⟨y :: u, h1.cons_cons _, h2.cons_cons _, by unfold lcs; rw [if_pos rfl]; simp [h3]⟩
  | case4 x s y t h h1 h2 =>
    obtain ⟨u, a1, a2, a3⟩ := h1
    obtain ⟨v, b1, b2, b3⟩ := h2
    by_cases hm : lcs s (y :: t) ≤ lcs (x :: s) t
    · exact ⟨v, b1, b2.cons _, by unfold lcs; rw [if_neg h]; omega⟩
    · exact ⟨u, a1.cons _, a2, by unfold lcs; rw [if_neg h]; omega⟩
theorem lcs_all (s t : List Int) : ∀ u : List Int, u.Sublist s → u.Sublist t → u.length ≤ lcs s t := by
  induction s, t using lcs.induct with
  | case1 t => intro u h _; have := h.length_le; simp at this; simp [this]
  | case2 x s => intro u _ h; have := h.length_le; simp at this; simp [this]
  | case3 s y t h =>
    intro u h1 h2
    unfold lcs; rw [if_pos rfl]
    cases u with
    | nil => simp
    | cons c u =>
      have g1 : u.Sublist s := by
        rcases List.sublist_cons_iff.1 h1 with g | ⟨r, g, g2⟩
        · exact (List.sublist_cons_self c u).trans g
        · cases g; exact g2
      have g2 : u.Sublist t := by
        rcases List.sublist_cons_iff.1 h2 with g | ⟨r, g, g2⟩
        · exact (List.sublist_cons_self c u).trans g
        · cases g; exact g2
      have := h u g1 g2
      simp only [List.length_cons]; omega
  | case4 x s y t h h1 h2 =>
    intro u k1 k2
    unfold lcs; rw [if_neg h]
    rcases List.sublist_cons_iff.1 k1 with g | ⟨r, g, g2⟩
    · have := h1 u g k2; omega
    · rcases List.sublist_cons_iff.1 k2 with g' | ⟨r', g', g2'⟩
      · have := h2 u k1 g'; omega
      · rw [g] at g'; cases g'; exact absurd rfl h
theorem best_lcs {u s t : List Int} (h : Best u [s, t]) : u.length = lcs s t := by
  have h1 := (isC_sub _ _).1 h.1
  obtain ⟨v, a, b, c⟩ := lcs_some s t
  have h2 := h.2 v ((isC_sub _ _).2 (fun w hw => by
    rcases List.mem_cons.1 hw with rfl | hw
    · exact a
    · have : w = t := by simpa using hw
      subst this; exact b))
  have h3 := lcs_all s t u (h1 s (by simp)) (h1 t (by simp))
  omega
theorem lcs_nil (s : List Int) : lcs s [] = 0 := by cases s <;> (unfold lcs; rfl)
theorem beh_head (x : Int) (s : List Int) : beh x (x :: s) = s := by show (if x = x then s else x :: s) = s; rw [if_pos rfl]
theorem beh_other {c x : Int} (h : x ≠ c) (s : List Int) : beh c (x :: s) = x :: s := by show (if x = c then s else x :: s) = _; rw [if_neg h]
theorem few_two {W : Nat} (hW : 0 < W) (s t : List Int) : lettersOk W [s, t] → fewN W [s, t] + lcs s t = s.length + t.length := by
  induction hn : s.length + t.length using Nat.strongRecOn generalizing s t with
  | ind n ih =>
    intro h
    by_cases ho : over [s, t] = true
    · have h0 := (fewN_zero hW h).2 ho
      have e : s = [] ∧ t = [] := by simpa [over] using ho
      obtain ⟨rfl, rfl⟩ := e
      rw [h0, lcs_nil]; simp at hn ⊢; omega
    · have ho' : over [s, t] = false := by simpa using ho
      obtain ⟨c, hc, hne, he⟩ := fewN_some hW h ho'
      have hle : ∀ c : Nat, c < W → fewN W [s, t] ≤ fewN W [beh c s, beh c t] + 1 := fun c hc => fewN_next hW h hc
      have he' : fewN W [s, t] = fewN W [beh (c : Nat) s, beh (c : Nat) t] + 1 := he
      have hok : ∀ c : Int, lettersOk W [beh c s, beh c t] := fun c => ok_behs (c := c) h
      have hne' : ¬ (beh (c : Nat) s = s ∧ beh (c : Nat) t = t) := fun g => hne (by show [beh (c : Nat) s, beh (c : Nat) t] = _; rw [g.1, g.2])
      cases s with
      | nil =>
        cases t with
        | nil => exact absurd ⟨rfl, rfl⟩ hne'
        | cons y t =>
          have hy : (y : Int) = c := Classical.byContradiction (fun g => hne' ⟨rfl, beh_other g _⟩)
          have := ih (0 + t.length) (by simp only [List.length_nil, List.length_cons] at hn; omega) [] t rfl (by have := hok c; rw [← hy, beh_head] at this; exact this)
          rw [← hy, beh_head] at he'
          rw [show beh y ([] : List Int) = [] from rfl] at he'
          rw [show lcs [] t = 0 by unfold lcs; rfl] at this
          rw [show lcs [] (y :: t) = 0 by unfold lcs; rfl]
          simp only [List.length_nil, List.length_cons] at *
          omega
      | cons x s =>
        cases t with
        | nil =>
          have hx : (x : Int) = c := Classical.byContradiction (fun g => hne' ⟨beh_other g _, rfl⟩)
          have := ih (s.length + 0) (by simp only [List.length_nil, List.length_cons] at hn; omega) s [] rfl (by have := hok c; rw [← hx, beh_head] at this; exact this)
          rw [← hx, beh_head] at he'
          rw [show beh x ([] : List Int) = [] from rfl] at he'
          rw [lcs_nil] at this ⊢
          simp only [List.length_nil, List.length_cons] at *
          omega
        | cons y t =>
          have hxl := h (x :: s) (by simp) x (by simp)
          have hyl := h (y :: t) (by simp) y (by simp)
          by_cases hxy : x = y
          · subst hxy
            have hx : (x : Int) = c := Classical.byContradiction (fun g => hne' ⟨beh_other g _, beh_other g _⟩)
            have := ih (s.length + t.length) (by simp only [List.length_nil, List.length_cons] at hn; omega) s t rfl (by have := hok c; rw [← hx, beh_head, beh_head] at this; exact this)
            rw [← hx, beh_head, beh_head] at he'
            rw [show lcs (x :: s) (x :: t) = lcs s t + 1 by conv => lhs; unfold lcs; rw [if_pos rfl]]
            simp only [List.length_cons] at *
            omega
          · have e1 := ih (s.length + (t.length + 1)) (by simp only [List.length_nil, List.length_cons] at hn; omega) s (y :: t) (by simp) (by have := hok x; rw [beh_head, beh_other (Ne.symm hxy)] at this; exact this)
            have e2 := ih ((s.length + 1) + t.length) (by simp only [List.length_nil, List.length_cons] at hn; omega) (x :: s) t (by simp) (by have := hok y; rw [beh_head, beh_other hxy] at this; exact this)
            have l1 := hle x.toNat (by omega)
            have l2 := hle y.toNat (by omega)
            rw [show ((x.toNat : Nat) : Int) = x by omega, beh_head, beh_other (Ne.symm hxy)] at l1
            rw [show ((y.toNat : Nat) : Int) = y by omega, beh_head, beh_other hxy] at l2
            rw [show lcs (x :: s) (y :: t) = max (lcs s (y :: t)) (lcs (x :: s) t) by conv => lhs; unfold lcs; rw [if_neg hxy]]
            by_cases hx : x = (c : Int)
            · rw [← hx, beh_head, beh_other (Ne.symm hxy)] at he'
              simp only [List.length_cons] at *
              omega
            · have hy : y = (c : Int) := Classical.byContradiction (fun g => hne' ⟨beh_other hx _, beh_other g _⟩)
              rw [← hy, beh_head, beh_other hxy] at he'
              simp only [List.length_cons] at *
              omega
end Go.Proofs.Ytafncmgijbkomaa.Tm
namespace Go.Proofs.Ytafncmgijbkomaa.Tm
/-! one tape more; longer nights -/
theorem nights_sub {W n : Nat} {ts us : List (List Int)} (h : ∀ t, t ∈ ts → t ∈ us) {s : List Int} (hs : s ∈ nights W n us) : s ∈ nights W n ts := by
  rw [mem_nights] at hs ⊢
  exact ⟨hs.1, hs.2.1, fun t ht => hs.2.2 t (h t ht)⟩
theorem nights_less {W n : Nat} {ts us : List (List Int)} (h : lessT ts us) {s : List Int} (hs : s ∈ nights W n us) : s ∈ nights W n ts := by
  rw [nights_mem] at hs ⊢
  refine ⟨hs.1, hs.2.1, ?_⟩
  have h1 := hs.2.2
  clear hs
  rw [hasS_all] at h1 ⊢
  induction h with
  | nil => rfl
  | @cons t u ts us h0 _ ih =>
    simp only [List.all_cons, Bool.and_eq_true] at h1 ⊢
    exact ⟨(hasT_sub _ _).2 (h0.sublist.trans ((hasT_sub _ _).1 h1.1)), ih h1.2⟩
theorem cntU_sub {W n : Nat} {ts us : List (List Int)} (h : ∀ t, t ∈ ts → t ∈ us) : cntU W n us ≤ cntU W n ts := by
  rw [← nights_len, ← nights_len]
  exact List.Nodup.length_le_of_subset (nights_nodup _ _ _) (fun s hs => nights_sub h hs)
theorem cntU_less {W n : Nat} {ts us : List (List Int)} (h : lessT ts us) : cntU W n us ≤ cntU W n ts := by
  rw [← nights_len, ← nights_len]
  exact List.Nodup.length_le_of_subset (nights_nodup _ _ _) (fun s hs => nights_less h hs)
theorem few_sub {W : Nat} (hW : 0 < W) {ts us : List (List Int)} (h : ∀ t, t ∈ ts → t ∈ us) (ho : lettersOk W us) : fewN W ts ≤ fewN W us :=
  few_of_hasN hW (fun t ht => ho t (h t ht)) ho (fun n hn => by
    rw [hasN_mem] at hn ⊢
    obtain ⟨s, hs⟩ := hn
    exact ⟨s, nights_sub h hs⟩)
theorem few_more {W : Nat} (hW : 0 < W) {ts : List (List Int)} {m : List Int} (ho : lettersOk W (ts ++ [m])) : fewN W (ts ++ [m]) ≤ fewN W ts + m.length := by
  have h1 : lettersOk W ts := fun t ht => ho t (by simp [ht])
  refine (fewN_spec hW ho _).1 ?_
  have h2 := (fewN_spec hW h1 _).2 (Nat.le_refl _)
  rw [hasN_mem] at h2 ⊢
  obtain ⟨s, hs⟩ := h2
  rw [mem_nights] at hs
  refine ⟨s ++ m, mem_nights.2 ⟨by simp [hs.1], fun x hx => ?_, fun t ht => ?_⟩⟩
  · rcases List.mem_append.1 hx with hx | hx
    · exact hs.2.1 x hx
    · exact ho m (by simp) x hx
  · rcases List.mem_append.1 ht with ht | ht
    · exact (hs.2.2 t ht).trans (List.sublist_append_left _ _)
    · have : t = m := by simpa using ht
      subst this; exact List.sublist_append_right _ _
theorem best_sub {ts us : List (List Int)} (h : ∀ t, t ∈ ts → t ∈ us) {s u : List Int} (hs : Best s ts) (hu : Best u us) : u.length ≤ s.length := by
  have := hs.2 u (fun t ht => hu.1 t (h t ht))
  omega
theorem ends_sub {l m : List (List Int)} (h : ∀ s, s ∈ m → s ∈ l) {w : Int} {p q : Int × Int} (hp : Ends l w p) (hq : Ends m w q) : p.1 ≤ q.1 ∧ q.2 ≤ p.2 ∧ q.1 ≤ q.2 := by
  obtain ⟨⟨s1, m1, e1⟩, ⟨s2, m2, e2⟩, h3⟩ := hq
  have a1 := hp.2.2 s1 (h s1 m1)
  have a2 := hp.2.2 s2 (h s2 m2)
  have a3 := h3 s1 m1
  omega
theorem few_len {W : Nat} (hW : 0 < W) {ts : List (List Int)} (ho : lettersOk W ts) {s : List Int} {n : Nat} (hs : s ∈ nights W n ts) : fewN W ts ≤ n :=
  (fewN_spec hW ho _).1 (hasN_mem.2 ⟨s, hs⟩)
/-- as many nights begin with each window as there are shorter ones, at least -/
theorem sum_ge {α : Type} (l : List α) (f : α → Nat) (a : Nat) (h : ∀ x, x ∈ l → a ≤ f x) : a * l.length ≤ (l.map f).sum := by
  induction l with
  | nil => simp
  | cons x l ih =>
    have h1 := h x (by simp)
    have h2 := ih (fun y hy => h y (by simp [hy]))
    simp only [List.length_cons, List.map_cons, List.sum_cons, Nat.mul_add, Nat.mul_one]
    omega
theorem cntU_longer (W n : Nat) (ts : List (List Int)) : cntU W n ts * W ≤ cntU W (n + 1) ts := by
  have := sum_ge (List.range W) (fun c => cntU W n (behs (c : Nat) ts)) (cntU W n ts) (fun c _ => cntU_less (lessT_behs _ _))
  rw [List.length_range] at this
  exact this
theorem night_cons {W n : Nat} {ts : List (List Int)} {s : List Int} (hs : s ∈ nights W n ts) {c : Int} (hc : 0 ≤ c ∧ c < (W : Int)) : c :: s ∈ nights W (n + 1) ts := by
  rw [mem_nights] at hs ⊢
  refine ⟨by simp [hs.1], fun x hx => ?_, fun t ht => (hs.2.2 t ht).cons _⟩
  rcases List.mem_cons.1 hx with rfl | hx
  · exact hc
  · exact hs.2.1 x hx
theorem ends_longer {W n : Nat} {ts : List (List Int)} {w : Int} (hw : 0 ≤ w ∧ w < (W : Int)) {p q : Int × Int} (hp : Ends (nights W n ts) w p) (hq : Ends (nights W (n + 1) ts) w q) :
    p.2 + 1 ≤ q.2 ∧ q.2 ≤ (n : Int) + 1 ∧ 0 ≤ q.1 ∧ q.1 ≤ p.1 + (if W = 1 then 1 else 0) := by
  obtain ⟨⟨s1, m1, e1⟩, ⟨s2, m2, e2⟩, h3⟩ := hp
  obtain ⟨⟨t1, n1, f1⟩, ⟨t2, n2, f2⟩, k3⟩ := hq
  have a1 := k3 _ (night_cons m2 hw)
  have a2 := manyS_cons w w s2
  rw [if_pos rfl] at a2
  have a3 := manyS_le w t2
  have a4 := (mem_nights.1 n2).1
  refine ⟨by omega, by omega, by omega, ?_⟩
  by_cases h : W = 1
  · rw [if_pos h]
    have b1 := k3 _ (night_cons m1 hw)
    have b2 := manyS_cons w w s1
    rw [if_pos rfl] at b2
    omega
  · rw [if_neg h]
    obtain ⟨c, hc, hne⟩ : ∃ c : Int, (0 ≤ c ∧ c < (W : Int)) ∧ c ≠ w := by
      by_cases h0 : w = 0
      · exact ⟨1, by omega, by omega⟩
      · exact ⟨0, by omega, by omega⟩
    have b1 := k3 _ (night_cons m1 hc)
    have b2 := manyS_cons w c s1
    rw [if_neg hne] at b2
    omega
/-! what is said of impulses -/
def bfr (a : Int) (i : Nat) (b : Int) (j : Nat) (s : List Int) : Bool := bf a b s i j
theorem bfr_iff {a b : Int} {i j : Nat} (hi : 0 < i) (hj : 0 < j) {s : List Int} : bfr a i b j s = true ↔ 0 ≤ atP a s i 0 ∧ 0 ≤ atP b s j 0 ∧ atP a s i 0 < atP b s j 0 := by
  unfold bfr; rw [bf_before hi hj (Int.le_refl 0), decide_eq_true_eq]
theorem bfr_not {a b : Int} {i j : Nat} (hi : 0 < i) (hj : 0 < j) {s : List Int} (h : bfr a i b j s = true) : bfr b j a i s = false := by
  cases hb : bfr b j a i s with
  | false => rfl
  | true => have h1 := (bfr_iff hi hj).1 h; have h2 := (bfr_iff hj hi).1 hb; omega
theorem bits_val (l : List (List Int)) (p : List Int → Bool) (hl : l ≠ []) :
    (bits l p = 1 ∧ ∀ s, s ∈ l → p s = true) ∨ (bits l p = 2 ∧ ∀ s, s ∈ l → p s = false) ∨ (bits l p = 3 ∧ (∃ s, s ∈ l ∧ p s = true) ∧ ∃ s, s ∈ l ∧ p s = false) := by
  by_cases h1 : ∀ s, s ∈ l → p s = true
  · exact .inl ⟨bits_true hl h1, h1⟩
  · by_cases h2 : ∀ s, s ∈ l → p s = false
    · exact .inr (.inl ⟨bits_false hl h2, h2⟩)
    · right; right
      obtain ⟨s, hs, hsn⟩ : ∃ s, s ∈ l ∧ p s = false := Classical.byContradiction (fun g => h1 (fun s hs => by
        cases e : p s with
        | true => rfl
        | false => exact absurd ⟨s, hs, e⟩ g))
      obtain ⟨t, ht, htn⟩ : ∃ s, s ∈ l ∧ p s = true := Classical.byContradiction (fun g => h2 (fun s hs => by
        cases e : p s with
        | false => rfl
        | true => exact absurd ⟨s, hs, e⟩ g))
      refine ⟨?_, ⟨t, ht, htn⟩, ⟨s, hs, hsn⟩⟩
      unfold bits
      rw [if_pos (List.any_eq_true.2 ⟨t, ht, htn⟩), if_pos (List.any_eq_true.2 ⟨s, hs, by rw [hsn]; rfl⟩)]
      rfl
/-- what Kind says: 2: always, 1: it may be, 0: never -/
def kindN (b : Nat) : Nat := if b = 1 then 2 else if b = 2 then 0 else 1
/-- as the reference counts it -/
theorem kind_count (l : List (List Int)) (p : List Int → Bool) (hl : l ≠ []) : kindN (bits l p) = if l.countP p = 0 then 0 else if l.countP p < l.length then 1 else 2 := by
  rcases bits_val l p hl with ⟨h1, h2⟩ | ⟨h1, h2⟩ | ⟨h1, ⟨s, hs, h2⟩, ⟨t, ht, h3⟩⟩
  · rw [h1]
    have : l.countP p = l.length := List.countP_eq_length.2 h2
    have hp := List.length_pos_iff.2 hl
    rw [if_neg (by omega), if_neg (by omega)]; rfl
  · rw [h1]
    have : l.countP p = 0 := List.countP_eq_zero.2 (fun s hs => by simp [h2 s hs])
    rw [if_pos this]; rfl
  · rw [h1]
    have a : 0 < l.countP p := List.countP_pos_iff.2 ⟨s, hs, h2⟩
    have b : l.countP p ≠ l.length := fun e => by
      have := (List.countP_eq_length.1 e) t ht
      rw [h3] at this; cases this
    have c := List.countP_le_length (p := p) (l := l)
    rw [if_neg (by omega), if_pos (by omega)]; rfl
/-- what is always, or never, true stays so, if there still is a night -/
theorem kind_sub {l m : List (List Int)} {p : List Int → Bool} (h : ∀ s, s ∈ m → s ∈ l) (hm : m ≠ []) : kindN (bits l p) = 1 ∨ kindN (bits m p) = kindN (bits l p) := by
  have hl : l ≠ [] := by
    obtain ⟨s, hs⟩ := List.exists_mem_of_ne_nil m hm
    exact List.ne_nil_of_mem (h s hs)
  rcases bits_val l p hl with ⟨h1, h2⟩ | ⟨h1, h2⟩ | ⟨h1, _⟩
  · right; rw [h1, bits_true hm (fun s hs => h2 s (h s hs))]
  · right; rw [h1, bits_false hm (fun s hs => h2 s (h s hs))]
  · left; rw [h1]; rfl
/-- two nights, one behind the other -/
theorem nights_lt {W n : Nat} {ts : List (List Int)} {i : Nat} {a b : List Int} (ha : (nights W n ts)[i]? = some a) (hb : (nights W n ts)[i + 1]? = some b) : ltS a b = true := by
  obtain ⟨h1, rfl⟩ := List.getElem?_eq_some_iff.1 ha
  obtain ⟨h2, rfl⟩ := List.getElem?_eq_some_iff.1 hb
  exact List.pairwise_iff_getElem.1 (nights_sorted W n ts) i (i + 1) h1 h2 (by omega)
end Go.Proofs.Ytafncmgijbkomaa.Tm
namespace Go.Proofs.Ytafncmgijbkomaa.Tm
/-! all places, in order -/
def placesF (out : List (List Nat)) (ts : List (List Int)) : List (List Nat) := ts.foldl (fun out t => out.flatMap (fun o => (List.range (t.length + 1)).map (fun n => o ++ [n]))) out
def placesP : List (List Int) → List (List Nat)
  | [] => [[]]
  | t :: ts => (List.range (t.length + 1)).flatMap (fun k => (placesP ts).map (fun p => k :: p))
theorem placesF_eq (ts : List (List Int)) (out : List (List Nat)) : placesF out ts = out.flatMap (fun o => (placesP ts).map (fun p => o ++ p)) := by
  induction ts generalizing out with
  | nil => simp [placesF, placesP]
  | cons t ts ih =>
    show placesF _ ts = _
    rw [ih, List.flatMap_assoc]
    congr 1
    funext o
    rw [List.flatMap_map, show placesP (t :: ts) = (List.range (t.length + 1)).flatMap (fun k => (placesP ts).map (fun p => k :: p)) from rfl, List.map_flatMap]
    congr 1
    funext k
    rw [List.map_map]
    exact List.map_congr_left (fun p _ => by simp)
theorem placesP_len (ts : List (List Int)) : (placesP ts).length = prodP ts := by
  induction ts with
  | nil => rfl
  | cons t ts ih =>
    unfold placesP prodP
    rw [List.length_flatMap]
    simp only [List.length_map, ih]
    induction (t.length + 1) with
    | zero => simp
    | succ n ihn => rw [List.range_succ, List.map_append, List.sum_append, ihn, Nat.add_mul]; simp
theorem placesP_at (ts : List (List Int)) (i : Nat) (h : i < prodP ts) : (placesP ts)[i]? = some (placeP ts i) := by
  induction ts generalizing i with
  | nil =>
    unfold prodP at h
    have : i = 0 := by omega
    subst this; rfl
  | cons t ts ih =>
    have hp := prod_pos ts
    have key : ∀ (n j : Nat), j < n * prodP ts → ((List.range n).flatMap (fun k => (placesP ts).map (fun p => k :: p)))[j]? = some (j / prodP ts :: placeP ts (j % prodP ts)) := by
      intro n
      induction n with
      | zero => intro j hj; simp at hj
      | succ n ihn =>
        intro j hj
        rw [List.range_succ, List.flatMap_append]
        have hlen : ((List.range n).flatMap (fun k => (placesP ts).map (fun p => k :: p))).length = n * prodP ts := by
          rw [List.length_flatMap]
          simp only [List.length_map, placesP_len]
          clear ihn hj
          induction n with
          | zero => simp
          | succ n ihn => rw [List.range_succ, List.map_append, List.sum_append, ihn, Nat.add_mul]; simp
        by_cases hl : j < n * prodP ts
        · rw [List.getElem?_append_left (by omega)]; exact ihn j hl
        · rw [List.getElem?_append_right (by omega), hlen]
          rw [Nat.add_mul, Nat.one_mul] at hj
          have hd : j / prodP ts = n := by
            rw [Nat.div_eq_iff hp]
            omega
          have hm : j % prodP ts = j - n * prodP ts := by
            have := Nat.div_add_mod' j (prodP ts)
            rw [hd] at this; omega
          simp only [List.flatMap_cons, List.flatMap_nil, List.append_nil]
          rw [List.getElem?_map, ih _ (by omega), hd, hm]; rfl
    unfold prodP at h
    exact key _ i h
/-- the digits of an index, from the last one on -/
theorem placeP_at (ts : List (List Int)) (n : Nat) (h : n < prodP ts) (i : Nat) (hi : i < ts.length) : (placeP ts n)[i]? = some ((n / prodP (ts.drop (i + 1))) % ((ts[i]).length + 1)) := by
  induction ts generalizing n i with
  | nil => simp at hi
  | cons t ts ih =>
    have hp := prod_pos ts
    unfold prodP at h
    cases i with
    | zero =>
      have h2 : n / prodP ts < t.length + 1 := Nat.div_lt_of_lt_mul (by rw [Nat.mul_comm]; exact h)
      show some (n / prodP ts) = some ((n / prodP ts) % (t.length + 1))
      rw [Nat.mod_eq_of_lt h2]
    | succ i =>
      show (placeP ts (n % prodP ts))[i]? = _
      have hi2 : i < ts.length := by simpa using hi
      rw [ih _ (Nat.mod_lt _ hp) i hi2]
      show some ((n % prodP ts / prodP (ts.drop (i + 1))) % (ts[i].length + 1)) = some ((n / prodP (ts.drop (i + 1))) % (ts[i].length + 1))
      congr 1
      -- prodP ts is a multiple of prodP (drop i) = (len + 1) * prodP (drop (i + 1))
      have hd : ∀ (us : List (List Int)) (j : Nat), ∃ q, prodP us = prodP (us.drop j) * q := by
        intro us
        induction us with
        | nil => intro j; exact ⟨1, by simp⟩
        | cons u us ihu =>
          intro j
          cases j with
          | zero => exact ⟨1, by simp⟩
          | succ j =>
            obtain ⟨q, hq⟩ := ihu j
            refine ⟨(u.length + 1) * q, ?_⟩
            show (u.length + 1) * prodP us = prodP (us.drop j) * _
            rw [hq, Nat.mul_left_comm]
      obtain ⟨q, hq⟩ := hd ts i
      rw [List.drop_eq_getElem_cons hi2] at hq
      have hq' : prodP ts = prodP (ts.drop (i + 1)) * ((ts[i].length + 1) * q) := by
        rw [hq]; show (ts[i].length + 1) * prodP (ts.drop (i + 1)) * q = _
        rw [Nat.mul_comm (ts[i].length + 1), Nat.mul_assoc]
      rw [hq', Nat.mod_mul_right_div_self, Nat.mod_mul_right_mod]
/-! the fewest tapes that can be wrong -/
def bitsL (n b : Nat) : List Nat := (List.range n).filter (fun i => (b >>> i) % 2 = 1)
def ltL : List Nat → List Nat → Bool
  | [], [] => false
  | [], _ :: _ => true
  | _ :: _, [] => false
  | x :: s, y :: t => decide (x < y) || (decide (x = y) && ltL s t)
def wrongStep (n : Nat) (P : List Nat → Bool) (o : Bool × List Nat) (b : Nat) : Bool × List Nat :=
  if P (bitsL n b) = true then
    (if o.1 = false ∨ (bitsL n b).length < o.2.length ∨ ((bitsL n b).length = o.2.length ∧ ltL (bitsL n b) o.2 = true) then (true, bitsL n b) else o)
  else o
def wrongP (n : Nat) (P : List Nat → Bool) : List Nat := ((List.range (2 ^ n)).foldl (wrongStep n P) (false, [])).2
def listsR : List (List Nat) := [[], [0], [1], [2], [0, 1], [0, 2], [1, 2], [0, 1, 2]]
def wrongR (n : Nat) (P : List Nat → Bool) : List Nat := (listsR.find? (fun l => (l.getLast?.all (fun x => decide (x < n))) && P l)).getD []
theorem wrong_eq (n : Nat) (h1 : 1 ≤ n) (h2 : n ≤ 3) (P : List Nat → Bool) : wrongP n P = wrongR n P := by
  have h3 : n = 1 ∨ n = 2 ∨ n = 3 := by omega
  rcases h3 with rfl | rfl | rfl
  · have : ∀ b0 b1 : Bool, wrongP 1 (fun l => if l = [] then b0 else b1) = wrongR 1 (fun l => if l = [] then b0 else b1) := by decide
    exact this (P []) (P [0])
  · have : ∀ b0 b1 b2 b3 : Bool, wrongP 2 (fun l => if l = [] then b0 else if l = [0] then b1 else if l = [1] then b2 else b3) = wrongR 2 (fun l => if l = [] then b0 else if l = [0] then b1 else if l = [1] then b2 else b3) := by decide
    exact this (P []) (P [0]) (P [1]) (P [0, 1])
  · have : ∀ b0 b1 b2 b3 b4 b5 b6 b7 : Bool, wrongP 3 (fun l => if l = [] then b0 else if l = [0] then b1 else if l = [1] then b2 else if l = [2] then b3 else if l = [0, 1] then b4 else if l = [0, 2] then b5 else if l = [1, 2] then b6 else b7) = wrongR 3 (fun l => if l = [] then b0 else if l = [0] then b1 else if l = [1] then b2 else if l = [2] then b3 else if l = [0, 1] then b4 else if l = [0, 2] then b5 else if l = [1, 2] then b6 else b7) := by decide
    exact this (P []) (P [0]) (P [1]) (P [2]) (P [0, 1]) (P [0, 2]) (P [1, 2]) (P [0, 1, 2])
end Go.Proofs.Ytafncmgijbkomaa.Tm
namespace Go.Proofs.Ytafncmgijbkomaa.Tm
/-! what is true of the tapes that can be wrong -/
def wrongOkB (n : Nat) (P : List Nat → Bool) : Bool :=
  !P (List.range n) || (P (wrongR n P) && (List.range (2 ^ n)).all (fun b => decide ((wrongR n P).length ≤ (bitsL n b).length) || !P (bitsL n b)) && (List.range (2 ^ n)).any (fun b => wrongR n P == bitsL n b))
theorem find_congr {l : List (List Nat)} {p q : List Nat → Bool} (h : ∀ x, x ∈ l → p x = q x) : l.find? p = l.find? q := by
  induction l with
  | nil => rfl
  | cons x l ih =>
    rw [List.find?_cons, List.find?_cons, h x (by simp), ih (fun y hy => h y (by simp [hy]))]
theorem wrongR_in (n : Nat) (P : List Nat → Bool) : wrongR n P ∈ listsR := by
  unfold wrongR
  cases h : listsR.find? (fun l => (l.getLast?.all (fun x => decide (x < n))) && P l) with
  | none => show [] ∈ listsR; decide
  | some l => exact List.mem_of_find?_eq_some h
theorem bitsL_in : ∀ n, n ≤ 3 → ∀ b, b < 2 ^ n → bitsL n b ∈ listsR := by decide
theorem wrong_congr {n : Nat} (hn : n ≤ 3) {P Q : List Nat → Bool} (h : ∀ l, l ∈ listsR → P l = Q l) : wrongOkB n P = wrongOkB n Q := by
  have hR : wrongR n P = wrongR n Q := by
    unfold wrongR; congr 1
    exact find_congr (fun l hl => by rw [h l hl])
  have h1 : P (List.range n) = Q (List.range n) := h _ (by
    have : ∀ n, n ≤ 3 → List.range n ∈ listsR := by decide
    exact this n hn)
  have h3 : (List.range (2 ^ n)).all (fun b => decide ((wrongR n Q).length ≤ (bitsL n b).length) || !P (bitsL n b)) = (List.range (2 ^ n)).all (fun b => decide ((wrongR n Q).length ≤ (bitsL n b).length) || !Q (bitsL n b)) := by
    rw [Bool.eq_iff_iff, List.all_eq_true, List.all_eq_true]
    exact ⟨fun g b hb => by rw [← h _ (bitsL_in n hn b (List.mem_range.1 hb))]; exact g b hb, fun g b hb => by rw [h _ (bitsL_in n hn b (List.mem_range.1 hb))]; exact g b hb⟩
  unfold wrongOkB
  rw [hR, h1, h _ (wrongR_in n Q), h3]
theorem wrong_okB (n : Nat) (h1 : 1 ≤ n) (h2 : n ≤ 3) (P : List Nat → Bool) : wrongOkB n P = true := by
  have key : ∀ b0 b1 b2 b3 b4 b5 b6 b7 : Bool, ∀ n, n ≤ 3 → wrongOkB n (fun l => if l = [] then b0 else if l = [0] then b1 else if l = [1] then b2 else if l = [2] then b3 else if l = [0, 1] then b4 else if l = [0, 2] then b5 else if l = [1, 2] then b6 else b7) = true := by decide
  rw [wrong_congr h2 (Q := fun l => if l = [] then P [] else if l = [0] then P [0] else if l = [1] then P [1] else if l = [2] then P [2] else if l = [0, 1] then P [0, 1] else if l = [0, 2] then P [0, 2] else if l = [1, 2] then P [1, 2] else P [0, 1, 2]) (fun l hl => by
    unfold listsR at hl
    simp only [List.mem_cons, List.not_mem_nil, or_false] at hl
    rcases hl with rfl | rfl | rfl | rfl | rfl | rfl | rfl | rfl <;> rfl)]
  exact key _ _ _ _ _ _ _ _ n h2
theorem wrong_ok {n : Nat} (h1 : 1 ≤ n) (h2 : n ≤ 3) {P : List Nat → Bool} (hf : P (List.range n) = true) :
    P (wrongR n P) = true ∧ (∀ b, b < 2 ^ n → (bitsL n b).length < (wrongR n P).length → P (bitsL n b) = false) ∧ ∃ b, b < 2 ^ n ∧ wrongR n P = bitsL n b := by
  have h := wrong_okB n h1 h2 P
  unfold wrongOkB at h
  rw [hf] at h
  simp only [Bool.not_true, Bool.false_or, Bool.and_eq_true, List.all_eq_true, List.any_eq_true, List.mem_range, Bool.or_eq_true, decide_eq_true_eq, Bool.not_eq_true', beq_iff_eq] at h
  obtain ⟨⟨a, b⟩, c⟩ := h
  refine ⟨a, fun k hk hl => ?_, c⟩
  rcases b k hk with g | g
  · omega
  · exact g
theorem bitsL_lt {n b : Nat} : ∀ x, x ∈ bitsL n b → x < n := fun x hx => by
  unfold bitsL at hx
  exact List.mem_range.1 (List.mem_filter.1 hx).1
theorem bitsL_sorted (n b : Nat) : (bitsL n b).Pairwise (· < ·) := List.Pairwise.filter _ List.pairwise_lt_range
theorem wrong_mono {n : Nat} (h1 : 1 ≤ n) (h2 : n ≤ 3) {P Q : List Nat → Bool} (hP : P (List.range n) = true) (h : ∀ l, P l = true → Q l = true) : (wrongR n Q).length ≤ (wrongR n P).length := by
  obtain ⟨a, _, b, hb, e⟩ := wrong_ok h1 h2 hP
  obtain ⟨_, d, _⟩ := wrong_ok h1 h2 (h _ hP)
  rcases Nat.lt_or_ge (wrongR n P).length (wrongR n Q).length with g | g
  · rw [e] at g a
    have h3 := h _ a
    rw [d b hb g] at h3; cases h3
  · exact g
/-- the tapes that are not in a list -/
def othersL (ts : List (List Int)) (l : List Nat) : List (List Int) := ((List.range ts.length).filter (fun i => !l.contains i)).map (fun i => ts.getD i [])
theorem others_mem {ts : List (List Int)} {l : List Nat} {t : List Int} (h : t ∈ othersL ts l) : t ∈ ts := by
  unfold othersL at h
  obtain ⟨i, hi, rfl⟩ := List.mem_map.1 h
  have := List.mem_range.1 (List.mem_filter.1 hi).1
  rw [List.getD_eq_getElem?_getD, List.getElem?_eq_getElem this]
  exact List.getElem_mem this
theorem others_all (ts : List (List Int)) : othersL ts (List.range ts.length) = [] := by
  unfold othersL
  rw [List.filter_eq_nil_iff.2 (fun i hi => by simp [List.mem_range.1 hi])]
  rfl
theorem others_nil (ts : List (List Int)) : othersL ts [] = ts := by
  unfold othersL
  rw [List.filter_eq_self.2 (fun i _ => by simp)]
  apply List.ext_getElem
  · simp
  · intro i h1 h2
    simp [List.getD_eq_getElem?_getD, h2]
theorem cntC_sum {W n : Nat} {ts : List (List Int)} (h : cntC W (n + 1) ts < most) : cntC W (n + 1) ts = ((List.range W).map (fun c => cntC W n (behs (c : Nat) ts))).sum ∧ ∀ c, c < W → cntC W n (behs (c : Nat) ts) < most := by
  have e : cntC W (n + 1) ts = min ((List.range W).map (fun c => cntC W n (behs (c : Nat) ts))).sum most := rfl
  rw [e] at h
  have h1 : ((List.range W).map (fun c => cntC W n (behs (c : Nat) ts))).sum < most := by omega
  refine ⟨by rw [e]; omega, fun c hc => ?_⟩
  have : ∀ (l : List Nat), c ∈ l → cntC W n (behs (c : Nat) ts) ≤ (l.map (fun c => cntC W n (behs (c : Nat) ts))).sum := by
    intro l
    induction l with
    | nil => simp
    | cons x l ih =>
      intro hx
      simp only [List.map_cons, List.sum_cons]
      rcases List.mem_cons.1 hx with rfl | hx
      · omega
      · have := ih hx; omega
  have := this _ (List.mem_range.2 hc)
  omega
end Go.Proofs.Ytafncmgijbkomaa.Tm
namespace Go.Proofs.Ytafncmgijbkomaa.Tm
/-! the fewest impulses of all places, computed from the last one on -/
theorem rem_less (ts : List (List Int)) {p : List Nat} (h : IsPl ts p) : lessT (remP ts p) ts := by
  induction h with
  | nil => exact .nil
  | cons h0 _ ih => exact .cons (List.drop_suffix _ _) ih
def bdVal (W : Nat) (ts : List (List Int)) (n : Nat) : Int := (fewN W (remP ts (placeP ts n)) : Nat)
theorem fold_cast {W : Nat} {us : List (List Int)} (cs : List Nat) (f : Nat → Option Int) (hf : ∀ c, c ∈ cs → f c = if behs (c : Nat) us = us then (none : Option Int) else some (((fewN W (behs (c : Nat) us) : Nat) : Int) + 1)) (o : Nat) :
    (cs.filterMap f).foldl min (o : Int) = ((cs.foldl (fun (o : Nat) (c : Nat) => if behs (c : Nat) us = us then o else min o (fewN W (behs (c : Nat) us) + 1)) o : Nat) : Int) := by
  induction cs generalizing o with
  | nil => rfl
  | cons c cs ih =>
    have h0 := hf c (by simp)
    simp only [List.foldl_cons, List.filterMap_cons]
    by_cases e : behs (c : Nat) us = us
    · rw [if_pos e] at h0
      rw [h0, if_pos e]
      exact ih (fun c hc => hf c (by simp [hc])) o
    · rw [if_neg e] at h0
      rw [h0, if_neg e]
      simp only [List.foldl_cons]
      rw [show min (o : Int) (((fewN W (behs (c : Nat) us) : Nat) : Int) + 1) = ((min o (fewN W (behs (c : Nat) us) + 1) : Nat) : Int) by omega]
      exact ih (fun c hc => hf c (by simp [hc])) _
theorem bd_step {W : Nat} (hW : 0 < W) {ts : List (List Int)} (h : lettersOk W ts) (ht : total ts ≤ 24) {k : Nat} (hk : k < prodP ts) (hne : placeP ts k ≠ lastPl ts) (tbl : List Int)
    (hT : ∀ n, k < n → n < prodP ts → tbl.getD n 0 = bdVal W ts n) :
    ((List.range W).filterMap fun c => if nextP ts (placeP ts k) (c : Nat) = placeP ts k then none else some (tbl.getD (idxP ts (nextP ts (placeP ts k) (c : Nat)) 0) 0 + 1)).foldl min (24 : Int) = bdVal W ts k := by
  obtain ⟨hp, hi⟩ := place_is hk
  have hl := rem_less ts hp
  have ho : over (remP ts (placeP ts k)) = false := by
    rw [Bool.eq_false_iff]
    exact fun g => hne ((over_iff hp).1 g)
  have hf := fold_least hW (ok_less hl h) ho 24 (Nat.le_trans (fewN_total hW (ok_less hl h)) (Nat.le_trans (total_less hl) ht))
  unfold bdVal
  rw [← hf]
  refine fold_cast (List.range W) _ (fun c hc => ?_) 24
  by_cases e : nextP ts (placeP ts k) (c : Nat) = placeP ts k
  · rw [if_pos e, if_pos ((next_eq hp _).1 e)]
  · rw [if_neg e, if_neg (fun g => e ((next_eq hp _).2 g))]
    have h1 := idx_next_lt hp e
    rw [hi] at h1
    have h2 := (idx_lin (next_is hp (c : Int)) 0).2
    rw [hT _ h1 h2]
    unfold bdVal
    rw [place_idx (next_is hp (c : Int)), rem_next]
theorem bd_last {W : Nat} (hW : 0 < W) {ts : List (List Int)} (h : lettersOk W ts) {k : Nat} (hk : k < prodP ts) (he : placeP ts k = lastPl ts) : bdVal W ts k = 0 := by
  obtain ⟨hp, hi⟩ := place_is hk
  have hl := rem_less ts hp
  unfold bdVal
  have := (fewN_zero hW (ok_less hl h)).2 ((over_iff hp).2 he)
  rw [this]; rfl
end Go.Proofs.Ytafncmgijbkomaa.Tm
