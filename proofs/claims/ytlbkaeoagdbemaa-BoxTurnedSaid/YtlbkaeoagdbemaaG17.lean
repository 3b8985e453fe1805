/- Proved here: plain laws of tickets that are widened, parted, joined or turned, a part of the proofs about the box laws. Conditions: those that each theorem names, no others. -/
import Derived.Test.YtlbkaeoagdbemaaP04
set_option linter.unusedSimpArgs false
set_option linter.unusedVariables false
namespace Go.Proofs.Ytlbkaeoagdbemaa.Bm
theorem all6 {R : List Nat} (h : ∀ n, n ∈ R → n ≤ 6) : R.all (fun n => decide (n ≤ 6)) = true := by rw [List.all_eq_true]; intro n hn; simpa using h n hn
theorem within_up {R S : List Nat} (h6 : ∀ n, n ∈ R → n ≤ 6) (hb : isBox R S = true) {a b : Nat} (h : a ≤ b) : withinN R S a ≤ withinN R S b := by
  rw [← within_count (all6 h6) hb, ← within_count (all6 h6) hb]
  exact List.countP_mono_left fun o _ h1 => by rw [decide_eq_true_eq] at h1 ⊢; omega
theorem within_zero {R S : List Nat} (h6 : ∀ n, n ∈ R → n ≤ 6) (hb : isBox R S = true) : withinN R S 0 = size S := by
  rw [← within_count (all6 h6) hb, ← size_count (all6 h6) hb]
  have : (fun o => decide (wrongN S o ≤ 0)) = win S := by funext o; rw [win_wrong]; simp
  rw [this]
theorem within_all {R S : List Nat} (h6 : ∀ n, n ∈ R → n ≤ 6) (hb : isBox R S = true) : withinN R S R.length = total R := by
  rw [← within_count (all6 h6) hb, ← outs_length, List.countP_eq_length]
  intro o ho
  have := wrong_le S o (by rw [outs_len ho, isBox_len hb]; exact Nat.le_refl _)
  rw [outs_len ho] at this
  simpa using this
/-- a box with more runners in a race -/
def wideS (S : List Nat) (r m : Nat) : List Nat := S.set r (S.getD r 0 ||| m)
theorem getD_set (S : List Nat) (r k v : Nat) (hk : k < S.length) : (S.set r v).getD k 0 = if r = k then v else S.getD k 0 := by
  rw [List.getD_eq_getElem?_getD, List.getElem?_set, List.getD_eq_getElem?_getD]
  by_cases h : r = k
  · subst h; simp [hk]
  · simp [h]
theorem wide_box {R S : List Nat} (hb : isBox R S = true) {r m : Nat} (hr : r < R.length) (hm : m < 2 ^ R.getD r 0) : isBox R (wideS S r m) = true := by
  rw [isBox_iff] at hb ⊢
  obtain ⟨hl, h⟩ := hb
  refine ⟨by simp [wideS, hl], fun k hk => ?_⟩
  unfold wideS
  rw [getD_set _ _ _ _ (by omega)]
  by_cases e : r = k
  · subst e
    rw [if_pos rfl]
    have := h r hr
    exact ⟨Nat.le_trans this.1 Nat.left_le_or, Nat.or_lt_two_pow this.2 hm⟩
  · rw [if_neg e]; exact h k hk
theorem wide_wrong (S : List Nat) (r m : Nat) (o : List Nat) : wrongN (wideS S r m) o ≤ wrongN S o := by
  unfold wideS
  induction S generalizing r o with
  | nil => simp
  | cons s S ih =>
    cases o with
    | nil => cases r <;> simp [wrongN]
    | cons i o =>
      cases r with
      | zero =>
        simp only [List.set_cons_zero, List.getD_cons_zero, wrongN, Nat.testBit_or]
        cases s.testBit i <;> cases m.testBit i <;> simp
      | succ r =>
        simp only [List.set_cons_succ, List.getD_cons_succ, wrongN]
        have := ih r o
        omega
theorem within_wide {R S : List Nat} (h6 : ∀ n, n ∈ R → n ≤ 6) (hb : isBox R S = true) {r m : Nat} (hr : r < R.length) (hm : m < 2 ^ R.getD r 0) (w : Nat) : withinN R S w ≤ withinN R (wideS S r m) w := by
  rw [← within_count (all6 h6) hb, ← within_count (all6 h6) (wide_box hb hr hm)]
  exact List.countP_mono_left fun o _ h1 => by
    rw [decide_eq_true_eq] at h1 ⊢
    have := wide_wrong S r m o
    omega
/-- behind some races -/
theorem sumTo_one (v i : Nat) : sumTo (fun j => if v = j then 1 else 0) i = if v < i then 1 else 0 := by
  induction i with
  | zero => rfl
  | succ i ih => rw [sumTo_succ, ih]; split <;> split <;> split <;> omega
theorem sumTo_add (f g : Nat → Nat) (n : Nat) : sumTo (fun i => f i + g i) n = sumTo f n + sumTo g n := by
  induction n with
  | zero => rfl
  | succ n ih => simp only [sumTo_succ, ih]; omega
theorem sumTo_zero (n : Nat) : sumTo (fun _ => 0) n = 0 := by
  induction n with
  | zero => rfl
  | succ n ih => rw [sumTo_succ, ih]
theorem countP_split {α : Type} (l : List α) (p : α → Bool) (q : Nat → α → Bool) (f : α → Nat) (n : Nat) (hf : ∀ x, x ∈ l → f x < n) (h : ∀ x, x ∈ l → ∀ i, q i x = (p x && decide (f x = i))) : sumTo (fun i => l.countP (q i)) n = l.countP p := by
  induction l with
  | nil => simp [sumTo_zero]
  | cons a l ih =>
    have ih := ih (fun x hx => hf x (by simp [hx])) (fun x hx => h x (by simp [hx]))
    simp only [List.countP_cons]
    rw [sumTo_add, ih]
    congr 1
    rw [sumTo_congr (g := fun i => if f a = i then (if p a = true then 1 else 0) else 0) (fun i _ => by
      rw [h a (by simp) i]
      by_cases e : f a = i <;> cases p a <;> simp [e])]
    have hn := hf a (by simp)
    cases p a with
    | false => simp only [Bool.false_eq_true, if_false, ite_self]; rw [sumTo_zero]
    | true => simp only [if_true]; rw [sumTo_one, if_pos hn]
theorem after_split {R : List Nat} {ts : List Tk} {won : List Nat} (hk : won.length < R.length) : sumTo (fun i => afterN R ts (won ++ [i])) (R.getD won.length 0) = afterN R ts won := by
  unfold afterN
  refine countP_split _ _ _ (fun o => o.getD won.length 0) _ (fun o ho => ((mem_outs R o).1 ho).2 _ hk) (fun o ho i => ?_)
  have hol := outs_len ho
  rw [List.length_append, List.length_singleton, List.take_succ_eq_append_getElem (by omega), List.getD_eq_getElem?_getD, List.getElem?_eq_getElem (by omega)]
  rw [Bool.eq_iff_iff]
  simp only [Bool.and_eq_true, decide_eq_true_eq, Option.getD_some]
  constructor
  · rintro ⟨h1, h2⟩
    have := List.append_inj h1 (by simp; omega)
    exact ⟨⟨this.1, h2⟩, by simpa using this.2⟩
  · rintro ⟨⟨h1, h2⟩, h3⟩
    exact ⟨by rw [h1, h3], h2⟩
theorem mem_alive (ts : List Tk) (won : List Nat) (i : Nat) : ∀ n, i ∈ aliveN ts won n ↔ i < n ∧ win (ts.getD i ([], 0)).1 won = true
  | 0 => by simp [aliveN]
  | n + 1 => by
    rw [aliveN, List.mem_append, mem_alive ts won i n, win_wrong]
    by_cases hi : i = n
    · subst hi
      split <;> simp_all
    · split <;> simp [hi] <;> omega
theorem win_take {S o : List Nat} (k : Nat) (h : win S o = true) : win S (o.take k) = true := by
  induction S generalizing o k with
  | nil => cases o with
    | nil => simp [win]
    | cons => simp [win] at h
  | cons s S ih =>
    cases o with
    | nil => simp [win]
    | cons i o =>
      cases k with
      | zero => simp [win]
      | succ k =>
        simp only [win, Bool.and_eq_true, List.take_succ_cons] at h ⊢
        exact ⟨h.1, ih k h.2⟩
theorem alive_sub {ts : List Tk} {won own : List Nat} (n : Nat) (k : Nat) (h : own.take k = won) {i : Nat} (hi : i ∈ aliveN ts own n) : i ∈ aliveN ts won n := by
  rw [mem_alive] at hi ⊢
  exact ⟨hi.1, by rw [← h]; exact win_take k hi.2⟩
theorem alive_len {ts : List Tk} {won own : List Nat} (n : Nat) (k : Nat) (h : own.take k = won) : (aliveN ts own n).length ≤ (aliveN ts won n).length := by
  induction n with
  | zero => exact Nat.le_refl _
  | succ n ih =>
    simp only [aliveN, List.length_append]
    have : wrongN (ts.getD n ([], 0)).1 own = 0 → wrongN (ts.getD n ([], 0)).1 won = 0 := fun h1 => by
      have h2 : win (ts.getD n ([], 0)).1 own = true := by rw [win_wrong]; simpa using h1
      have h3 := win_take k h2
      rw [h, win_wrong] at h3
      simpa using h3
    split
    · rename_i h1; rw [if_pos (this h1)]; simp; omega
    · split <;> simp <;> omega
theorem alive_nil (ts : List Tk) (n : Nat) : (aliveN ts [] n).length = n := by
  induction n with
  | zero => rfl
  | succ n ih =>
    have : ∀ S : List Nat, wrongN S [] = 0 := fun S => by cases S <;> rfl
    rw [aliveN, if_pos (this _), List.length_append, ih]; rfl
theorem outs_count : ∀ {R o : List Nat}, o ∈ outs R → (outs R).countP (fun x => decide (x = o)) = 1
  | [], o, h => by
    have : o = [] := by simpa [outs] using h
    subst this; rfl
  | n :: R, o, h => by
    rw [countP_outs]
    cases o with
    | nil => have := outs_len h; simp at this
    | cons i o =>
      have hm := (mem_outs _ _).1 h
      have hi : i < n := by simpa using hm.2 0 (by simp)
      have ho : o ∈ outs R := by
        rw [mem_outs]
        refine ⟨by simpa using hm.1, fun r hr => ?_⟩
        simpa using hm.2 (r + 1) (by simpa using hr)
      have : (fun j => (outs R).countP fun x => decide (j :: x = i :: o)) = fun j => if i = j then 1 else 0 := by
        funext j
        by_cases e : j = i
        · subst e
          rw [if_pos rfl, ← outs_count ho]
          exact List.countP_congr fun x _ => by simp
        · rw [if_neg (fun h => e h.symm), List.countP_eq_zero]
          intro x _
          simp [e]
      rw [this]
      exact (sumTo_one i n).trans (if_pos hi)
theorem after_last {R : List Nat} {ts : List Tk} {o : List Nat} (ho : o ∈ outs R) : afterN R ts o = if 0 < uni ts o then 1 else 0 := by
  unfold afterN
  have hol := outs_len ho
  by_cases h : 0 < uni ts o
  · rw [if_pos h, ← outs_count ho]
    refine List.countP_congr fun x hx => ?_
    have hxl := outs_len hx
    rw [List.take_of_length_le (by omega)]
    simp only [Bool.and_eq_true, decide_eq_true_eq]
    exact ⟨fun h => h.1, fun e => ⟨e, by rw [e]; exact h⟩⟩
  · rw [if_neg h, List.countP_eq_zero]
    intro x hx
    have hxl := outs_len hx
    rw [List.take_of_length_le (by omega)]
    simp only [Bool.and_eq_true, decide_eq_true_eq]
    rintro ⟨e, h2⟩
    rw [e] at h2
    exact h h2
theorem uni_pos {ts : List Tk} (hu : ∀ t, t ∈ ts → 1 ≤ t.2) (o : List Nat) : 0 < uni ts o ↔ ∃ t, t ∈ ts ∧ win t.1 o = true := by
  unfold uni
  induction ts with
  | nil => simp
  | cons t ts ih =>
    have ih := ih (fun x hx => hu x (by simp [hx]))
    have := hu t (by simp)
    simp only [List.map_cons, List.sum_cons]
    cases hw : win t.1 o with
    | true => simp only [if_true]; exact ⟨fun _ => ⟨t, by simp, hw⟩, fun _ => by omega⟩
    | false =>
      simp only [Bool.false_eq_true, if_false, Nat.zero_add]
      rw [ih]
      constructor
      · rintro ⟨x, hx, h⟩; exact ⟨x, by simp [hx], h⟩
      · rintro ⟨x, hx, h⟩
        rcases List.mem_cons.1 hx with rfl | hx
        · rw [hw] at h; cases h
        · exact ⟨x, hx, h⟩
theorem after_min {R : List Nat} {ts : List Tk} {o : List Nat} (hu : ∀ t, t ∈ ts → 1 ≤ t.2) (ho : o ∈ outs R) : afterN R ts o = min 1 (aliveN ts o ts.length).length := by
  rw [after_last ho]
  have key : 0 < uni ts o ↔ 0 < (aliveN ts o ts.length).length := by
    rw [uni_pos hu, List.length_pos_iff_exists_mem]
    constructor
    · rintro ⟨t, ht, hw⟩
      obtain ⟨i, hi, rfl⟩ := List.getElem_of_mem ht
      refine ⟨i, (mem_alive _ _ _ _).2 ⟨hi, ?_⟩⟩
      rw [List.getD_eq_getElem?_getD, List.getElem?_eq_getElem hi]
      exact hw
    · rintro ⟨i, hi⟩
      obtain ⟨h1, h2⟩ := (mem_alive _ _ _ _).1 hi
      rw [List.getD_eq_getElem?_getD, List.getElem?_eq_getElem h1] at h2
      exact ⟨_, List.getElem_mem h1, h2⟩
  split <;> omega
end Go.Proofs.Ytlbkaeoagdbemaa.Bm
namespace Go.Proofs.Ytlbkaeoagdbemaa.Bm
theorem sub_bits6 : ∀ s : Fin 64, ∀ m : Fin 64, s.1 &&& m.1 = m.1 → ∀ k : Fin 6, (s.1 - m.1).testBit k.1 = (s.1.testBit k.1 && !m.1.testBit k.1) := by decide +kernel
theorem sub_bits {s m k : Nat} (hs : s < 64) (h : s &&& m = m) : (s - m).testBit k = (s.testBit k && !m.testBit k) := by
  have hm : m < 64 := by rw [← h]; exact Nat.lt_of_le_of_lt Nat.and_le_left hs
  by_cases hk : k < 6
  · exact sub_bits6 ⟨s, hs⟩ ⟨m, hm⟩ h ⟨k, hk⟩
  · rw [bit_out (n := 6) (by omega) (by omega), bit_out (n := 6) (by omega) (by omega)]; rfl
theorem and_twice (s x : Nat) : s &&& (s &&& x) = s &&& x := by rw [← Nat.and_assoc, Nat.and_self]
theorem win_iff : ∀ (S o : List Nat), win S o = true ↔ o.length ≤ S.length ∧ ∀ k, k < o.length → (S.getD k 0).testBit (o.getD k 0) = true
  | [], [] => by simp [win]
  | _ :: _, [] => by simp [win]
  | [], _ :: _ => by simp [win]
  | s :: S, i :: o => by
    rw [win, Bool.and_eq_true, win_iff S o]
    simp only [List.length_cons]
    constructor
    · rintro ⟨h0, h1, h2⟩
      refine ⟨by omega, fun k hk => ?_⟩
      cases k with
      | zero => simpa using h0
      | succ k => simpa using h2 k (by omega)
    · rintro ⟨h1, h2⟩
      refine ⟨by simpa using h2 0 (by omega), by omega, fun k hk => ?_⟩
      simpa using h2 (k + 1) (by omega)
theorem win_cut {R S : List Nat} (hb : isBox R S = true) (h6 : ∀ n, n ∈ R → n ≤ 6) {r m : Nat} (hr : r < R.length) (hm : S.getD r 0 &&& m = m) {o : List Nat} (ho : o ∈ outs R) :
    (if win S o = true then 1 else 0) = (if win (S.set r m) o = true then 1 else 0) + if win (S.set r (S.getD r 0 - m)) o = true then 1 else 0 := by
  have hl := isBox_len hb
  have hol := outs_len ho
  have hs : S.getD r 0 < 64 := Nat.lt_of_lt_of_le (isBox_at hb r hr).2 (pow_le6 (by rw [List.getD_eq_getElem?_getD, List.getElem?_eq_getElem hr]; exact h6 _ (List.getElem_mem hr)))
  have hS : ∀ v, win (S.set r v) o = true ↔ v.testBit (o.getD r 0) = true ∧ ∀ k, k < o.length → k ≠ r → (S.getD k 0).testBit (o.getD k 0) = true := fun v => by
    rw [win_iff, List.length_set]
    constructor
    · rintro ⟨_, h⟩
      refine ⟨?_, fun k hk hkr => ?_⟩
      · have := h r (by omega); rwa [getD_set _ _ _ _ (by omega), if_pos rfl] at this
      · have := h k hk; rwa [getD_set _ _ _ _ (by omega), if_neg (fun e => hkr e.symm)] at this
    · rintro ⟨h1, h2⟩
      refine ⟨by omega, fun k hk => ?_⟩
      rw [getD_set _ _ _ _ (by omega)]
      by_cases e : r = k
      · subst e; rwa [if_pos rfl]
      · rw [if_neg e]; exact h2 k hk (fun h => e h.symm)
  have h0 : win S o = true ↔ (S.getD r 0).testBit (o.getD r 0) = true ∧ ∀ k, k < o.length → k ≠ r → (S.getD k 0).testBit (o.getD k 0) = true := by
    rw [← hS]
    have : S.set r (S.getD r 0) = S := by
      rw [List.getD_eq_getElem?_getD, List.getElem?_eq_getElem (by omega)]
      exact List.set_getElem_self (by omega)
    rw [this]
  have hb := sub_bits (k := o.getD r 0) hs hm
  have hmb : m.testBit (o.getD r 0) = true → (S.getD r 0).testBit (o.getD r 0) = true := fun h => by
    rw [← hm, Nat.testBit_and, Bool.and_eq_true] at h; exact h.1
  by_cases hrest : ∀ k, k < o.length → k ≠ r → (S.getD k 0).testBit (o.getD k 0) = true
  · simp only [hS, h0, hb]
    cases h1 : m.testBit (o.getD r 0) with
    | true => rw [hmb h1]; simp
    | false => cases (S.getD r 0).testBit (o.getD r 0) <;> simp
  · rw [if_neg (fun h => hrest (h0.1 h).2), if_neg (fun h => hrest ((hS _).1 h).2), if_neg (fun h => hrest ((hS _).1 h).2)]
theorem cut_half {R S : List Nat} (hb : isBox R S = true) {r m : Nat} (hr : r < R.length) (hm : S.getD r 0 &&& m = m) (h0 : m ≠ 0) : isBox R (S.set r m) = true := by
  have hl := isBox_len hb
  rw [isBox_iff] at hb ⊢
  refine ⟨by rw [List.length_set]; exact hl, fun k hk => ?_⟩
  rw [getD_set _ _ _ _ (by omega)]
  by_cases e : r = k
  · subst e
    rw [if_pos rfl]
    have := (hb.2 r hr).2
    have h2 : m ≤ S.getD r 0 := by rw [← hm]; exact Nat.and_le_left
    omega
  · rw [if_neg e]; exact hb.2 k hk
theorem cut_rest {R S : List Nat} (hb : isBox R S = true) {r m : Nat} (hr : r < R.length) (hm : S.getD r 0 &&& m = m) (h1 : m ≠ S.getD r 0) : isBox R (S.set r (S.getD r 0 - m)) = true := by
  have hl := isBox_len hb
  rw [isBox_iff] at hb ⊢
  refine ⟨by rw [List.length_set]; exact hl, fun k hk => ?_⟩
  rw [getD_set _ _ _ _ (by omega)]
  by_cases e : r = k
  · subst e
    rw [if_pos rfl]
    have := (hb.2 r hr).2
    have h2 : m ≤ S.getD r 0 := by rw [← hm]; exact Nat.and_le_left
    omega
  · rw [if_neg e]; exact hb.2 k hk
/-- the parts of a ticket have its outcomes -/
theorem size_parts {R S : List Nat} (hb : isBox R S = true) (h6 : ∀ n, n ∈ R → n ≤ 6) {r m : Nat} (hr : r < R.length) (hm : S.getD r 0 &&& m = m) (h0 : m ≠ 0) (h1 : m ≠ S.getD r 0) : size S = size (S.set r m) + size (S.set r (S.getD r 0 - m)) := by
  rw [← size_count (all6 h6) hb, ← size_count (all6 h6) (cut_half hb hr hm h0), ← size_count (all6 h6) (cut_rest hb hr hm h1), countP_sum, countP_sum, countP_sum, ← sum_map_add]
  exact sum_map_congr fun o ho => win_cut hb h6 hr hm ho
/-- the tickets with the one in its two parts -/
def cutT (ts : List Tk) (i r m : Nat) : List Tk := ts.set i ((ts.getD i ([], 0)).1.set r m, (ts.getD i ([], 0)).2) ++ [((ts.getD i ([], 0)).1.set r ((ts.getD i ([], 0)).1.getD r 0 - m), (ts.getD i ([], 0)).2)]
theorem uni_app (a b : List Tk) (o : List Nat) : uni (a ++ b) o = uni a o + uni b o := by
  unfold uni; rw [List.map_append, List.sum_append]
theorem uni_cons (t : Tk) (b : List Tk) (o : List Nat) : uni (t :: b) o = (if win t.1 o = true then t.2 else 0) + uni b o := by
  unfold uni; rw [List.map_cons, List.sum_cons]
theorem ite_mul (b : Bool) (u : Nat) : (if b = true then u else 0) = (if b = true then 1 else 0) * u := by cases b <;> simp
theorem uni_cut {R : List Nat} {ts : List Tk} (hb : ∀ t, t ∈ ts → isBox R t.1 = true) (h6 : ∀ n, n ∈ R → n ≤ 6) {i r m : Nat} (hi : i < ts.length) (hr : r < R.length) (hm : (ts.getD i ([], 0)).1.getD r 0 &&& m = m) {o : List Nat} (ho : o ∈ outs R) : uni (cutT ts i r m) o = uni ts o := by
  have e : ts = ts.take i ++ ts.getD i ([], 0) :: ts.drop (i + 1) := by
    rw [List.getD_eq_getElem?_getD, List.getElem?_eq_getElem hi, Option.getD_some, ← List.drop_eq_getElem_cons hi, List.take_append_drop]
  have hbi : isBox R (ts.getD i ([], 0)).1 = true := by
    rw [List.getD_eq_getElem?_getD, List.getElem?_eq_getElem hi]; exact hb _ (List.getElem_mem hi)
  unfold cutT
  rw [List.set_eq_take_append_cons_drop, if_pos hi]
  conv => rhs; rw [e]
  generalize ts.getD i ([], 0) = t at *
  rw [uni_app, uni_app, uni_app, uni_cons, uni_cons, uni_cons]
  have := win_cut hbi h6 hr hm ho
  have h2 : (if win t.1 o = true then t.2 else 0) = (if win (t.1.set r m) o = true then t.2 else 0) + if win (t.1.set r (t.1.getD r 0 - m)) o = true then t.2 else 0 := by
    have h3 := ite_mul (win t.1 o) t.2
    rw [this, Nat.add_mul, ← ite_mul, ← ite_mul] at h3
    exact h3
  have h3 : uni [] o = 0 := rfl
  simp only
  omega
theorem cutT_len (ts : List Tk) (i r m : Nat) : (cutT ts i r m).length = ts.length + 1 := by simp [cutT]
theorem solo_any (R : List Nat) (ts : List Tk) (t : Tk) : soloN R ts t = true ↔ ∃ o, o ∈ outs R ∧ win t.1 o = true ∧ uni ts o = t.2 := by
  unfold soloN soloF
  rw [List.any_eq_true]
  constructor
  · rintro ⟨o, ho, h⟩
    rw [Bool.and_eq_true, decide_eq_true_eq, decide_eq_true_eq] at h
    exact ⟨o, ho, by rw [win_wrong]; simpa using h.1, h.2⟩
  · rintro ⟨o, ho, h1, h2⟩
    rw [win_wrong, decide_eq_true_eq] at h1
    exact ⟨o, ho, by rw [h1, h2]; simp⟩
theorem solo_cut {R : List Nat} {ts : List Tk} (hb : ∀ t, t ∈ ts → isBox R t.1 = true) (h6 : ∀ n, n ∈ R → n ≤ 6) {i r m : Nat} (hi : i < ts.length) (hr : r < R.length) (hm : (ts.getD i ([], 0)).1.getD r 0 &&& m = m) (t : Tk) : soloN R (cutT ts i r m) t = soloN R ts t := by
  rw [Bool.eq_iff_iff, solo_any, solo_any]
  constructor
  · rintro ⟨o, ho, h1, h2⟩; exact ⟨o, ho, h1, by rw [← h2, uni_cut hb h6 hi hr hm ho]⟩
  · rintro ⟨o, ho, h1, h2⟩; exact ⟨o, ho, h1, by rw [← h2, uni_cut hb h6 hi hr hm ho]⟩
theorem solo_two {R : List Nat} {ts : List Tk} {S : List Nat} {u : Nat} (hb : isBox R S = true) (h6 : ∀ n, n ∈ R → n ≤ 6) {r m : Nat} (hr : r < R.length) (hm : S.getD r 0 &&& m = m) : soloN R ts (S, u) = (soloN R ts (S.set r m, u) || soloN R ts (S.set r (S.getD r 0 - m), u)) := by
  rw [Bool.eq_iff_iff, Bool.or_eq_true, solo_any, solo_any, solo_any]
  constructor
  · rintro ⟨o, ho, h1, h2⟩
    have h3 := win_cut hb h6 hr hm ho
    simp only at h1
    rw [h1, if_pos rfl] at h3
    cases h4 : win (S.set r m) o with
    | true => exact .inl ⟨o, ho, h4, h2⟩
    | false =>
      cases h5 : win (S.set r (S.getD r 0 - m)) o with
      | true => exact .inr ⟨o, ho, h5, h2⟩
      | false => rw [h4, h5] at h3; simp at h3
  · rintro (⟨o, ho, h1, h2⟩ | ⟨o, ho, h1, h2⟩)
    all_goals
      refine ⟨o, ho, ?_, h2⟩
      have h3 := win_cut hb h6 hr hm ho
      simp only at h1 ⊢
      rw [h1, if_pos rfl] at h3
      cases h4 : win S o with
      | true => rfl
      | false => rw [h4] at h3; simp only [Bool.false_eq_true, if_false] at h3; omega
theorem mem_idleN (R : List Nat) (ts : List Tk) (i : Nat) : ∀ n, i ∈ idleN R ts n ↔ i < n ∧ soloN R ts (ts.getD i ([], 0)) = false
  | 0 => by simp [idleN]
  | n + 1 => by
    rw [idleN, List.mem_append, mem_idleN R ts i n]
    by_cases hi : i = n
    · subst hi
      cases soloN R ts (ts.getD i ([], 0)) <;> simp
    · cases hs : soloN R ts (ts.getD n ([], 0)) <;> simp [hi] <;> omega
theorem getD_app_left {α : Type} (a b : List α) (d : α) {i : Nat} (h : i < a.length) : (a ++ b).getD i d = a.getD i d := by
  rw [List.getD_eq_getElem?_getD, List.getD_eq_getElem?_getD, List.getElem?_append_left h]
/-- any other ticket is idle as it was -/
theorem idle_other {R : List Nat} {ts : List Tk} (hb : ∀ t, t ∈ ts → isBox R t.1 = true) (h6 : ∀ n, n ∈ R → n ≤ 6) {i r m y : Nat} (hi : i < ts.length) (hr : r < R.length) (hm : (ts.getD i ([], 0)).1.getD r 0 &&& m = m) (hy : y < ts.length) (hyi : y ≠ i) : y ∈ idleN R (cutT ts i r m) (ts.length + 1) ↔ y ∈ idleN R ts ts.length := by
  rw [mem_idleN, mem_idleN, solo_cut hb h6 hi hr hm]
  have : (cutT ts i r m).getD y ([], 0) = ts.getD y ([], 0) := by
    unfold cutT
    rw [getD_app_left _ _ _ (by rw [List.length_set]; exact hy), List.getD_eq_getElem?_getD, List.getElem?_set, if_neg (fun e => hyi e.symm), List.getD_eq_getElem?_getD]
  rw [this]
  constructor
  · rintro ⟨_, h⟩; exact ⟨hy, h⟩
  · rintro ⟨_, h⟩; exact ⟨by omega, h⟩
theorem idle_own {R : List Nat} {ts : List Tk} (hb : ∀ t, t ∈ ts → isBox R t.1 = true) (h6 : ∀ n, n ∈ R → n ≤ 6) {i r m : Nat} (hi : i < ts.length) (hr : r < R.length) (hm : (ts.getD i ([], 0)).1.getD r 0 &&& m = m) : i ∈ idleN R ts ts.length ↔ i ∈ idleN R (cutT ts i r m) (ts.length + 1) ∧ ts.length ∈ idleN R (cutT ts i r m) (ts.length + 1) := by
  rw [mem_idleN, mem_idleN, mem_idleN, solo_cut hb h6 hi hr hm, solo_cut hb h6 hi hr hm]
  have hbi : isBox R (ts.getD i ([], 0)).1 = true := by
    rw [List.getD_eq_getElem?_getD, List.getElem?_eq_getElem hi]; exact hb _ (List.getElem_mem hi)
  have e1 : (cutT ts i r m).getD i ([], 0) = ((ts.getD i ([], 0)).1.set r m, (ts.getD i ([], 0)).2) := by
    unfold cutT
    rw [getD_app_left _ _ _ (by rw [List.length_set]; exact hi), List.getD_eq_getElem?_getD, List.getElem?_set, if_pos rfl, if_pos hi]; rfl
  have e2 : (cutT ts i r m).getD ts.length ([], 0) = ((ts.getD i ([], 0)).1.set r ((ts.getD i ([], 0)).1.getD r 0 - m), (ts.getD i ([], 0)).2) := by
    unfold cutT
    rw [List.getD_eq_getElem?_getD, List.getElem?_append_right (by rw [List.length_set]; exact Nat.le_refl _), List.length_set, Nat.sub_self]; rfl
  rw [e1, e2]
  generalize ts.getD i ([], 0) = t at *
  obtain ⟨S, u⟩ := t
  rw [solo_two hbi h6 hr hm (u := u), Bool.or_eq_false_iff]
  constructor
  · rintro ⟨_, h1, h2⟩; exact ⟨⟨by omega, h1⟩, by omega, h2⟩
  · rintro ⟨⟨_, h1⟩, _, h2⟩; exact ⟨hi, h1, h2⟩
end Go.Proofs.Ytlbkaeoagdbemaa.Bm
namespace Go.Proofs.Ytlbkaeoagdbemaa.Bm
theorem size_app : ∀ (S T : List Nat), size (S ++ T) = size S * size T
  | [], T => by simp [size]
  | s :: S, T => by rw [List.cons_append, size, size, size_app S T, Nat.mul_assoc]
theorem win_app : ∀ (S T o p : List Nat), o.length = S.length → win (S ++ T) (o ++ p) = (win S o && win T p)
  | [], T, [], p, _ => by simp [win]
  | [], _, _ :: _, _, h => by simp at h
  | _ :: _, _, [], _, h => by simp at h
  | s :: S, T, i :: o, p, h => by
    rw [List.cons_append, List.cons_append, win, win, win_app S T o p (by simpa using h), Bool.and_assoc]
theorem isBox_app : ∀ (R Q S T : List Nat), isBox R S = true → isBox Q T = true → isBox (R ++ Q) (S ++ T) = true
  | [], Q, [], T, _, h => h
  | [], _, _ :: _, _, h, _ => by simp [isBox] at h
  | _ :: _, _, [], _, h, _ => by simp [isBox] at h
  | n :: R, Q, s :: S, T, h, h2 => by
    rw [List.cons_append, List.cons_append, isBox]
    rw [isBox, Bool.and_eq_true] at h
    rw [h.1, isBox_app R Q S T h.2 h2]; rfl
theorem outs_app : ∀ (R Q : List Nat), outs (R ++ Q) = (outs R).flatMap fun o => (outs Q).map (o ++ ·)
  | [], Q => by simp [outs]
  | n :: R, Q => by
    rw [List.cons_append, outs, outs_app R Q, outs, List.flatMap_assoc]
    congr 1
    funext i
    rw [List.map_flatMap, List.flatMap_map]
    congr 1
    funext o
    rw [List.map_map]
    rfl
theorem countP_flat {α β : Type} (l : List α) (f : α → List β) (p : β → Bool) : (l.flatMap f).countP p = (l.map fun x => (f x).countP p).sum := by
  induction l with
  | nil => rfl
  | cons a l ih => rw [List.flatMap_cons, List.countP_append, ih, List.map_cons, List.sum_cons]
/-- each ticket of the one joined with each ticket of the other one -/
def joinT (ts us : List Tk) : List Tk := ts.flatMap fun t => us.map fun u => (t.1 ++ u.1, 1)
theorem join_len (ts us : List Tk) : (joinT ts us).length = ts.length * us.length := by
  unfold joinT
  induction ts with
  | nil => simp
  | cons t ts ih => rw [List.flatMap_cons, List.length_append, ih, List.length_map, List.length_cons, Nat.succ_mul, Nat.add_comm]
theorem mem_join {ts us : List Tk} {x : Tk} : x ∈ joinT ts us ↔ ∃ t, t ∈ ts ∧ ∃ u, u ∈ us ∧ (t.1 ++ u.1, 1) = x := by
  unfold joinT
  rw [List.mem_flatMap]
  simp only [List.mem_map]
theorem join_cov {R Q : List Nat} {ts us : List Tk} (hb : ∀ t, t ∈ ts → isBox R t.1 = true) (hu1 : ∀ t, t ∈ ts → 1 ≤ t.2) (hu2 : ∀ t, t ∈ us → 1 ≤ t.2) : afterN (R ++ Q) (joinT ts us) [] = afterN R ts [] * afterN Q us [] := by
  unfold afterN
  have hc : ∀ o, o ∈ outs R → ∀ p, p ∈ outs Q → decide (0 < uni (joinT ts us) (o ++ p)) = (decide (0 < uni ts o) && decide (0 < uni us p)) := fun o ho p hp => by
    rw [Bool.eq_iff_iff, Bool.and_eq_true, decide_eq_true_eq, decide_eq_true_eq, decide_eq_true_eq, uni_pos hu1, uni_pos hu2, uni_pos (fun x hx => by obtain ⟨t, _, u, _, rfl⟩ := mem_join.1 hx; exact Nat.le_refl _)]
    constructor
    · rintro ⟨x, hx, hw⟩
      obtain ⟨t, ht, u, hu, rfl⟩ := mem_join.1 hx
      rw [win_app _ _ _ _ (by rw [outs_len ho, isBox_len (hb t ht)]), Bool.and_eq_true] at hw
      exact ⟨⟨t, ht, hw.1⟩, u, hu, hw.2⟩
    · rintro ⟨⟨t, ht, h1⟩, u, hu, h2⟩
      exact ⟨_, mem_join.2 ⟨t, ht, u, hu, rfl⟩, by rw [win_app _ _ _ _ (by rw [outs_len ho, isBox_len (hb t ht)]), h1, h2]; rfl⟩
  have h1 : ∀ o, o ∈ outs R → ((outs Q).map (o ++ ·)).countP (fun o => decide (o.take ([] : List Nat).length = []) && decide (0 < uni (joinT ts us) o)) = if decide (0 < uni ts o) = true then (outs Q).countP (fun o => decide (o.take ([] : List Nat).length = []) && decide (0 < uni us o)) else 0 := fun o ho => by
    rw [List.countP_map]
    cases h : decide (0 < uni ts o) with
    | true =>
      rw [if_pos rfl]
      refine List.countP_congr fun p hp => ?_
      simp only [Function.comp, hc o ho p hp, h]
      simp
    | false =>
      rw [if_neg (by simp), List.countP_eq_zero]
      intro p hp
      simp only [Function.comp, hc o ho p hp, h]
      simp
  rw [outs_app, countP_flat, sum_map_congr h1, ite_sum]
  congr 1
end Go.Proofs.Ytlbkaeoagdbemaa.Bm
namespace Go.Proofs.Ytlbkaeoagdbemaa.Bm
/-- another numbering of the outcomes of a card: f there, g back -/
structure Turn (R Q : List Nat) (f g : List Nat → List Nat) : Prop where
  there : ∀ o, o ∈ outs R → f o ∈ outs Q
  back : ∀ o, o ∈ outs Q → g o ∈ outs R
  fg : ∀ o, o ∈ outs Q → f (g o) = o
  gf : ∀ o, o ∈ outs R → g (f o) = o
theorem countP_ne {α : Type} [DecidableEq α] {l : List α} {a : α} (h : a ∉ l) : l.countP (fun x => decide (x = a)) = 0 := by
  rw [List.countP_eq_zero]
  intro x hx
  simp only [decide_eq_true_eq]
  rintro rfl
  exact h hx
theorem Turn.perm {R Q : List Nat} {f g : List Nat → List Nat} (h : Turn R Q f g) : ((outs R).map f).Perm (outs Q) := by
  rw [List.perm_iff_count]
  intro a
  rw [List.count_eq_countP, List.count_eq_countP, List.countP_map]
  by_cases ha : a ∈ outs Q
  · have h1 : (outs Q).countP (fun x => x == a) = 1 := by rw [← outs_count ha]; exact List.countP_congr fun x _ => by simp
    have h2 : (outs R).countP ((fun x => x == a) ∘ f) = 1 := by
      rw [← outs_count (h.back a ha)]
      refine List.countP_congr fun x hx => ?_
      simp only [Function.comp, beq_iff_eq, decide_eq_true_eq]
      constructor
      · rintro rfl; exact (h.gf x hx).symm
      · rintro rfl; exact h.fg a ha
    rw [h1, h2]
  · rw [List.countP_eq_zero.2, List.countP_eq_zero.2]
    · intro x hx
      simp only [beq_iff_eq]
      rintro rfl
      exact ha hx
    · intro x hx
      simp only [Function.comp, beq_iff_eq]
      rintro rfl
      exact ha (h.there x hx)
theorem Turn.count {R Q : List Nat} {f g : List Nat → List Nat} (h : Turn R Q f g) (p q : List Nat → Bool) (hp : ∀ o, o ∈ outs R → q (f o) = p o) : (outs Q).countP q = (outs R).countP p := by
  rw [← h.perm.countP_eq, List.countP_map]
  exact List.countP_congr fun o ho => by simp only [Function.comp, hp o ho]
/-- the wins stay -/
def Same (R : List Nat) (f : List Nat → List Nat) (ts xs : List Tk) : Prop := xs.length = ts.length ∧ ∀ i, i < ts.length → (xs.getD i ([], 0)).2 = (ts.getD i ([], 0)).2 ∧ ∀ o, o ∈ outs R → wrongN (xs.getD i ([], 0)).1 (f o) = wrongN (ts.getD i ([], 0)).1 o
theorem uni_sumTo (ts : List Tk) (o : List Nat) : uni ts o = sumTo (fun i => if wrongN (ts.getD i ([], 0)).1 o = 0 then (ts.getD i ([], 0)).2 else 0) ts.length := by
  unfold uni
  rw [map_sumTo (d := ([], 0))]
  refine sumTo_congr fun i _ => ?_
  rw [win_wrong]
  by_cases h : wrongN (ts.getD i ([], 0)).1 o = 0 <;> simp
theorem Same.uni {R : List Nat} {f : List Nat → List Nat} {ts xs : List Tk} (h : Same R f ts xs) {o : List Nat} (ho : o ∈ outs R) : uni xs (f o) = uni ts o := by
  rw [uni_sumTo, uni_sumTo, h.1]
  refine sumTo_congr fun i hi => ?_
  obtain ⟨h1, h2⟩ := h.2 i hi
  rw [h1, h2 o ho]
theorem Turn.cov {R Q : List Nat} {f g : List Nat → List Nat} (h : Turn R Q f g) {ts xs : List Tk} (hs : Same R f ts xs) : afterN Q xs [] = afterN R ts [] := by
  unfold afterN
  exact h.count _ _ fun o ho => by rw [hs.uni ho]; simp
theorem Turn.solo {R Q : List Nat} {f g : List Nat → List Nat} (h : Turn R Q f g) {ts xs : List Tk} (hs : Same R f ts xs) {i : Nat} (hi : i < ts.length) : soloN Q xs (xs.getD i ([], 0)) = soloN R ts (ts.getD i ([], 0)) := by
  obtain ⟨h1, h2⟩ := hs.2 i hi
  rw [Bool.eq_iff_iff, solo_any, solo_any]
  constructor
  · rintro ⟨o, ho, e1, e2⟩
    have hm := h.back o ho
    have hf := h.fg o ho
    refine ⟨g o, hm, ?_, ?_⟩
    · rw [win_wrong, ← h2 _ hm, hf, ← win_wrong]; exact e1
    · rw [← hs.uni hm, hf, e2, h1]
  · rintro ⟨o, ho, e1, e2⟩
    refine ⟨f o, h.there o ho, ?_, ?_⟩
    · rw [win_wrong, h2 o ho, ← win_wrong]; exact e1
    · rw [hs.uni ho, e2, h1]
theorem Turn.idle {R Q : List Nat} {f g : List Nat → List Nat} (h : Turn R Q f g) {ts xs : List Tk} (hs : Same R f ts xs) : ∀ n, n ≤ ts.length → idleN Q xs n = idleN R ts n
  | 0, _ => rfl
  | n + 1, hn => by rw [idleN, idleN, h.idle hs n (by omega), h.solo hs (by omega)]
theorem Turn.within {R Q : List Nat} {f g : List Nat → List Nat} (h : Turn R Q f g) {S T : List Nat} (h6 : ∀ n, n ∈ R → n ≤ 6) (hQ : ∀ n, n ∈ Q → n ≤ 6) (hb : isBox R S = true) (hT : isBox Q T = true) (hw : ∀ o, o ∈ outs R → wrongN T (f o) = wrongN S o) (m : Nat) : withinN Q T m = withinN R S m := by
  rw [← within_count (all6 h6) hb, ← within_count (all6 hQ) hT]
  exact h.count _ _ fun o ho => by rw [hw o ho]
/-- the greatest units stay -/
theorem Turn.most {R Q : List Nat} {f g : List Nat → List Nat} (h : Turn R Q f g) {ts xs : List Tk} (hs : Same R f ts xs) {o p : List Nat} (ho : o ∈ outs R) (hp : p ∈ outs Q) (h1 : ∀ x, x ∈ outs R → uni ts x ≤ uni ts o) (h2 : ∀ x, x ∈ outs Q → uni xs x ≤ uni xs p) : uni xs p = uni ts o := by
  have e1 := h1 _ (h.back p hp)
  have e2 := h2 _ (h.there o ho)
  rw [hs.uni ho] at e2
  rw [← hs.uni (h.back p hp), h.fg p hp] at e1
  omega
def c1 (s i : Nat) : Nat := if s.testBit i then 0 else 1
theorem wrong_set : ∀ (S o : List Nat) (k v j : Nat), k < o.length → o.length ≤ S.length → wrongN (S.set k v) (o.set k j) + c1 (S.getD k 0) (o.getD k 0) = wrongN S o + c1 v j
  | [], o, k, v, j, h1, h2 => by rw [List.length_nil] at h2; omega
  | _ :: _, [], k, v, j, h1, h2 => by simp at h1
  | s :: S, i :: o, 0, v, j, h1, h2 => by
    simp only [List.set_cons_zero, List.getD_cons_zero, wrongN, c1]; omega
  | s :: S, i :: o, k + 1, v, j, h1, h2 => by
    have := wrong_set S o k v j (by simpa using h1) (by simpa using h2)
    simp only [List.set_cons_succ, List.getD_cons_succ, wrongN] at this ⊢
    omega
/-- two places of a list are exchanged -/
def swapL (l : List Nat) (a b : Nat) : List Nat := (l.set a (l.getD b 0)).set b (l.getD a 0)
theorem swapL_len (l : List Nat) (a b : Nat) : (swapL l a b).length = l.length := by simp [swapL]
theorem swapL_at (l : List Nat) {a b k : Nat} (ha : a < l.length) (hb : b < l.length) (hk : k < l.length) : (swapL l a b).getD k 0 = l.getD (if k = b then a else if k = a then b else k) 0 := by
  unfold swapL
  rw [getD_set _ _ _ _ (by rw [List.length_set]; exact hk), getD_set _ _ _ _ hk]
  by_cases h1 : k = b
  · subst h1; simp
  · rw [if_neg (fun e => h1 e.symm), if_neg h1]
    by_cases h2 : k = a
    · subst h2; simp
    · rw [if_neg (fun e => h2 e.symm), if_neg h2]
theorem ext_getD {l m : List Nat} (h : l.length = m.length) (h2 : ∀ k, k < l.length → l.getD k 0 = m.getD k 0) : l = m := by
  refine List.ext_getElem h fun k h1 h3 => ?_
  have := h2 k h1
  rwa [List.getD_eq_getElem?_getD, List.getD_eq_getElem?_getD, List.getElem?_eq_getElem h1, List.getElem?_eq_getElem h3] at this
theorem swapL_twice (l : List Nat) {a b : Nat} (ha : a < l.length) (hb : b < l.length) : swapL (swapL l a b) a b = l := by
  refine ext_getD (by rw [swapL_len, swapL_len]) fun k hk => ?_
  rw [swapL_len, swapL_len] at hk
  have h2 : (if k = b then a else if k = a then b else k) < l.length := by split; exact ha; split; exact hb; exact hk
  rw [swapL_at _ (by rw [swapL_len]; exact ha) (by rw [swapL_len]; exact hb) (by rw [swapL_len]; exact hk), swapL_at _ ha hb h2]
  congr 1
  split <;> split <;> (try split) <;> (try split) <;> omega
theorem swap_wrong {S o : List Nat} {a b : Nat} (ha : a < o.length) (hb : b < o.length) (hl : o.length ≤ S.length) : wrongN (swapL S a b) (swapL o a b) = wrongN S o := by
  have h1 := wrong_set S o a (S.getD b 0) (o.getD b 0) ha hl
  have h2 := wrong_set (S.set a (S.getD b 0)) (o.set a (o.getD b 0)) b (S.getD a 0) (o.getD a 0) (by rw [List.length_set]; exact hb) (by rw [List.length_set, List.length_set]; exact hl)
  rw [getD_set _ _ _ _ (by omega), getD_set _ _ _ _ hb] at h2
  unfold swapL
  by_cases e : a = b
  · subst e; rw [if_pos rfl, if_pos rfl] at h2; omega
  · rw [if_neg e, if_neg e] at h2; omega
theorem swap_out {R o : List Nat} {a b : Nat} (ha : a < R.length) (hb : b < R.length) (ho : o ∈ outs R) : swapL o a b ∈ outs (swapL R a b) := by
  have hl := outs_len ho
  rw [mem_outs, swapL_len, swapL_len]
  refine ⟨hl, fun r hr => ?_⟩
  rw [swapL_at _ (by omega) (by omega) (by omega), swapL_at _ ha hb hr]
  refine ((mem_outs _ _).1 ho).2 _ ?_
  split; exact ha; split; exact hb; exact hr
theorem swap_turn {R : List Nat} {a b : Nat} (ha : a < R.length) (hb : b < R.length) : Turn R (swapL R a b) (fun o => swapL o a b) (fun o => swapL o a b) := by
  refine ⟨fun o ho => swap_out ha hb ho, fun o ho => ?_, fun o ho => ?_, fun o ho => ?_⟩
  · have := swap_out (a := a) (b := b) (by rw [swapL_len]; exact ha) (by rw [swapL_len]; exact hb) ho
    rwa [swapL_twice _ ha hb] at this
  · have := outs_len ho; rw [swapL_len] at this
    exact swapL_twice _ (by omega) (by omega)
  · have := outs_len ho
    exact swapL_twice _ (by omega) (by omega)
theorem swap_box {R S : List Nat} {a b : Nat} (ha : a < R.length) (hb : b < R.length) (h : isBox R S = true) : isBox (swapL R a b) (swapL S a b) = true := by
  have hl := isBox_len h
  rw [isBox_iff, swapL_len, swapL_len]
  refine ⟨hl, fun r hr => ?_⟩
  rw [swapL_at _ (by omega) (by omega) (by omega), swapL_at _ ha hb hr]
  refine (isBox_iff.1 h).2 _ ?_
  split; exact ha; split; exact hb; exact hr
/-- two runners of a race are exchanged -/
def sw (p q i : Nat) : Nat := if i = p then q else if i = q then p else i
def swb (p q s : Nat) : Nat := ((s ^^^ (s &&& (2 ^ p ||| 2 ^ q))) ||| ((s >>> p &&& 1) <<< q)) ||| ((s >>> q &&& 1) <<< p)
theorem sw_twice (p q i : Nat) : sw p q (sw p q i) = i := by unfold sw; split <;> split <;> (try split) <;> omega
theorem sw_lt {p q i n : Nat} (hp : p < n) (hq : q < n) (hi : i < n) : sw p q i < n := by unfold sw; split; exact hq; split; exact hp; exact hi
theorem swb_bit6 : ∀ p : Fin 6, ∀ q : Fin 6, ∀ s : Fin 64, ∀ i : Fin 6, (swb p.1 q.1 s.1).testBit (sw p.1 q.1 i.1) = s.1.testBit i.1 := by decide +kernel
theorem swb_lt6 : ∀ n : Fin 7, ∀ p : Fin n.1, ∀ q : Fin n.1, ∀ s : Fin (2 ^ n.1), (1 ≤ s.1 → 1 ≤ swb p.1 q.1 s.1) ∧ swb p.1 q.1 s.1 < 2 ^ n.1 := by decide +kernel
theorem swr_wrong {R S o : List Nat} {a p q : Nat} (h6 : ∀ n, n ∈ R → n ≤ 6) (hb : isBox R S = true) (ho : o ∈ outs R) (ha : a < R.length) (hp : p < R.getD a 0) (hq : q < R.getD a 0) : wrongN (S.set a (swb p q (S.getD a 0))) (o.set a (sw p q (o.getD a 0))) = wrongN S o := by
  have hn : R.getD a 0 ≤ 6 := by rw [List.getD_eq_getElem?_getD, List.getElem?_eq_getElem ha]; exact h6 _ (List.getElem_mem ha)
  have hl := isBox_len hb
  have hol := outs_len ho
  have h1 := wrong_set S o a (swb p q (S.getD a 0)) (sw p q (o.getD a 0)) (by omega) (by omega)
  have hs := isBox_at hb a ha
  have hi := ((mem_outs _ _).1 ho).2 a ha
  have h2 : c1 (swb p q (S.getD a 0)) (sw p q (o.getD a 0)) = c1 (S.getD a 0) (o.getD a 0) := by
    unfold c1
    rw [swb_bit6 ⟨p, by omega⟩ ⟨q, by omega⟩ ⟨S.getD a 0, Nat.lt_of_lt_of_le hs.2 (pow_le6 hn)⟩ ⟨o.getD a 0, by omega⟩]
  omega
theorem swr_box {R S : List Nat} {a p q : Nat} (h6 : ∀ n, n ∈ R → n ≤ 6) (hb : isBox R S = true) (ha : a < R.length) (hp : p < R.getD a 0) (hq : q < R.getD a 0) : isBox R (S.set a (swb p q (S.getD a 0))) = true := by
  have hn : R.getD a 0 ≤ 6 := by rw [List.getD_eq_getElem?_getD, List.getElem?_eq_getElem ha]; exact h6 _ (List.getElem_mem ha)
  have hl := isBox_len hb
  have hs := isBox_at hb a ha
  rw [isBox_iff] at hb ⊢
  refine ⟨by rw [List.length_set]; exact hl, fun k hk => ?_⟩
  rw [getD_set _ _ _ _ (by omega)]
  by_cases e : a = k
  · subst e
    rw [if_pos rfl]
    have := swb_lt6 ⟨R.getD a 0, by omega⟩ ⟨p, hp⟩ ⟨q, hq⟩ ⟨S.getD a 0, hs.2⟩
    exact ⟨this.1 hs.1, this.2⟩
  · rw [if_neg e]; exact hb.2 k hk
theorem swr_out {R o : List Nat} {a p q : Nat} (ho : o ∈ outs R) (ha : a < R.length) (hp : p < R.getD a 0) (hq : q < R.getD a 0) : o.set a (sw p q (o.getD a 0)) ∈ outs R := by
  have hol := outs_len ho
  rw [mem_outs, List.length_set]
  refine ⟨hol, fun r hr => ?_⟩
  rw [getD_set _ _ _ _ (by omega)]
  by_cases e : a = r
  · subst e; rw [if_pos rfl]; exact sw_lt hp hq (((mem_outs _ _).1 ho).2 a ha)
  · rw [if_neg e]; exact ((mem_outs _ _).1 ho).2 r hr
theorem swr_twice {o : List Nat} {a p q : Nat} (ha : a < o.length) : (o.set a (sw p q (o.getD a 0))).set a (sw p q ((o.set a (sw p q (o.getD a 0))).getD a 0)) = o := by
  rw [getD_set _ _ _ _ ha, if_pos rfl, sw_twice, List.set_set]
  rw [List.getD_eq_getElem?_getD, List.getElem?_eq_getElem ha]
  exact List.set_getElem_self ha
theorem swr_turn {R : List Nat} {a p q : Nat} (ha : a < R.length) (hp : p < R.getD a 0) (hq : q < R.getD a 0) : Turn R R (fun o => o.set a (sw p q (o.getD a 0))) (fun o => o.set a (sw p q (o.getD a 0))) :=
  ⟨fun o ho => swr_out ho ha hp hq, fun o ho => swr_out ho ha hp hq, fun o ho => swr_twice (by rw [outs_len ho]; exact ha), fun o ho => swr_twice (by rw [outs_len ho]; exact ha)⟩
end Go.Proofs.Ytlbkaeoagdbemaa.Bm
