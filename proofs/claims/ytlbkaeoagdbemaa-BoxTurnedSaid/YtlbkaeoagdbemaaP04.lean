/- Proved here: the plain law of boxes, part 1; the plain law of boxes, part 2; the plain law of boxes, part 3; the plain law of boxes, part 4; the plain law of boxes, part 5; the plain law of boxes, part 6; how many outcomes are wrong in j races, race by race; plain Lean, no program; all outcomes, race by race from the first; plain Lean, no program; wrong races and units, step by step; plain Lean, no program; what is covered behind some races; plain Lean, no program; which tickets are idle, outcome by outcome; plain Lean, no program; whether parts are a map, outcome by outcome; plain Lean, no program, a part of the proofs about the box laws. Conditions: those that each theorem names, no others. -/
set_option linter.unusedSimpArgs false
set_option linter.unusedVariables false
namespace Go.Proofs.Ytlbkaeoagdbemaa.Bm
abbrev Tk := List Nat × Nat
/-- all outcomes, in lexicographic order -/
def outs : List Nat → List (List Nat)
  | [] => [[]]
  | n :: R => (List.range n).flatMap fun i => (outs R).map (i :: ·)
/-- a box has an outcome (or a beginning of one) -/
def win : List Nat → List Nat → Bool
  | s :: S, i :: o => s.testBit i && win S o
  | _, [] => true
  | [], _ :: _ => false
/-- in how many races a box does not have the winner -/
def wrongN : List Nat → List Nat → Nat
  | s :: S, i :: o => (if s.testBit i then 0 else 1) + wrongN S o
  | _, [] => 0
  | [], _ :: _ => 1
def uni (ts : List Tk) (o : List Nat) : Nat := (ts.map fun t => if win t.1 o then t.2 else 0).sum
/-- how many runners a set has -/
def popc (s : Nat) : Nat := (List.range 6).countP fun i => s.testBit i
def size : List Nat → Nat
  | [] => 1
  | s :: S => popc s * size S
/-- the sets are a box of a card -/
def isBox : List Nat → List Nat → Bool
  | [], [] => true
  | n :: R, s :: S => decide (1 ≤ s ∧ s < 2 ^ n) && isBox R S
  | _, _ => false
def okCard (R : List Nat) : Bool := decide (1 ≤ R.length ∧ R.length ≤ 5) && R.all fun n => decide (1 ≤ n ∧ n ≤ 6)
def okTks (R : List Nat) (ts : List Tk) : Bool := decide (ts.length ≤ 10) && ts.all fun t => isBox R t.1 && decide (1 ≤ t.2 ∧ t.2 ≤ 1000)
theorem win_wrong (S o : List Nat) : win S o = decide (wrongN S o = 0) := by
  induction S generalizing o with
  | nil => cases o <;> simp [win, wrongN]
  | cons s S ih =>
    cases o with
    | nil => simp [win, wrongN]
    | cons i o =>
      simp only [win, wrongN, ih]
      by_cases h : s.testBit i = true
      · simp [h]
      · simp only [Bool.not_eq_true] at h; simp [h]
theorem wrong_le (S o : List Nat) (h : o.length ≤ S.length) : wrongN S o ≤ o.length := by
  induction S generalizing o with
  | nil => cases o with
    | nil => simp [wrongN]
    | cons => simp at h
  | cons s S ih =>
    cases o with
    | nil => simp [wrongN]
    | cons i o =>
      have := ih o (by simpa using h)
      simp only [wrongN, List.length_cons]
      split <;> omega
theorem mem_outs (R o : List Nat) : o ∈ outs R ↔ o.length = R.length ∧ ∀ r, r < R.length → o.getD r 0 < R.getD r 0 := by
  induction R generalizing o with
  | nil => simp only [outs, List.mem_singleton, List.length_nil]; constructor
           · rintro rfl; simp
           · rintro ⟨h, _⟩; exact List.length_eq_zero_iff.1 h
  | cons n R ih =>
    simp only [outs, List.mem_flatMap, List.mem_range, List.mem_map]
    constructor
    · rintro ⟨i, hi, o', ho', rfl⟩
      obtain ⟨h1, h2⟩ := (ih o').1 ho'
      refine ⟨by simp [h1], fun r hr => ?_⟩
      cases r with
      | zero => simpa using hi
      | succ r => simpa using h2 r (by simpa using hr)
    · rintro ⟨h1, h2⟩
      cases o with
      | nil => simp at h1
      | cons i o =>
        refine ⟨i, by simpa using h2 0 (by simp), o, (ih o).2 ⟨by simpa using h1, fun r hr => ?_⟩, rfl⟩
        simpa using h2 (r + 1) (by simpa using hr)
theorem outs_len {R o : List Nat} (h : o ∈ outs R) : o.length = R.length := ((mem_outs R o).1 h).1
theorem sum_map_add {α : Type} (l : List α) (f g : α → Nat) : (l.map fun x => f x + g x).sum = (l.map f).sum + (l.map g).sum := by
  induction l with
  | nil => rfl
  | cons a l ih => simp only [List.map_cons, List.sum_cons, ih]; omega
theorem sum_map_mul {α : Type} (l : List α) (f : α → Nat) (c : Nat) : (l.map fun x => f x * c).sum = (l.map f).sum * c := by
  induction l with
  | nil => simp
  | cons a l ih => simp only [List.map_cons, List.sum_cons, ih, Nat.add_mul]
theorem sum_map_congr {α : Type} {l : List α} {f g : α → Nat} (h : ∀ x, x ∈ l → f x = g x) : (l.map f).sum = (l.map g).sum := by
  rw [List.map_congr_left h]
theorem sum_map_le {α : Type} {l : List α} {f g : α → Nat} (h : ∀ x, x ∈ l → f x ≤ g x) : (l.map f).sum ≤ (l.map g).sum := by
  induction l with
  | nil => simp
  | cons a l ih =>
    simp only [List.map_cons, List.sum_cons]
    have := h a (by simp); have := ih (fun x hx => h x (by simp [hx])); omega
theorem countP_sum {α : Type} (l : List α) (p : α → Bool) : l.countP p = (l.map fun x => if p x then 1 else 0).sum := by
  induction l with
  | nil => rfl
  | cons a l ih => rw [List.countP_cons, ih]; simp only [List.map_cons, List.sum_cons]; omega
/-- double counting -/
theorem sum_swap {α β : Type} (l : List α) (m : List β) (f : α → β → Nat) : (l.map fun x => (m.map fun y => f x y).sum).sum = (m.map fun y => (l.map fun x => f x y).sum).sum := by
  induction l with
  | nil => simp; induction m with
    | nil => rfl
    | cons b m ih => simpa using ih
  | cons a l ih =>
    simp only [List.map_cons, List.sum_cons, ih]
    rw [← sum_map_add]
theorem sum_flatMap {α β : Type} (l : List α) (f : α → List β) (g : β → Nat) : ((l.flatMap f).map g).sum = (l.map fun x => ((f x).map g).sum).sum := by
  induction l with
  | nil => rfl
  | cons a l ih => simp only [List.flatMap_cons, List.map_append, List.sum_append, List.map_cons, List.sum_cons, ih]
/-- a sum over all outcomes, race by race -/
theorem sum_outs (n : Nat) (R : List Nat) (g : List Nat → Nat) : ((outs (n :: R)).map g).sum = ((List.range n).map fun i => ((outs R).map fun o => g (i :: o)).sum).sum := by
  show (((List.range n).flatMap fun i => (outs R).map (i :: ·)).map g).sum = _
  rw [sum_flatMap]
  simp only [List.map_map, Function.comp_def]
theorem countP_outs (n : Nat) (R : List Nat) (p : List Nat → Bool) : (outs (n :: R)).countP p = ((List.range n).map fun i => (outs R).countP fun o => p (i :: o)).sum := by
  rw [countP_sum, sum_outs]
  refine sum_map_congr fun i _ => ?_
  rw [countP_sum]
def total : List Nat → Nat
  | [] => 1
  | n :: R => n * total R
theorem sum_const {α : Type} (l : List α) (c : Nat) : (l.map fun _ => c).sum = l.length * c := by
  induction l with
  | nil => simp
  | cons a l ih => simp only [List.map_cons, List.sum_cons, ih, List.length_cons, Nat.add_mul]; omega
theorem outs_length (R : List Nat) : (outs R).length = total R := by
  induction R with
  | nil => rfl
  | cons n R ih =>
    show ((List.range n).flatMap fun i => (outs R).map (i :: ·)).length = n * total R
    rw [List.length_flatMap]
    simp only [List.length_map, ih]
    rw [sum_const]; simp
theorem isBox_len {R S : List Nat} (h : isBox R S = true) : S.length = R.length := by
  induction R generalizing S with
  | nil => cases S with
    | nil => rfl
    | cons => simp [isBox] at h
  | cons n R ih => cases S with
    | nil => simp [isBox] at h
    | cons s S => simp only [isBox, Bool.and_eq_true] at h; simp [ih h.2]
theorem isBox_at {R S : List Nat} (h : isBox R S = true) (r : Nat) (hr : r < R.length) : 1 ≤ S.getD r 0 ∧ S.getD r 0 < 2 ^ (R.getD r 0) := by
  induction R generalizing S r with
  | nil => simp at hr
  | cons n R ih => cases S with
    | nil => simp [isBox] at h
    | cons s S =>
      simp only [isBox, Bool.and_eq_true, decide_eq_true_eq] at h
      cases r with
      | zero => simpa using h.1
      | succ r => simpa using ih h.2 r (by simpa using hr)
theorem isBox_iff {R S : List Nat} : isBox R S = true ↔ S.length = R.length ∧ ∀ r, r < R.length → 1 ≤ S.getD r 0 ∧ S.getD r 0 < 2 ^ (R.getD r 0) := by
  refine ⟨fun h => ⟨isBox_len h, isBox_at h⟩, ?_⟩
  rintro ⟨h1, h2⟩
  induction R generalizing S with
  | nil => cases S with
    | nil => rfl
    | cons => simp at h1
  | cons n R ih => cases S with
    | nil => simp at h1
    | cons s S =>
      simp only [isBox, Bool.and_eq_true, decide_eq_true_eq]
      exact ⟨by simpa using h2 0 (by simp), ih (by simpa using h1) (fun r hr => by simpa using h2 (r + 1) (by simpa using hr))⟩
theorem pow_le6 {n : Nat} (h : n ≤ 6) : 2 ^ n ≤ 64 := by
  have := Nat.pow_le_pow_right (n := 2) (by omega) h
  omega
theorem bit_out {s n i : Nat} (hs : s < 2 ^ n) (hi : n ≤ i) : s.testBit i = false :=
  Nat.testBit_lt_two_pow (Nat.lt_of_lt_of_le hs (Nat.pow_le_pow_right (by omega) hi))
theorem popc_range {s n : Nat} (hs : s < 2 ^ n) (hn : n ≤ 6) : popc s = (List.range n).countP fun i => s.testBit i := by
  unfold popc
  obtain ⟨k, hk⟩ : ∃ k, 6 = n + k := ⟨6 - n, by omega⟩
  rw [hk, List.range_add, List.countP_append, List.countP_map]
  have : ((List.range k).countP ((fun i => s.testBit i) ∘ (n + ·))) = 0 := by
    rw [List.countP_eq_zero]
    intro i _
    simp [bit_out hs (show n ≤ n + i by omega)]
  omega
theorem popc_pos {s n : Nat} (h1 : 1 ≤ s) (hs : s < 2 ^ n) (hn : n ≤ 6) : 1 ≤ popc s := by
  rw [popc_range hs hn, Nat.succ_le_iff, List.countP_pos_iff]
  obtain ⟨i, hi⟩ := Nat.exists_testBit_of_ne_zero (show s ≠ 0 by omega)
  have : i < n := by
    rcases Nat.lt_or_ge i n with h | h
    · exact h
    · rw [bit_out hs h] at hi; cases hi
  exact ⟨i, by simpa using this, hi⟩
theorem popc_le {s n : Nat} (hs : s < 2 ^ n) (hn : n ≤ 6) : popc s ≤ n := by
  rw [popc_range hs hn]
  have := List.countP_le_length (p := fun i => s.testBit i) (l := List.range n)
  simpa using this
theorem ite_sum {α : Type} (l : List α) (p : α → Bool) (c : Nat) : (l.map fun x => if p x then c else 0).sum = l.countP p * c := by
  rw [countP_sum, ← sum_map_mul]
  refine sum_map_congr fun x _ => ?_
  split <;> simp
/-- the size of a box is how many outcomes it has -/
theorem size_count {R S : List Nat} (hR : R.all (fun n => decide (n ≤ 6)) = true) (h : isBox R S = true) : (outs R).countP (win S) = size S := by
  induction R generalizing S with
  | nil => cases S with
    | nil => rfl
    | cons => simp [isBox] at h
  | cons n R ih => cases S with
    | nil => simp [isBox] at h
    | cons s S =>
      simp only [isBox, Bool.and_eq_true, decide_eq_true_eq] at h
      simp only [List.all_cons, Bool.and_eq_true, decide_eq_true_eq] at hR
      rw [countP_outs]
      have e : (fun i => (outs R).countP fun o => win (s :: S) (i :: o)) = fun i => if s.testBit i then size S else 0 := by
        funext i
        simp only [win]
        cases hb : s.testBit i with
        | false => simp
        | true => simpa using ih hR.2 h.2
      rw [e, ite_sum, size, popc_range h.1.2 hR.1]
theorem size_pos {R S : List Nat} (hR : R.all (fun n => decide (n ≤ 6)) = true) (h : isBox R S = true) : 1 ≤ size S := by
  induction R generalizing S with
  | nil => cases S with
    | nil => exact Nat.le_refl _
    | cons => simp [isBox] at h
  | cons n R ih => cases S with
    | nil => simp [isBox] at h
    | cons s S =>
      simp only [isBox, Bool.and_eq_true, decide_eq_true_eq] at h
      simp only [List.all_cons, Bool.and_eq_true, decide_eq_true_eq] at hR
      exact Nat.mul_pos (popc_pos h.1.1 h.1.2 hR.1) (ih hR.2 h.2)
end Go.Proofs.Ytlbkaeoagdbemaa.Bm
namespace Go.Proofs.Ytlbkaeoagdbemaa.Bm
/-- who of those that are meant has a runner -/
def nx (c : List Nat) (al : List Bool) (i : Nat) : List Bool := List.zipWith (fun s a => a && s.testBit i) c al
/-- the set of the numbers below n with P -/
def bitsOf (n : Nat) (P : Nat → Bool) : Nat := ((List.range n).filter P).foldl (fun x k => x ||| 2 ^ k) 0
/-- the races that are left (how many run; the sets of all tickets), and who has won all before: the sets of the parts, and who wins with them -/
def cutC : List (Nat × List Nat) → List Bool → List (List Nat × List Bool)
  | [], al => [([], al)]
  | (n, c) :: L, al =>
    if al.any id then
      ((List.range n).filter fun i => decide (∀ k, k < i → nx c al k ≠ nx c al i)).flatMap fun i =>
        (cutC L (nx c al i)).map fun p => (bitsOf n (fun k => decide (nx c al k = nx c al i)) :: p.1, p.2)
    else [(((n, c) :: L).map (fun x => 2 ^ x.1 - 1), al)]
def runC : List (Nat × List Nat) → List Bool → List Nat → List Bool
  | (_, c) :: L, al, i :: o => runC L (nx c al i) o
  | _, al, _ => al
theorem foldl_or_bit (l : List Nat) (x k : Nat) : (l.foldl (fun x k => x ||| 2 ^ k) x).testBit k = (x.testBit k || l.contains k) := by
  induction l generalizing x with
  | nil => simp
  | cons a l ih =>
    simp only [List.foldl_cons, ih, Nat.testBit_or, Nat.testBit_two_pow, List.contains_cons]
    rw [Bool.or_assoc, show decide (a = k) = (k == a) by
      by_cases h : a = k
      · subst h; simp
      · rw [decide_eq_false h]; exact (beq_eq_false_iff_ne.2 (fun e => h e.symm)).symm]
theorem bitsOf_bit (n : Nat) (P : Nat → Bool) (k : Nat) : (bitsOf n P).testBit k = (decide (k < n) && P k) := by
  unfold bitsOf
  rw [foldl_or_bit]
  rw [Bool.eq_iff_iff]; simp
theorem bitsOf_lt (n : Nat) (P : Nat → Bool) : bitsOf n P < 2 ^ n := by
  apply Nat.lt_pow_two_of_testBit
  intro i hi
  rw [bitsOf_bit]; simp; omega
theorem ones_bit (n i : Nat) : (2 ^ n - 1).testBit i = decide (i < n) := Nat.testBit_two_pow_sub_one n i
theorem nx_none {c : List Nat} {al : List Bool} (h : al.any id = false) (hl : c.length = al.length) (i : Nat) : nx c al i = al := by
  unfold nx
  induction al generalizing c with
  | nil => simp
  | cons a al ih => cases c with
    | nil => simp at hl
    | cons s c =>
      simp only [List.any_cons, id, Bool.or_eq_false_iff] at h
      simp only [List.zipWith_cons_cons]
      rw [ih h.2 (by simpa using hl), h.1]; simp
theorem nx_len {c : List Nat} {al : List Bool} (hl : c.length = al.length) (i : Nat) : (nx c al i).length = al.length := by unfold nx; simp [hl]
def okC (L : List (Nat × List Nat)) (m : Nat) : Prop := ∀ x, x ∈ L → x.2.length = m
theorem okC_tail {x : Nat × List Nat} {L : List (Nat × List Nat)} {m : Nat} (h : okC (x :: L) m) : x.2.length = m ∧ okC L m := ⟨h x (by simp), fun y hy => h y (by simp [hy])⟩
theorem run_none {L : List (Nat × List Nat)} {al : List Bool} (h : al.any id = false) (hl : okC L al.length) (o : List Nat) : runC L al o = al := by
  induction L generalizing o with
  | nil => cases o <;> rfl
  | cons x L ih =>
    obtain ⟨n, c⟩ := x
    cases o with
    | nil => rfl
    | cons i o =>
      simp only [runC]
      rw [nx_none h (okC_tail hl).1]
      exact ih (okC_tail hl).2 o
def rns (L : List (Nat × List Nat)) : List Nat := L.map (·.1)
theorem win_ones {L : List (Nat × List Nat)} {o : List Nat} (h : o ∈ outs (rns L)) : win (L.map fun x => 2 ^ x.1 - 1) o = true := by
  induction L generalizing o with
  | nil => simp [rns, outs] at h; subst h; rfl
  | cons x L ih =>
    simp only [rns, List.map_cons, outs, List.mem_flatMap, List.mem_range, List.mem_map] at h
    obtain ⟨i, hi, o', ho', rfl⟩ := h
    simp only [List.map_cons, win, ones_bit]
    simp [hi, ih ho']
/-- the first one that is as another one -/
theorem lead_ex (f : Nat → List Bool) (n i : Nat) (hi : i < n) : ∃ j, ((List.range n).filter fun j => decide (∀ k, k < j → f k ≠ f j) && decide (f i = f j)) = [j] ∧ f j = f i := by
  induction i using Nat.strongRecOn with
  | _ i ih =>
    by_cases h : ∀ k, k < i → f k ≠ f i
    · refine ⟨i, ?_, rfl⟩
      have e : (List.range n).filter (fun j => decide (∀ k, k < j → f k ≠ f j) && decide (f i = f j)) = (List.range n).filter (fun j => j == i) := by
        apply List.filter_congr
        intro j _
        rw [Bool.eq_iff_iff]
        simp only [Bool.and_eq_true, decide_eq_true_eq, beq_iff_eq]
        constructor
        · rintro ⟨h1, h2⟩
          rcases Nat.lt_trichotomy j i with hlt | he | hgt
          · exact absurd h2.symm (h j hlt)
          · exact he
          · exact absurd h2 (h1 i hgt)
        · rintro rfl; exact ⟨h, rfl⟩
      rw [e]
      have : ∀ m, i < m → (List.range m).filter (fun j => j == i) = [i] := fun m => by
        induction m with
        | zero => intro h; omega
        | succ m ihm =>
          intro hm
          rw [List.range_succ, List.filter_append]
          rcases Nat.lt_or_ge i m with h1 | h1
          · rw [ihm h1]; simp; omega
          · have : m = i := by omega
            subst this
            have e0 : (List.range m).filter (fun j => j == m) = [] := by
              rw [List.filter_eq_nil_iff]; intro a ha; simp at ha ⊢; omega
            rw [e0]; simp
      exact this n hi
    · simp only [Classical.not_forall, Classical.not_not] at h
      obtain ⟨k, hk, e⟩ := h
      obtain ⟨j, h1, h2⟩ := ih k hk (by omega)
      refine ⟨j, ?_, h2.trans e⟩
      rw [← e]; exact h1
theorem filter_flatMap' {α β : Type} (l : List α) (f : α → List β) (p : β → Bool) : (l.flatMap f).filter p = l.flatMap fun x => (f x).filter p := by
  induction l with
  | nil => rfl
  | cons a l ih => simp [List.flatMap_cons, ih]
theorem flatMap_nil_of {α β : Type} (l : List α) (f : α → List β) (h : ∀ x, x ∈ l → f x = []) : l.flatMap f = [] := by
  induction l with
  | nil => rfl
  | cons a l ih => rw [List.flatMap_cons, h a (by simp), ih (fun x hx => h x (by simp [hx]))]; rfl
theorem flatMap_filter {α β : Type} (l : List α) (f : α → List β) (q : α → Bool) (h : ∀ x, x ∈ l → q x = false → f x = []) : l.flatMap f = (l.filter q).flatMap f := by
  induction l with
  | nil => rfl
  | cons a l ih =>
    rw [List.flatMap_cons, ih (fun x hx => h x (by simp [hx]))]
    cases hq : q a with
    | true => rw [List.filter_cons_of_pos hq, List.flatMap_cons]
    | false => rw [List.filter_cons_of_neg (by simp [hq]), h a (by simp) hq]; rfl
/-- each outcome is in just one part, and the same tickets win with it as with the part -/
theorem cut_one {L : List (Nat × List Nat)} {al : List Bool} (hl : okC L al.length) {o : List Nat} (h : o ∈ outs (rns L)) :
    ∃ p, (cutC L al).filter (fun p => win p.1 o) = [p] ∧ p.2 = runC L al o := by
  induction L generalizing al o with
  | nil =>
    simp [rns, outs] at h; subst h
    exact ⟨([], al), by simp [cutC, win], rfl⟩
  | cons x L ih =>
    obtain ⟨n, c⟩ := x
    by_cases ha : al.any id = true
    · have h0 := h
      simp only [rns, List.map_cons, outs, List.mem_flatMap, List.mem_range, List.mem_map] at h
      obtain ⟨i, hi, o', ho', rfl⟩ := h
      obtain ⟨hc, ht⟩ := okC_tail hl
      simp only at hc
      obtain ⟨j, hj, he⟩ := lead_ex (nx c al) n i hi
      obtain ⟨p, hp, hq⟩ := ih (al := nx c al j) (by rw [nx_len hc]; exact ht) ho'
      refine ⟨(bitsOf n (fun k => decide (nx c al k = nx c al j)) :: p.1, p.2), ?_, ?_⟩
      · rw [cutC, if_pos ha, filter_flatMap']
        have hjn : j < n := by
          have : j ∈ (List.range n).filter fun j => decide (∀ k, k < j → nx c al k ≠ nx c al j) && decide (nx c al i = nx c al j) := by rw [hj]; simp
          have := (List.mem_filter.1 this).1
          simpa using this
        rw [flatMap_filter _ _ (fun j => decide (nx c al i = nx c al j))]
        · rw [List.filter_filter]
          have e : (List.range n).filter (fun a => decide (nx c al i = nx c al a) && decide (∀ k, k < a → nx c al k ≠ nx c al a)) = [j] := by
            rw [← hj]; apply List.filter_congr; intro a _; rw [Bool.and_comm]
          rw [e, List.flatMap_cons, List.flatMap_nil, List.append_nil, List.filter_map]
          have e2 : ((fun p : List Nat × List Bool => win p.1 (i :: o')) ∘ fun p : List Nat × List Bool => (bitsOf n (fun k => decide (nx c al k = nx c al j)) :: p.1, p.2)) = fun p => win p.1 o' := by
            funext q
            simp only [Function.comp, win, bitsOf_bit]
            simp [hi, he.symm]
          rw [e2, hp]; rfl
        · intro a ha' hna
          rw [List.filter_eq_nil_iff]
          intro q hq'
          obtain ⟨q', _, rfl⟩ := List.mem_map.1 hq'
          simp only [win, bitsOf_bit]
          have : ¬ (nx c al i = nx c al a) := by simpa using hna
          simp [this]
      · simp only [runC, hq, he]
    · simp only [Bool.not_eq_true] at ha
      refine ⟨(((n, c) :: L).map (fun x => 2 ^ x.1 - 1), al), ?_, ?_⟩
      · rw [cutC, if_neg (by simp [ha]), List.filter_cons_of_pos]
        · rfl
        · exact win_ones h
      · exact (run_none ha hl o).symm
/-- the parts are boxes -/
theorem cut_box {L : List (Nat × List Nat)} {al : List Bool} (h1 : ∀ x, x ∈ L → 1 ≤ x.1) {p : List Nat × List Bool} (hp : p ∈ cutC L al) : isBox (rns L) p.1 = true := by
  induction L generalizing al p with
  | nil => simp [cutC] at hp; subst hp; rfl
  | cons x L ih =>
    obtain ⟨n, c⟩ := x
    rw [cutC] at hp
    split at hp
    · obtain ⟨i, hi, hp⟩ := List.mem_flatMap.1 hp
      obtain ⟨q, hq, rfl⟩ := List.mem_map.1 hp
      simp only [rns, List.map_cons, isBox, Bool.and_eq_true, decide_eq_true_eq]
      refine ⟨⟨?_, bitsOf_lt _ _⟩, ih (fun x hx => h1 x (by simp [hx])) hq⟩
      have hin : i < n := by simpa using (List.mem_filter.1 hi).1
      have : (bitsOf n (fun k => decide (nx c al k = nx c al i))).testBit i = true := by rw [bitsOf_bit]; simp [hin]
      exact Nat.pos_of_ne_zero (fun h0 => by rw [h0] at this; simp at this)
    · simp only [List.mem_singleton] at hp
      subst hp
      rw [isBox_iff]
      refine ⟨by simp [rns], fun r hr => ?_⟩
      have hr' : r < ((n, c) :: L).length := by simpa [rns] using hr
      have e1 : (((n, c) :: L).map fun x => 2 ^ x.1 - 1).getD r 0 = 2 ^ ((rns ((n, c) :: L)).getD r 0) - 1 := by
        simp only [List.getD_eq_getElem?_getD, rns, List.getElem?_map, List.getElem?_eq_getElem hr']
        rfl
      simp only [e1]
      have : 1 ≤ (rns ((n, c) :: L)).getD r 0 := by
        simp only [List.getD_eq_getElem?_getD, rns, List.getElem?_map, List.getElem?_eq_getElem hr']
        exact h1 _ (List.getElem_mem hr')
      have h2 := Nat.pow_le_pow_right (n := 2) (by omega) this
      omega
/-- what is summed over the parts, is summed over the outcomes -/
theorem cut_sum {L : List (Nat × List Nat)} {al : List Bool} (hl : okC L al.length) (g : List Bool → Bool) (Q : List Nat → Bool) :
    ((cutC L al).map fun p => if g p.2 then (outs (rns L)).countP (fun o => win p.1 o && Q o) else 0).sum = (outs (rns L)).countP fun o => g (runC L al o) && Q o := by
  have e1 : (fun p : List Nat × List Bool => if g p.2 then (outs (rns L)).countP (fun o => win p.1 o && Q o) else 0) = fun p => ((outs (rns L)).map fun o => if win p.1 o then (if g p.2 && Q o then 1 else 0) else 0).sum := by
    funext p
    rw [countP_sum]
    cases hg : g p.2 with
    | false => simp only [Bool.false_eq_true, if_false, Bool.false_and, ite_self]; rw [sum_const]; simp
    | true =>
      simp only [if_true, Bool.true_and]
      refine sum_map_congr fun o _ => ?_
      cases win p.1 o <;> simp
  rw [e1, sum_swap, countP_sum]
  refine sum_map_congr fun o ho => ?_
  obtain ⟨p, hp, hq⟩ := cut_one hl ho
  have key : ∀ l : List (List Nat × List Bool), (l.map fun p => if win p.1 o then (if g p.2 && Q o then 1 else 0) else 0).sum = ((l.filter fun p => win p.1 o).map fun p => if g p.2 && Q o then 1 else 0).sum := fun l => by
    induction l with
    | nil => rfl
    | cons a l ih =>
      cases hw : win a.1 o with
      | true => rw [List.filter_cons_of_pos (p := fun p : List Nat × List Bool => win p.1 o) hw]; simp only [List.map_cons, List.sum_cons, hw, if_true, ih]
      | false => rw [List.filter_cons_of_neg (p := fun p : List Nat × List Bool => win p.1 o) (by simp [hw])]; simp only [List.map_cons, List.sum_cons, hw, Bool.false_eq_true, if_false, ih, Nat.zero_add]
  rw [key, hp, ← hq]; simp
end Go.Proofs.Ytlbkaeoagdbemaa.Bm
namespace Go.Proofs.Ytlbkaeoagdbemaa.Bm
/-- the first least number of the first k ones -/
def bestP (l : List Int) : Nat → Nat
  | 0 => 0
  | k + 1 => if l.getD k 0 < l.getD (bestP l k) 0 then k else bestP l k
theorem best_spec (l : List Int) (k : Nat) (h : 1 ≤ k) : bestP l k < k ∧ (∀ j, j < k → l.getD (bestP l k) 0 ≤ l.getD j 0) ∧ ∀ j, j < bestP l k → l.getD (bestP l k) 0 < l.getD j 0 := by
  induction k with
  | zero => omega
  | succ k ih =>
    rcases Nat.eq_zero_or_pos k with rfl | hk
    · have e : bestP l 1 = 0 := by simp [bestP]
      rw [e]
      refine ⟨by omega, fun j hj => ?_, fun j hj => by omega⟩
      have : j = 0 := by omega
      subst this; exact Int.le_refl _
    · obtain ⟨h1, h2, h3⟩ := ih hk
      rw [bestP]
      split
      · rename_i hlt
        refine ⟨by omega, fun j hj => ?_, fun j hj => ?_⟩
        · rcases Nat.lt_or_ge j k with hj' | hj'
          · have := h2 j hj'; omega
          · have : j = k := by omega
            subst this; exact Int.le_refl _
        · have := h2 j hj; omega
      · rename_i hge
        refine ⟨by omega, fun j hj => ?_, h3⟩
        rcases Nat.lt_or_ge j k with hj' | hj'
        · exact h2 j hj'
        · have : j = k := by omega
          subst this; omega
def leastC (v : List Bool → Int) : List (Nat × List Nat) → List Bool → Int
  | [], al => v al
  | (n, c) :: L, al => let l := (List.range n).map fun i => leastC v L (nx c al i); l.getD (bestP l l.length) 0
def valuesC (v : List Bool → Int) (n : Nat) (c : List Nat) (L : List (Nat × List Nat)) (al : List Bool) : List Int := (List.range n).map fun i => leastC v L (nx c al i)
def firstC (v : List Bool → Int) : List (Nat × List Nat) → List Bool → List Nat
  | [], _ => []
  | (n, c) :: L, al => bestP (valuesC v n c L al) n :: firstC v L (nx c al (bestP (valuesC v n c L al) n))
theorem leastC_cons (v : List Bool → Int) (n : Nat) (c : List Nat) (L : List (Nat × List Nat)) (al : List Bool) : leastC v ((n, c) :: L) al = (valuesC v n c L al).getD (bestP (valuesC v n c L al) n) 0 := by
  simp only [leastC]
  rw [show ((List.range n).map fun i => leastC v L (nx c al i)).length = n by simp]
  rfl
theorem values_at (v : List Bool → Int) (n : Nat) (c : List Nat) (L : List (Nat × List Nat)) (al : List Bool) (i : Nat) (h : i < n) : (valuesC v n c L al).getD i 0 = leastC v L (nx c al i) := by
  unfold valuesC
  simp [List.getD_eq_getElem?_getD, List.getElem?_map, List.getElem?_range h]
/-- the first one with the least value -/
def IsFirst {α : Type} (f : α → Int) (l : List α) (b : α) : Prop := ∃ pre post, l = pre ++ b :: post ∧ (∀ x, x ∈ pre → f b < f x) ∧ ∀ x, x ∈ post → f b ≤ f x
theorem IsFirst.mem {α : Type} {f : α → Int} {l : List α} {b : α} (h : IsFirst f l b) : b ∈ l := by
  obtain ⟨pre, post, rfl, _, _⟩ := h; simp
theorem IsFirst.le {α : Type} {f : α → Int} {l : List α} {b : α} (h : IsFirst f l b) {x : α} (hx : x ∈ l) : f b ≤ f x := by
  obtain ⟨pre, post, rfl, h1, h2⟩ := h
  rcases List.mem_append.1 hx with h | h
  · have := h1 x h; omega
  · rcases List.mem_cons.1 h with rfl | h
    · exact Int.le_refl _
    · exact h2 x h
theorem IsFirst.uniq {α : Type} {f : α → Int} {l : List α} {b c : α} (h : IsFirst f l b) (k : IsFirst f l c) : b = c := by
  have e : f b = f c := Int.le_antisymm (h.le k.mem) (k.le h.mem)
  obtain ⟨p, q, rfl, h1, _⟩ := h
  obtain ⟨p', q', he, h1', _⟩ := k
  rcases List.append_eq_append_iff.1 he with ⟨m, rfl, hm⟩ | ⟨m, rfl, hm⟩
  · cases m with
    | nil => simpa using (List.cons.inj hm).1
    | cons x m =>
      obtain ⟨rfl, _⟩ := List.cons.inj hm
      have := h1' b (by simp); omega
  · cases m with
    | nil => simpa using (List.cons.inj hm).1.symm
    | cons x m =>
      obtain ⟨rfl, _⟩ := List.cons.inj hm
      have := h1 c (by simp); omega
theorem range_split (n i : Nat) (h : i < n) : ∃ m, List.range n = List.range i ++ i :: m ∧ ∀ j, j ∈ m → j < n := by
  refine ⟨(List.range (n - i - 1)).map (i + 1 + ·), ?_, fun j hj => ?_⟩
  · obtain ⟨k, rfl⟩ : ∃ k, n = i + 1 + k := ⟨n - i - 1, by omega⟩
    rw [List.range_add, List.range_succ, show i + 1 + k - i - 1 = k by omega]; simp
  · obtain ⟨k, hk, rfl⟩ := List.mem_map.1 hj
    have := List.mem_range.1 hk; omega
theorem first_is (v : List Bool → Int) (L : List (Nat × List Nat)) (h1 : ∀ x, x ∈ L → 1 ≤ x.1) (al : List Bool) :
    IsFirst (fun o => v (runC L al o)) (outs (rns L)) (firstC v L al) ∧ leastC v L al = v (runC L al (firstC v L al)) := by
  induction L generalizing al with
  | nil => exact ⟨⟨[], [], rfl, by simp, by simp⟩, rfl⟩
  | cons x L ih =>
    obtain ⟨n, c⟩ := x
    have hn := h1 (n, c) (by simp)
    have ih := fun al => ih (fun x hx => h1 x (by simp [hx])) al
    obtain ⟨b1, b2, b3⟩ := best_spec (valuesC v n c L al) n hn
    have e1 : leastC v ((n, c) :: L) al = v (runC ((n, c) :: L) al (firstC v ((n, c) :: L) al)) := by
      rw [leastC_cons, values_at _ _ _ _ _ _ b1, (ih _).2]; rfl
    refine ⟨?_, e1⟩
    have hb : ∀ j, j < n → leastC v ((n, c) :: L) al ≤ leastC v L (nx c al j) := fun j hj => by
      have := b2 j hj
      rwa [← leastC_cons, values_at _ _ _ _ _ j hj] at this
    have hs : ∀ j, j < bestP (valuesC v n c L al) n → leastC v ((n, c) :: L) al < leastC v L (nx c al j) := fun j hj => by
      have := b3 j hj
      rwa [← leastC_cons, values_at _ _ _ _ _ j (by omega)] at this
    have hall : ∀ j o, o ∈ outs (rns L) → leastC v L (nx c al j) ≤ v (runC ((n, c) :: L) al (j :: o)) := fun j o ho => by
      rw [(ih _).2]; exact (ih (nx c al j)).1.le ho
    obtain ⟨m, hm, hmn⟩ := range_split n _ b1
    obtain ⟨pre, post, hp, g1, g2⟩ := (ih (nx c al (bestP (valuesC v n c L al) n))).1
    refine ⟨((List.range (bestP (valuesC v n c L al) n)).flatMap fun i => (outs (rns L)).map (i :: ·)) ++ pre.map (bestP (valuesC v n c L al) n :: ·), post.map (bestP (valuesC v n c L al) n :: ·) ++ m.flatMap fun i => (outs (rns L)).map (i :: ·), ?_, ?_, ?_⟩
    · show ((List.range n).flatMap fun i => (outs (rns L)).map (i :: ·)) = _
      rw [hm, List.flatMap_append, List.flatMap_cons]
      simp only [firstC]
      rw [hp]; simp [List.append_assoc]
    · intro o ho
      show v (runC ((n, c) :: L) al (firstC v ((n, c) :: L) al)) < _
      rw [← e1]
      rcases List.mem_append.1 ho with ho | ho
      · obtain ⟨j, hj, ho⟩ := List.mem_flatMap.1 ho
        obtain ⟨o', ho', rfl⟩ := List.mem_map.1 ho
        have h2 := hs j (List.mem_range.1 hj)
        have h3 := hall j o' ho'
        show _ < v _
        omega
      · obtain ⟨o', ho', rfl⟩ := List.mem_map.1 ho
        have := g1 o' ho'
        rw [e1]
        exact this
    · intro o ho
      show v (runC ((n, c) :: L) al (firstC v ((n, c) :: L) al)) ≤ _
      rw [← e1]
      rcases List.mem_append.1 ho with ho | ho
      · obtain ⟨o', ho', rfl⟩ := List.mem_map.1 ho
        have := g2 o' ho'
        rw [e1]
        exact this
      · obtain ⟨j, hj, ho⟩ := List.mem_flatMap.1 ho
        obtain ⟨o', ho', rfl⟩ := List.mem_map.1 ho
        have h2 := hb j (hmn j hj)
        have h3 := hall j o' ho'
        show _ ≤ v _
        omega
/-! tickets by their columns -/
def cols (R : List Nat) (ts : List Tk) (r : Nat) : List (Nat × List Nat) := (List.range (R.length - r)).map fun k => (R.getD (r + k) 0, ts.map fun t => t.1.getD (r + k) 0)
theorem cols_nil {R : List Nat} {ts : List Tk} {r : Nat} (h : R.length ≤ r) : cols R ts r = [] := by
  unfold cols; rw [show R.length - r = 0 by omega]; rfl
theorem cols_cons {R : List Nat} {ts : List Tk} {r : Nat} (h : r < R.length) : cols R ts r = (R.getD r 0, ts.map fun t => t.1.getD r 0) :: cols R ts (r + 1) := by
  unfold cols
  rw [show R.length - r = (R.length - (r + 1)) + 1 by omega, List.range_succ_eq_map]
  simp only [List.map_cons, List.map_map, Nat.add_zero, List.cons.injEq, true_and]
  apply List.map_congr_left
  intro k _
  simp only [Function.comp]
  rw [show r + k.succ = r + 1 + k by omega]
theorem cols_rns {R : List Nat} {ts : List Tk} (r : Nat) : rns (cols R ts r) = R.drop r := by
  unfold rns cols
  rw [List.map_map]
  apply List.ext_getElem?
  intro i
  simp only [List.getElem?_map, List.getElem?_drop]
  rcases Nat.lt_or_ge i (R.length - r) with h | h
  · rw [List.getElem?_range h]
    simp only [Option.map_some, Function.comp, List.getD_eq_getElem?_getD]
    rw [List.getElem?_eq_getElem (by omega)]; rfl
  · rw [List.getElem?_eq_none (by simpa using h), List.getElem?_eq_none (by omega)]; rfl
theorem cols_ok (R : List Nat) (ts : List Tk) (r : Nat) : okC (cols R ts r) ts.length := by
  intro x hx
  obtain ⟨k, _, rfl⟩ := List.mem_map.1 hx
  simp
def alls (ts : List Tk) : List Bool := ts.map fun _ => true
theorem zip_map {α : Type} (l : List α) (f : α → Nat) (g : α → Bool) (i : Nat) : nx (l.map f) (l.map g) i = l.map fun t => g t && (f t).testBit i := by
  unfold nx
  induction l with
  | nil => rfl
  | cons a l ih => simp [ih]
theorem run_win {R : List Nat} {ts : List Tk} (hb : ∀ t, t ∈ ts → t.1.length = R.length) (r : Nat) (g : Tk → Bool) (o : List Nat) (ho : o.length ≤ R.length - r) :
    runC (cols R ts r) (ts.map g) o = ts.map fun t => g t && win (t.1.drop r) o := by
  induction o generalizing r g with
  | nil =>
    have : runC (cols R ts r) (ts.map g) [] = ts.map g := by cases cols R ts r <;> rfl
    rw [this]
    apply List.map_congr_left; intro t _; cases t.1.drop r <;> simp [win]
  | cons i o ih =>
    have hr : r < R.length := by simp at ho; omega
    rw [cols_cons hr]
    simp only [runC]
    rw [zip_map, ih (r + 1) _ (by simp at ho; omega)]
    apply List.map_congr_left
    intro t ht
    have hl := hb t ht
    rw [List.drop_eq_getElem_cons (by omega : r < t.1.length)]
    simp only [win, List.getD_eq_getElem?_getD]
    rw [List.getElem?_eq_getElem (by omega)]
    simp [Bool.and_assoc]
theorem run_all {R : List Nat} {ts : List Tk} (hb : ∀ t, t ∈ ts → t.1.length = R.length) {o : List Nat} (ho : o ∈ outs R) : runC (cols R ts 0) (alls ts) o = ts.map fun t => win t.1 o := by
  have := run_win hb 0 (fun _ => true) o (by rw [outs_len ho]; omega)
  unfold alls
  rw [this]; simp
/-- the units of those that are meant -/
def vals (ts : List Tk) (al : List Bool) : Nat := (List.zipWith (fun (t : Tk) (a : Bool) => if a then t.2 else 0) ts al).sum
theorem vals_map (ts : List Tk) (g : Tk → Bool) : vals ts (ts.map g) = (ts.map fun t => if g t then t.2 else 0).sum := by
  unfold vals
  congr 1
  induction ts with
  | nil => rfl
  | cons a l ih => simp [ih]
theorem vals_uni {R : List Nat} {ts : List Tk} (hb : ∀ t, t ∈ ts → t.1.length = R.length) {o : List Nat} (ho : o ∈ outs R) : vals ts (runC (cols R ts 0) (alls ts) o) = uni ts o := by
  rw [run_all hb ho, vals_map]; rfl
end Go.Proofs.Ytlbkaeoagdbemaa.Bm
namespace Go.Proofs.Ytlbkaeoagdbemaa.Bm
def sumTo (f : Nat → Nat) (n : Nat) : Nat := ((List.range n).map f).sum
theorem sumTo_succ (f : Nat → Nat) (n : Nat) : sumTo f (n + 1) = sumTo f n + f n := by
  unfold sumTo; rw [List.range_succ, List.map_append, List.sum_append]; simp
theorem sumTo_le (f : Nat → Nat) (n b : Nat) (h : ∀ k, k < n → f k ≤ b) : sumTo f n ≤ n * b := by
  induction n with
  | zero => simp [sumTo]
  | succ n ih =>
    rw [sumTo_succ, Nat.add_mul]
    have := ih (fun k hk => h k (by omega)); have := h n (by omega); omega
theorem sumTo_shift (f : Nat → Nat) (n : Nat) : sumTo f (n + 1) = f 0 + sumTo (fun k => f (k + 1)) n := by
  unfold sumTo; rw [List.range_succ_eq_map]; simp [Function.comp_def]
theorem map_sumTo {α : Type} (l : List α) (g : α → Nat) (d : α) : (l.map g).sum = sumTo (fun k => g (l.getD k d)) l.length := by
  induction l with
  | nil => rfl
  | cons a l ih =>
    rw [List.length_cons, sumTo_shift, List.map_cons, List.sum_cons, ih]
    simp
theorem sumTo_congr {f g : Nat → Nat} {n : Nat} (h : ∀ k, k < n → f k = g k) : sumTo f n = sumTo g n := by
  unfold sumTo
  rw [List.map_congr_left]
  intro k hk; exact h k (List.mem_range.1 hk)
theorem vals_sumTo (ts : List Tk) (al : List Bool) : vals ts al = sumTo (fun k => if al.getD k false then (ts.getD k ([], 0)).2 else 0) ts.length := by
  unfold vals
  induction ts generalizing al with
  | nil => rfl
  | cons t ts ih =>
    rw [List.length_cons, sumTo_shift]
    cases al with
    | nil =>
      simp only [List.zipWith_nil_right, List.sum_nil, List.getD_nil, Bool.false_eq_true, if_false]
      have : sumTo (fun _ => 0) ts.length = 0 := by have := sumTo_le (fun _ => 0) ts.length 0 (fun _ _ => Nat.le_refl _); omega
      simp [this]
    | cons a al =>
      simp only [List.zipWith_cons_cons, List.sum_cons, List.getD_cons_zero, List.getD_cons_succ]
      rw [ih]
end Go.Proofs.Ytlbkaeoagdbemaa.Bm
namespace Go.Proofs.Ytlbkaeoagdbemaa.Bm
def leftN (n : Nat) (f : Nat → List Bool) (i : Nat) : Nat := bitsOf n (fun k => decide (∀ j, j < i → f j ≠ f k))
def ownN (n : Nat) (f : Nat → List Bool) (i k : Nat) : Nat := bitsOf n (fun m => decide (m < k ∧ i ≤ m ∧ f m = f i))
def lead (f : Nat → List Bool) (i : Nat) : Bool := decide (∀ k, k < i → f k ≠ f i)
def classN (n : Nat) (f : Nat → List Bool) (i : Nat) : Nat := bitsOf n (fun k => decide (f k = f i))
theorem left_zero (n : Nat) (f : Nat → List Bool) : leftN n f 0 = 2 ^ n - 1 := by
  apply Nat.eq_of_testBit_eq; intro i
  rw [leftN, bitsOf_bit, ones_bit]; simp
theorem left_bit {n : Nat} {f : Nat → List Bool} {i : Nat} (h : i < n) : (leftN n f i).testBit i = lead f i := by
  rw [leftN, bitsOf_bit]; simp [h, lead]
theorem left_bit_k {n : Nat} {f : Nat → List Bool} {i k : Nat} (h : k < n) (hl : lead f i = true) : ((leftN n f i).testBit k && decide (f k = f i)) = decide (f k = f i) := by
  rw [leftN, bitsOf_bit]
  simp only [lead, decide_eq_true_eq] at hl
  by_cases e : f k = f i
  · rw [Bool.eq_iff_iff]; simp [h, e]; intro j hj; exact hl j hj
  · simp [e]
theorem own_zero (n : Nat) (f : Nat → List Bool) (i : Nat) : ownN n f i i = 0 := by
  apply Nat.eq_of_testBit_eq; intro m
  rw [ownN, bitsOf_bit, Nat.zero_testBit]
  rw [Bool.eq_false_iff]; simp; intro _ h1 h2; omega
theorem own_step {n : Nat} {f : Nat → List Bool} {i k : Nat} (h : k < n) (hk : i ≤ k) : ownN n f i (k + 1) = if f k = f i then ownN n f i k ||| 2 ^ k else ownN n f i k := by
  apply Nat.eq_of_testBit_eq; intro m
  split
  · rename_i e
    rw [Nat.testBit_or, Nat.testBit_two_pow, ownN, ownN, bitsOf_bit, bitsOf_bit]
    rw [Bool.eq_iff_iff]; simp
    constructor
    · rintro ⟨h1, h2, h3, h4⟩
      by_cases hm : m = k
      · right; exact hm.symm
      · left; exact ⟨h1, by omega, h3, h4⟩
    · rintro (⟨h1, h2, h3, h4⟩ | rfl)
      · exact ⟨h1, by omega, h3, h4⟩
      · exact ⟨h, by omega, hk, e⟩
  · rename_i e
    rw [ownN, ownN, bitsOf_bit, bitsOf_bit]
    rw [Bool.eq_iff_iff]; simp
    intro h1 h3 h4
    constructor
    · intro h2
      rcases Nat.lt_or_ge m k with h5 | h5
      · exact h5
      · have : m = k := by omega
        subst this; exact absurd h4 e
    · intro h2; omega
theorem own_last {n : Nat} {f : Nat → List Bool} {i : Nat} (hl : lead f i = true) : ownN n f i n = classN n f i := by
  simp only [lead, decide_eq_true_eq] at hl
  apply Nat.eq_of_testBit_eq; intro m
  rw [ownN, classN, bitsOf_bit, bitsOf_bit]
  rw [Bool.eq_iff_iff]; simp
  intro h1 h
  rcases Nat.lt_or_ge m i with h2 | h2
  · exact absurd h (hl m h2)
  · exact h2
theorem left_lead {n : Nat} {f : Nat → List Bool} {i : Nat} : leftN n f (i + 1) = leftN n f i ^^^ (leftN n f i &&& classN n f i) := by
  apply Nat.eq_of_testBit_eq; intro m
  rw [Nat.testBit_xor, Nat.testBit_and, leftN, leftN, classN, bitsOf_bit, bitsOf_bit, bitsOf_bit]
  by_cases hm : m < n
  · simp only [hm, decide_true, Bool.true_and]
    by_cases e : f m = f i
    · have : ¬ ∀ j, j < i + 1 → f j ≠ f m := fun h => h i (by omega) e.symm
      simp [e]
      exact ⟨i, by omega, rfl⟩
    · have : (∀ j, j < i + 1 → f j ≠ f m) ↔ ∀ j, j < i → f j ≠ f m := by
        constructor
        · intro h j hj; exact h j (by omega)
        · intro h j hj
          rcases Nat.lt_or_ge j i with h1 | h1
          · exact h j h1
          · have : j = i := by omega
            subst this; exact fun h2 => e h2.symm
      rw [show decide (∀ j, j < i + 1 → f j ≠ f m) = decide (∀ j, j < i → f j ≠ f m) from decide_eq_decide.2 this]
      simp [e]
  · simp [hm]
theorem left_not {n : Nat} {f : Nat → List Bool} {i : Nat} (hl : lead f i = false) : leftN n f (i + 1) = leftN n f i := by
  simp only [lead, decide_eq_false_iff_not, Classical.not_forall, Classical.not_not] at hl
  obtain ⟨k, hk, e⟩ := hl
  apply Nat.eq_of_testBit_eq; intro m
  rw [leftN, leftN, bitsOf_bit, bitsOf_bit]
  congr 1
  apply decide_eq_decide.2
  constructor
  · intro h j hj; exact h j (by omega)
  · intro h j hj
    rcases Nat.lt_or_ge j i with h1 | h1
    · exact h j h1
    · have : j = i := by omega
      subst this; rw [← e]; exact h k hk
theorem left_lt (n : Nat) (f : Nat → List Bool) (i : Nat) : leftN n f i < 2 ^ n := bitsOf_lt _ _
theorem own_lt (n : Nat) (f : Nat → List Bool) (i k : Nat) : ownN n f i k < 2 ^ n := bitsOf_lt _ _
theorem class_lt (n : Nat) (f : Nat → List Bool) (i : Nat) : classN n f i < 2 ^ n := bitsOf_lt _ _
/-! the parts of a box from a race on -/
def colN (ts : List Tk) (r : Nat) : List Nat := ts.map fun t => t.1.getD r 0
def partsC (R : List Nat) (ts : List Tk) (S : List Nat) (r : Nat) (al : List Bool) : List Tk := (cutC (cols R ts r) al).map fun p => (S.take r ++ p.1, vals ts p.2)
def doneC (R : List Nat) (ts : List Tk) (S : List Nat) (r : Nat) (al : List Bool) (i : Nat) : List Tk :=
  ((List.range i).filter (lead (nx (colN ts r) al))).flatMap fun m => partsC R ts (S.set r (classN (R.getD r 0) (nx (colN ts r) al) m)) (r + 1) (nx (colN ts r) al m)
theorem ones_drop (R : List Nat) (ts : List Tk) (r : Nat) : (cols R ts r).map (fun x => 2 ^ x.1 - 1) = (R.drop r).map fun n => 2 ^ n - 1 := by
  have := cols_rns (R := R) (ts := ts) r
  rw [← this, rns, List.map_map]; rfl
theorem partsC_stop {R : List Nat} {ts : List Tk} {S : List Nat} {r : Nat} {al : List Bool} (hS : S.drop r = (R.drop r).map fun n => 2 ^ n - 1) (h : R.length ≤ r ∨ al.any id = false) : partsC R ts S r al = [(S, vals ts al)] := by
  have key : cutC (cols R ts r) al = [((cols R ts r).map (fun x => 2 ^ x.1 - 1), al)] := by
    rcases Nat.lt_or_ge r R.length with h1 | h1
    · have h2 : al.any id = false := h.resolve_left (by omega)
      rw [cols_cons h1, cutC, if_neg (by simp [h2])]
    · rw [cols_nil h1]; rfl
  rw [partsC, key, ones_drop, ← hS]; simp
theorem partsC_loop {R : List Nat} {ts : List Tk} {S : List Nat} {r : Nat} {al : List Bool} (h : r < R.length) (hSl : S.length = R.length) (ha : al.any id = true) : partsC R ts S r al = doneC R ts S r al (R.getD r 0) := by
  rw [partsC, cols_cons h, cutC, if_pos ha, List.map_flatMap, doneC]
  have e : ((List.range (R.getD r 0)).filter fun i => decide (∀ k, k < i → nx (ts.map fun t => t.1.getD r 0) al k ≠ nx (ts.map fun t => t.1.getD r 0) al i)) = (List.range (R.getD r 0)).filter (lead (nx (colN ts r) al)) := rfl
  rw [e]
  congr 1
  funext m
  rw [List.map_map, partsC]
  apply List.map_congr_left
  intro p _
  simp only [Function.comp, Prod.mk.injEq, and_true]
  rw [List.take_set, List.take_succ_eq_append_getElem (by omega), List.set_append_right _ _ (by simp; omega)]
  simp only [List.length_take, Nat.min_eq_left (show r ≤ S.length by omega), Nat.sub_self, List.set_cons_zero, List.append_assoc, List.cons_append, List.nil_append]
  rfl
theorem doneC_succ (R : List Nat) (ts : List Tk) (S : List Nat) (r : Nat) (al : List Bool) (i : Nat) : doneC R ts S r al (i + 1) = doneC R ts S r al i ++ if lead (nx (colN ts r) al) i = true then partsC R ts (S.set r (classN (R.getD r 0) (nx (colN ts r) al) i)) (r + 1) (nx (colN ts r) al i) else [] := by
  rw [doneC, List.range_succ, List.filter_append, List.flatMap_append, ← doneC]
  congr 1
  cases h : lead (nx (colN ts r) al) i <;> simp [h]
theorem doneC_le (R : List Nat) (ts : List Tk) (S : List Nat) (r : Nat) (al : List Bool) (i j : Nat) (h : i ≤ j) : doneC R ts S r al i <+: doneC R ts S r al j := by
  induction j with
  | zero => have : i = 0 := by omega
            subst this; exact List.prefix_refl _
  | succ j ih =>
    rcases Nat.lt_or_ge i (j + 1) with h1 | h1
    · rw [doneC_succ]; exact (ih (by omega)).trans (List.prefix_append _ _)
    · have : i = j + 1 := by omega
      subst this; exact List.prefix_refl _
end Go.Proofs.Ytlbkaeoagdbemaa.Bm
namespace Go.Proofs.Ytlbkaeoagdbemaa.Bm
/-- a box, cut by the winners of the first races -/
def cutWon : List Nat → List Nat → List Nat
  | s :: S, i :: o => (s &&& 2 ^ i) :: cutWon S o
  | S, [] => S
  | [], _ :: _ => []
theorem cutWon_len (S o : List Nat) : (cutWon S o).length = S.length := by
  induction S generalizing o with
  | nil => cases o <;> rfl
  | cons s S ih => cases o with
    | nil => rfl
    | cons i o => simp [cutWon, ih]
theorem cutWon_nil (S : List Nat) : cutWon S [] = S := by cases S <;> rfl
theorem cutWon_at (S o : List Nat) (k : Nat) : (cutWon S o).getD k 0 = if k < o.length then S.getD k 0 &&& 2 ^ (o.getD k 0) else S.getD k 0 := by
  induction S generalizing o k with
  | nil => cases o <;> simp [cutWon]
  | cons s S ih => cases o with
    | nil => simp [cutWon]
    | cons i o =>
      cases k with
      | zero => simp [cutWon]
      | succ k => simp [cutWon]; have := ih o k; simpa using this
theorem cutWon_step (S o : List Nat) (k : Nat) (h : k < o.length) (hk : k < S.length) : cutWon S (o.take (k + 1)) = (cutWon S (o.take k)).set k (S[k] &&& 2 ^ o[k]) := by
  induction S generalizing o k with
  | nil => simp at hk
  | cons s S ih => cases o with
    | nil => simp at h
    | cons i o =>
      cases k with
      | zero => simp [cutWon, cutWon_nil]
      | succ k =>
        simp only [List.take_succ_cons, cutWon, List.set_cons_succ, List.getElem_cons_succ]
        rw [ih o k (by simpa using h) (by simpa using hk)]
theorem cutWon_keep (S o : List Nat) (k : Nat) (hk : k < S.length) : (cutWon S (o.take k)).getD k 0 = S[k] := by
  rw [cutWon_at, if_neg (by simp; omega)]
  simp [List.getD_eq_getElem?_getD, List.getElem?_eq_getElem hk]
theorem cutWon_mem {S o : List Nat} {b : Nat} (h : ∀ s, s ∈ S → s < b) : ∀ s, s ∈ cutWon S o → s < b := by
  induction S generalizing o with
  | nil => cases o <;> simp [cutWon]
  | cons s S ih => cases o with
    | nil => simpa [cutWon] using h
    | cons i o =>
      intro x hx
      rcases List.mem_cons.1 hx with rfl | hx
      · exact Nat.lt_of_le_of_lt Nat.and_le_left (h s (by simp))
      · exact ih (fun y hy => h y (by simp [hy])) x hx
theorem total_le (R : List Nat) (h : ∀ n, n ∈ R → n ≤ 6) (m : Nat) (hm : R.length ≤ m) : total R ≤ 6 ^ m := by
  induction R generalizing m with
  | nil => exact Nat.one_le_pow _ _ (by omega)
  | cons n R ih =>
    cases m with
    | zero => simp at hm
    | succ m =>
      rw [total, Nat.pow_succ, Nat.mul_comm]
      exact Nat.mul_le_mul (ih (fun x hx => h x (by simp [hx])) m (by simpa using hm)) (h n (by simp))
theorem len_flatMap_le {α β : Type} (l : List α) (f : α → List β) (b : Nat) (h : ∀ x, x ∈ l → (f x).length ≤ b) : (l.flatMap f).length ≤ l.length * b := by
  induction l with
  | nil => simp
  | cons a l ih =>
    rw [List.flatMap_cons, List.length_append, List.length_cons, Nat.add_mul]
    have := h a (by simp); have := ih (fun x hx => h x (by simp [hx])); omega
theorem total_pos (L : List (Nat × List Nat)) (h : ∀ x, x ∈ L → 1 ≤ x.1) : 1 ≤ total (rns L) := by
  induction L with
  | nil => exact Nat.le_refl _
  | cons x L ih => exact Nat.mul_pos (h x (by simp)) (ih (fun y hy => h y (by simp [hy])))
theorem cut_len (L : List (Nat × List Nat)) (al : List Bool) (h : ∀ x, x ∈ L → 1 ≤ x.1) : (cutC L al).length ≤ total (rns L) := by
  induction L generalizing al with
  | nil => exact Nat.le_refl _
  | cons x L ih =>
    obtain ⟨n, c⟩ := x
    have ih := fun al => ih al (fun y hy => h y (by simp [hy]))
    rw [cutC]
    split
    · refine Nat.le_trans (len_flatMap_le _ _ (total (rns L)) (fun i _ => by rw [List.length_map]; exact ih _)) ?_
      exact Nat.mul_le_mul_right _ (by have := List.length_filter_le (fun i => decide (∀ k, k < i → nx c al k ≠ nx c al i)) (List.range n); simpa using this)
    · exact total_pos _ h
end Go.Proofs.Ytlbkaeoagdbemaa.Bm
namespace Go.Proofs.Ytlbkaeoagdbemaa.Bm
def dpStep (m l : Nat) (f : Nat → Nat) : Nat → Nat
  | 0 => f 0 * m
  | j + 1 => f (j + 1) * m + f j * l
def dpOne : Nat → Nat
  | 0 => 1
  | _ + 1 => 0
def dp (L : List (Nat × Nat)) : Nat → Nat := L.foldl (fun f x => dpStep x.1 x.2 f) dpOne
theorem step_comm (a b c d : Nat) (f : Nat → Nat) : dpStep a b (dpStep c d f) = dpStep c d (dpStep a b f) := by
  funext j
  match j with
  | 0 => simp only [dpStep]; grind
  | 1 => simp only [dpStep]; grind
  | j + 2 => simp only [dpStep]; grind
theorem fold_step (L : List (Nat × Nat)) (a b : Nat) (f : Nat → Nat) : L.foldl (fun f x => dpStep x.1 x.2 f) (dpStep a b f) = dpStep a b (L.foldl (fun f x => dpStep x.1 x.2 f) f) := by
  induction L generalizing f with
  | nil => rfl
  | cons x L ih => rw [List.foldl_cons, List.foldl_cons, step_comm, ih]
theorem dp_cons (x : Nat × Nat) (L : List (Nat × Nat)) : dp (x :: L) = dpStep x.1 x.2 (dp L) := by
  unfold dp; rw [List.foldl_cons, fold_step]
theorem dp_snoc (L : List (Nat × Nat)) (x : Nat × Nat) : dp (L ++ [x]) = dpStep x.1 x.2 (dp L) := by
  unfold dp; rw [List.foldl_append]; rfl
theorem dp_zero : ∀ (L : List (Nat × Nat)) (j : Nat), L.length < j → dp L j = 0
  | [], j + 1, _ => rfl
  | x :: L, j + 1, h => by
    rw [dp_cons]
    simp only [dpStep]
    rw [dp_zero L (j + 1) (by simp at h; omega), dp_zero L j (by simpa using h)]
    simp
/-- the races of a ticket: how many runners are in its set, and how many are not -/
def races (R S : List Nat) : List (Nat × Nat) := (R.zip S).map fun p => (popc p.2, p.1 - popc p.2)
theorem two_sum (l : List Nat) (b : Nat → Bool) (x y : Nat) : (l.map fun i => if b i then x else y).sum = l.countP b * x + (l.length - l.countP b) * y := by
  induction l with
  | nil => simp
  | cons a l ih =>
    have hle := List.countP_le_length (p := b) (l := l)
    rw [List.map_cons, List.sum_cons, ih, List.countP_cons, List.length_cons]
    cases b a
    · simp only [Bool.false_eq_true, if_false, Nat.add_zero]
      rw [show l.length + 1 - l.countP b = (l.length - l.countP b) + 1 by omega, Nat.add_mul, Nat.one_mul]; omega
    · simp only [if_true]
      rw [Nat.add_mul, Nat.one_mul, show l.length + 1 - (l.countP b + 1) = l.length - l.countP b by omega]; omega
theorem count_dp : ∀ (R S : List Nat), R.all (fun n => decide (n ≤ 6)) = true → isBox R S = true → ∀ j, (outs R).countP (fun o => decide (wrongN S o = j)) = dp (races R S) j
  | [], [], _, _, j => by cases j <;> simp [outs, wrongN, races, dp, dpOne]
  | n :: R, s :: S, hR, hb, j => by
    simp only [List.all_cons, Bool.and_eq_true, decide_eq_true_eq] at hR
    simp only [isBox, Bool.and_eq_true, decide_eq_true_eq] at hb
    have ih := count_dp R S hR.2 hb.2
    rw [countP_outs, show races (n :: R) (s :: S) = (popc s, n - popc s) :: races R S from rfl, dp_cons]
    have hp := popc_range hb.1.2 hR.1
    cases j with
    | zero =>
      rw [sum_map_congr (g := fun i => if s.testBit i then dp (races R S) 0 else 0) (fun i _ => by
        rw [← ih 0]
        cases hs : s.testBit i
        · simp [wrongN, hs]
        · simp [wrongN, hs]), two_sum, ← hp]
      simp only [dpStep]; rw [Nat.mul_comm]; simp
    | succ j =>
      rw [sum_map_congr (g := fun i => if s.testBit i then dp (races R S) (j + 1) else dp (races R S) j) (fun i _ => by
        rw [← ih (j + 1), ← ih j]
        cases hs : s.testBit i
        · simp only [wrongN, hs, Bool.false_eq_true, if_false]; congr 1; funext o; congr 1; rw [eq_iff_iff]; omega
        · simp only [wrongN, hs, if_true, Nat.zero_add]), two_sum, ← hp]
      simp only [dpStep, List.length_range]; rw [Nat.mul_comm, Nat.mul_comm (n - popc s)]
theorem countP_two {α : Type} (l : List α) (f : α → Nat) (m : Nat) : l.countP (fun x => decide (f x ≤ m + 1)) = l.countP (fun x => decide (f x ≤ m)) + l.countP (fun x => decide (f x = m + 1)) := by
  induction l with
  | nil => rfl
  | cons a l ih =>
    rw [List.countP_cons, List.countP_cons, List.countP_cons, ih]
    by_cases h1 : f a ≤ m
    · have h2 : f a ≤ m + 1 := by omega
      have h3 : ¬ f a = m + 1 := by omega
      simp only [h1, h2, h3, decide_true, decide_false, if_true, Bool.false_eq_true, if_false]; omega
    · by_cases h3 : f a = m + 1
      · have h2 : f a ≤ m + 1 := by omega
        rw [if_pos (by simpa using h2), if_neg (by simpa using h1), if_pos (by simpa using h3)]; omega
      · have h2 : ¬ f a ≤ m + 1 := by omega
        simp only [h1, h2, h3, decide_false, Bool.false_eq_true, if_false]; omega
theorem count_le {α : Type} (l : List α) (f : α → Nat) (m : Nat) : l.countP (fun x => decide (f x ≤ m)) = sumTo (fun j => l.countP (fun x => decide (f x = j))) (m + 1) := by
  induction m with
  | zero => rw [sumTo_succ]; simp [sumTo]
  | succ m ih => rw [countP_two, ih, sumTo_succ _ (m + 1)]
/-- how many outcomes a ticket is wrong for in at most m races -/
def withinN (R S : List Nat) (m : Nat) : Nat := sumTo (dp (races R S)) (m + 1)
theorem within_count {R S : List Nat} (hR : R.all (fun n => decide (n ≤ 6)) = true) (hb : isBox R S = true) (m : Nat) : (outs R).countP (fun o => decide (wrongN S o ≤ m)) = withinN R S m := by
  rw [count_le]; unfold withinN
  congr 1
  funext j
  exact count_dp R S hR hb j
end Go.Proofs.Ytlbkaeoagdbemaa.Bm
namespace Go.Proofs.Ytlbkaeoagdbemaa.Bm
theorem outs_snoc (R : List Nat) (n : Nat) : outs (R ++ [n]) = (outs R).flatMap fun o => (List.range n).map fun i => o ++ [i] := by
  induction R with
  | nil =>
    simp only [List.nil_append, outs, List.flatMap_cons, List.flatMap_nil, List.append_nil, List.map_cons, List.map_nil]
    induction List.range n with
    | nil => rfl
    | cons a l ih => rw [List.flatMap_cons, ih]; simp
  | cons m R ih =>
    simp only [List.cons_append, outs, ih, List.flatMap_assoc, List.map_flatMap, List.flatMap_map, List.map_map]
    rfl
theorem outs_len_le {R : List Nat} (h6 : ∀ n, n ∈ R → n ≤ 6) : (outs R).length ≤ 6 ^ R.length := by
  induction R with
  | nil => simp [outs]
  | cons n R ih =>
    have ih := ih (fun x hx => h6 x (by simp [hx]))
    have hn := h6 n (by simp)
    rw [List.length_cons, Nat.pow_succ]
    have : (outs (n :: R)).length = n * (outs R).length := by
      simp only [outs, List.length_flatMap, List.length_map]
      rw [sum_const]; simp
    rw [this, Nat.mul_comm]
    exact Nat.mul_le_mul ih hn
end Go.Proofs.Ytlbkaeoagdbemaa.Bm
namespace Go.Proofs.Ytlbkaeoagdbemaa.Bm
theorem wrong_step : ∀ (S o : List Nat) (k : Nat) (hk : k < o.length) (hl : o.length ≤ S.length), wrongN S (o.take (k + 1)) = wrongN S (o.take k) + if (S[k]'(Nat.lt_of_lt_of_le hk hl)).testBit o[k] = true then 0 else 1
  | [], o, k, hk, hl => by simp at hl; subst hl; simp at hk
  | s :: S, [], k, hk, _ => by simp at hk
  | s :: S, i :: o, 0, _, _ => by
    rw [List.take_succ_cons, List.take_zero, List.take_zero]
    simp only [wrongN, List.getElem_cons_zero]
    cases S <;> simp [wrongN]
  | s :: S, i :: o, k + 1, hk, hl => by
    have ih := wrong_step S o k (by simpa using hk) (by simpa using hl)
    rw [List.take_succ_cons, List.take_succ_cons]
    simp only [wrongN, List.getElem_cons_succ]
    rw [ih]
    omega
theorem uni_step (ts : List Tk) (o : List Nat) (k : Nat) (hk : k < ts.length) : uni (ts.take (k + 1)) o = uni (ts.take k) o + if win ts[k].1 o = true then ts[k].2 else 0 := by
  unfold uni
  rw [List.take_succ_eq_append_getElem hk, List.map_append, List.sum_append]
  simp
theorem uni_le {ts : List Tk} (h : ∀ t, t ∈ ts → t.2 ≤ 1000) (o : List Nat) : uni ts o ≤ ts.length * 1000 := by
  unfold uni
  have := sum_map_le (l := ts) (f := fun t => if win t.1 o then t.2 else 0) (g := fun _ => 1000) (fun t ht => by
    have := h t ht
    show (if win t.1 o then t.2 else 0) ≤ 1000
    split <;> omega)
  rw [sum_const] at this
  exact this
theorem count_step {α : Type} (l : List α) (p : α → Bool) (k : Nat) (hk : k < l.length) : (l.take (k + 1)).countP p = (l.take k).countP p + if p l[k] = true then 1 else 0 := by
  rw [List.take_succ_eq_append_getElem hk, List.countP_append]
  simp [List.countP_cons]
end Go.Proofs.Ytlbkaeoagdbemaa.Bm
namespace Go.Proofs.Ytlbkaeoagdbemaa.Bm
def afterN (R : List Nat) (ts : List Tk) (won : List Nat) : Nat := (outs R).countP fun o => decide (o.take won.length = won) && decide (0 < uni ts o)
def aliveN (ts : List Tk) (won : List Nat) : Nat → List Nat
  | 0 => []
  | k + 1 => aliveN ts won k ++ if wrongN (ts.getD k ([], 0)).1 won = 0 then [k] else []
theorem aliveN_le (ts : List Tk) (won : List Nat) (k : Nat) : (aliveN ts won k).length ≤ k := by
  induction k with
  | zero => exact Nat.zero_le _
  | succ k ih => simp only [aliveN, List.length_append]; split <;> simp <;> omega
theorem beg_step (o won : List Nat) (r : Nat) (h1 : r < o.length) (h2 : r < won.length) : decide (o.take (r + 1) = won.take (r + 1)) = (decide (o.take r = won.take r) && decide (o[r] = won[r])) := by
  rw [Bool.eq_iff_iff, Bool.and_eq_true, decide_eq_true_eq, decide_eq_true_eq, decide_eq_true_eq, List.take_succ_eq_append_getElem h1, List.take_succ_eq_append_getElem h2]
  constructor
  · intro h
    have := List.append_inj h (by simp; omega)
    exact ⟨this.1, by simpa using this.2⟩
  · rintro ⟨e1, e2⟩; rw [e1, e2]
end Go.Proofs.Ytlbkaeoagdbemaa.Bm
namespace Go.Proofs.Ytlbkaeoagdbemaa.Bm
/-- some outcome is the ticket's alone -/
def soloF (ts : List Tk) (t : Tk) (o : List Nat) : Bool := decide (wrongN t.1 o = 0) && decide (uni ts o = t.2)
def soloN (R : List Nat) (ts : List Tk) (t : Tk) : Bool := (outs R).any (soloF ts t)
def idleN (R : List Nat) (ts : List Tk) : Nat → List Nat
  | 0 => []
  | k + 1 => idleN R ts k ++ if soloN R ts (ts.getD k ([], 0)) = true then [] else [k]
theorem idleN_le (R : List Nat) (ts : List Tk) (k : Nat) : (idleN R ts k).length ≤ k := by
  induction k with
  | zero => exact Nat.zero_le _
  | succ k ih => simp only [idleN, List.length_append]; split <;> simp <;> omega
theorem any_step {α : Type} (l : List α) (p : α → Bool) (k : Nat) (hk : k < l.length) : (l.take (k + 1)).any p = ((l.take k).any p || p l[k]) := by
  rw [List.take_succ_eq_append_getElem hk, List.any_append]
  simp
end Go.Proofs.Ytlbkaeoagdbemaa.Bm
namespace Go.Proofs.Ytlbkaeoagdbemaa.Bm
/-- the last part, of the first ones, that has an outcome -/
def ownS (ps : List Tk) (o : List Nat) : Nat → Int
  | 0 => -1
  | i + 1 => if wrongN (ps.getD i ([], 0)).1 o = 0 then (i : Int) else ownS ps o i
def hitB (ps : List Tk) (o : List Nat) (i : Nat) : Bool := decide (wrongN (ps.getD i ([], 0)).1 o = 0) && decide (0 ≤ ownS ps o i)
def clashB (ps : List Tk) (o : List Nat) : Bool := (List.range ps.length).any (hitB ps o)
def ownO (ps : List Tk) (o : List Nat) : Int := ownS ps o ps.length
theorem ownS_lt (ps : List Tk) (o : List Nat) (k : Nat) : -1 ≤ ownS ps o k ∧ ownS ps o k < (k : Int) := by
  induction k with
  | zero => simp [ownS]
  | succ k ih => rw [ownS]; split <;> omega
/-- of each part: 1 if a ticket wins with one of its first outcomes, 2 if it does not, 3 both -/
def seenT (ps : List Tk) (t : Tk) (L : List (List Nat)) : Nat → Nat → Nat
  | 0 => fun _ => 0
  | k + 1 => if ownO ps (L.getD k []) < 0 then seenT ps t L k else fun i => if i = (ownO ps (L.getD k [])).toNat then seenT ps t L k i ||| (if wrongN t.1 (L.getD k []) = 0 then 1 else 2) else seenT ps t L k i
theorem or_le3 : ∀ a, a ≤ 3 → ∀ b, b ≤ 3 → a ||| b ≤ 3 := by decide
theorem seenT_le (ps : List Tk) (t : Tk) (L : List (List Nat)) (k i : Nat) : seenT ps t L k i ≤ 3 := by
  induction k generalizing i with
  | zero => simp [seenT]
  | succ k ih =>
    rw [seenT]
    split
    · exact ih i
    · show (if i = _ then _ else _) ≤ 3
      split
      · exact or_le3 _ (ih i) _ (by split <;> omega)
      · exact ih i
def m3K (ps : List Tk) (t : Tk) (L : List (List Nat)) (k : Nat) : Bool := decide (0 ≤ ownO ps (L.getD k [])) && decide (seenT ps t L (k + 1) (ownO ps (L.getD k [])).toNat = 3)
def m3T (ps : List Tk) (L : List (List Nat)) (t : Tk) : Bool := (List.range L.length).any (m3K ps t L)
def m4O (ts ps : List Tk) (o : List Nat) : Bool := decide (ownO ps o < 0) || decide ((ps.getD (ownO ps o).toNat ([], 0)).2 ≠ uni ts o)
/-- what a map comes to, outcome by outcome -/
def refMap (L : List (List Nat)) (ts ps : List Tk) : Int := if L.any (clashB ps) = true then 11 else if ts.any (m3T ps L) = true then 16 else if L.any (m4O ts ps) = true then 14 else 0
end Go.Proofs.Ytlbkaeoagdbemaa.Bm
