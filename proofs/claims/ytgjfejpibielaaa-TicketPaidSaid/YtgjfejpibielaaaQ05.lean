/- Proved here: the plain law of tickets, part 5; the plain law of tickets, part 6; the plain law of tickets, part 7; the plain law of tickets, part 8; the plain law of tickets, part 9; the plain law of tickets, part 10; the plain law of tickets, part 11; the plain law of tickets, part 12, a part of the proofs about the ticket laws. Conditions: those that each theorem names, no others. -/
import Derived.Test.YtgjfejpibielaaaQ04
set_option linter.unusedSimpArgs false
set_option linter.unusedVariables false
namespace Go.Proofs.Ytgjfejpibielaaa.Tt
/-- what one element adds for a set of sets, given by bits -/
def termB (g : Nat → Bool) (b : Nat) : Nat → Int
 | 0 => -1
 | k + 1 => if b.testBit k then (if g k then -(termB g b k) else 0) else termB g b k
theorem termB_congr (g : Nat → Bool) (a b : Nat) (k : Nat) (h : ∀ i, i < k → a.testBit i = b.testBit i) : termB g a k = termB g b k := by
 induction k with
 | zero => rfl
 | succ k ih => rw [termB, termB, h k (by omega), ih (fun i hi => h i (by omega))]
theorem sum_neg (l : List Nat) (f : Nat → Int) : (l.map fun b => -(f b)).sum = -((l.map f).sum) := by
 induction l with
 | nil => rfl
 | cons a l ih => simp only [List.map_cons, List.sum_cons, ih]; omega
theorem sum_zeroI (l : List Nat) : (l.map fun _ => (0 : Int)).sum = 0 := by
 induction l with
 | nil => rfl
 | cons a l ih => simp [ih]
theorem range_two (n : Nat) : List.range (2 ^ (n + 1)) = List.range (2 ^ n) ++ (List.range (2 ^ n)).map (2 ^ n + ·) := by
 rw [show 2 ^ (n + 1) = 2 ^ n + 2 ^ n by omega, List.range_add]
theorem termB_all (g : Nat → Bool) (k : Nat) : ((List.range (2 ^ k)).map fun b => termB g b k).sum = if (List.range k).any g then 0 else -1 := by
 induction k with
 | zero => simp [termB]
 | succ k ih =>
   rw [range_two, List.map_append, List.sum_append, List.map_map]
   have e1 : ((List.range (2 ^ k)).map fun b => termB g b (k + 1)) = (List.range (2 ^ k)).map fun b => termB g b k := by
    apply List.map_congr_left
    intro b hb
    rw [termB, Nat.testBit_lt_two_pow (List.mem_range.1 hb)]; rfl
   have e2 : ((List.range (2 ^ k)).map ((fun b => termB g b (k + 1)) ∘ (2 ^ k + ·))) = (List.range (2 ^ k)).map fun b => if g k then -(termB g b k) else 0 := by
    apply List.map_congr_left
    intro b hb
    have hb2 := List.mem_range.1 hb
    simp only [Function.comp]
    rw [termB, Nat.testBit_two_pow_add_eq, Nat.testBit_lt_two_pow hb2]
    simp only [Bool.not_false, if_true]
    rw [termB_congr g (2 ^ k + b) b k (fun i hi => Nat.testBit_two_pow_add_gt hi b)]
   rw [e1, e2, ih, List.range_succ, List.any_append]
   cases hg : g k with
   | true =>
     simp only [if_true]
     rw [sum_neg, ih]
     simp only [List.any_cons, List.any_nil, hg, Bool.or_false, Bool.or_true, if_true]
     omega
   | false =>
     simp only [Bool.false_eq_true, if_false]
     rw [sum_zeroI]
     simp only [List.any_cons, List.any_nil, hg, Bool.or_false]
     omega
theorem termB_zero (g : Nat → Bool) (k : Nat) : termB g 0 k = -1 := by
 induction k with
 | zero => rfl
 | succ k ih => rw [termB, Nat.zero_testBit, ih]; rfl
/-- added and taken away by turns: an element counts once, if it lies in one of the sets -/
theorem termB_union (g : Nat → Bool) (k : Nat) : ((List.range' 1 (2 ^ k - 1)).map fun b => termB g b k).sum = if (List.range k).any g then 1 else 0 := by
 have h := termB_all g k
 have h2 : List.range (2 ^ k) = 0 :: List.range' 1 (2 ^ k - 1) := by
  have : 2 ^ k = (2 ^ k - 1) + 1 := by have := Nat.two_pow_pos k; omega
  rw [List.range_eq_range']
  conv => lhs; rw [this]
  rw [List.range'_succ]
 rw [h2, List.map_cons, List.sum_cons, termB_zero] at h
 split at h <;> rename_i e
 · rw [if_pos e]; omega
 · rw [if_neg e]; omega
/-- the sign of a set of sets, and whether an element lies in all of its sets -/
def sgnB (b : Nat) : Nat → Int
 | 0 => -1
 | k + 1 => if b.testBit k then -(sgnB b k) else sgnB b k
def allB (g : Nat → Bool) (b k : Nat) : Bool := (List.range k).all fun i => !b.testBit i || g i
theorem termB_sgn (g : Nat → Bool) (b k : Nat) : termB g b k = if allB g b k then sgnB b k else 0 := by
 induction k with
 | zero => rfl
 | succ k ih =>
   rw [termB, ih]
   unfold allB
   rw [List.range_succ, List.all_append]
   simp only [List.all_cons, List.all_nil, Bool.and_true]
   cases hb : b.testBit k with
   | false => simp [sgnB, hb]
   | true =>
     cases hg : g k with
     | false => simp
     | true =>
       simp only [if_true, Bool.not_true, Bool.false_or, Bool.and_true, sgnB, hb]
       split <;> simp
theorem sumI_add {α : Type} (l : List α) (f g : α → Int) : (l.map fun a => f a + g a).sum = (l.map f).sum + (l.map g).sum := by
 induction l with
 | nil => rfl
 | cons a l ih => simp only [List.map_cons, List.sum_cons, ih]; omega
theorem sum_swap {α β : Type} (l : List α) (m : List β) (f : α → β → Int) : (l.map fun a => (m.map fun b => f a b).sum).sum = (m.map fun b => (l.map fun a => f a b).sum).sum := by
 induction l with
 | nil =>
   simp only [List.map_nil, List.sum_nil]
   induction m with
   | nil => rfl
   | cons b m ih => simp only [List.map_cons, List.sum_cons, ← ih]; rfl
 | cons a l ih => simp only [List.map_cons, List.sum_cons, ih, sumI_add]
theorem countP_sumI {α : Type} (p : α → Bool) (l : List α) (v : Int) : (l.map fun x => if p x then v else 0).sum = v * (l.countP p : Nat) := by
 induction l with
 | nil => simp
 | cons a l ih =>
   rw [List.map_cons, List.sum_cons, ih, List.countP_cons]
   cases h : p a
   · simp
   · simp [Int.mul_add]; omega
/-- the union of sets, counted by inclusion and exclusion -/
theorem incl_excl {α : Type} (l : List α) (g : α → Nat → Bool) (k : Nat) :
 ((List.range' 1 (2 ^ k - 1)).map fun b => sgnB b k * ((l.countP fun x => allB (g x) b k) : Nat)).sum = ((l.countP fun x => (List.range k).any (g x)) : Nat) := by
 have e1 : ((List.range' 1 (2 ^ k - 1)).map fun b => sgnB b k * ((l.countP fun x => allB (g x) b k) : Nat)) = (List.range' 1 (2 ^ k - 1)).map fun b => (l.map fun x => termB (g x) b k).sum := by
  apply List.map_congr_left
  intro b _
  rw [← countP_sumI]
  congr 1
  apply List.map_congr_left
  intro x _
  rw [termB_sgn]
 rw [e1, sum_swap]
 have e2 : (l.map fun x => ((List.range' 1 (2 ^ k - 1)).map fun b => termB (g x) b k).sum) = l.map fun x => if (List.range k).any (g x) then (1 : Int) else 0 := List.map_congr_left fun x _ => termB_union _ _
 rw [e2, countP_sumI]
 omega
end Go.Proofs.Ytgjfejpibielaaa.Tt
namespace Go.Proofs.Ytgjfejpibielaaa.Tt
/-- the first one of the least elements of a list -/
def IsFirst {α : Type} (f : α → Nat) (l : List α) (b : α) : Prop := ∃ pre post, l = pre ++ b :: post ∧ (∀ x, x ∈ pre → f b < f x) ∧ ∀ x, x ∈ post → f b ≤ f x
theorem IsFirst.mem {α : Type} {f : α → Nat} {l : List α} {b : α} (h : IsFirst f l b) : b ∈ l := by
 obtain ⟨pre, post, rfl, _, _⟩ := h; simp
theorem IsFirst.le {α : Type} {f : α → Nat} {l : List α} {b x : α} (h : IsFirst f l b) (hx : x ∈ l) : f b ≤ f x := by
 obtain ⟨pre, post, rfl, h1, h2⟩ := h
 rcases List.mem_append.1 hx with g | g
 · exact Nat.le_of_lt (h1 x g)
 · rcases List.mem_cons.1 g with rfl | g
   · exact Nat.le_refl _
   · exact h2 x g
theorem IsFirst.right {α : Type} {f : α → Nat} {l m : List α} {b : α} (h : IsFirst f m b) (hl : ∀ x, x ∈ l → f b < f x) : IsFirst f (l ++ m) b := by
 obtain ⟨pre, post, rfl, h1, h2⟩ := h
 refine ⟨l ++ pre, post, by simp, fun x hx => ?_, h2⟩
 rcases List.mem_append.1 hx with g | g
 · exact hl x g
 · exact h1 x g
theorem IsFirst.left {α : Type} {f : α → Nat} {l m : List α} {b : α} (h : IsFirst f l b) (hm : ∀ x, x ∈ m → f b ≤ f x) : IsFirst f (l ++ m) b := by
 obtain ⟨pre, post, rfl, h1, h2⟩ := h
 refine ⟨pre, post ++ m, by simp, h1, fun x hx => ?_⟩
 rcases List.mem_append.1 hx with g | g
 · exact h2 x g
 · exact hm x g
theorem IsFirst.uniq {α : Type} {f : α → Nat} {l : List α} {a b : α} (ha : IsFirst f l a) (hb : IsFirst f l b) : a = b := by
 obtain ⟨p1, q1, e1, h1, h2⟩ := ha
 obtain ⟨p2, q2, e2, g1, g2⟩ := hb
 have key : ∀ (p1 q1 p2 q2 : List α), p1 ++ a :: q1 = p2 ++ b :: q2 → (∀ x, x ∈ p1 → f a < f x) → (∀ x, x ∈ q1 → f a ≤ f x) → (∀ x, x ∈ p2 → f b < f x) → (∀ x, x ∈ q2 → f b ≤ f x) → a = b := by
  intro p1
  induction p1 with
  | nil =>
    intro q1 p2 q2 e h1 h2 g1 g2
    cases p2 with
    | nil => simp only [List.nil_append, List.cons.injEq] at e; exact e.1
    | cons y p2 =>
      simp only [List.nil_append, List.cons_append, List.cons.injEq] at e
      obtain ⟨rfl, e⟩ := e
      have := g1 a (by simp)
      have := h2 b (by rw [e]; simp)
      omega
  | cons z p1 ih =>
    intro q1 p2 q2 e h1 h2 g1 g2
    cases p2 with
    | nil =>
      simp only [List.nil_append, List.cons_append, List.cons.injEq] at e
      obtain ⟨rfl, e⟩ := e
      have := h1 z (by simp)
      have := g2 a (by rw [← e]; simp)
      omega
    | cons y p2 =>
      simp only [List.cons_append, List.cons.injEq] at e
      exact ih q1 p2 q2 e.2 (fun x hx => h1 x (by simp [hx])) h2 (fun x hx => g1 x (by simp [hx])) g2
 exact key p1 q1 p2 q2 (e1.symm.trans e2) h1 h2 g1 g2
/-- in how many letters two words differ -/
def diffN : List Nat → List Nat → Nat
 | a :: v, b :: w => (if a = b then 0 else 1) + diffN v w
 | _, _ => 0
theorem diffN_le (v w : List Nat) : diffN v w ≤ v.length := by
 induction v generalizing w with
 | nil => simp [diffN]
 | cons a v ih =>
   cases w with
   | nil => simp [diffN]
   | cons b w =>
     have := ih w
     simp only [diffN, List.length_cons]
     split <;> omega
def lessP (b x : Nat × Nat) : Nat × Nat := if x.2 < b.2 then x else b
/-- the letter by which the nearest code goes on, and how wrong a word is then -/
def bestA (L rest : Nat) : List (Nat × Nat) → Int → Nat → List Nat → Nat × Nat
 | [], _, _, _ => (0, 0)
 | p :: r, la, s, w => ((List.range L).filterMap fun (c : Nat) => if decide ((c : Int) ≠ la) && p.2.testBit c && decide (cnt L rest r (c : Int) ((s + p.1 * c) % L) ≠ 0) then some (c, (bestA L rest r (c : Int) ((s + p.1 * c) % L) w.tail).2 + if c = w.head?.getD 0 then 0 else 1) else none).foldl lessP (0, 100)
def nearA (L rest : Nat) : List (Nat × Nat) → Int → Nat → List Nat → List Nat
 | [], _, _, _ => []
 | p :: r, la, s, w => (bestA L rest (p :: r) la s w).1 :: nearA L rest r ((bestA L rest (p :: r) la s w).1 : Nat) ((s + p.1 * (bestA L rest (p :: r) la s w).1) % L) w.tail
theorem first_parts {α : Type} (f : α → Nat) (S : Nat → List α) (pick : Nat → α) (val : Nat → Nat) (ok : Nat → Bool) (cs : List Nat) (h0 : ∀ c, c ∈ cs → ok c = false → S c = [])
 (h1 : ∀ c, c ∈ cs → ok c = true → IsFirst f (S c) (pick c) ∧ f (pick c) = val c ∧ val c < 100) :
 ((∀ c, c ∈ cs → ok c = false) ∧ (cs.filterMap fun c => if ok c then some (c, val c) else none).foldl lessP (0, 100) = (0, 100)) ∨
  ∃ c, c ∈ cs ∧ ok c = true ∧ (cs.filterMap fun c => if ok c then some (c, val c) else none).foldl lessP (0, 100) = (c, val c) ∧ IsFirst f (cs.flatMap S) (pick c) := by
 have key : ∀ (l : List Nat), (∀ c, c ∈ l → c ∈ cs) → ((∀ c, c ∈ l → ok c = false) ∧ (l.filterMap fun c => if ok c then some (c, val c) else none).foldl lessP (0, 100) = (0, 100)) ∨
  ∃ c, c ∈ l ∧ ok c = true ∧ (l.filterMap fun c => if ok c then some (c, val c) else none).foldl lessP (0, 100) = (c, val c) ∧ IsFirst f (l.flatMap S) (pick c) := by
  intro l
  rw [← List.reverse_reverse l]
  generalize l.reverse = m
  induction m with
  | nil => intro _; left; simp
  | cons a m ih =>
    intro hs
    rw [List.reverse_cons] at hs ⊢
    have ih' := ih (fun c hc => hs c (by simp at hc ⊢; exact Or.inl hc))
    have ha := hs a (by simp)
    rw [List.filterMap_append, List.foldl_append, List.flatMap_append]
    cases hok : ok a with
    | false =>
      have e0 := h0 a ha hok
      simp only [List.filterMap_cons, hok, List.filterMap_nil, List.foldl_nil, List.flatMap_cons, e0, List.flatMap_nil, List.append_nil, Bool.false_eq_true, if_false]
      rcases ih' with ⟨g1, g2⟩ | ⟨c, g1, g2, g3, g4⟩
      · left
        refine ⟨fun c hc => ?_, g2⟩
        rcases List.mem_append.1 hc with hc | hc
        · exact g1 c hc
        · rw [List.mem_singleton.1 hc]; exact hok
      · right; exact ⟨c, List.mem_append_left _ g1, g2, g3, g4⟩
    | true =>
      obtain ⟨f1, f2, f3⟩ := h1 a ha hok
      simp only [List.filterMap_cons, hok, List.filterMap_nil, List.foldl_cons, List.foldl_nil, List.flatMap_cons, List.flatMap_nil, List.append_nil, if_true]
      right
      rcases ih' with ⟨g1, g2⟩ | ⟨c, g1, g2, g3, g4⟩
      · refine ⟨a, by simp, hok, ?_, ?_⟩
        · rw [g2]; unfold lessP; rw [if_pos f3]
        · have : m.reverse.flatMap S = [] := by
           rw [List.flatMap_eq_nil_iff]
           exact fun c hc => h0 c (hs c (List.mem_append_left _ hc)) (g1 c hc)
          rw [this, List.nil_append]; exact f1
      · rw [g3]
        by_cases hlt : val a < val c
        · refine ⟨a, by simp, hok, by unfold lessP; rw [if_pos hlt], f1.right fun x hx => ?_⟩
          have := g4.le hx
          rw [(h1 c (hs c (List.mem_append_left _ g1)) g2).2.1] at this
          rw [f2]; omega
        · refine ⟨c, List.mem_append_left _ g1, g2, by unfold lessP; rw [if_neg hlt], g4.left fun x hx => ?_⟩
          have := f1.le hx
          rw [f2] at this
          rw [(h1 c (hs c (List.mem_append_left _ g1)) g2).2.1]
          omega
 exact key cs (fun _ h => h)
theorem IsFirst.map {α β : Type} {f : α → Nat} {g : β → Nat} {l : List α} {b : α} (h : IsFirst f l b) (q : α → β) (d : Nat) (hg : ∀ x, g (q x) = d + f x) : IsFirst g (l.map q) (q b) := by
 obtain ⟨pre, post, rfl, h1, h2⟩ := h
 refine ⟨pre.map q, post.map q, by simp, fun x hx => ?_, fun x hx => ?_⟩
 · obtain ⟨y, hy, rfl⟩ := List.mem_map.1 hx
   rw [hg, hg]; have := h1 y hy; omega
 · obtain ⟨y, hy, rfl⟩ := List.mem_map.1 hx
   rw [hg, hg]; have := h2 y hy; omega
theorem near_first (L rest : Nat) (ps : List (Nat × Nat)) (la : Int) (s : Nat) (w : List Nat) (hw : w.length = ps.length) (hn : cnt L rest ps la s ≠ 0) (h9 : ps.length ≤ 90) :
 IsFirst (diffN w) (gen L rest ps la s) (nearA L rest ps la s w) ∧ diffN w (nearA L rest ps la s w) = (bestA L rest ps la s w).2 := by
 induction ps generalizing la s w with
 | nil =>
   have : s = rest := by simp only [cnt] at hn; split at hn; · assumption
                         · exact absurd rfl hn
   refine ⟨⟨[], [], ?_, by simp, by simp⟩, ?_⟩
   · simp [gen, nearA, this]
   · cases w <;> simp [diffN, nearA, bestA]
 | cons p r ih =>
   cases w with
   | nil => simp at hw
   | cons own w =>
     have hwl : w.length = r.length := by simpa using hw
     have hr9 : r.length ≤ 90 := by simp at h9; omega
     have hp := first_parts (α := List Nat) (diffN (own :: w)) (fun (c : Nat) => if decide ((c : Int) ≠ la) && p.2.testBit c then (gen L rest r (c : Int) ((s + p.1 * c) % L)).map (c :: ·) else [])
      (fun c => c :: nearA L rest r (c : Int) ((s + p.1 * c) % L) w) (fun c => (bestA L rest r (c : Int) ((s + p.1 * c) % L) w).2 + if c = own then 0 else 1)
      (fun c => decide ((c : Int) ≠ la) && p.2.testBit c && decide (cnt L rest r (c : Int) ((s + p.1 * c) % L) ≠ 0)) (List.range L)
      (fun c _ h => by
       cases hok : (decide ((c : Int) ≠ la) && p.2.testBit c) with
       | false => rw [if_neg (by simp)]
       | true =>
         rw [hok, Bool.true_and, decide_eq_false_iff_not, Classical.not_not] at h
         rw [if_pos rfl, List.map_eq_nil_iff, ← List.length_eq_zero_iff, gen_length]
         exact h)
      (fun c _ h => by
       rw [Bool.and_eq_true, decide_eq_true_eq] at h
       obtain ⟨i1, i2⟩ := ih (c : Int) ((s + p.1 * c) % L) w hwl h.2 hr9
       rw [if_pos h.1]
       have hd : ∀ v, diffN (own :: w) (c :: v) = (if own = c then 0 else 1) + diffN w v := fun v => rfl
       refine ⟨i1.map (c :: ·) _ hd, ?_, ?_⟩
       · rw [hd, i2]
         by_cases e : own = c
         · subst e; simp
         · rw [if_neg e, if_neg (fun g => e g.symm)]; omega
       · rw [← i2]
         have := diffN_le w (nearA L rest r (c : Int) ((s + p.1 * c) % L) w)
         split <;> omega)
     have hb : bestA L rest (p :: r) la s (own :: w) = ((List.range L).filterMap fun (c : Nat) => if decide ((c : Int) ≠ la) && p.2.testBit c && decide (cnt L rest r (c : Int) ((s + p.1 * c) % L) ≠ 0) then some (c, (bestA L rest r (c : Int) ((s + p.1 * c) % L) w).2 + if c = own then 0 else 1) else none).foldl lessP (0, 100) := by
      rw [bestA]; rfl
     rcases hp with ⟨g1, _⟩ | ⟨c, hc, g2, g3, g4⟩
     · exfalso
       apply hn
       rw [← gen_length, List.length_eq_zero_iff]
       simp only [gen]
       rw [List.flatMap_eq_nil_iff]
       intro c hc
       have h := g1 c hc
       cases hok : (decide ((c : Int) ≠ la) && p.2.testBit c) with
       | false => rw [if_neg (by simp)]
       | true =>
         rw [hok, Bool.true_and, decide_eq_false_iff_not, Classical.not_not] at h
         rw [if_pos rfl, List.map_eq_nil_iff, ← List.length_eq_zero_iff, gen_length]
         exact h
     · rw [← hb] at g3
       have hn1 : nearA L rest (p :: r) la s (own :: w) = c :: nearA L rest r (c : Int) ((s + p.1 * c) % L) w := by
        rw [nearA, g3]; rfl
       rw [hn1, g3]
       refine ⟨g4, ?_⟩
       rw [Bool.and_eq_true, decide_eq_true_eq] at g2
       obtain ⟨i1, i2⟩ := ih (c : Int) ((s + p.1 * c) % L) w hwl g2.2 hr9
       show (if own = c then 0 else 1) + diffN w _ = _
       rw [i2]
       by_cases e : own = c
       · subst e; simp
       · rw [if_neg e, if_neg (fun g => e g.symm)]; omega
end Go.Proofs.Ytgjfejpibielaaa.Tt
namespace Go.Proofs.Ytgjfejpibielaaa.Tt
def fulls (L n : Nat) : List Nat := List.replicate n (2 ^ L - 1)
theorem fits_full (L n : Nat) (w : List Nat) (h : ∀ c, c ∈ w → c < L) : fitsW (fulls L n) w = true := by
 induction n generalizing w with
 | zero => simp [fulls, fitsW]
 | succ n ih =>
   cases w with
   | nil => simp [fulls, fitsW, List.replicate_succ]
   | cons c w =>
     have := ih w (fun x hx => h x (by simp [hx]))
     unfold fulls at this ⊢
     rw [List.replicate_succ, fitsW, this, Bool.and_true, Nat.testBit_two_pow_sub_one]
     simpa using h c (by simp)
/-- all codes -/
def codes (L rest : Nat) (K : List Nat) : List (List Nat) := gen L rest (K.zip (fulls L K.length)) (-1) 0
theorem codes_words (L rest : Nat) (K : List Nat) : codes L rest K = (wordsP L K.length (-1)).filter fun w => decide (sumW L K 0 w = rest) := by
 unfold codes
 rw [gen_words L rest K _ (by simp [fulls])]
 apply List.filter_congr
 intro w hw
 rw [fits_full L K.length w (words_mem hw).2, Bool.and_true]
theorem codes_sorted (L rest : Nat) (K : List Nat) : (codes L rest K).Pairwise fun v w => ltW v w = true := by
 rw [codes_words]; exact (words_sorted _ _ _).filter _
theorem codes_mem {L rest : Nat} {K w : List Nat} (h : w ∈ codes L rest K) : w.length = K.length ∧ ∀ c, c ∈ w → c < L := by
 rw [codes_words] at h
 exact words_mem (List.mem_filter.1 h).1
theorem gen_fit (L rest : Nat) (K T : List Nat) (h : T.length = K.length) : gen L rest (K.zip T) (-1) 0 = (codes L rest K).filter (fitsW T) := by
 rw [gen_words L rest K T h, codes_words, List.filter_filter]
 apply List.filter_congr
 intro w _
 rw [Bool.and_comm]
/-- how many that fit come before the code of a number -/
theorem bef_at (L rest : Nat) (K T : List Nat) (h : T.length = K.length) (i : Nat) (hi : i < (codes L rest K).length) : befA L rest (K.zip T) (-1) 0 (codes L rest K)[i] = ((codes L rest K).take i).countP (fitsW T) := by
 have hm := codes_mem (List.getElem_mem hi)
 rw [befA_count _ _ _ _ _ _ (by rw [hm.1, List.length_zip, h]; omega) hm.2, gen_fit _ _ _ _ h, count_fit (codes_sorted _ _ _)]
theorem bef_full (L rest : Nat) (K : List Nat) (i : Nat) (hi : i < (codes L rest K).length) : befA L rest (K.zip (fulls L K.length)) (-1) 0 (codes L rest K)[i] = i := by
 rw [bef_at _ _ _ _ (by simp [fulls]), List.countP_eq_length.2, List.length_take]
 · omega
 · intro v hv
   exact fits_full _ _ _ (codes_mem (List.mem_of_mem_take hv)).2
/-- numbers from one to another one that are of a kind -/
def span (p : Nat → Bool) (lo hi : Nat) : List Nat := (List.range' lo (hi + 1 - lo)).filter p
theorem range_split (n lo hi : Nat) (h1 : lo ≤ hi) (h2 : hi < n) : List.range n = List.range lo ++ (List.range' lo (hi + 1 - lo) ++ List.range' (hi + 1) (n - (hi + 1))) := by
 rw [List.range_eq_range', List.range_eq_range']
 have e1 := List.range'_append_1 (s := lo) (m := hi + 1 - lo) (n := n - (hi + 1))
 rw [show lo + (hi + 1 - lo) = hi + 1 by omega, show hi + 1 - lo + (n - (hi + 1)) = n - lo by omega] at e1
 rw [e1]
 have e2 := List.range'_append_1 (s := 0) (m := lo) (n := n - lo)
 rw [Nat.zero_add, show lo + (n - lo) = n by omega] at e2
 exact e2.symm
theorem nums_slice (p : Nat → Bool) (n lo hi : Nat) (h1 : lo ≤ hi) (h2 : hi < n) (i : Nat) (hi2 : i < (span p lo hi).length) :
 ((List.range n).filter p)[(List.range lo).countP p + i]? = some (span p lo hi)[i] := by
 rw [range_split n lo hi h1 h2, List.filter_append, List.filter_append, List.countP_eq_length_filter]
 rw [List.getElem?_append_right (by omega), Nat.add_sub_cancel_left]
 unfold span at hi2 ⊢
 rw [List.getElem?_append_left hi2, List.getElem?_eq_getElem hi2]
theorem span_len (p : Nat → Bool) (lo hi : Nat) (h1 : lo ≤ hi) : (List.range lo).countP p + (span p lo hi).length = (List.range (hi + 1)).countP p := by
 unfold span
 rw [range_split (hi + 1) lo hi h1 (by omega), Nat.sub_self, List.range'_zero, List.append_nil, List.countP_append, ← List.countP_eq_length_filter]
theorem take_count {α : Type} (l : List α) (p : α → Bool) (i : Nat) (hi : i ≤ l.length) : (l.take i).countP p = (List.range i).countP fun j => ((l[j]?).map p).getD false := by
 induction i with
 | zero => simp
 | succ i ih =>
   rw [List.take_succ_eq_append_getElem (by omega), List.countP_append, ih (by omega), List.range_succ, List.countP_append]
   congr 1
   simp [List.countP_cons, List.getElem?_eq_getElem (show i < l.length by omega)]
/-- what was sold -/
def soldB (rs : List (Nat × Nat)) (i : Nat) : Bool := rs.any fun r => decide (r.1 ≤ i) && decide (i ≤ r.2)
def okSold (n : Nat) : Nat → List (Nat × Nat) → Bool
 | _, [] => true
 | next, r :: rs => decide (next ≤ r.1) && decide (r.1 ≤ r.2) && decide (r.2 < n) && okSold n (r.2 + 1) rs
theorem okSold_low {n next : Nat} {rs : List (Nat × Nat)} (h : okSold n next rs = true) {i : Nat} (hi : i < next) : soldB rs i = false := by
 induction rs generalizing next with
 | nil => rfl
 | cons r rs ih =>
   simp only [okSold, Bool.and_eq_true, decide_eq_true_eq] at h
   have := ih h.2 (by omega)
   unfold soldB at this ⊢
   rw [List.any_cons, this, Bool.or_false]
   simp; omega
theorem sold_span (p : Nat → Bool) (n next : Nat) (rs : List (Nat × Nat)) (h : okSold n next rs = true) (hn : next ≤ n) : rs.flatMap (fun r => span p r.1 r.2) = (List.range' next (n - next)).filter fun i => soldB rs i && p i := by
 induction rs generalizing next with
 | nil => simp [soldB]
 | cons r rs ih =>
   simp only [okSold, Bool.and_eq_true, decide_eq_true_eq] at h
   obtain ⟨⟨⟨h1, h2⟩, h3⟩, h4⟩ := h
   rw [List.flatMap_cons, ih (r.2 + 1) h4 (by omega)]
   have e1 := List.range'_append_1 (s := next) (m := r.1 - next) (n := n - r.1)
   rw [show next + (r.1 - next) = r.1 by omega, show r.1 - next + (n - r.1) = n - next by omega] at e1
   have e2 := List.range'_append_1 (s := r.1) (m := r.2 + 1 - r.1) (n := n - (r.2 + 1))
   rw [show r.1 + (r.2 + 1 - r.1) = r.2 + 1 by omega, show r.2 + 1 - r.1 + (n - (r.2 + 1)) = n - r.1 by omega] at e2
   rw [← e1, List.filter_append, ← e2, List.filter_append]
   have hb : ∀ i, soldB (r :: rs) i = ((decide (r.1 ≤ i) && decide (i ≤ r.2)) || soldB rs i) := fun i => by unfold soldB; rw [List.any_cons]
   have z1 : ((List.range' next (r.1 - next)).filter fun i => soldB (r :: rs) i && p i) = [] := by
    rw [List.filter_eq_nil_iff]
    intro i hi
    rw [List.mem_range'_1] at hi
    rw [hb, okSold_low h4 (by omega)]
    simp; omega
   have z2 : ((List.range' r.1 (r.2 + 1 - r.1)).filter fun i => soldB (r :: rs) i && p i) = span p r.1 r.2 := by
    unfold span
    apply List.filter_congr
    intro i hi
    rw [List.mem_range'_1] at hi
    rw [hb, show (decide (r.1 ≤ i) && decide (i ≤ r.2)) = true by simp; omega]; rfl
   have z3 : ((List.range' (r.2 + 1) (n - (r.2 + 1))).filter fun i => soldB (r :: rs) i && p i) = (List.range' (r.2 + 1) (n - (r.2 + 1))).filter fun i => soldB rs i && p i := by
    apply List.filter_congr
    intro i hi
    rw [List.mem_range'_1] at hi
    rw [hb, show (decide (r.1 ≤ i) && decide (i ≤ r.2)) = false by simp; omega]; rfl
   rw [z1, z2, z3, List.nil_append]
/-- the numbers of sold codes of a kind -/
theorem sold_list (p : Nat → Bool) (n : Nat) (rs : List (Nat × Nat)) (h : okSold n 0 rs = true) : rs.flatMap (fun r => span p r.1 r.2) = (List.range n).filter fun i => soldB rs i && p i := by
 rw [sold_span p n 0 rs h (Nat.zero_le _), Nat.sub_zero, List.range_eq_range']
end Go.Proofs.Ytgjfejpibielaaa.Tt
namespace Go.Proofs.Ytgjfejpibielaaa.Tt
theorem cnt_le (L rest : Nat) (ps : List (Nat × Nat)) (la : Int) (s : Nat) : cnt L rest ps la s ≤ L ^ ps.length := by
 induction ps generalizing la s with
 | nil => simp only [cnt, List.length_nil, Nat.pow_zero]; split <;> omega
 | cons p r ih =>
   simp only [cnt, List.length_cons]
   have key : ∀ (l : List Nat), (l.map fun (c : Nat) => if decide ((c : Int) ≠ la) && p.2.testBit c then cnt L rest r (c : Int) ((s + p.1 * c) % L) else 0).sum ≤ l.length * L ^ r.length := fun l => by
    induction l with
    | nil => simp
    | cons c l ihl =>
      rw [List.map_cons, List.sum_cons, List.length_cons, Nat.add_mul, Nat.one_mul]
      have h := ih (c : Int) ((s + p.1 * c) % L)
      split <;> omega
   have := key (List.range L)
   rw [List.length_range] at this
   rw [Nat.pow_succ, Nat.mul_comm]; exact this
theorem cnt_small {L rest : Nat} {ps : List (Nat × Nat)} {la : Int} {s : Nat} (hL : L ≤ 6) (hp : ps.length ≤ 8) : cnt L rest ps la s ≤ 1679616 := by
 have h1 := cnt_le L rest ps la s
 have h2 : L ^ ps.length ≤ 6 ^ ps.length := Nat.pow_le_pow_left hL _
 have h3 : 6 ^ ps.length ≤ 6 ^ 8 := Nat.pow_le_pow_right (by omega) hp
 omega
/-- how many go on with each letter that has come -/
def wv (f : Nat → Nat) (L : Nat) (pre : List Nat) (c : Nat) : Nat := if (pre.map (· % L)).contains c then f c else 0
theorem wv_snoc (f : Nat → Nat) (L : Nat) (pre : List Nat) (x c : Nat) : wv f L (pre ++ [x]) c = if c = x % L then f c else wv f L pre c := by
 unfold wv
 rw [List.map_append, List.contains_append]
 by_cases h : c = x % L
 · rw [if_pos h]
   subst h
   simp
 · rw [if_neg h]
   have : ([x].map (· % L)).contains c = false := by simp [h]
   rw [this, Bool.or_false]
theorem wv_all (f : Nat → Nat) (L : Nat) (ok : Nat → Bool) (c : Nat) : wv f L ((List.range L).filter ok) c = if c < L ∧ ok c = true then f c else 0 := by
 unfold wv
 have : (((List.range L).filter ok).map (· % L)) = (List.range L).filter ok := by
  conv => rhs; rw [← List.map_id ((List.range L).filter ok)]
  apply List.map_congr_left
  intro x hx
  exact Nat.mod_eq_of_lt (List.mem_range.1 (List.mem_filter.1 hx).1)
 rw [this]
 by_cases h : c < L ∧ ok c = true
 · rw [if_pos h, if_pos (by rw [List.contains_iff_mem, List.mem_filter, List.mem_range]; exact h)]
 · rw [if_neg h, if_neg (by rw [List.contains_iff_mem, List.mem_filter, List.mem_range]; exact h)]
theorem wv_le (f : Nat → Nat) (L : Nat) (pre : List Nat) (c m : Nat) (h : f c ≤ m) : wv f L pre c ≤ m := by
 unfold wv; split <;> omega
theorem six_sum {L : Nat} (hL : L ≤ 6) (f : Nat → Nat) (ok : Nat → Bool) : ((List.range 6).map fun c => if c < L ∧ ok c = true then f c else 0).sum = ((List.range L).map fun c => if ok c then f c else 0).sum := by
 obtain ⟨d, hd⟩ : ∃ d, 6 = L + d := ⟨6 - L, by omega⟩
 rw [hd, List.range_add, List.map_append, List.sum_append]
 have h1 : ((List.range L).map fun c => if c < L ∧ ok c = true then f c else 0) = (List.range L).map fun c => if ok c then f c else 0 := by
  apply List.map_congr_left
  intro c hc
  have := List.mem_range.1 hc
  by_cases h : ok c = true
  · rw [if_pos ⟨this, h⟩, if_pos h]
  · rw [if_neg (fun g => h g.2), if_neg h]
 have h2 : (((List.range d).map (L + ·)).map fun c => if c < L ∧ ok c = true then f c else 0) = ((List.range d).map fun _ => 0) := by
  rw [List.map_map]
  apply List.map_congr_left
  intro c _
  simp only [Function.comp]
  rw [if_neg (fun g => by omega)]
 rw [h1, h2, sum_zero]; rfl
theorem cnt_cons (L rest : Nat) (p : Nat × Nat) (r : List (Nat × Nat)) (la : Int) (s : Nat) : cnt L rest (p :: r) la s = ((List.range L).map fun (c : Nat) => if decide ((c : Int) ≠ la) && p.2.testBit c then cnt L rest r (c : Int) ((s + p.1 * c) % L) else 0).sum := rfl
theorem zip_drop {K T : List Nat} {p : Nat} (h1 : p < K.length) (h2 : p < T.length) : (K.zip T).drop p = (K[p], T[p]) :: (K.zip T).drop (p + 1) := by
 rw [List.drop_eq_getElem_cons (by rw [List.length_zip]; omega), List.getElem_zip]
end Go.Proofs.Ytgjfejpibielaaa.Tt
namespace Go.Proofs.Ytgjfejpibielaaa.Tt
theorem sum_filter {α : Type} (l : List α) (ok : α → Bool) (f : α → Nat) : ((l.filter ok).map f).sum = (l.map fun c => if ok c then f c else 0).sum := by
 induction l with
 | nil => rfl
 | cons a l ih =>
   rw [List.filter_cons, List.map_cons, List.sum_cons, ← ih]
   cases ok a <;> simp
theorem goA_pick (f : Nat → Nat) (G : Nat → Nat → List Nat) (ok : Nat → Bool) (c m : Nat) (pre post : List Nat) (x i i0 : Nat)
 (h : (List.range' c m).filter ok = pre ++ x :: post) (hi : i + (pre.map f).sum = i0) (hx : i < f x) :
 codeA.goA (fun c => if ok c then f c else 0) G c m i0 = x :: G x i := by
 induction m generalizing c pre i0 with
 | zero => simp at h
 | succ m ih =>
   rw [List.range'_succ, List.filter_cons] at h
   unfold codeA.goA
   cases hok : ok c with
   | false =>
     rw [hok] at h
     simp only [Bool.false_eq_true, if_false] at h ⊢
     rw [if_neg (by omega)]
     exact ih (c + 1) pre (i0 - 0) h (by omega)
   | true =>
     rw [hok] at h
     simp only [if_true] at h ⊢
     cases pre with
     | nil =>
       simp at h
       simp at hi
       obtain ⟨rfl, _⟩ := h
       subst hi
       rw [if_pos hx]
     | cons a pre =>
       simp only [List.cons_append, List.cons.injEq] at h
       obtain ⟨rfl, h⟩ := h
       simp only [List.map_cons, List.sum_cons] at hi
       rw [if_neg (by omega)]
       exact ih (c + 1) pre (i0 - f c) h (by omega)
/-- the letters that can come at a place -/
def lets (L t : Nat) (la : Int) : List Nat := (List.range L).filter fun (c : Nat) => decide ((c : Int) ≠ la) && t.testBit c
theorem code_pick (L rest : Nat) (p : Nat × Nat) (r : List (Nat × Nat)) (la : Int) (s i i0 : Nat) (pre post : List Nat) (x : Nat)
 (h : lets L p.2 la = pre ++ x :: post) (hi : i + (pre.map fun (c : Nat) => cnt L rest r (c : Int) ((s + p.1 * c) % L)).sum = i0) (hx : i < cnt L rest r (x : Int) ((s + p.1 * x) % L)) :
 codeA L rest (p :: r) la s i0 = x :: codeA L rest r (x : Int) ((s + p.1 * x) % L) i := by
 show codeA.goA _ _ 0 L i0 = _
 refine goA_pick (fun (c : Nat) => cnt L rest r (c : Int) ((s + p.1 * c) % L)) (fun (c : Nat) j => codeA L rest r (c : Int) ((s + p.1 * c) % L) j) (fun (c : Nat) => decide ((c : Int) ≠ la) && p.2.testBit c) 0 L pre post x i i0 ?_ hi hx
 rw [← List.range_eq_range']
 exact h
theorem cnt_lets (L rest : Nat) (p : Nat × Nat) (r : List (Nat × Nat)) (la : Int) (s : Nat) : cnt L rest (p :: r) la s = ((lets L p.2 la).map fun (c : Nat) => cnt L rest r (c : Int) ((s + p.1 * c) % L)).sum := by
 rw [cnt_cons]; unfold lets; rw [sum_filter]
theorem codeA_len (L rest : Nat) (ps : List (Nat × Nat)) (la : Int) (s i : Nat) (h : i < cnt L rest ps la s) : (codeA L rest ps la s i).length = ps.length ∧ ∀ c, c ∈ codeA L rest ps la s i → c < L := by
 have h2 : i < (gen L rest ps la s).length := by rw [gen_length]; exact h
 have he := codeA_at L rest ps la s i h2
 rw [← he]
 have key : ∀ (ps : List (Nat × Nat)) (la : Int) (s : Nat) (w : List Nat), w ∈ gen L rest ps la s → w.length = ps.length ∧ ∀ c, c ∈ w → c < L := fun ps => by
  induction ps with
  | nil =>
    intro la s w hw
    unfold gen at hw
    split at hw
    · simp at hw; subst hw; exact ⟨rfl, fun c hc => by cases hc⟩
    · cases hw
  | cons p r ih =>
    intro la s w hw
    unfold gen at hw
    obtain ⟨c, hc, hw⟩ := List.mem_flatMap.1 hw
    split at hw
    · obtain ⟨v, hv, rfl⟩ := List.mem_map.1 hw
      have := ih _ _ v hv
      refine ⟨by simp [this.1], fun d hd => ?_⟩
      rcases List.mem_cons.1 hd with rfl | hd
      · exact List.mem_range.1 hc
      · exact this.2 d hd
    · cases hw
 exact key ps la s _ (List.getElem_mem h2)
end Go.Proofs.Ytgjfejpibielaaa.Tt
namespace Go.Proofs.Ytgjfejpibielaaa.Tt
theorem bef_step (L rest : Nat) (p : Nat × Nat) (r : List (Nat × Nat)) (la : Int) (s b : Nat) (w : List Nat) :
 befA L rest (p :: r) la s (b :: w) = ((lets L p.2 la).map fun (c : Nat) => if c < b then cnt L rest r (c : Int) ((s + p.1 * c) % L) else 0).sum + if decide ((b : Int) ≠ la) && p.2.testBit b then befA L rest r (b : Int) ((s + p.1 * b) % L) w else 0 := by
 show ((List.range L).map fun (c : Nat) => if decide ((c : Int) ≠ la) && p.2.testBit c && decide (c < b) then cnt L rest r (c : Int) ((s + p.1 * c) % L) else 0).sum + _ = _
 congr 1
 unfold lets
 rw [sum_filter]
 congr 1
 apply List.map_congr_left
 intro c _
 by_cases h : c < b <;> cases (decide ((c : Int) ≠ la) && p.2.testBit c) <;> simp [h]
theorem bef_le (L rest : Nat) (ps : List (Nat × Nat)) (la : Int) (s : Nat) (w : List Nat) (hw : w.length = ps.length) (hL : ∀ c, c ∈ w → c < L) : befA L rest ps la s w ≤ cnt L rest ps la s := by
 rw [befA_count L rest ps la s w hw hL, ← gen_length]
 exact List.countP_le_length
theorem sum_le_len (l : List Nat) (g : Nat → Nat) (m : Nat) (h : ∀ e, g e ≤ m) : (l.map g).sum ≤ l.length * m := by
 induction l with
 | nil => simp
 | cons a l ih => rw [List.map_cons, List.sum_cons, List.length_cons, Nat.add_mul]; have := h a; omega
end Go.Proofs.Ytgjfejpibielaaa.Tt
namespace Go.Proofs.Ytgjfejpibielaaa.Tt
/-- the index of the least, the first one of several -/
def leastS (ps : List (Nat × Nat)) (k : Nat) : Nat := (List.range k).foldl (fun a j => if (ps.getD j (0, 0)).2 < (ps.getD a (0, 0)).2 then j else a) 0
def leastI (ps : List (Nat × Nat)) : Nat := leastS ps ps.length
theorem leastS_succ (ps : List (Nat × Nat)) (k : Nat) : leastS ps (k + 1) = if (ps.getD k (0, 0)).2 < (ps.getD (leastS ps k) (0, 0)).2 then k else leastS ps k := by
 unfold leastS
 rw [List.range_succ, List.foldl_append]
 rfl
theorem leastS_lt (ps : List (Nat × Nat)) (h : 0 < ps.length) (k : Nat) (hk : k ≤ ps.length) : leastS ps k < ps.length := by
 induction k with
 | zero => exact h
 | succ k ih =>
   rw [leastS_succ]
   have := ih (by omega)
   split <;> omega
theorem leastS_at (ps : List (Nat × Nat)) (k : Nat) (hk : k ≤ ps.length) : ps.getD (leastS ps k) (0, 0) = (ps.take k).foldl lessP (ps.getD 0 (0, 0)) := by
 induction k with
 | zero => rfl
 | succ k ih =>
   have h := ih (by omega)
   have hk2 : k < ps.length := by omega
   rw [List.take_succ_eq_append_getElem hk2, List.foldl_append, ← h, leastS_succ]
   have hg : ps.getD k (0, 0) = ps[k] := by simp [List.getD_eq_getElem?_getD, hk2]
   simp only [List.foldl_cons, List.foldl_nil, lessP, hg]
   split
   · exact hg
   · rfl
theorem leastI_at (ps : List (Nat × Nat)) : (((0, 100) :: ps).getD (leastI ((0, 100) :: ps)) (0, 0)) = ps.foldl lessP (0, 100) := by
 have h := leastS_at ((0, 100) :: ps) ((0, 100) :: ps).length (Nat.le_refl _)
 rw [List.take_length] at h
 exact h
/-- the entries of the letters that can come -/
def entry (L rest : Nat) (p : Nat × Nat) (r : List (Nat × Nat)) (s : Nat) (w : List Nat) (c : Nat) : Option (Nat × Nat) :=
 if cnt L rest r (c : Int) ((s + p.1 * c) % L) ≠ 0 then some (c, (bestA L rest r (c : Int) ((s + p.1 * c) % L) w.tail).2 + if c = w.head?.getD 0 then 0 else 1) else none
theorem fmap_congr {α β : Type} {f g : α → Option β} (l : List α) (h : ∀ x, x ∈ l → f x = g x) : l.filterMap f = l.filterMap g := by
 induction l with
 | nil => rfl
 | cons a l ih => rw [List.filterMap_cons, List.filterMap_cons, h a (by simp), ih (fun x hx => h x (by simp [hx]))]
theorem best_lets (L rest : Nat) (p : Nat × Nat) (r : List (Nat × Nat)) (la : Int) (s : Nat) (w : List Nat) : bestA L rest (p :: r) la s w = ((lets L p.2 la).filterMap (entry L rest p r s w)).foldl lessP (0, 100) := by
 show ((List.range L).filterMap _).foldl lessP (0, 100) = _
 congr 1
 unfold lets
 rw [List.filterMap_filter]
 apply fmap_congr
 intro c _
 unfold entry
 cases (decide ((c : Int) ≠ la) && p.2.testBit c) with
 | false => simp
 | true => by_cases h : cnt L rest r (c : Int) ((s + p.1 * c) % L) = 0 <;> simp [h]
theorem best_le (L rest : Nat) (ps : List (Nat × Nat)) (la : Int) (s : Nat) (w : List Nat) : (bestA L rest ps la s w).2 ≤ 100 := by
 cases ps with
 | nil => show 0 ≤ 100; omega
 | cons p r =>
   rw [best_lets]
   have key : ∀ (l : List (Nat × Nat)) (b : Nat × Nat), b.2 ≤ 100 → (l.foldl lessP b).2 ≤ 100 := fun l => by
    induction l with
    | nil => exact fun b h => h
    | cons x l ih =>
      intro b h
      refine ih _ ?_
      unfold lessP
      split
      · omega
      · exact h
   exact key _ _ (Nat.le_refl _)
end Go.Proofs.Ytgjfejpibielaaa.Tt
namespace Go.Proofs.Ytgjfejpibielaaa.Tt
/-- the numbers that a payment has met are met once, and lie among those of the claims -/
theorem payS_nd (N : List Int) (rec : Nat → List Int → List Int → Bool × List Int × List Int)
 (hrec : ∀ h seen paid, seen.Nodup → (∀ x, x ∈ seen → x ∈ N) → (rec h seen paid).2.1.Nodup ∧ ∀ x, x ∈ (rec h seen paid).2.1 → x ∈ N) (n : Nat) (xs : List Int) (hxs : ∀ x, x ∈ xs → x ∈ N) (seen paid : List Int) (hn : seen.Nodup) (hs : ∀ x, x ∈ seen → x ∈ N) :
 (payS rec n xs seen paid).2.1.Nodup ∧ ∀ x, x ∈ (payS rec n xs seen paid).2.1 → x ∈ N := by
 induction xs generalizing seen paid with
 | nil => exact ⟨hn, hs⟩
 | cons x xs ih =>
   have hxs' : ∀ y, y ∈ xs → y ∈ N := fun y hy => hxs y (by simp [hy])
   have hs2 : ∀ y, y ∈ x :: seen → y ∈ N := fun y hy => by
    rcases List.mem_cons.1 hy with rfl | hy
    · exact hxs _ (by simp)
    · exact hs y hy
   simp only [payS]
   split
   · exact ih hxs' seen paid hn hs
   · rename_i hx
     have hn2 : (x :: seen).Nodup := List.nodup_cons.2 ⟨hx, hn⟩
     split
     · exact ⟨hn2, hs2⟩
     · rename_i h _
       have hr := hrec h (x :: seen) paid hn2 hs2
       split
       · rename_i s p he
         rw [he] at hr
         exact hr
       · rename_i s p he
         rw [he] at hr
         exact ih hxs' s p hr.1 hr.2
theorem payF_nd (can : List (List Int)) (f n : Nat) (seen paid : List Int) (hn : seen.Nodup) (hs : ∀ x, x ∈ seen → x ∈ can.flatten) :
 (payF can f n seen paid).2.1.Nodup ∧ ∀ x, x ∈ (payF can f n seen paid).2.1 → x ∈ can.flatten := by
 induction f generalizing n seen paid with
 | zero => exact ⟨hn, hs⟩
 | succ f ih =>
   refine payS_nd can.flatten (payF can f) (fun h s p h1 h2 => ih h s p h1 h2) n _ (fun x hx => ?_) seen paid hn hs
   rw [List.getD_eq_getElem?_getD] at hx
   cases hc : can[n]? with
   | none => rw [hc] at hx; cases hx
   | some row => rw [hc] at hx; exact List.mem_flatten.2 ⟨row, List.mem_of_getElem? hc, hx⟩
/-- what a payment has to find -/
structure PayPre (can : List (List Int)) (f n : Nat) (seen p : List Int) : Prop where
 lt : n < can.length
 left : left p seen < f
 pay : Pay can p
 own : gp p n = -1 ∨ gp p n ∈ seen
 nd : seen.Nodup
 sub : ∀ x, x ∈ seen → x ∈ can.flatten
/-- what the claim that holds a number has to find -/
theorem PayPre.inner {can : List (List Int)} {f n h : Nat} {seen p : List Int} {x : Int} (hq : PayPre can (f + 1) n seen p) (hx : x ∈ can.getD n []) (hs : x ∉ seen) (hx1 : x ≠ -1) (hh : holder p x = some h) : PayPre can f h (x :: seen) p := by
 have hg := holder_some hh
 have hll := left_lt hg.1 hx1 hs
 have h1 := hq.left
 refine ⟨by rw [← hq.pay.len]; exact hg.2, by omega, hq.pay, .inr (by rw [hg.1]; simp), List.nodup_cons.2 ⟨hs, hq.nd⟩, fun y hy => ?_⟩
 rcases List.mem_cons.1 hy with rfl | hy
 · rw [List.getD_eq_getElem?_getD] at hx
   cases hc : can[n]? with
   | none => rw [hc] at hx; cases hx
   | some row => rw [hc] at hx; exact List.mem_flatten.2 ⟨row, List.mem_of_getElem? hc, hx⟩
 · exact hq.sub y hy
/-- behind a claim that could not be moved all is as before, but for what is met -/
theorem PayPre.next {can : List (List Int)} (hpos : ∀ n, ∀ x, x ∈ can.getD n [] → x ≠ -1) {f n h : Nat} {seen p s q : List Int} {x : Int} (hq : PayPre can (f + 1) n seen p) (hx : x ∈ can.getD n []) (hs : x ∉ seen) (hh : holder p x = some h)
 (he : payF can f h (x :: seen) p = (false, s, q)) : q = p ∧ PayPre can (f + 1) n s p := by
 have hi := hq.inner hx hs (hpos n x hx) hh
 have hl := (payF_spec hpos f h (x :: seen) p hi.lt hi.left hi.pay hi.own).2 s q he
 have hd := payF_nd can f h (x :: seen) p hi.nd hi.sub
 rw [he] at hd
 refine ⟨hl.eq, hq.lt, ?_, hq.pay, ?_, hd.1, hd.2⟩
 · have := left_mono (p := p) (fun y hy => hl.sub y (List.mem_cons_of_mem x hy))
   have h1 := hq.left
   omega
 · rcases hq.own with g | g
   · exact .inl g
   · exact .inr (hl.sub _ (List.mem_cons_of_mem x g))
end Go.Proofs.Ytgjfejpibielaaa.Tt
