/- Proved here: the plain law of tickets, part 1; the plain law of tickets, part 2; the plain law of tickets, part 3; the plain law of tickets, part 4, a part of the proofs about the ticket laws. Conditions: those that each theorem names, no others. -/
set_option linter.unusedSimpArgs false
set_option linter.unusedVariables false
namespace Go.Proofs.Ytgjfejpibielaaa.Tt
/-- the words that go on from a state and fit: for each place left a key and a set; the last letter, and the sum -/
def gen (L rest : Nat) : List (Nat × Nat) → Int → Nat → List (List Nat)
 | [], _, s => if s = rest then [[]] else []
 | p :: r, la, s => (List.range L).flatMap fun (c : Nat) => if decide ((c : Int) ≠ la) && p.2.testBit c then (gen L rest r (c : Int) ((s + p.1 * c) % L)).map (c :: ·) else []
/-- how many go on -/
def cnt (L rest : Nat) : List (Nat × Nat) → Int → Nat → Nat
 | [], _, s => if s = rest then 1 else 0
 | p :: r, la, s => ((List.range L).map fun (c : Nat) => if decide ((c : Int) ≠ la) && p.2.testBit c then cnt L rest r (c : Int) ((s + p.1 * c) % L) else 0).sum
theorem gen_length (L rest : Nat) (ps : List (Nat × Nat)) (la : Int) (s : Nat) : (gen L rest ps la s).length = cnt L rest ps la s := by
 induction ps generalizing la s with
 | nil => simp only [gen, cnt]; split <;> rfl
 | cons p r ih =>
   simp only [gen, cnt, List.length_flatMap]
   congr 1
   apply List.map_congr_left
   intro c _
   split
   · rw [List.length_map, ih]
   · rfl
/-- words, letter by letter, with unequal neighbours -/
def wordsP (L : Nat) : Nat → Int → List (List Nat)
 | 0, _ => [[]]
 | n + 1, la => (List.range L).flatMap fun (c : Nat) => if decide ((c : Int) ≠ la) then (wordsP L n (c : Int)).map (c :: ·) else []
/-- the sum of a word -/
def sumW (L : Nat) : List Nat → Nat → List Nat → Nat
 | k :: K, s, c :: w => sumW L K ((s + k * c) % L) w
 | _, s, _ => s
/-- a word fits sets -/
def fitsW : List Nat → List Nat → Bool
 | t :: T, c :: w => t.testBit c && fitsW T w
 | _, _ => true
theorem gen_words (L rest : Nat) (K T : List Nat) (h : T.length = K.length) (la : Int) (s : Nat) :
 gen L rest (K.zip T) la s = (wordsP L K.length la).filter fun w => decide (sumW L K s w = rest) && fitsW T w := by
 induction K generalizing T la s with
 | nil =>
   cases T with
   | nil => simp only [List.zip_nil_left, gen, List.length_nil, wordsP, List.filter_cons, sumW, fitsW, Bool.and_true, List.filter_nil]; split <;> simp_all
   | cons t T => simp at h
 | cons k K ih =>
   cases T with
   | nil => simp at h
   | cons t T =>
     simp only [List.zip_cons_cons, gen, List.length_cons, wordsP, List.filter_flatMap]
     congr 1
     funext c
     by_cases h1 : (c : Int) ≠ la
     · rw [if_pos (c := decide ((c : Int) ≠ la) = true) (by simpa using h1)]
       rw [List.filter_map]
       by_cases h2 : t.testBit c = true
       · rw [if_pos (by simp [h1, h2]), ih T (by simpa using h)]
         congr 1
         apply List.filter_congr
         intro w _
         simp only [Function.comp, sumW, fitsW, h2, Bool.true_and]
         rfl
       · rw [if_neg (by simp [h2])]
         simp only [Bool.not_eq_true] at h2
         rw [List.filter_eq_nil_iff.2 (fun w _ => by simp [Function.comp, fitsW, h2])]
         rfl
     · rw [if_neg (by simp only [h1, decide_false, Bool.false_and]; simp), if_neg (by simpa using h1)]; rfl
/-- the word before which so many come -/
def codeA (L rest : Nat) : List (Nat × Nat) → Int → Nat → Nat → List Nat
 | [], _, _, _ => []
 | p :: r, la, s, i => goA (fun (c : Nat) => if decide ((c : Int) ≠ la) && p.2.testBit c then cnt L rest r (c : Int) ((s + p.1 * c) % L) else 0) (fun (c : Nat) j => codeA L rest r (c : Int) ((s + p.1 * c) % L) j) 0 L i
where goA (f : Nat → Nat) (g : Nat → Nat → List Nat) (c : Nat) : Nat → Nat → List Nat
 | 0, _ => []
 | m + 1, i => if i < f c then c :: g c i else goA f g (c + 1) m (i - f c)
theorem goA_at (f : Nat → Nat) (g : Nat → Nat → List Nat) (l : Nat → List (List Nat)) (hf : ∀ c, (l c).length = f c) (hg : ∀ c i, (h : i < (l c).length) → (l c)[i] = c :: g c i) (c m i : Nat) (h : i < ((List.range' c m).flatMap l).length) :
 ((List.range' c m).flatMap l)[i] = codeA.goA f g c m i := by
 induction m generalizing c i with
 | zero => simp at h
 | succ m ih =>
   simp only [List.range'_succ, List.flatMap_cons] at h ⊢
   rw [codeA.goA]
   by_cases hi : i < f c
   · rw [if_pos hi, List.getElem_append_left (by rw [hf]; exact hi), hg]
   · rw [if_neg hi, List.getElem_append_right (by rw [hf]; omega)]
     have := ih (c + 1) (i - f c) (by rw [List.length_append, hf] at h; omega)
     rw [← this]
     congr 1
     rw [hf]
theorem codeA_at (L rest : Nat) (ps : List (Nat × Nat)) (la : Int) (s i : Nat) (h : i < (gen L rest ps la s).length) : (gen L rest ps la s)[i] = codeA L rest ps la s i := by
 induction ps generalizing la s i with
 | nil =>
   have h2 := h
   simp only [gen] at h2 ⊢
   split at h2
   · rename_i e; simp only [if_pos e, List.getElem_singleton, codeA]
   · simp at h2
 | cons p r ih =>
   have h0 := h
   simp only [gen, List.range_eq_range'] at h0 ⊢
   rw [codeA]
   refine goA_at _ _ _ (fun c => ?_) (fun c j hj => ?_) _ _ _ h0
   · split
     · rw [List.length_map, gen_length]
     · rfl
   · split at hj
     · rename_i e
       simp only [if_pos e, List.getElem_map]
       rw [ih]
     · simp at hj
/-- how many come before a word -/
def befA (L rest : Nat) : List (Nat × Nat) → Int → Nat → List Nat → Nat
 | p :: r, la, s, b :: w =>
   ((List.range L).map fun (c : Nat) => if decide ((c : Int) ≠ la) && p.2.testBit c && decide (c < b) then cnt L rest r (c : Int) ((s + p.1 * c) % L) else 0).sum
    + if decide ((b : Int) ≠ la) && p.2.testBit b then befA L rest r (b : Int) ((s + p.1 * b) % L) w else 0
 | _, _, _, _ => 0
/-- words in lexicographic order -/
def ltW : List Nat → List Nat → Bool
 | a :: v, b :: w => decide (a < b) || (decide (a = b) && ltW v w)
 | [], _ :: _ => true
 | _, [] => false
theorem countP_flatMap' {α β : Type} (p : β → Bool) (f : α → List β) (l : List α) : (l.flatMap f).countP p = (l.map fun a => (f a).countP p).sum := by
 rw [List.countP_flatMap]; rfl
theorem sum_zero {α : Type} (l : List α) : (l.map fun _ => 0).sum = 0 := by
 induction l with
 | nil => rfl
 | cons a l ih => simp [ih]
theorem sum_one (n b v : Nat) (hb : b < n) : ((List.range n).map fun c => if c = b then v else 0).sum = v := by
 induction n with
 | zero => omega
 | succ n ih =>
   rw [List.range_succ, List.map_append, List.sum_append]
   by_cases h : b = n
   · subst h
     rw [show ((List.range b).map fun c => if c = b then v else 0) = (List.range b).map fun _ => 0 from List.map_congr_left fun c hc => if_neg (by have := List.mem_range.1 hc; omega)]
     rw [sum_zero]; simp
   · rw [ih (by omega)]; simp; intro h2; omega
theorem sum_add {α : Type} (l : List α) (f g : α → Nat) : (l.map fun a => f a + g a).sum = (l.map f).sum + (l.map g).sum := by
 induction l with
 | nil => rfl
 | cons a l ih => simp only [List.map_cons, List.sum_cons, ih]; omega
theorem befA_count (L rest : Nat) (ps : List (Nat × Nat)) (la : Int) (s : Nat) (w : List Nat) (hw : w.length = ps.length) (hL : ∀ c, c ∈ w → c < L) :
 befA L rest ps la s w = (gen L rest ps la s).countP fun v => ltW v w := by
 induction ps generalizing la s w with
 | nil =>
   cases w with
   | nil => simp only [befA, gen]; split <;> simp [ltW]
   | cons => simp at hw
 | cons p r ih =>
   cases w with
   | nil => simp at hw
   | cons b w =>
     have hb := hL b (by simp)
     simp only [befA, gen, countP_flatMap']
     rw [← sum_one L b (if decide ((b : Int) ≠ la) && p.2.testBit b then befA L rest r (b : Int) ((s + p.1 * b) % L) w else 0) hb, ← sum_add]
     congr 1
     apply List.map_congr_left
     intro c _
     by_cases h1 : (decide ((c : Int) ≠ la) && p.2.testBit c) = true
     · simp only [h1, Bool.true_and, if_true, List.countP_map]
       by_cases h2 : c < b
       · rw [if_pos (by simpa using h2), if_neg (by omega), Nat.add_zero, ← gen_length]
         symm
         rw [List.countP_eq_length]
         intro v _
         simp [Function.comp, ltW, h2]
       · rw [if_neg (by simpa using h2), Nat.zero_add]
         by_cases h3 : c = b
         · subst h3
           rw [if_pos rfl, if_pos h1, ih _ _ w (by simpa using hw) (fun x hx => hL x (by simp [hx]))]
           apply List.countP_congr
           intro v _
           simp [Function.comp, ltW]
         · rw [if_neg h3]
           symm
           rw [List.countP_eq_zero]
           intro v _
           simp [Function.comp, ltW, h2, h3]
     · simp only [h1, Bool.false_and, if_false, Bool.false_eq_true, List.countP_nil, Nat.zero_add]
       by_cases h3 : c = b
       · subst h3; rw [if_pos rfl, if_neg h1]
       · rw [if_neg h3]
end Go.Proofs.Ytgjfejpibielaaa.Tt
namespace Go.Proofs.Ytgjfejpibielaaa.Tt
theorem ltW_irrefl (v : List Nat) : ltW v v = false := by
 induction v with
 | nil => rfl
 | cons a v ih => simp [ltW, ih]
theorem ltW_trans {u v w : List Nat} (h1 : ltW u v = true) (h2 : ltW v w = true) : ltW u w = true := by
 induction u generalizing v w with
 | nil =>
   cases v with
   | nil => simp [ltW] at h1
   | cons b v =>
     cases w with
     | nil => simp [ltW] at h2
     | cons c w => rfl
 | cons a u ih =>
   cases v with
   | nil => simp [ltW] at h1
   | cons b v =>
     cases w with
     | nil => simp [ltW] at h2
     | cons c w =>
       simp only [ltW, Bool.or_eq_true, Bool.and_eq_true, decide_eq_true_eq] at h1 h2 ⊢
       rcases h1 with h1 | ⟨rfl, h1⟩
       · rcases h2 with h2 | ⟨rfl, h2⟩
         · left; omega
         · left; exact h1
       · rcases h2 with h2 | ⟨rfl, h2⟩
         · left; exact h2
         · right; exact ⟨rfl, ih h1 h2⟩
theorem words_sorted (L n : Nat) (la : Int) : (wordsP L n la).Pairwise fun v w => ltW v w = true := by
 induction n generalizing la with
 | zero => simp [wordsP]
 | succ n ih =>
   rw [wordsP, List.pairwise_flatMap]
   refine ⟨fun c _ => ?_, ?_⟩
   · split
     · rw [List.pairwise_map]
       exact (ih _).imp fun h => by simp [ltW, h]
     · exact List.Pairwise.nil
   · refine List.pairwise_lt_range.imp fun {a b} hab => ?_
     intro x hx y hy
     split at hx
     · split at hy
       · obtain ⟨v, _, rfl⟩ := List.mem_map.1 hx
         obtain ⟨u, _, rfl⟩ := List.mem_map.1 hy
         simp [ltW, hab]
       · simp at hy
     · simp at hx
theorem words_mem {L n : Nat} {la : Int} {w : List Nat} (h : w ∈ wordsP L n la) : w.length = n ∧ ∀ c, c ∈ w → c < L := by
 induction n generalizing la w with
 | zero => simp only [wordsP, List.mem_singleton] at h; subst h; simp
 | succ n ih =>
   simp only [wordsP, List.mem_flatMap, List.mem_range] at h
   obtain ⟨c, hc, h⟩ := h
   split at h
   · obtain ⟨v, hv, rfl⟩ := List.mem_map.1 h
     have := ih hv
     refine ⟨by simp [this.1], fun x hx => ?_⟩
     rcases List.mem_cons.1 hx with rfl | hx
     · exact hc
     · exact this.2 x hx
   · simp at h
/-- the place of an element in a list in strictly increasing order -/
theorem count_lt {l : List (List Nat)} (h : l.Pairwise fun v w => ltW v w = true) (i : Nat) (hi : i < l.length) : l.countP (fun v => ltW v l[i]) = i := by
 induction l generalizing i with
 | nil => simp at hi
 | cons a l ih =>
   obtain ⟨h1, h2⟩ := List.pairwise_cons.1 h
   cases i with
   | zero =>
     rw [List.countP_eq_zero]
     intro v hv
     simp only [List.getElem_cons_zero]
     rcases List.mem_cons.1 hv with rfl | hv
     · rw [ltW_irrefl]; simp
     · intro e; have := ltW_trans (h1 v hv) e; rw [ltW_irrefl] at this; simp at this
   | succ i =>
     simp only [List.getElem_cons_succ]
     rw [List.countP_cons, ih h2 i (by simpa using hi), if_pos (h1 _ (List.getElem_mem _))]
theorem sorted_inj {l : List (List Nat)} (h : l.Pairwise fun v w => ltW v w = true) {i j : Nat} (hi : i < l.length) (hj : j < l.length) (e : l[i] = l[j]) : i = j := by
 rw [← count_lt h i hi, ← count_lt h j hj]; simp only [e]
theorem sorted_lt {l : List (List Nat)} (h : l.Pairwise fun v w => ltW v w = true) {i j : Nat} (hi : i < l.length) (hj : j < l.length) : ltW l[i] l[j] = true ↔ i < j := by
 constructor
 · intro e
   rcases Nat.lt_trichotomy i j with g | g | g
   · exact g
   · subst g; rw [ltW_irrefl] at e; simp at e
   · have := ltW_trans e (List.pairwise_iff_getElem.1 h j i hj hi g)
     rw [ltW_irrefl] at this; simp at this
 · exact fun g => List.pairwise_iff_getElem.1 h i j hi hj g
/-- of those that fit, how many come before an element of the whole list -/
theorem count_fit {l : List (List Nat)} (h : l.Pairwise fun v w => ltW v w = true) (p : List Nat → Bool) (i : Nat) (hi : i < l.length) : (l.filter p).countP (fun v => ltW v l[i]) = (l.take i).countP p := by
 rw [List.countP_filter]
 obtain ⟨y, hy⟩ : ∃ y, l[i] = y := ⟨_, rfl⟩
 rw [hy]
 conv => lhs; rw [← List.take_append_drop i l]
 rw [List.countP_append, ← hy]
 have e1 : (l.take i).countP (fun a => ltW a l[i] && p a) = (l.take i).countP p := by
  apply List.countP_congr
  intro v hv
  obtain ⟨j, hj, rfl⟩ := List.getElem_of_mem hv
  rw [List.length_take] at hj
  rw [List.getElem_take, (sorted_lt h (by omega) hi).2 (by omega), Bool.true_and]
 have e2 : (l.drop i).countP (fun a => ltW a l[i] && p a) = 0 := by
  rw [List.countP_eq_zero]
  intro v hv
  obtain ⟨j, hj, rfl⟩ := List.getElem_of_mem hv
  rw [List.length_drop] at hj
  rw [List.getElem_drop]
  have : ¬ ltW l[i + j] l[i] = true := fun e => by have := (sorted_lt h (by omega) hi).1 e; omega
  simp only [Bool.not_eq_true] at this
  simp [this]
 rw [e1, e2, Nat.add_zero]
theorem count_while {l : List (List Nat)} (h : l.Pairwise fun v w => ltW v w = true) (w : List Nat) : (l.takeWhile fun v => ltW v w).length = l.countP fun v => ltW v w := by
 induction l with
 | nil => rfl
 | cons a l ih =>
   obtain ⟨h1, h2⟩ := List.pairwise_cons.1 h
   rw [List.takeWhile_cons, List.countP_cons]
   by_cases e : ltW a w = true
   · rw [if_pos e, if_pos e, List.length_cons, ih h2]
   · rw [if_neg e, if_neg e, Nat.add_zero]
     symm
     rw [List.length_nil, List.countP_eq_zero]
     exact fun v hv g => e (ltW_trans (h1 v hv) g)
/-- the letters by which a word can go on at its end -/
def extW (L : Nat) (la : Int) (w : List Nat) : List (List Nat) := (List.range L).flatMap fun (c : Nat) => if decide ((c : Int) ≠ ((w.getLast?.map (fun x => (x : Int))).getD la)) then [w ++ [c]] else []
def wordsE (L : Nat) : Nat → List (List Nat)
 | 0 => [[]]
 | n + 1 => (wordsE L n).flatMap (extW L (-1))
theorem extW_cons (L : Nat) (la : Int) (c : Nat) (w : List Nat) : extW L la (c :: w) = (extW L (c : Int) w).map (c :: ·) := by
 unfold extW
 rw [List.map_flatMap]
 have : (((c :: w).getLast?.map (fun x => (x : Int))).getD la) = ((w.getLast?.map (fun x => (x : Int))).getD (c : Int)) := by
  cases w with
  | nil => rfl
  | cons d w => rw [List.getLast?_cons_cons]; simp [List.getLast?_eq_some_getLast]
 rw [this]
 congr 1
 funext d
 split <;> rfl
theorem wordsP_ext (L n : Nat) (la : Int) : wordsP L (n + 1) la = (wordsP L n la).flatMap (extW L la) := by
 induction n generalizing la with
 | zero =>
   simp only [wordsP, extW, List.flatMap_cons, List.flatMap_nil, List.append_nil, List.getLast?_nil, List.nil_append]
   congr 1
 | succ n ih =>
   rw [wordsP]
   conv => rhs; rw [wordsP, List.flatMap_assoc]
   congr 1
   funext c
   by_cases h : (c : Int) ≠ la
   · rw [if_pos (by simpa using h), if_pos (by simpa using h), ih, List.map_flatMap, List.flatMap_map]
     congr 1
     funext w
     rw [extW_cons]
   · rw [if_neg (by simpa using h), if_neg (by simpa using h)]; rfl
theorem wordsE_eq (L n : Nat) : wordsE L n = wordsP L n (-1) := by
 induction n with
 | zero => rfl
 | succ n ih => rw [wordsE, ih, ← wordsP_ext]
end Go.Proofs.Ytgjfejpibielaaa.Tt
namespace Go.Proofs.Ytgjfejpibielaaa.Tt
/-- for which number a claim is paid; -1: it is not -/
def gp (p : List Int) (n : Nat) : Int := p.getD n (-1)
/-- the claim that is paid for a number -/
def holder (p : List Int) (x : Int) : Option Nat := p.findIdx? (fun y => y == x)
def payS (rec : Nat → List Int → List Int → Bool × List Int × List Int) (n : Nat) : List Int → List Int → List Int → Bool × List Int × List Int
 | [], seen, paid => (false, seen, paid)
 | x :: xs, seen, paid =>
   if x ∈ seen then payS rec n xs seen paid
   else match holder paid x with
    | none => (true, x :: seen, paid.set n x)
    | some h => match rec h (x :: seen) paid with
      | (true, s, p) => (true, s, p.set n x)
      | (false, s, p) => payS rec n xs s p
def payF (can : List (List Int)) : Nat → Nat → List Int → List Int → Bool × List Int × List Int
 | 0, _, seen, paid => (false, seen, paid)
 | f + 1, n, seen, paid => payS (payF can f) n (can.getD n []) seen paid
theorem gp_lt {p : List Int} {n : Nat} (h : gp p n ≠ -1) : n < p.length := by
 apply Classical.byContradiction
 intro h2
 exact h (by unfold gp; rw [List.getD_eq_getElem?_getD, List.getElem?_eq_none (by omega)]; rfl)
theorem gp_set (p : List Int) (n m : Nat) (x : Int) (h : n < p.length) : gp (p.set n x) m = if m = n then x else gp p m := by
 unfold gp
 rw [List.getD_eq_getElem?_getD, List.getElem?_set, List.getD_eq_getElem?_getD]
 by_cases e : n = m
 · subst e; simp [h]
 · rw [if_neg e, if_neg (fun g => e g.symm)]
theorem holder_some {p : List Int} {x : Int} {h : Nat} (e : holder p x = some h) : gp p h = x ∧ h < p.length := by
 unfold holder at e
 obtain ⟨h1, h2, _⟩ := List.findIdx?_eq_some_iff_getElem.1 e
 exact ⟨by unfold gp; rw [List.getD_eq_getElem?_getD, List.getElem?_eq_getElem h1]; simpa using h2, h1⟩
theorem holder_none {p : List Int} {x : Int} (e : holder p x = none) (hx : x ≠ -1) (n : Nat) : gp p n ≠ x := by
 unfold holder at e
 rw [List.findIdx?_eq_none_iff] at e
 intro g
 have hl := gp_lt (p := p) (n := n) (by rw [g]; exact hx)
 have := e p[n] (List.getElem_mem hl)
 unfold gp at g
 rw [List.getD_eq_getElem?_getD, List.getElem?_eq_getElem hl] at g
 simp at g
 simp [g] at this
structure Pay (can : List (List Int)) (p : List Int) : Prop where
 len : p.length = can.length
 mem : ∀ n, gp p n = -1 ∨ gp p n ∈ can.getD n []
 inj : ∀ n m, gp p n = gp p m → gp p n ≠ -1 → n = m
/-- claims all of whose numbers are paid to claims of theirs -/
def Shut (can : List (List Int)) (p : List Int) (U : Nat → Prop) : Prop := ∀ c, U c → ∀ x, x ∈ can.getD c [] → ∃ h, U h ∧ gp p h = x
def left (p seen : List Int) : Nat := p.countP fun y => decide (y ≠ -1) && !seen.contains y
structure Won (can : List (List Int)) (n : Nat) (seen paid s p : List Int) : Prop where
 pay : Pay can p
 own : gp p n ∈ can.getD n [] ∧ gp p n ∉ seen
 sub : ∀ x, x ∈ seen → x ∈ s
 same : ∀ c, c ≠ n → (gp p c = -1 ↔ gp paid c = -1)
 new : ∀ c, gp p c = gp paid c ∨ gp p c ∉ seen
 keep : ∀ c, c ≠ n → gp paid c ∈ seen → gp p c = gp paid c
 shut : ∀ U, Shut can paid U → ¬ U n ∧ ∀ c, U c → gp p c = gp paid c
structure Lost (can : List (List Int)) (xs seen paid s p : List Int) : Prop where
 eq : p = paid
 all : ∀ x, x ∈ xs → x ∈ s
 sub : ∀ x, x ∈ seen → x ∈ s
 held : ∀ x, x ∈ s → x ∉ seen → ∃ h, gp paid h = x ∧ ∀ y, y ∈ can.getD h [] → y ∈ s
 no : ∀ x, x ∈ s → x ∈ seen ∨ x ≠ -1
theorem left_mono {p s t : List Int} (h : ∀ x, x ∈ s → x ∈ t) : left p t ≤ left p s := by
 unfold left
 apply List.countP_mono_left
 intro y _ hy
 simp only [Bool.and_eq_true, decide_eq_true_eq, Bool.not_eq_true', List.contains_eq_mem, decide_eq_false_iff_not] at hy ⊢
 exact ⟨hy.1, fun e => hy.2 (h y e)⟩
theorem left_lt {p seen : List Int} {x : Int} {h : Nat} (hh : gp p h = x) (hx : x ≠ -1) (hs : x ∉ seen) : left p (x :: seen) < left p seen := by
 have hl := gp_lt (p := p) (n := h) (by rw [hh]; exact hx)
 have hm : x ∈ p := by
  unfold gp at hh
  rw [List.getD_eq_getElem?_getD, List.getElem?_eq_getElem hl] at hh
  rw [← hh]; exact List.getElem_mem hl
 unfold left
 rw [← Nat.add_one_le_iff]
 clear hh hl
 induction p with
 | nil => simp at hm
 | cons y p ih =>
   rw [List.countP_cons, List.countP_cons]
   by_cases e : y = x
   · subst e
     have := left_mono (p := p) (s := seen) (t := y :: seen) (fun x hx => by simp [hx])
     unfold left at this
     simp only [List.contains_cons] at this
     simp only [List.contains_cons, BEq.rfl, Bool.true_or, Bool.not_true, Bool.and_false, Bool.false_eq_true, if_false, Nat.add_zero]
     rw [if_pos (by simp [hx, hs])]
     omega
   · have hp : x ∈ p := by rcases List.mem_cons.1 hm with g | g; · exact absurd g.symm e
                           · exact g
     have := ih hp
     have e2 : (decide (y ≠ -1) && !(x :: seen).contains y) = (decide (y ≠ -1) && !seen.contains y) := by simp [e]
     rw [e2]
     omega
theorem payS_spec {can : List (List Int)} (hpos : ∀ n, ∀ x, x ∈ can.getD n [] → x ≠ -1) (rec : Nat → List Int → List Int → Bool × List Int × List Int) (f : Nat)
 (hrec : ∀ n seen paid, n < can.length → left paid seen < f → Pay can paid → (gp paid n = -1 ∨ gp paid n ∈ seen) →
  (∀ s p, rec n seen paid = (true, s, p) → Won can n seen paid s p) ∧ (∀ s p, rec n seen paid = (false, s, p) → Lost can (can.getD n []) seen paid s p))
 (n : Nat) (hn : n < can.length) (xs : List Int) (hxs : ∀ x, x ∈ xs → x ∈ can.getD n []) (seen paid : List Int) (hl : left paid seen < f + 1) (hp : Pay can paid) (hn2 : gp paid n = -1 ∨ gp paid n ∈ seen) :
 (∀ s p, payS rec n xs seen paid = (true, s, p) → Won can n seen paid s p) ∧ (∀ s p, payS rec n xs seen paid = (false, s, p) → Lost can xs seen paid s p) := by
 induction xs generalizing seen with
 | nil =>
   refine ⟨fun s p h => by simp [payS] at h, fun s p h => ?_⟩
   simp only [payS, Prod.mk.injEq, true_and] at h
   obtain ⟨rfl, rfl⟩ := h
   exact ⟨rfl, fun x hx => by simp at hx, fun x hx => hx, fun x h1 h2 => absurd h1 h2, fun x hx => Or.inl hx⟩
 | cons x xs ih =>
   have hxn := hxs x (by simp)
   have hx1 := hpos n x hxn
   rw [payS]
   by_cases hs : x ∈ seen
   · rw [if_pos hs]
     obtain ⟨h1, h2⟩ := ih (fun y hy => hxs y (by simp [hy])) seen hl hn2
     refine ⟨h1, fun s p h => ?_⟩
     have := h2 s p h
     exact ⟨this.eq, fun y hy => by
      rcases List.mem_cons.1 hy with rfl | hy
      · exact this.sub _ hs
      · exact this.all y hy, this.sub, this.held, this.no⟩
   · rw [if_neg hs]
     have hnl : n < paid.length := by rw [hp.len]; exact hn
     cases hh : holder paid x with
     | none =>
       have hfree := holder_none hh hx1
       refine ⟨fun s p h => ?_, fun s p h => by simp at h⟩
       simp only [Prod.mk.injEq, true_and] at h
       obtain ⟨rfl, rfl⟩ := h
       refine { pay := ⟨by rw [List.length_set]; exact hp.len, fun m => ?_, fun m m2 => ?_⟩, own := ?_, sub := fun y hy => by simp [hy], same := fun c hc => ?_, new := fun c => ?_, keep := fun c hc _ => ?_, shut := fun U hU => ⟨fun hUn => ?_, fun c hc => ?_⟩ }
       · rw [gp_set _ _ _ _ hnl]
         split
         · rename_i e; subst e; right; exact hxn
         · exact hp.mem m
       · rw [gp_set _ _ _ _ hnl, gp_set _ _ _ _ hnl]
         by_cases e1 : m = n
         · by_cases e2 : m2 = n
           · intro _ _; omega
           · rw [if_pos e1, if_neg e2]; exact fun g _ => absurd g.symm (hfree m2)
         · rw [if_neg e1]
           by_cases e2 : m2 = n
           · rw [if_pos e2]; exact fun g _ => absurd g (hfree m)
           · rw [if_neg e2]; exact hp.inj m m2
       · rw [gp_set _ _ _ _ hnl, if_pos rfl]; exact ⟨hxn, hs⟩
       · rw [gp_set _ _ _ _ hnl, if_neg hc]
       · rw [gp_set _ _ _ _ hnl]
         split
         · right; exact hs
         · left; rfl
       · rw [gp_set _ _ _ _ hnl, if_neg hc]
       · obtain ⟨h, _, g⟩ := hU n hUn x hxn
         exact hfree h g
       · rw [gp_set _ _ _ _ hnl, if_neg]
         rintro rfl
         obtain ⟨h, _, g⟩ := hU c hc x hxn
         exact hfree h g
     | some h =>
       obtain ⟨hg, hhl⟩ := holder_some hh
       have hlt := left_lt hg hx1 hs
       obtain ⟨r1, r2⟩ := hrec h (x :: seen) paid (by rw [← hp.len]; exact hhl) (by omega) hp (Or.inr (by rw [hg]; simp))
       dsimp only
       have hne : h ≠ n := by
        rintro rfl
        rcases hn2 with g | g
        · exact hx1 (hg.symm.trans g)
        · rw [hg] at g; exact hs g
       cases hr : rec h (x :: seen) paid with
       | mk b sp =>
         obtain ⟨s1, p1⟩ := sp
         cases b with
         | true =>
           have hw := r1 s1 p1 hr
           have hnl1 : n < p1.length := by rw [hw.pay.len]; exact hn
           refine ⟨fun s p h2 => ?_, fun s p h2 => by simp at h2⟩
           simp only [Prod.mk.injEq, true_and] at h2
           obtain ⟨rfl, rfl⟩ := h2
           have hfree : ∀ c, gp p1 c ≠ x := fun c e => by
            rcases hw.new c with g | g
            · have : gp paid c = gp paid h := by rw [← g, e, hg]
              have := hp.inj c h this (by rw [← g, e]; exact hx1)
              subst this
              exact hw.own.2 (by rw [e]; simp)
            · exact g (by rw [e]; simp)
           have hnn : gp p1 n = gp paid n ∨ gp paid n = -1 := by
            rcases hn2 with g | g
            · right; exact g
            · left; exact hw.keep n (Ne.symm hne) (by simp [g])
           refine { pay := ⟨by rw [List.length_set]; exact hw.pay.len, fun m => ?_, fun m m2 => ?_⟩, own := ?_, sub := fun y hy => hw.sub y (by simp [hy]), same := fun c hc => ?_, new := fun c => ?_, keep := fun c hc hcs => ?_, shut := fun U hU => ?_ }
           · rw [gp_set _ _ _ _ hnl1]
             split
             · rename_i e; subst e; right; exact hxn
             · exact hw.pay.mem m
           · rw [gp_set _ _ _ _ hnl1, gp_set _ _ _ _ hnl1]
             by_cases e1 : m = n
             · by_cases e2 : m2 = n
               · intro _ _; omega
               · rw [if_pos e1, if_neg e2]; exact fun g _ => absurd g.symm (hfree m2)
             · rw [if_neg e1]
               by_cases e2 : m2 = n
               · rw [if_pos e2]; exact fun g _ => absurd g (hfree m)
               · rw [if_neg e2]; exact hw.pay.inj m m2
           · rw [gp_set _ _ _ _ hnl1, if_pos rfl]; exact ⟨hxn, hs⟩
           · rw [gp_set _ _ _ _ hnl1, if_neg hc]
             by_cases e : c = h
             · subst e
               constructor
               · intro g; exact absurd g (hpos c _ hw.own.1)
               · intro g; rw [hg] at g; exact absurd g hx1
             · exact hw.same c e
           · rw [gp_set _ _ _ _ hnl1]
             split
             · right; exact hs
             · rcases hw.new c with g | g
               · left; exact g
               · right; intro e; exact g (by simp [e])
           · rw [gp_set _ _ _ _ hnl1, if_neg hc]
             by_cases e : c = h
             · subst e; rw [hg] at hcs; exact absurd hcs hs
             · exact hw.keep c e (by simp [hcs])
           · obtain ⟨u1, u2⟩ := hw.shut U hU
             have hUn : ¬ U n := fun hUn => by
              obtain ⟨h', h1, h2⟩ := hU n hUn x hxn
              have : h' = h := hp.inj h' h (by rw [h2, hg]) (by rw [h2]; exact hx1)
              subst this
              exact u1 h1
             refine ⟨hUn, fun c hc => ?_⟩
             rw [gp_set _ _ _ _ hnl1, if_neg (by rintro rfl; exact hUn hc)]
             exact u2 c hc
         | false =>
           have hf := r2 s1 p1 hr
           obtain rfl := hf.eq
           obtain ⟨h1, h2⟩ := ih (fun y hy => hxs y (by simp [hy])) s1 (by have := left_mono (p := p1) (s := x :: seen) (t := s1) hf.sub; omega) (by
            rcases hn2 with g | g
            · left; exact g
            · right; exact hf.sub _ (by simp [g]))
           dsimp only
           refine ⟨fun s p h3 => ?_, fun s p h3 => ?_⟩
           · have hw := h1 s p h3
             refine { pay := hw.pay, own := ⟨hw.own.1, fun e => hw.own.2 (hf.sub _ (by simp [e]))⟩, sub := fun y hy => hw.sub y (hf.sub y (by simp [hy])), same := hw.same, new := fun c => ?_, keep := fun c hc hcs => hw.keep c hc (hf.sub _ (by simp [hcs])), shut := hw.shut }
             rcases hw.new c with g | g
             · left; exact g
             · right; intro e; exact g (hf.sub _ (by simp [e]))
           · have hlo := h2 s p h3
             refine ⟨hlo.eq, fun y hy => ?_, fun y hy => hlo.sub y (hf.sub y (by simp [hy])), fun y hy hys => ?_, fun y hy => ?_⟩
             · rcases List.mem_cons.1 hy with rfl | hy
               · exact hlo.sub _ (hf.sub _ (by simp))
               · exact hlo.all y hy
             · by_cases e : y ∈ s1
               · by_cases e2 : y = x
                 · subst e2
                   exact ⟨h, hg, fun z hz => hlo.sub z (hf.all z hz)⟩
                 · obtain ⟨h', g1, g2⟩ := hf.held y e (by simp [e2, hys])
                   exact ⟨h', g1, fun z hz => hlo.sub z (g2 z hz)⟩
               · exact hlo.held y hy e
             · rcases hlo.no y hy with g | g
               · rcases hf.no y g with g | g
                 · rcases List.mem_cons.1 g with rfl | g
                   · right; exact hx1
                   · left; exact g
                 · right; exact g
               · right; exact g
theorem payF_spec {can : List (List Int)} (hpos : ∀ n, ∀ x, x ∈ can.getD n [] → x ≠ -1) (f n : Nat) (seen paid : List Int) (hn : n < can.length) (hl : left paid seen < f) (hp : Pay can paid) (hn2 : gp paid n = -1 ∨ gp paid n ∈ seen) :
 (∀ s p, payF can f n seen paid = (true, s, p) → Won can n seen paid s p) ∧ (∀ s p, payF can f n seen paid = (false, s, p) → Lost can (can.getD n []) seen paid s p) := by
 induction f generalizing n seen paid with
 | zero => omega
 | succ f ih => exact payS_spec hpos (payF can f) f (fun n seen paid h1 h2 h3 h4 => ih n seen paid h1 h2 h3 h4) n hn _ (fun x hx => hx) seen paid hl hp hn2
/-- all claims, one after the other -/
def payAll (can : List (List Int)) : Nat → List Int
 | 0 => List.replicate can.length (-1)
 | n + 1 => (payF can (can.length + 1) n [] (payAll can n)).2.2
theorem left_le (p seen : List Int) : left p seen ≤ p.length := List.countP_le_length
theorem payAll_spec {can : List (List Int)} (hpos : ∀ n, ∀ x, x ∈ can.getD n [] → x ≠ -1) (n : Nat) (hn : n ≤ can.length) :
 Pay can (payAll can n) ∧ (∀ c, n ≤ c → gp (payAll can n) c = -1) ∧ ∃ U, Shut can (payAll can n) U ∧ (∀ c, U c → c < n) ∧ ∀ c, c < n → gp (payAll can n) c = -1 → U c := by
 induction n with
 | zero =>
   have h0 : ∀ c, gp (payAll can 0) c = -1 := fun c => by
    unfold gp payAll
    rw [List.getD_eq_getElem?_getD, List.getElem?_replicate]
    split <;> rfl
   exact ⟨⟨by simp [payAll], fun n => Or.inl (h0 n), fun n m _ h => absurd (h0 n) h⟩, fun c _ => h0 c, fun _ => False, fun c h => h.elim, fun c h => h.elim, fun c h => by omega⟩
 | succ n ih =>
   obtain ⟨hp, hz, U, hU, hUl, hUz⟩ := ih (by omega)
   have hs := payF_spec hpos (can.length + 1) n [] (payAll can n) (by omega) (by have := left_le (payAll can n) []; rw [hp.len] at this; omega) hp (Or.inl (hz n (Nat.le_refl _)))
   rw [payAll]
   cases hr : payF can (can.length + 1) n [] (payAll can n) with
   | mk b sp =>
     obtain ⟨s, p⟩ := sp
     dsimp only
     cases b with
     | true =>
       have hw := hs.1 s p hr
       obtain ⟨u1, u2⟩ := hw.shut U hU
       refine ⟨hw.pay, fun c hc => (hw.same c (by omega)).2 (hz c (by omega)), U, fun c hc x hx => ?_, fun c hc => by have := hUl c hc; omega, fun c hc hcz => ?_⟩
       · obtain ⟨h, h1, h2⟩ := hU c hc x hx
         exact ⟨h, h1, by rw [u2 h h1, h2]⟩
       · by_cases e : c = n
         · subst e; exact absurd hcz (hpos c _ hw.own.1)
         · exact hUz c (by omega) ((hw.same c e).1 hcz)
     | false =>
       have hf := hs.2 s p hr
       obtain rfl := hf.eq
       refine ⟨hp, fun c hc => hz c (by omega), fun c => U c ∨ c = n ∨ gp (payAll can n) c ∈ s, ?_, ?_, fun c hc hcz => ?_⟩
       · have hm : ∀ x, x ∈ s → ∃ h, gp (payAll can n) h = x := fun x hx => by
          obtain ⟨h, g, _⟩ := hf.held x hx (by simp)
          exact ⟨h, g⟩
         rintro c (hc | rfl | hc) x hx
         · obtain ⟨h, h1, h2⟩ := hU c hc x hx
           exact ⟨h, Or.inl h1, h2⟩
         · have := hf.all x hx
           obtain ⟨h, g⟩ := hm x this
           exact ⟨h, Or.inr (Or.inr (by rw [g]; exact this)), g⟩
         · obtain ⟨h, g1, g2⟩ := hf.held _ hc (by simp)
           have hc1 : gp (payAll can n) c ≠ -1 := by
            rcases hp.mem h with g | g
            · intro e
              have : gp (payAll can n) c ∈ s := hc
              rw [e] at this
              rcases hf.no _ this with g | g
              · simp at g
              · exact g rfl
            · rw [← g1]; exact hpos h _ g
           have : h = c := hp.inj h c g1 (by rw [g1]; exact hc1)
           subst this
           have hxs := g2 x hx
           obtain ⟨h', g'⟩ := hm x hxs
           exact ⟨h', Or.inr (Or.inr (by rw [g']; exact hxs)), g'⟩
       · rintro c (hc | rfl | hc)
         · have := hUl c hc; omega
         · omega
         · apply Classical.byContradiction
           intro hcn
           rw [hz c (by omega)] at hc
           rcases hf.no _ hc with g | g
           · simp at g
           · exact g rfl
       · by_cases e : c = n
         · right; left; exact e
         · left; exact hUz c (by omega) hcz
end Go.Proofs.Ytgjfejpibielaaa.Tt
namespace Go.Proofs.Ytgjfejpibielaaa.Tt
/-- a list without doubles that lies within another one is no longer -/
theorem nodup_le {α : Type} [DecidableEq α] {l m : List α} (h : l.Nodup) (hs : ∀ x, x ∈ l → x ∈ m) : l.length ≤ m.length := by
 induction l generalizing m with
 | nil => simp
 | cons a l ih =>
   obtain ⟨h1, h2⟩ := List.nodup_cons.1 h
   have hm := hs a (by simp)
   have := ih (m := m.erase a) h2 (fun x hx => by
    have hne : x ≠ a := fun e => h1 (e ▸ hx)
    exact (List.mem_erase_of_ne hne).2 (hs x (by simp [hx])))
   rw [List.length_erase_of_mem hm] at this
   have : 0 < m.length := List.length_pos_of_mem hm
   rw [List.length_cons]; omega
/-- payments and sets: a claim is a set of numbers -/
def paidN (p : List Int) : Nat := p.countP fun y => decide (y ≠ -1)
/-- no payment pays more than the bound of a set -/
theorem weak {k : Nat} {can : Nat → Int → Prop} {p : List Int} (hk : p.length = k) (hmem : ∀ n, n < k → gp p n ≠ -1 → can n (gp p n)) (hinj : ∀ n m, n < k → m < k → gp p n = gp p m → gp p n ≠ -1 → n = m)
 (set : List Nat) (hset : set.Nodup) (hlt : ∀ n, n ∈ set → n < k) (uni : List Int) (hu : ∀ n, n ∈ set → ∀ x, can n x → x ∈ uni) :
 paidN p + set.length ≤ k + uni.length := by
 have h1 : paidN p = ((List.range k).filter fun n => decide (gp p n ≠ -1)).length := by
  unfold paidN
  rw [← List.countP_eq_length_filter, ← hk]
  clear hk hmem hinj hlt hu
  have : p = (List.range p.length).map (gp p) := by
   apply List.ext_getElem (by simp)
   intro i a b
   simp only [List.getElem_map, List.getElem_range]
   unfold gp
   rw [List.getD_eq_getElem?_getD, List.getElem?_eq_getElem a]; rfl
  conv => lhs; rw [this]
  rw [List.countP_map]; rfl
 have hsplit : ((List.range k).filter fun n => decide (gp p n ≠ -1)).length ≤ ((List.range k).filter fun n => !set.contains n).length + (set.filter fun n => decide (gp p n ≠ -1)).length := by
  have := nodup_le (l := (List.range k).filter fun n => decide (gp p n ≠ -1)) (m := ((List.range k).filter fun n => !set.contains n) ++ (set.filter fun n => decide (gp p n ≠ -1))) (List.nodup_range.filter _) (fun x hx => by
   simp only [List.mem_filter, List.mem_range, decide_eq_true_eq] at hx
   by_cases e : x ∈ set
   · exact List.mem_append_right _ (by simp [e, hx.2])
   · exact List.mem_append_left _ (by simp [e, hx.1]))
  rwa [List.length_append] at this
 have hout : ((List.range k).filter fun n => !set.contains n).length + set.length ≤ k := by
  have := nodup_le (l := ((List.range k).filter fun n => !set.contains n) ++ set) (m := List.range k) (by
   rw [List.nodup_append]
   refine ⟨List.nodup_range.filter _, hset, fun a ha b hb e => ?_⟩
   subst e
   simp at ha
   exact ha.2 hb) (fun x hx => by
   rcases List.mem_append.1 hx with g | g
   · exact (List.mem_filter.1 g).1
   · exact List.mem_range.2 (hlt x g))
  rwa [List.length_append, List.length_range] at this
 have hin : (set.filter fun n => decide (gp p n ≠ -1)).length ≤ uni.length := by
  have := nodup_le (l := (set.filter fun n => decide (gp p n ≠ -1)).map (gp p)) (m := uni) (by
   rw [List.nodup_iff_pairwise_ne, List.pairwise_map]
   have hs2 := List.nodup_iff_pairwise_ne.1 (hset.filter fun n => decide (gp p n ≠ -1))
   refine hs2.imp_of_mem fun {a b} ha hb hab e => hab ?_
   simp only [List.mem_filter, decide_eq_true_eq] at ha hb
   exact hinj a b (hlt a ha.1) (hlt b hb.1) e ha.2) (fun x hx => by
   obtain ⟨n, hn, rfl⟩ := List.mem_map.1 hx
   simp only [List.mem_filter, decide_eq_true_eq] at hn
   exact hu n hn.1 _ (hmem n (hlt n hn.1) hn.2))
  rwa [List.length_map] at this
 omega
theorem paidN_range (p : List Int) : paidN p = ((List.range p.length).filter fun n => decide (gp p n ≠ -1)).length := by
 unfold paidN
 rw [← List.countP_eq_length_filter]
 have : p = (List.range p.length).map (gp p) := by
  apply List.ext_getElem (by simp)
  intro i a b
  simp only [List.getElem_map, List.getElem_range]
  unfold gp
  rw [List.getD_eq_getElem?_getD, List.getElem?_eq_getElem a]; rfl
 conv => lhs; rw [this]
 rw [List.countP_map]; rfl
theorem filter_parts {α : Type} (l : List α) (q : α → Bool) : (l.filter q).length + (l.filter fun x => !q x).length = l.length := by
 induction l with
 | nil => rfl
 | cons a l ih => rw [List.filter_cons, List.filter_cons]; cases h : q a <;> simp <;> omega
/-- a shut set that has all claims that are not paid -/
theorem tight {can : List (List Int)} {p : List Int} (hp : Pay can p) (hpos : ∀ n, ∀ x, x ∈ can.getD n [] → x ≠ -1) (set : List Nat) (hset : set.Nodup)
 (hU : Shut can p (· ∈ set)) (hz : ∀ c, c < can.length → gp p c = -1 → c ∈ set) (uni : List Int) (hun : uni.Nodup) (hu : ∀ x, x ∈ uni → ∃ n, n ∈ set ∧ x ∈ can.getD n []) :
 can.length + uni.length ≤ paidN p + set.length := by
 have h1 := paidN_range p
 rw [hp.len] at h1
 have h2 := filter_parts (List.range can.length) fun n => decide (gp p n ≠ -1)
 rw [List.length_range] at h2
 have h3 := filter_parts set fun n => decide (gp p n ≠ -1)
 have h4 := nodup_le (l := (List.range can.length).filter fun n => !decide (gp p n ≠ -1)) (m := set.filter fun n => !decide (gp p n ≠ -1)) (List.nodup_range.filter _) (fun x hx => by
  simp only [List.mem_filter, List.mem_range] at hx ⊢
  exact ⟨hz x hx.1 (by simpa using hx.2), hx.2⟩)
 have h5 := nodup_le (l := uni) (m := (set.filter fun n => decide (gp p n ≠ -1)).map (gp p)) hun (fun x hx => by
  obtain ⟨n, hn, hxn⟩ := hu x hx
  obtain ⟨h, g1, g2⟩ := hU n hn x hxn
  refine List.mem_map.2 ⟨h, List.mem_filter.2 ⟨g1, ?_⟩, g2⟩
  rw [g2]; simpa using hpos n x hxn)
 rw [List.length_map] at h5
 omega
theorem shut_len {can : List (List Int)} {p : List Int} (hp : Pay can p) (hpos : ∀ n, ∀ x, x ∈ can.getD n [] → x ≠ -1) {U : Nat → Prop} (hU : Shut can p U) {c : Nat} (hc : U c) (hnd : (can.getD c []).Nodup) : (can.getD c []).length ≤ paidN p := by
 have h1 := paidN_range p
 have h5 := nodup_le (l := can.getD c []) (m := ((List.range p.length).filter fun n => decide (gp p n ≠ -1)).map (gp p)) hnd (fun x hx => by
  obtain ⟨h, _, g2⟩ := hU c hc x hx
  have hx1 := hpos c x hx
  refine List.mem_map.2 ⟨h, List.mem_filter.2 ⟨List.mem_range.2 (gp_lt (by rw [g2]; exact hx1)), ?_⟩, g2⟩
  rw [g2]; simpa using hx1)
 rw [List.length_map] at h5
 omega
/-- the claims that are reached from those that are not paid -/
def Reach (can : List (List Int)) (p : List Int) (k : Nat) (S : List Nat) : Prop := S.Nodup ∧ (∀ c, c ∈ S → c < k) ∧ (∀ c, c < k → gp p c = -1 → c ∈ S) ∧ (∀ c, c ∈ S → ∀ x, x ∈ can.getD c [] → ∀ h, gp p h = x → h ∈ S) ∧ ∀ U : Nat → Prop, (∀ c, c < k → gp p c = -1 → U c) → (∀ c, U c → ∀ x, x ∈ can.getD c [] → ∀ h, gp p h = x → U h) → ∀ c, c ∈ S → U c
theorem reach_shut {can : List (List Int)} (hpos : ∀ n, ∀ x, x ∈ can.getD n [] → x ≠ -1) {S : List Nat} (hS : Reach can (payAll can can.length) can.length S) : Shut can (payAll can can.length) (· ∈ S) := by
 obtain ⟨hp, _, U, hU, _, hUz⟩ := payAll_spec hpos can.length (Nat.le_refl _)
 have hsub : ∀ c, c ∈ S → U c := hS.2.2.2.2 U hUz (fun c hc x hx h hh => by
  obtain ⟨h', g1, g2⟩ := hU c hc x hx
  have : h' = h := hp.inj h' h (by rw [g2, hh]) (by rw [g2]; exact hpos c x hx)
  subst this; exact g1)
 intro c hc x hx
 obtain ⟨h, g1, g2⟩ := hU c (hsub c hc) x hx
 exact ⟨h, hS.2.2.2.1 c hc x hx h g2, g2⟩
end Go.Proofs.Ytgjfejpibielaaa.Tt
