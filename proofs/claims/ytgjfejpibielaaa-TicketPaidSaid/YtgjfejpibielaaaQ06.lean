/- Proved here: the plain law of tickets, part 13; the plain law of tickets, part 14; the plain law of tickets, part 15, a part of the proofs about the ticket laws. Conditions: those that each theorem names, no others. -/
import Derived.Test.YtgjfejpibielaaaQ05
set_option linter.unusedSimpArgs false
set_option linter.unusedVariables false
namespace Go.Proofs.Ytgjfejpibielaaa.Tt
/-- the last letter of a word, or what is said -/
def lastD (la : Int) (w : List Nat) : Int := (w.getLast?.map (fun x => (x : Int))).getD la
/-- the words that go on from one, by the first letters -/
def extK (la : Int) (w : List Nat) (c : Nat) : List (List Nat) := (List.range c).flatMap fun (c : Nat) => if decide ((c : Int) ≠ lastD la w) then [w ++ [c]] else []
theorem extK_zero (la : Int) (w : List Nat) : extK la w 0 = [] := rfl
theorem extK_succ (la : Int) (w : List Nat) (c : Nat) : extK la w (c + 1) = if (c : Int) = lastD la w then extK la w c else extK la w c ++ [w ++ [c]] := by
 unfold extK
 rw [List.range_succ, List.flatMap_append]
 by_cases h : (c : Int) = lastD la w
 · rw [if_pos h]
   simp [h]
 · rw [if_neg h]
   simp [h]
theorem extK_all (L : Nat) (la : Int) (w : List Nat) : extK la w L = extW L la w := rfl
/-- the words of a length, while those before one are extended -/
def wordK (L i k : Nat) : List (List Nat) := ((wordsE L i).take k).flatMap (extW L (-1))
theorem wordK_succ (L i k : Nat) (h : k < (wordsE L i).length) : wordK L i (k + 1) = wordK L i k ++ extW L (-1) (wordsE L i)[k] := by
 unfold wordK
 rw [List.take_succ_eq_append_getElem h, List.flatMap_append]
 simp
theorem wordK_all (L i : Nat) : wordK L i (wordsE L i).length = wordsE L (i + 1) := by
 unfold wordK
 rw [List.take_length]
 rfl
theorem wordsE_mem {L n : Nat} {w : List Nat} (h : w ∈ wordsE L n) : w.length = n ∧ ∀ c, c ∈ w → c < L := by
 rw [wordsE_eq] at h
 exact words_mem h
theorem extK_len (la : Int) (w : List Nat) (c : Nat) : (extK la w c).length ≤ c := by
 induction c with
 | zero => simp [extK_zero]
 | succ c ih =>
   rw [extK_succ]
   split
   · omega
   · simp; omega
theorem flat_len {α β : Type} (l : List α) (f : α → List β) (m : Nat) (h : ∀ a, (f a).length ≤ m) : (l.flatMap f).length ≤ l.length * m := by
 induction l with
 | nil => simp
 | cons a l ih =>
   rw [List.flatMap_cons, List.length_append, List.length_cons, Nat.add_mul, Nat.one_mul]
   have := h a
   omega
theorem wordK_len (L i k : Nat) : (wordK L i k).length ≤ (wordsE L i).length * L := by
 have h1 := flat_len ((wordsE L i).take k) (extW L (-1)) L (fun a => by rw [← extK_all]; exact extK_len _ _ _)
 have h2 : ((wordsE L i).take k).length ≤ (wordsE L i).length := by simp; omega
 have h3 := Nat.mul_le_mul_right L h2
 unfold wordK
 omega
theorem wordsE_len (L n : Nat) : (wordsE L n).length ≤ L ^ n := by
 induction n with
 | zero => exact Nat.le_refl 1
 | succ n ih =>
   rw [← wordK_all, Nat.pow_succ]
   have := wordK_len L n (wordsE L n).length
   have h2 := Nat.mul_le_mul_right L ih
   omega
theorem wordsE_small {L n : Nat} (hL : L ≤ 6) (hn : n ≤ 8) : (wordsE L n).length ≤ 1679616 := by
 have h1 := wordsE_len L n
 have h2 : L ^ n ≤ 6 ^ n := Nat.pow_le_pow_left hL n
 have h3 : (6 : Nat) ^ n ≤ 6 ^ 8 := Nat.pow_le_pow_right (by omega) hn
 have h4 : (6 : Nat) ^ 8 = 1679616 := by decide
 omega
theorem lastD_nil (la : Int) : lastD la [] = la := rfl
theorem lastD_at {la : Int} {w : List Nat} {i : Nat} (h : w.length = i + 1) : lastD la w = ((w[i]'(by omega) : Nat) : Int) := by
 unfold lastD
 rw [List.getLast?_eq_getElem?, show w.length - 1 = i by omega, List.getElem?_eq_getElem (by omega)]
 rfl
end Go.Proofs.Ytgjfejpibielaaa.Tt
namespace Go.Proofs.Ytgjfejpibielaaa.Tt
/-- a claim that is met for a number: it is marked, and waits -/
def stepM (p : List Int) (s : List Nat × List Nat) (x : Int) : List Nat × List Nat :=
 match holder p x with
 | some h => if s.1.getD h 1 = 0 then (s.1.set h 1, s.2 ++ [h]) else s
 | none => s
def rowM (p : List Int) (s : List Nat × List Nat) (xs : List Int) : List Nat × List Nat := xs.foldl (stepM p) s
theorem rowM_snoc (p : List Int) (s : List Nat × List Nat) (xs : List Int) (x : Int) : rowM p s (xs ++ [x]) = stepM p (rowM p s xs) x := by unfold rowM; rw [List.foldl_append]; rfl
/-- how many are not marked -/
def zeros (m : List Nat) : Nat := m.countP fun y => decide (y = 0)
/-- what is marked -/
def Mk (m : List Nat) (c : Nat) : Prop := m.getD c 0 = 1
structure Inv (can : List (List Int)) (p : List Int) (m q : List Nat) : Prop where
 len : m.length = p.length
 bit : ∀ y, y ∈ m → y = 0 ∨ y = 1
 wait : ∀ c, c ∈ q → Mk m c
 free : ∀ c, c < p.length → gp p c = -1 → Mk m c
 shut : ∀ c, Mk m c → c ∉ q → ∀ x, x ∈ can.getD c [] → ∀ h, gp p h = x → Mk m h
 least : ∀ U : Nat → Prop, (∀ c, c < p.length → gp p c = -1 → U c) → (∀ c, U c → ∀ x, x ∈ can.getD c [] → ∀ h, gp p h = x → U h) → ∀ c, Mk m c → U c
theorem Mk.lt {m : List Nat} {c : Nat} (h : Mk m c) : c < m.length := by
 apply Classical.byContradiction
 intro hc
 unfold Mk at h
 rw [List.getD_eq_getElem?_getD, List.getElem?_eq_none (by omega)] at h
 cases h
theorem mk_set {m : List Nat} {h : Nat} (hl : h < m.length) (c : Nat) : Mk (m.set h 1) c ↔ c = h ∨ Mk m c := by
 unfold Mk
 rw [List.getD_eq_getElem?_getD, List.getElem?_set, List.getD_eq_getElem?_getD]
 by_cases e : h = c
 · subst e; simp [hl]
 · rw [if_neg e]
   constructor
   · exact Or.inr
   · rintro (g | g)
     · exact absurd g.symm e
     · exact g
theorem zeros_set {m : List Nat} {h : Nat} (hl : h < m.length) (h0 : m[h] = 0) : zeros (m.set h 1) + 1 = zeros m := by
 unfold zeros
 induction m generalizing h with
 | nil => simp at hl
 | cons a m ih =>
   cases h with
   | zero => simp at h0; subst h0; simp
   | succ h =>
     simp only [List.getElem_cons_succ] at h0
     have := ih (h := h) (by simpa using hl) h0
     rw [List.set_cons_succ, List.countP_cons, List.countP_cons]
     omega
/-- while the numbers of a marked claim are gone through -/
structure RowI (can : List (List Int)) (p : List Int) (n : Nat) (m q : List Nat) (xs : List Int) (s : List Nat × List Nat) : Prop where
 len : s.1.length = m.length
 bit : ∀ y, y ∈ s.1 → y = 0 ∨ y = 1
 mono : ∀ c, Mk m c → Mk s.1 c
 wait : ∀ c, c ∈ s.2 → Mk s.1 c
 keep : ∀ c, c ∈ q → c ∈ s.2
 new : ∀ c, Mk s.1 c → Mk m c ∨ (c ∈ s.2 ∧ ∃ x, x ∈ xs ∧ gp p c = x)
 done : ∀ x, x ∈ xs → ∀ h, gp p h = x → Mk s.1 h
 meas : 2 * zeros s.1 + s.2.length ≤ 2 * zeros m + q.length
theorem snoc_ind {α : Type} {P : List α → Prop} (h0 : P []) (h1 : ∀ xs x, P xs → P (xs ++ [x])) : ∀ l, P l := fun l => by
 have : ∀ l : List α, P l.reverse := fun l => by
  induction l with
  | nil => exact h0
  | cons a l ih => rw [List.reverse_cons]; exact h1 _ _ ih
 have h := this l.reverse
 rwa [List.reverse_reverse] at h
theorem rowM_inv {can : List (List Int)} {p : List Int} (hp : Pay can p) {n : Nat} {m q : List Nat} (hl : m.length = p.length) (hb : ∀ y, y ∈ m → y = 0 ∨ y = 1) (hq : ∀ c, c ∈ q → Mk m c)
 (xs : List Int) (hx : ∀ x, x ∈ xs → x ≠ -1) : RowI can p n m q xs (rowM p (m, q) xs) := by
 refine snoc_ind (P := fun xs => (∀ x, x ∈ xs → x ≠ -1) → RowI can p n m q xs (rowM p (m, q) xs)) ?_ ?_ xs hx
 · intro _
   exact ⟨rfl, hb, fun c h => h, hq, fun c h => h, fun c h => .inl h, fun x h => (by cases h), Nat.le_refl _⟩
 · intro xs x ih hx
   have ih := ih (fun y hy => hx y (by simp [hy]))
   have hx1 := hx x (by simp)
   rw [rowM_snoc]
   generalize rowM p (m, q) xs = s1 at *
   obtain ⟨m1, q1⟩ := s1
   obtain ⟨i1, i2, i3, i4, i5, i6, i7, i8⟩ := ih
   dsimp only at i1 i2 i3 i4 i5 i6 i7 i8
   unfold stepM
   cases hh : holder p x with
   | none =>
     refine ⟨i1, i2, i3, i4, i5, fun c hc => ?_, fun y hy h hg => ?_, i8⟩
     · rcases i6 c hc with g | ⟨g1, y, g2, g3⟩
       · exact .inl g
       · exact .inr ⟨g1, y, by simp [g2], g3⟩
     · rcases List.mem_append.1 hy with hy | hy
       · exact i7 y hy h hg
       · rw [List.mem_singleton.1 hy] at hg
         exact absurd hg (holder_none hh hx1 h)
   | some h0 =>
     obtain ⟨hg0, hl0⟩ := holder_some hh
     have hlm : h0 < m1.length := by rw [i1, hl]; exact hl0
     have uniq : ∀ h, gp p h = x → h = h0 := fun h hg => hp.inj h h0 (by rw [hg, hg0]) (by rw [hg]; exact hx1)
     have hgd : m1.getD h0 1 = m1[h0] := by rw [List.getD_eq_getElem?_getD, List.getElem?_eq_getElem hlm]; rfl
     dsimp only
     by_cases hz : m1.getD h0 1 = 0
     · rw [if_pos hz]
       have hz' : m1[h0] = 0 := by rw [← hgd]; exact hz
       have hms := mk_set hlm
       refine ⟨by simp [i1], fun y hy => ?_, fun c hc => (hms c).2 (.inr (i3 c hc)), fun c hc => ?_, fun c hc => by simp [i5 c hc], fun c hc => ?_, fun y hy h hg => ?_, ?_⟩
       · rcases List.mem_or_eq_of_mem_set hy with hy | hy
         · exact i2 y hy
         · exact .inr hy
       · rcases List.mem_append.1 hc with hc | hc
         · exact (hms c).2 (.inr (i4 c hc))
         · rw [List.mem_singleton.1 hc]; exact (hms h0).2 (.inl rfl)
       · rcases (hms c).1 hc with rfl | hc
         · exact .inr ⟨by simp, x, by simp, hg0⟩
         · rcases i6 c hc with g | ⟨g1, y, g2, g3⟩
           · exact .inl g
           · exact .inr ⟨by simp [g1], y, by simp [g2], g3⟩
       · rcases List.mem_append.1 hy with hy | hy
         · exact (hms h).2 (.inr (i7 y hy h hg))
         · rw [List.mem_singleton.1 hy] at hg
           exact (hms h).2 (.inl (uniq h hg))
       · have := zeros_set hlm hz'
         simp only [List.length_append, List.length_cons, List.length_nil]
         omega
     · rw [if_neg hz]
       have hm1 : Mk m1 h0 := by
        have h2 := i2 m1[h0] (List.getElem_mem hlm)
        rw [hgd] at hz
        unfold Mk
        rw [List.getD_eq_getElem?_getD, List.getElem?_eq_getElem hlm]
        simp; omega
       refine ⟨i1, i2, i3, i4, i5, fun c hc => ?_, fun y hy h hg => ?_, i8⟩
       · rcases i6 c hc with g | ⟨g1, y, g2, g3⟩
         · exact .inl g
         · exact .inr ⟨g1, y, by simp [g2], g3⟩
       · rcases List.mem_append.1 hy with hy | hy
         · exact i7 y hy h hg
         · rw [List.mem_singleton.1 hy] at hg
           rw [uniq h hg]; exact hm1
theorem Inv.next {can : List (List Int)} {p : List Int} (hp : Pay can p) (hpos : ∀ n, ∀ x, x ∈ can.getD n [] → x ≠ -1) {m q : List Nat} {n : Nat} (h : Inv can p m (n :: q)) :
 Inv can p (rowM p (m, q) (can.getD n [])).1 (rowM p (m, q) (can.getD n [])).2 ∧ 2 * zeros (rowM p (m, q) (can.getD n [])).1 + (rowM p (m, q) (can.getD n [])).2.length < 2 * zeros m + (n :: q).length := by
 have hr := rowM_inv (n := n) hp (m := m) (q := q) h.len h.bit (fun c hc => h.wait c (by simp [hc])) (can.getD n []) (hpos n)
 have hn := h.wait n (by simp)
 refine ⟨⟨hr.len.trans h.len, hr.bit, hr.wait, fun c h1 h2 => hr.mono c (h.free c h1 h2), fun c hc hcq x hx e hg => ?_, fun U hU1 hU2 c hc => ?_⟩, by have := hr.meas; simp only [List.length_cons]; omega⟩
 · rcases hr.new c hc with g | ⟨g, _⟩
   · by_cases hcn : c = n
     · subst hcn; exact hr.done x hx e hg
     · refine hr.mono e (h.shut c g (fun hm => ?_) x hx e hg)
       rcases List.mem_cons.1 hm with g2 | g2
       · exact hcn g2
       · exact hcq (hr.keep c g2)
   · exact absurd g hcq
 · rcases hr.new c hc with g | ⟨_, x, hx, hg⟩
   · exact h.least U hU1 hU2 c g
   · exact hU2 n (h.least U hU1 hU2 n hn) x hx c hg
/-- the marked ones, in order -/
def outM (m : List Nat) : List Nat := (List.range m.length).filter fun c => decide (m.getD c 0 = 1)
theorem Inv.reach {can : List (List Int)} {p : List Int} {m : List Nat} (h : Inv can p m []) : Reach can p p.length (outM m) := by
 have hm : ∀ c, c ∈ outM m ↔ Mk m c := fun c => by
  unfold outM
  rw [List.mem_filter, List.mem_range, decide_eq_true_eq]
  exact ⟨fun g => g.2, fun g => ⟨g.lt, g⟩⟩
 refine ⟨List.Pairwise.filter _ List.nodup_range, fun c hc => by rw [← h.len]; exact ((hm c).1 hc).lt, fun c h1 h2 => (hm c).2 (h.free c h1 h2), fun c hc x hx e hg => (hm e).2 (h.shut c ((hm c).1 hc) (by simp) x hx e hg), fun U h1 h2 c hc => h.least U h1 h2 c ((hm c).1 hc)⟩
/-- the start: those that are not paid -/
def unp (p : List Int) : List Nat := (List.range p.length).filter fun c => decide (gp p c < 0)
def mk0 (p : List Int) : List Nat := p.map fun x => if x < 0 then 1 else 0
theorem inv_start {can : List (List Int)} {p : List Int} (hn : ∀ x, x ∈ p → -1 ≤ x) : Inv can p (mk0 p) (unp p) := by
 have hm : ∀ c, Mk (mk0 p) c ↔ c < p.length ∧ gp p c < 0 := fun c => by
  unfold Mk mk0 gp
  rw [List.getD_eq_getElem?_getD, List.getElem?_map, List.getD_eq_getElem?_getD]
  by_cases hc : c < p.length
  · rw [List.getElem?_eq_getElem hc]
    simp only [Option.map_some, Option.getD_some]
    split <;> simp_all
  · rw [List.getElem?_eq_none (by omega)]
    simp [hc]
 have hg : ∀ c, c < p.length → gp p c < 0 → gp p c = -1 := fun c hc h => by
  have := hn p[c] (List.getElem_mem hc)
  have e : gp p c = p[c] := by unfold gp; rw [List.getD_eq_getElem?_getD, List.getElem?_eq_getElem hc]; rfl
  omega
 refine ⟨by simp [mk0], fun y hy => ?_, fun c hc => ?_, fun c h1 h2 => (hm c).2 ⟨h1, by omega⟩, fun c hc hcq => ?_, fun U h1 _ c hc => ?_⟩
 · obtain ⟨x, _, rfl⟩ := List.mem_map.1 hy
   split <;> simp
 · unfold unp at hc
   rw [List.mem_filter, List.mem_range, decide_eq_true_eq] at hc
   exact (hm c).2 hc
 · refine absurd ?_ hcq
   unfold unp
   rw [List.mem_filter, List.mem_range, decide_eq_true_eq]
   exact (hm c).1 hc
 · have := (hm c).1 hc
   exact h1 c this.1 (hg c this.1 this.2)
end Go.Proofs.Ytgjfejpibielaaa.Tt
namespace Go.Proofs.Ytgjfejpibielaaa.Tt
/-- the sum of a word, as it is written -/
def dotW : List Nat → List Nat → Nat
 | k :: K, c :: w => k * c + dotW K w
 | _, _ => 0
theorem dot_mod (L : Nat) : ∀ (K w : List Nat) (s : Nat), K.length = w.length → sumW L K s w % L = (s + dotW K w) % L
 | [], [], s, _ => by simp [sumW, dotW]
 | k :: K, c :: w, s, h => by
   rw [sumW, dotW, dot_mod L K w _ (by simpa using h), Nat.add_mod, Nat.mod_mod, ← Nat.add_mod]
   congr 1
   omega
 | [], _ :: _, _, h => by simp at h
 | _ :: _, [], _, h => by simp at h
theorem sumW_lt (L : Nat) : ∀ (K w : List Nat) (s : Nat), s < L → sumW L K s w < L
 | [], w, s, h => by cases w <;> exact h
 | k :: K, [], s, h => h
 | k :: K, c :: w, s, h => by rw [sumW]; exact sumW_lt L K w _ (Nat.mod_lt _ (by omega))
theorem sumW_dot {L : Nat} {K w : List Nat} (hL : 0 < L) (h : K.length = w.length) : sumW L K 0 w = dotW K w % L := by
 have h1 := dot_mod L K w 0 h
 rw [Nat.mod_eq_of_lt (sumW_lt L K w 0 hL), Nat.zero_add] at h1
 exact h1
def dotK (K w : List Nat) (i : Nat) : Nat := dotW (K.take i) (w.take i)
theorem dotW_snoc : ∀ (K w : List Nat) (k c : Nat), K.length = w.length → dotW (K ++ [k]) (w ++ [c]) = dotW K w + k * c
 | [], [], k, c, _ => by simp [dotW]
 | a :: K, b :: w, k, c, h => by
   rw [List.cons_append, List.cons_append, dotW, dotW, dotW_snoc K w k c (by simpa using h)]
   omega
 | [], _ :: _, _, _, h => by simp at h
 | _ :: _, [], _, _, h => by simp at h
theorem dotK_succ (K w : List Nat) (i : Nat) (h1 : i < K.length) (h2 : i < w.length) : dotK K w (i + 1) = dotK K w i + K[i] * w[i] := by
 unfold dotK
 rw [List.take_succ_eq_append_getElem h1, List.take_succ_eq_append_getElem h2, dotW_snoc _ _ _ _ (by simp; omega)]
theorem dotK_all (K w : List Nat) (h : K.length = w.length) : dotK K w K.length = dotW K w := by
 unfold dotK
 rw [List.take_length, h, List.take_length]
theorem dotK_le (K w : List Nat) (hK : ∀ k, k ∈ K → k ≤ 6) (hw : ∀ c, c ∈ w → c ≤ 6) (i : Nat) : dotK K w i ≤ i * 36 := by
 induction i with
 | zero => simp [dotK, dotW]
 | succ i ih =>
   by_cases h1 : i < K.length
   · by_cases h2 : i < w.length
     · rw [dotK_succ K w i h1 h2]
       have := Nat.mul_le_mul (hK _ (List.getElem_mem h1)) (hw _ (List.getElem_mem h2))
       omega
     · have : dotK K w (i + 1) = dotK K w i := by
        unfold dotK
        rw [List.take_of_length_le (l := w) (by omega), List.take_of_length_le (l := w) (by omega)]
        have key : ∀ (K w : List Nat) (m n : Nat), w.length ≤ m → w.length ≤ n → dotW (K.take m) w = dotW (K.take n) w := by
         intro K
         induction K with
         | nil => intros; simp
         | cons k K ih =>
           intro w m n hm hn
           cases w with
           | nil => cases m <;> cases n <;> simp [dotW]
           | cons c w =>
             cases m with
             | zero => simp at hm
             | succ m =>
               cases n with
               | zero => simp at hn
               | succ n =>
                 rw [List.take_succ_cons, List.take_succ_cons, dotW, dotW, ih w m n (by simpa using hm) (by simpa using hn)]
        exact key K w _ _ (by omega) (by omega)
       omega
   · have : dotK K w (i + 1) = dotK K w i := by
      unfold dotK
      rw [List.take_of_length_le (l := K) (by omega), List.take_of_length_le (l := K) (by omega)]
      have key : ∀ (w K : List Nat) (m n : Nat), K.length ≤ m → K.length ≤ n → dotW K (w.take m) = dotW K (w.take n) := by
       intro w
       induction w with
       | nil => intros; simp
       | cons c w ih =>
         intro K m n hm hn
         cases K with
         | nil => cases m <;> cases n <;> simp [dotW]
         | cons k K =>
           cases m with
           | zero => simp at hm
           | succ m =>
             cases n with
             | zero => simp at hn
             | succ n =>
               rw [List.take_succ_cons, List.take_succ_cons, dotW, dotW, ih K m n (by simpa using hm) (by simpa using hn)]
      exact key w K _ _ (by omega) (by omega)
     omega
end Go.Proofs.Ytgjfejpibielaaa.Tt
