/- Proved here: plain laws of the outright laws, part 4, a part of the proofs about the ticket laws. Conditions: those that each theorem names, no others. -/
import Derived.Test.YtgjfejpibielaaaO6
import Derived.WalkKit
import Derived.WalkSpells
import Derived.WalkLawsBesides
import Derived.Below
import Derived.Deep.QuietTactic
import Derived.BigQuiet
import Derived.Deep.Light

set_option linter.unusedSimpArgs false
set_option linter.unusedVariables false
namespace Go.Proofs.Ytgjfejpibielaaa
open Tt
theorem diff_zero : ∀ (v w : List Nat), v.length = w.length → (diffN v w = 0 ↔ v = w)
  | [], [], _ => by simp [diffN]
  | a :: v, b :: w, h => by
    rw [diffN, List.cons.injEq]
    have ih := diff_zero v w (by simpa using h)
    by_cases e : a = b
    · rw [if_pos e]; simp only [e, true_and, ← ih]; omega
    · rw [if_neg e]; simp only [e, false_and, iff_false]; omega
theorem diff_set : ∀ (v w : List Nat) (k y : Nat), diffN (v.set k y) w ≤ diffN v w + 1 ∧ diffN v w ≤ diffN (v.set k y) w + 1
  | [], w, k, y => by simp
  | a :: v, [], k, y => by cases k <;> simp [diffN]
  | a :: v, b :: w, 0, y => by
    simp only [List.set_cons_zero, diffN]
    by_cases e : a = b <;> by_cases e2 : y = b <;> simp [e, e2] <;> omega
  | a :: v, b :: w, k + 1, y => by
    have := diff_set v w k y
    simp only [List.set_cons_succ, diffN]
    omega
/-- what Near hands back for a word of right letters -/
theorem near_at {L rest : Nat} {K w : List Nat} (hL : L ≤ 6) (hK : K.length ≤ 8) (hw : w.length = K.length) (hx : ∀ x, x ∈ w → x < L) (hC : (codes L rest K).length ≠ 0) : ∃ c0, c0 ∈ codes L rest K ∧ nearV L rest K (strW w) = .tuple #[.int .i64 (diffN w c0 : Nat), .string (strW c0), .int .i64 0] ∧ diffN w c0 ≤ K.length ∧ (∀ x, x ∈ codes L rest K → diffN w c0 ≤ diffN w x) ∧ (∀ x, x ∈ codes L rest K → diffN w x = diffN w c0 → ltW x c0 = false) ∧ (diffN w c0 = 0 ↔ w ∈ codes L rest K) := by
  have h6 : ∀ x, x ∈ w → x < 6 := fun x h => by have := hx x h; omega
  have hz : (K.zip (fulls L K.length)).length = K.length := by rw [List.length_zip]; simp [fulls]
  obtain ⟨h1, h2⟩ := near_first L rest (K.zip (fulls L K.length)) (-1) 0 w (by rw [hz]; exact hw) (by rw [cnt_codes]; exact hC) (by omega)
  obtain ⟨c0, hc0⟩ : ∃ c0, nearA L rest (K.zip (fulls L K.length)) (-1) 0 w = c0 := ⟨_, rfl⟩
  rw [hc0] at h1 h2
  have hm : c0 ∈ codes L rest K := h1.mem
  obtain ⟨c1, c2, _⟩ := codes_sum hm
  refine ⟨c0, hm, ?_, by have := diffN_le w c0; omega, fun x hx => h1.le hx, fun x hx he => ?_, ?_⟩
  · unfold nearV
    rw [lw_strW h6, isW_strW hw hx hL, if_neg (by simp), cnt_codes, if_neg hC, hc0, ← h2]
  · have hs := codes_sorted L rest K
    obtain ⟨pre, post, e, g1, g2⟩ := h1
    rw [show codes L rest K = pre ++ c0 :: post from e] at hx hs
    rcases List.mem_append.1 hx with hx | hx
    · have := g1 x hx; omega
    · rcases List.mem_cons.1 hx with rfl | hx
      · exact ltW_irrefl _
      · have h3 := (List.pairwise_cons.1 (List.pairwise_append.1 hs).2.1).1 x hx
        cases h4 : ltW x c0 with
        | false => rfl
        | true => have := ltW_trans h3 h4; rw [ltW_irrefl] at this; cases this
  · constructor
    · intro h
      rwa [(diff_zero w c0 (by omega)).1 h]
    · intro h
      have := h1.le (x := w) h
      have h3 := (diff_zero w w rfl).2 rfl
      omega
theorem near_none {L rest : Nat} {K w : List Nat} (hL : L ≤ 6) (hw : w.length = K.length) (hx : ∀ x, x ∈ w → x < L) (hC : (codes L rest K).length = 0) : nearV L rest K (strW w) = .tuple #[.int .i64 0, .string ⟨#[]⟩, .int .i64 5] := by
  unfold nearV
  rw [isW_strW hw hx hL, if_neg (by simp), cnt_codes, if_pos hC]
/-- more letters in a set -/
theorem fits_more {T w : List Nat} {k m : Nat} (hl : T.length = w.length) (hk : k < T.length) (h : fitsW T w = true) : fitsW (T.set k (T[k] ||| m)) w = true := by
  rw [fits_iff _ _ (by simpa using hl)]
  rw [fits_iff _ _ hl] at h
  intro i h1 h2
  rw [List.getElem_set]
  have := h i (by simpa using h1) h2
  split
  · rename_i e; subst e; rw [Nat.testBit_or, this]; rfl
  · exact this
theorem fit_more {L rest : Nat} {K T : List Nat} {k m : Nat} (hT : T.length = K.length) (hk : k < T.length) : ∀ i, i ∈ List.range (codes L rest K).length → fitN L rest K T i = true → fitN L rest K (T.set k (T[k] ||| m)) i = true := fun i hi => by
  have hi := List.mem_range.1 hi
  obtain ⟨w1, _, _⟩ := codes_sum (List.getElem_mem hi)
  unfold fitN
  rw [List.getElem?_eq_getElem hi]
  exact fits_more (by omega) hk
theorem more_fits {L rest : Nat} {K T : List Nat} {k m : Nat} (qs : List (Nat × Nat)) (hT : T.length = K.length) (hk : k < T.length) : (fitL L rest K T).length ≤ (fitL L rest K (T.set k (T[k] ||| m))).length ∧ (canN L rest K T qs).length ≤ (canN L rest K (T.set k (T[k] ||| m)) qs).length := by
  have h := fit_more (L := L) (rest := rest) (m := m) hT hk
  unfold fitL canN
  rw [← List.countP_eq_length_filter, ← List.countP_eq_length_filter, ← List.countP_eq_length_filter, ← List.countP_eq_length_filter]
  refine ⟨List.countP_mono_left h, List.countP_mono_left fun i hi hc => ?_⟩
  rw [Bool.and_eq_true] at hc ⊢
  exact ⟨hc.1, h i hi hc.2⟩
theorem sold_sub {ps qs : List (Nat × Nat)} (h : ps.Sublist qs) (i : Nat) (hi : soldB ps i = true) : soldB qs i = true := by
  unfold soldB at hi ⊢
  rw [List.any_eq_true] at hi ⊢
  obtain ⟨x, hx, e⟩ := hi
  exact ⟨x, h.subset hx, e⟩
theorem less_can {L rest : Nat} {K T : List Nat} {ps qs : List (Nat × Nat)} (h : ps.Sublist qs) : (canN L rest K T ps).length ≤ (canN L rest K T qs).length := by
  unfold canN
  rw [← List.countP_eq_length_filter, ← List.countP_eq_length_filter]
  refine List.countP_mono_left fun i _ hc => ?_
  rw [Bool.and_eq_true] at hc ⊢
  exact ⟨sold_sub h i hc.1, hc.2⟩
theorem lst_mono (k : Nat) (f g : Nat → Int) (h : ∀ b, f b ≤ g b) : ∀ B, lstF k f B ≤ lstF k g B
  | 0 => Int.le_refl _
  | B + 1 => by
    have ih := lst_mono k f g h B
    have := h B
    unfold lstF
    split
    · exact Int.le_refl _
    · omega
theorem less_least {L rest : Nat} {K : List Nat} {Ts : List (List Nat)} {ps qs : List (Nat × Nat)} (h : ps.Sublist qs) (k : Nat) : leastI L rest K Ts (zr ps) k ≤ leastI L rest K Ts (zr qs) k := by
  unfold leastI
  refine lst_mono _ _ _ (fun b => ?_) _
  unfold bndF
  have : boundN L rest K Ts (zr ps) (bitsS k b) (codes L rest K).length ≤ boundN L rest K Ts (zr qs) (bitsS k b) (codes L rest K).length := by
    unfold boundN
    refine List.countP_mono_left fun i _ hc => ?_
    rw [Bool.and_eq_true] at hc ⊢
    rw [soldI_zr] at hc ⊢
    exact ⟨hc.1, sold_sub h i hc.2⟩
  omega
theorem orK_more {l m : List (List Nat)} (h : ∀ w, w ∈ l → w ∈ m) (p : Nat) : orK l p &&& orK m p = orK l p := by
  apply Nat.eq_of_testBit_eq
  intro j
  rw [Nat.testBit_and, orK_bit, orK_bit]
  cases h1 : l.any fun w => decide (w.getD p 0 = j) with
  | false => rfl
  | true =>
    rw [List.any_eq_true] at h1
    obtain ⟨w, hw, e⟩ := h1
    have : (m.any fun w => decide (w.getD p 0 = j)) = true := List.any_eq_true.2 ⟨w, h w hw, e⟩
    rw [this]; rfl
/-- a payment pays no more than the least bound, and than the bound of any set -/
theorem pay_le {L rest : Nat} {K : List Nat} {Ts : List (List Nat)} {rs : List (Int × Int)} {p : List Int} {k : Nat} (hl : p.length = k) (hp : (List.range k).all (okP L rest K Ts rs p) = true) : (paidN p : Int) ≤ leastI L rest K Ts rs k ∧ ∀ s : List Nat, s.Nodup → (∀ x, x ∈ s → x < k) → (paidN p : Int) ≤ (k : Int) - (s.length : Int) + (boundN L rest K Ts rs s (codes L rest K).length : Nat) := by
  have h : ∀ s : List Nat, s.Nodup → (∀ x, x ∈ s → x < k) → (paidN p : Int) ≤ (k : Int) - (s.length : Int) + (boundN L rest K Ts rs s (codes L rest K).length : Nat) := fun s hs hx => by
    have := weak_pay (L := L) (rest := rest) (K := K) (Ts := Ts) (rs := rs) ⟨hl, hp⟩ hs hx
    omega
  refine ⟨?_, h⟩
  unfold leastI
  refine lstF_ge k _ _ ?_ _ fun b _ _ => ?_
  · have : paidN p ≤ p.length := List.countP_le_length
    omega
  · unfold bndF
    exact h _ (bitsS_nodup k b) bitsS_lt
theorem least_set {L rest : Nat} {K : List Nat} {Ts : List (List Nat)} {rs : List (Int × Int)} {k : Nat} (b : Nat) (hb : b < 2 ^ k) : leastI L rest K Ts rs k ≤ bndF L rest K Ts rs k b := by
  have h := lstF_le k (bndF L rest K Ts rs k) (2 ^ k)
  rcases Nat.eq_zero_or_pos b with rfl | h1
  · unfold leastI
    have : bitsS k 0 = [] := by unfold bitsS; simp
    have h0 : boundN L rest K Ts rs [] (codes L rest K).length = 0 := by unfold boundN anyF; simp
    have e : bndF L rest K Ts rs k 0 = (k : Int) := by unfold bndF; rw [this, h0]; simp
    rw [e]
    exact h.1
  · exact h.2 b h1 hb
end Go.Proofs.Ytgjfejpibielaaa
