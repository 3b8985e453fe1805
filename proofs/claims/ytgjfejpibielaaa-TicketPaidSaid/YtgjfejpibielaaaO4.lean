/- Proved here: plain laws of the outright laws, part 2, a part of the proofs about the ticket laws. Conditions: those that each theorem names, no others. -/
import Derived.Test.YtgjfejpibielaaaO3
import Derived.WalkKit
import Derived.WalkSpells
import Derived.WalkLawsBesides
import Derived.Below
import Derived.Deep.QuietTactic
import Derived.BigQuiet
import Derived.Deep.Light

set_option linter.unusedSimpArgs false
set_option linter.unusedVariables false
namespace Go.Proofs.Ytgjfejpibielaaa
open Tt
theorem words_iff (L : Nat) : ∀ (n : Nat) (la : Int) (w : List Nat), w ∈ wordsP L n la ↔ w.length = n ∧ (∀ c, c ∈ w → c < L) ∧ eqNb la w = false
  | 0, la, w => by
    cases w <;> simp [wordsP, eqNb]
  | n + 1, la, w => by
    rw [wordsP, List.mem_flatMap]
    constructor
    · rintro ⟨c, hc, hw⟩
      by_cases h : decide ((c : Int) ≠ la) = true
      · rw [if_pos h] at hw
        obtain ⟨v, hv, rfl⟩ := List.mem_map.1 hw
        obtain ⟨h1, h2, h3⟩ := (words_iff L n c v).1 hv
        refine ⟨by simp [h1], fun x hx => ?_, ?_⟩
        · rcases List.mem_cons.1 hx with rfl | hx
          · exact List.mem_range.1 hc
          · exact h2 x hx
        · rw [eqNb, h3]
          simpa using h
      · rw [if_neg h] at hw; cases hw
    · rintro ⟨h1, h2, h3⟩
      match w, h1 with
      | c :: v, h1 =>
        rw [eqNb, Bool.or_eq_false_iff] at h3
        refine ⟨c, List.mem_range.2 (h2 c (by simp)), ?_⟩
        rw [if_pos (by simpa using h3.1)]
        exact List.mem_map.2 ⟨v, (words_iff L n c v).2 ⟨by simpa using h1, fun x hx => h2 x (by simp [hx]), h3.2⟩, rfl⟩
theorem codes_iff {L rest : Nat} {K w : List Nat} : w ∈ codes L rest K ↔ w.length = K.length ∧ (∀ c, c ∈ w → c < L) ∧ eqNb (-1) w = false ∧ sumW L K 0 w = rest := by
  rw [codes_words, List.mem_filter, words_iff]
  simp [and_assoc]
theorem lw_strW {w : List Nat} (h : ∀ x, x ∈ w → x < 6) : lw (strW w) = w := by
  obtain ⟨h1, h2, h3⟩ := isW_lw (isW_strW (L := 6) (n := w.length) rfl h (Nat.le_refl _))
  exact (strW_inj (fun x hx => by have := h x hx; omega) (fun x hx => by have := h3 x hx; omega) h1).symm
/-- the number of a word of right letters: its place among the codes, or none -/
theorem num_at2 {L rest : Nat} {K w : List Nat} (hL : L ≤ 6) (hw : w.length = K.length) (hx : ∀ x, x ∈ w → x < L) : (∃ i, ∃ h : i < (codes L rest K).length, (codes L rest K)[i] = w ∧ numV L rest K (strW w) = .tuple #[.int .i64 (i : Nat), .int .i64 0]) ∨ (w ∉ codes L rest K ∧ ∃ e : Int, (e = 16 ∨ e = 14) ∧ numV L rest K (strW w) = .tuple #[.int .i64 0, .int .i64 e]) := by
  have h6 : ∀ x, x ∈ w → x < 6 := fun x h => by have := hx x h; omega
  rw [num_eq]
  unfold numR
  rw [lw_strW h6, isW_strW hw hx hL, if_neg (by simp)]
  by_cases h1 : eqNb (-1) w = true
  · rw [if_pos h1]
    exact .inr ⟨fun h => (by rw [(codes_iff.1 h).2.2.1] at h1; cases h1), 16, .inl rfl, rfl⟩
  · rw [if_neg h1]
    by_cases h2 : sumW L K 0 w ≠ rest
    · rw [if_pos h2]
      exact .inr ⟨fun h => h2 (codes_iff.1 h).2.2.2, 14, .inr rfl, rfl⟩
    · rw [if_neg h2]
      have hm : w ∈ codes L rest K := codes_iff.2 ⟨hw, hx, by simpa using h1, by simpa using h2⟩
      obtain ⟨i, hi, rfl⟩ := List.getElem_of_mem hm
      refine .inl ⟨i, hi, rfl, ?_⟩
      rw [count_while (codes_sorted L rest K), count_lt (codes_sorted L rest K) i hi]
theorem num_code {L rest : Nat} {K : List Nat} (hL : L ≤ 6) {i : Nat} (hi : i < (codes L rest K).length) : numV L rest K (strW (codes L rest K)[i]) = .tuple #[.int .i64 (i : Nat), .int .i64 0] := by
  obtain ⟨h1, h2, _⟩ := codes_sum (List.getElem_mem hi)
  rcases num_at2 (rest := rest) hL h1 h2 with ⟨j, hj, e, h⟩ | ⟨h, _⟩
  · rw [h, sorted_inj (codes_sorted L rest K) hj hi e]
  · exact absurd (List.getElem_mem hi) h
theorem code_at (L rest : Nat) (K : List Nat) {i : Nat} (hi : i < (codes L rest K).length) : codeV L rest K (i : Nat) = .tuple #[.string (strW (codes L rest K)[i]), .int .i64 0] := by
  rw [code_eq]; unfold codeR
  rw [if_neg (by omega), Int.toNat_natCast, List.getD_eq_getElem?_getD, List.getElem?_eq_getElem hi]; rfl
theorem code_over (L rest : Nat) (K : List Nat) : codeV L rest K ((codes L rest K).length : Nat) = .tuple #[.string ⟨#[]⟩, .int .i64 3] := by
  rw [code_eq]; unfold codeR
  rw [if_pos (by omega)]
theorem find_at2 {L rest : Nat} {K T : List Nat} (hT : T.length = K.length) {i : Nat} (hi : i < (fitL L rest K T).length) : findV L rest K T (i : Nat) = .tuple #[.int .i64 ((fitL L rest K T)[i] : Nat), .int .i64 0] := by
  rw [find_eq hT]; unfold findR
  rw [if_neg (by omega), Int.toNat_natCast, List.getD_eq_getElem?_getD, List.getElem?_eq_getElem hi]; rfl
theorem find_over {L rest : Nat} {K T : List Nat} (hT : T.length = K.length) : findV L rest K T ((fitL L rest K T).length : Nat) = .tuple #[.int .i64 0, .int .i64 3] := by
  rw [find_eq hT]; unfold findR
  rw [if_pos (by omega)]
theorem fit_in {L rest : Nat} {K T : List Nat} {i : Nat} (h : i ∈ fitL L rest K T) : ∃ hi : i < (codes L rest K).length, fitsW T (codes L rest K)[i] = true := by
  unfold fitL at h
  obtain ⟨h1, h2⟩ := List.mem_filter.1 h
  have hi := List.mem_range.1 h1
  unfold fitN at h2
  rw [List.getElem?_eq_getElem hi] at h2
  exact ⟨hi, h2⟩
theorem fit_mem {L rest : Nat} {K T : List Nat} {i : Nat} (hi : i < (codes L rest K).length) (h : fitsW T (codes L rest K)[i] = true) : i ∈ fitL L rest K T := by
  unfold fitL
  refine List.mem_filter.2 ⟨List.mem_range.2 hi, ?_⟩
  unfold fitN
  rw [List.getElem?_eq_getElem hi]
  exact h
theorem fit_sorted (L rest : Nat) (K T : List Nat) : (fitL L rest K T).Pairwise (· < ·) := List.Pairwise.filter _ List.pairwise_lt_range
theorem fitL_map (L rest : Nat) (K T : List Nat) : (fitL L rest K T).length = ((codes L rest K).filter (fitsW T)).length := by rw [codes_fit, List.length_map]
theorem openT_in {L : Nat} (hL : 2 ≤ L) {c : List Nat} {p : Nat} (hc : ∀ x, x ∈ c → x < L) : ∀ t, t ∈ openT L c p → 1 ≤ t ∧ t < 2 ^ L := fun t h => by
  have h4 : 2 ^ 2 ≤ 2 ^ L := Nat.pow_le_pow_right (by decide) hL
  rcases List.mem_or_eq_of_mem_set h with h | rfl
  · obtain ⟨x, hx, rfl⟩ := List.mem_map.1 h
    exact ⟨Nat.one_le_two_pow, Nat.pow_lt_pow_right (by decide) (hc x hx)⟩
  · omega
/-- TicketChecked: what fits a ticket with one letter open -/
theorem checked {L rest : Nat} {K : List Nat} {k p : Nat} (hL : 2 ≤ L) (hk : k < (codes L rest K).length) (hp : p < K.length) : ∃ f n : Nat, (fitL L rest K (openT L (codes L rest K)[k] p)).length = n ∧ (∃ h : 0 < n, (fitL L rest K (openT L (codes L rest K)[k] p))[0]? = some f) ∧ f ≤ k ∧ (Nat.gcd L K[p] = 1 → n = 1 ∧ f = k) := by
  obtain ⟨c1, c2, _⟩ := codes_sum (List.getElem_mem hk)
  have hin := fit_mem hk (open_fits (L := L) (p := p) c2 (by omega))
  have hs := fit_sorted L rest K (openT L (codes L rest K)[k] p)
  have hone : Nat.gcd L K[p] = 1 → (fitL L rest K (openT L (codes L rest K)[k] p)).length = 1 := fun hg => by
    rw [fitL_map, open_one hL (List.getElem_mem hk) hp hg]; rfl
  generalize fitL L rest K (openT L (codes L rest K)[k] p) = l at *
  match l, hin with
  | f :: l, hin =>
    refine ⟨f, (f :: l).length, rfl, ⟨by simp, rfl⟩, ?_, fun hg => ⟨hone hg, ?_⟩⟩
    · rcases List.mem_cons.1 hin with rfl | h
      · exact Nat.le_refl _
      · exact Nat.le_of_lt ((List.pairwise_cons.1 hs).1 k h)
    · have h1 := hone hg
      have : l = [] := List.eq_nil_of_length_eq_zero (by simpa using h1)
      subst this
      exact (List.mem_singleton.1 hin).symm
end Go.Proofs.Ytgjfejpibielaaa
