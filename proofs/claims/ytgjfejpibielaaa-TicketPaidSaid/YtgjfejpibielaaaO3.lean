/- Proved here: plain laws of the outright laws, part 1, a part of the proofs about the ticket laws. Conditions: those that each theorem names, no others. -/
import Derived.Test.YtgjfejpibielaaaQ42
import Derived.WalkKit
import Derived.WalkSpells
import Derived.WalkLawsBesides
import Derived.Below
import Derived.Deep.QuietTactic
import Derived.BigQuiet
import Derived.Deep.Light

set_option linter.unusedSimpArgs false
set_option linter.unusedVariables false
namespace Go.Proofs.Ytgjfejpibielaaa
open Tt
theorem pow_bit (a b : Nat) : (2 ^ a).testBit b = decide (a = b) := Nat.testBit_two_pow
theorem gN_pow (l j : Nat) : gN l j = l * (l - 1) ^ j := by
  induction j with
  | zero => simp [gN]
  | succ j ih => rw [gN, ih, Nat.pow_succ, Nat.mul_assoc]
theorem sum_but (L m b : Nat) (hb : b < L) : ((List.range L).map fun (c : Nat) => if decide ((c : Int) ≠ (b : Int)) then m else 0).sum = (L - 1) * m := by
  have h1 := sum_one L b m hb
  have h2 := sum_add (List.range L) (fun (c : Nat) => if decide ((c : Int) ≠ (b : Int)) then m else 0) (fun c => if c = b then m else 0)
  have h3 : ((List.range L).map fun (c : Nat) => (if decide ((c : Int) ≠ (b : Int)) then m else 0) + (if c = b then m else 0)) = (List.range L).map fun _ => m := List.map_congr_left fun c _ => by
    by_cases h : c = b
    · simp [h]
    · have : (c : Int) ≠ (b : Int) := by omega
      simp [h, this]
  rw [h3] at h2
  rw [List.map_const', List.sum_replicate_nat, List.length_range, h1] at h2
  rw [Nat.sub_mul]
  omega
theorem words_len (L n b : Nat) (hb : b < L) : (wordsP L n (b : Nat)).length = (L - 1) ^ n := by
  induction n generalizing b with
  | zero => rfl
  | succ n ih =>
    rw [wordsP, List.length_flatMap]
    rw [show ((List.range L).map fun (c : Nat) => (if decide ((c : Int) ≠ (b : Int)) then (wordsP L n (c : Int)).map (c :: ·) else []).length) = (List.range L).map fun (c : Nat) => if decide ((c : Int) ≠ (b : Int)) then (L - 1) ^ n else 0 from List.map_congr_left fun c hc => by
      by_cases h : decide ((c : Int) ≠ (b : Int)) = true
      · rw [if_pos h, if_pos h, List.length_map, ih c (List.mem_range.1 hc)]
      · rw [if_neg h, if_neg h]; rfl]
    rw [sum_but L _ b hb, Nat.pow_succ, Nat.mul_comm]
theorem codes_gN {L rest : Nat} {K : List Nat} (h1 : 1 ≤ K.length) : (codes L rest K).length ≤ gN L (K.length - 1) := by
  rw [codes_words]
  refine Nat.le_trans (List.length_filter_le _ _) ?_
  obtain ⟨n, hn⟩ : ∃ n, K.length = n + 1 := ⟨K.length - 1, by omega⟩
  rw [hn, gN_pow, Nat.add_sub_cancel, wordsP, List.length_flatMap]
  rw [show ((List.range L).map fun (c : Nat) => (if decide ((c : Int) ≠ -1) then (wordsP L n (c : Int)).map (c :: ·) else []).length) = (List.range L).map fun _ => (L - 1) ^ n from List.map_congr_left fun c hc => by
    rw [if_pos (by simp), List.length_map, words_len L n c (List.mem_range.1 hc)], List.map_const', List.sum_replicate_nat, List.length_range]
  exact Nat.le_refl _
theorem dot_set : ∀ (K c : List Nat) (p x : Nat) (hp : p < K.length) (hc : p < c.length), dotW K (c.set p x) + K[p] * c[p] = dotW K c + K[p] * x
  | k :: K, y :: c, 0, x, _, _ => by simp [dotW]; omega
  | k :: K, y :: c, p + 1, x, hp, hc => by
    have := dot_set K c p x (by simpa using hp) (by simpa using hc)
    simp [dotW] at this ⊢
    omega
theorem codes_sum {L rest : Nat} {K w : List Nat} (h : w ∈ codes L rest K) : w.length = K.length ∧ (∀ c, c ∈ w → c < L) ∧ sumW L K 0 w = rest := by
  have h1 := codes_mem h
  rw [codes_words] at h
  exact ⟨h1.1, h1.2, by simpa using (List.mem_filter.1 h).2⟩
/-- a torn ticket with one letter alone open -/
def openT (L : Nat) (c : List Nat) (p : Nat) : List Nat := (c.map (2 ^ ·)).set p (2 ^ L - 1)
theorem openT_len (L : Nat) (c : List Nat) (p : Nat) : (openT L c p).length = c.length := by simp [openT]
theorem open_fits {L : Nat} {c : List Nat} {p : Nat} (hc : ∀ x, x ∈ c → x < L) (hp : p < c.length) : fitsW (openT L c p) c = true := by
  rw [fits_iff _ _ (openT_len L c p)]
  intro i h1 h2
  simp only [openT, List.getElem_set, List.getElem_map]
  split
  · rw [Nat.testBit_two_pow_sub_one]; simp [hc _ (List.getElem_mem h2)]
  · rw [pow_bit]; simp
theorem open_one {L rest : Nat} {K c : List Nat} {p : Nat} (hL : 2 ≤ L) (hc : c ∈ codes L rest K) (hp : p < K.length) (hg : Nat.gcd L K[p] = 1) : (codes L rest K).filter (fitsW (openT L c p)) = [c] := by
  obtain ⟨c1, c2, c3⟩ := codes_sum hc
  have hall : ∀ w, w ∈ (codes L rest K).filter (fitsW (openT L c p)) → w = c := fun w hw => by
    obtain ⟨hw, hf⟩ := List.mem_filter.1 hw
    obtain ⟨w1, w2, w3⟩ := codes_sum hw
    rw [fits_iff _ _ (by rw [openT_len, c1, w1])] at hf
    have hset : w = c.set p (w[p]'(by omega)) := by
      apply List.ext_getElem
      · simp [c1, w1]
      · intro i h1 h2
        rw [List.getElem_set]
        have := hf i (by rw [openT_len]; omega) h1
        simp only [openT, List.getElem_set, List.getElem_map] at this
        split
        · rename_i e; subst e; rfl
        · rename_i e
          rw [if_neg e, pow_bit] at this
          exact (of_decide_eq_true this).symm
    have hd := dot_set K c p (w[p]'(by omega)) hp (by omega)
    rw [← hset] at hd
    rw [sumW_dot (by omega) (by omega)] at c3 w3
    have key : ∀ (a b x y : Nat), a + K[p] * x = b + K[p] * y → a % L = b % L → y < L → ¬ x < y := fun a b x y e1 e2 hy hxy => by
      obtain ⟨d, rfl⟩ : ∃ d, y = x + d := ⟨y - x, by omega⟩
      rw [Nat.mul_add] at e1
      have e3 : a = b + K[p] * d := by omega
      have e4 := Nat.sub_mod_eq_zero_of_mod_eq e2
      rw [e3, Nat.add_sub_cancel_left] at e4
      have e5 : L ∣ d := (show Nat.Coprime L K[p] from hg).dvd_of_dvd_mul_left (Nat.dvd_of_mod_eq_zero e4)
      have := Nat.le_of_dvd (by omega) e5
      omega
    have hx : (c[p]'(by omega)) = (w[p]'(by omega)) := by
      have h1 : c[p]'(by omega) < L := c2 _ (List.getElem_mem _)
      have h2 : w[p]'(by omega) < L := w2 _ (List.getElem_mem _)
      have k1 := key _ _ _ _ hd (by rw [w3, c3]) h2
      have k2 := key _ _ _ _ hd.symm (by rw [w3, c3]) h1
      omega
    rw [hset, ← hx]
    apply List.ext_getElem
    · simp
    · intro i h1 h2
      rw [List.getElem_set]
      split
      · rename_i e; subst e; rfl
      · rfl
  have hin : c ∈ (codes L rest K).filter (fitsW (openT L c p)) := List.mem_filter.2 ⟨hc, open_fits c2 (by omega)⟩
  have hs := (codes_sorted L rest K).filter (fitsW (openT L c p))
  generalize (codes L rest K).filter (fitsW (openT L c p)) = l at *
  match l, hin with
  | [x], _ => rw [hall x (by simp)]
  | x :: y :: l, _ =>
    have h1 := (List.pairwise_cons.1 hs).1 y (by simp)
    rw [hall x (by simp), hall y (by simp), ltW_irrefl] at h1
    cases h1
end Go.Proofs.Ytgjfejpibielaaa
