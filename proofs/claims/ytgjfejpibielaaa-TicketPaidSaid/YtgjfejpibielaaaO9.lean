/- Proved here: the functions for a valid day, by its codes, a part of the proofs about the ticket laws. Conditions: those that each theorem names, no others. -/
import Derived.Test.YtgjfejpibielaaaO7
import Derived.WalkKit
import Derived.WalkSpells
import Derived.WalkLawsBesides
import Derived.Below
import Derived.Deep.QuietTactic
import Derived.BigQuiet
import Derived.Deep.Light
import Derived.Test.YtgjfejpibielaaaO2
import Derived.Test.YtgjfejpibielaaaO8
set_option linter.unusedSimpArgs false
set_option linter.unusedVariables false
namespace Go.Proofs.Ytgjfejpibielaaa
open Go.RowKit Go.Maps Go.Shelf
theorem i64_nil (w : World) (A : Option Addr) : I64 w A [] := fun k x h => by simp at h
theorem soldE_of (N : Nat) : ∀ (qs : List (Nat × Nat)) (nx : Nat), Tt.okSold N nx qs = true → soldE N (nx : Nat) (zr qs) = 0
  | [], nx, _ => rfl
  | q :: qs, nx, h => by
    unfold Tt.okSold at h
    simp only [Bool.and_eq_true, decide_eq_true_eq] at h
    have ih := soldE_of N qs (q.2 + 1) h.2
    show (if (q.1 : Int) < (nx : Int) ∨ (q.2 : Int) < (q.1 : Int) ∨ (N : Int) ≤ (q.2 : Int) then (3 : Int) else soldE N ((q.2 : Int) + 1) (zr qs)) = 0
    rw [if_neg (by omega)]
    simpa using ih
theorem chkSold_of {N : Nat} {qs : List (Nat × Nat)} (h : Tt.okSold N 0 qs = true) (hl : qs.length ≤ 10) : chkSold (N : Nat) (zr qs) = 0 := by
  unfold chkSold
  rw [if_neg (by rw [zr_len]; omega)]
  exact soldE_of N qs 0 h
theorem c_fits {l rest : Nat} {k : List Nat} (hd : OkD l rest k) {T : List Nat} (hT : T.length = k.length) (hTt : ∀ t, t ∈ T → 1 ≤ t ∧ t < 2 ^ l) {qs : List (Nat × Nat)} (hq : Tt.okSold (Tt.codes l rest k).length 0 qs = true) (hl : qs.length ≤ 10) : ∀ (A : Option Addr) (c : Nat) (Y : Option Addr) (yc : Nat) (D : Option Addr) (dc : Nat) (w : World), I64 w A (zs k) → I64 w Y (zs T) → Rng w D (zr qs) → Calls Try.prog 26 #[.agg #[.int .i64 (l : Nat), .int .i64 (k.length : Nat), .slice A k.length c, .int .i64 (rest : Nat)], .slice Y T.length yc, .slice D (zr qs).length dc] w (Gives w (.tuple #[.int .i64 ((fitL l rest k T).length : Nat), .int .i64 ((canN l rest k T qs).length : Nat), .int .i64 0])) := fun A c Y yc D dc w hA hY hD => by
  have hf := Fits_ok l rest A k c Y T yc D (zr qs) dc w hd hA hT hTt hY hD (by rw [cnt_codes]; exact chkSold_of hq hl)
  rw [zr_toN, sum_can hT hq, ← fitL_len hT] at hf
  exact hf
theorem c_kind {l rest : Nat} {k : List Nat} (hd : OkD l rest k) {T : List Nat} (hT : T.length = k.length) (hTt : ∀ t, t ∈ T → 1 ≤ t ∧ t < 2 ^ l) {qs : List (Nat × Nat)} (hq : Tt.okSold (Tt.codes l rest k).length 0 qs = true) (hl : qs.length ≤ 10) : ∀ (A : Option Addr) (c : Nat) (Y : Option Addr) (yc : Nat) (D : Option Addr) (dc : Nat) (w : World), I64 w A (zs k) → I64 w Y (zs T) → Rng w D (zr qs) → Calls Try.prog 28 #[.agg #[.int .i64 (l : Nat), .int .i64 (k.length : Nat), .slice A k.length c, .int .i64 (rest : Nat)], .slice Y T.length yc, .slice D (zr qs).length dc] w (Gives w (kindV ((fitL l rest k T).length : Nat) ((canN l rest k T qs).length : Nat) 0)) := fun A c Y yc D dc w hA hY hD =>
  Kind_of (.int .i64 (l : Nat)) (.int .i64 (k.length : Nat)) (.slice A k.length c) (.int .i64 (rest : Nat)) (.slice Y T.length yc) (.slice D (zr qs).length dc) _ _ 0 w (fun v hb => c_fits hd hT hTt hq hl A c Y yc D dc v (hA.ext hb) (hY.ext hb) (Rng.ext hD hb))
theorem c_sure {l rest : Nat} {k : List Nat} (hd : OkD l rest k) {T : List Nat} (hT : T.length = k.length) (hTt : ∀ t, t ∈ T → 1 ≤ t ∧ t < 2 ^ l)  : ∀ (A : Option Addr) (c : Nat) (Y : Option Addr) (yc : Nat) (w : World), I64 w A (zs k) → I64 w Y (zs T) → Calls Try.prog 32 #[.agg #[.int .i64 (l : Nat), .int .i64 (k.length : Nat), .slice A k.length c, .int .i64 (rest : Nat)], .slice Y T.length yc] w (GivesE w (if (fitL l rest k T).length = 0 then [] else zs (orL k.length ((Tt.codes l rest k).filter (Tt.fitsW T)))) (if (fitL l rest k T).length = 0 then 21 else 0)) := fun A c Y yc w hA hY => by
  refine (Sure_ok l rest A k c Y T yc w hd hA hT hTt hY).mono fun e w' h => ?_
  unfold SureAt at h
  rw [← fitL_len hT] at h
  rcases h with ⟨h0, h1, h2⟩ | ⟨h0, R, h1, h2, h3⟩
  · rw [if_pos h0, if_pos h0]
    exact ⟨none, 0, h1, h2, i64_nil w' none⟩
  · rw [if_neg h0, if_neg h0]
    rw [sure_eq hT] at h3
    exact ⟨_, _, by rw [zs_len, orL_len]; exact h1, h2, h3⟩
end Go.Proofs.Ytgjfejpibielaaa
