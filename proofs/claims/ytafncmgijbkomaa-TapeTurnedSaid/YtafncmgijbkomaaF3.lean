/- Proved here: the opening of arrays of bytes and of numbers, a part of the proofs about the tape laws. Conditions: those that each theorem names, no others. -/
import Derived.Test.YtafncmgijbkomaaF2
import Derived.WalkKit
import Derived.WalkSpells
import Derived.WalkLawsBesides
import Derived.Below
import Derived.Deep.QuietTactic
import Derived.BigQuiet
import Derived.Deep.Light
set_option linter.unusedSimpArgs false
set_option linter.unusedVariables false
namespace Go.Proofs.Ytafncmgijbkomaa
open Go.ChangeShapes Go.WideShapes Go.ChangeAt Go.RowKit
section
variable {H : Type} {enc : TypeId × Value → H} {W : World}
theorem u64_nat {b : Int} (h : (Lit.int .u64 b).wf = true) : ∃ n : Nat, b = (n : Int) ∧ n < 18446744073709551616 := by
  have h2 : 0 ≤ b ∧ b < 18446744073709551616 := by
    simp only [Lit.wf, Bool.and_eq_true, decide_eq_true_eq] at h
    have h1 : b ≤ 18446744073709551615 := h.2
    have h3 : 0 ≤ b := h.1
    omega
  exact ⟨b.toNat, by omega, by omega⟩
set_option maxRecDepth 100000 in
theorem trod_arr2 {fuel : Nat} {hd : Bool} {c0 c1 : Value} {x : DataW H × List MemPlace} (h : DataW.trod enc Try.prog W 0 (fun _ => true) hd fuel 66 [c0, c1] = some x) :
    ∃ m y0 y1, DataW.trod enc Try.prog W 0 (fun _ => true) hd m 5 [c0] = some y0 ∧ DataW.trod enc Try.prog W 0 (fun _ => true) hd m 5 [c1] = some y1 := by
  cases fuel with
  | zero => simp [DataW.trod] at h
  | succ m =>
    unfold DataW.trod at h
    rw [Try.underlying66] at h
    have r3 : List.range 2 = [0, 1] := rfl
    have r1 : Try.prog.cellsOf 5 = 1 := by kernel_rfl
    simp [r3, r1] at h
    obtain ⟨_, h⟩ := h
    cases h0 : DataW.trod enc Try.prog W 0 (fun _ => true) hd m 5 [c0] with
    | none => simp [h0] at h
    | some y0 =>
      cases h1 : DataW.trod enc Try.prog W 0 (fun _ => true) hd m 5 [c1] with
      | none => simp [h0, h1] at h
      | some y1 =>
        exact ⟨m, y0, y1, h0, h1⟩
set_option maxRecDepth 100000 in
theorem open_arr2 {r : Reach} {b0 : Nat} {hd : Bool} {v : Value} {d : DataW H} {p : List MemPlace} (hv : Value.okWide Try.prog W r b0 66 v) (h : DataW.Trod enc Try.prog W 0 (fun _ => true) hd 66 v d p) :
    ∃ a0 a1 : Nat, v = .agg #[.int .u8 (a0 : Nat), .int .u8 (a1 : Nat)] ∧ a0 < 256 ∧ a1 < 256 := by
  simp only [Value.okWide, Try.underlying66] at hv
  obtain ⟨cs, rfl, h2, _⟩ := hv
  rw [show Try.prog.cellsOf 66 = 2 by kernel_rfl] at h2
  obtain ⟨l⟩ := cs
  match l, h2 with
  | [c0, c1], _ =>
    obtain ⟨fuel, hf⟩ := h
    obtain ⟨m, y0, y1, g0, g1⟩ := trod_arr2 hf
    obtain ⟨b0, e0, -, w0⟩ := DataW.trod_int Try.underlying5 g0
    simp at e0
    subst e0
    obtain ⟨k0, rfl, hk0⟩ := u8_nat w0
    obtain ⟨b1, e1, -, w1⟩ := DataW.trod_int Try.underlying5 g1
    simp at e1
    subst e1
    obtain ⟨k1, rfl, hk1⟩ := u8_nat w1
    exact ⟨k0, k1, rfl, hk0, hk1⟩
set_option maxRecDepth 100000 in
theorem trod_arr3 {fuel : Nat} {hd : Bool} {c0 c1 c2 : Value} {x : DataW H × List MemPlace} (h : DataW.trod enc Try.prog W 0 (fun _ => true) hd fuel 65 [c0, c1, c2] = some x) :
    ∃ m y0 y1 y2, DataW.trod enc Try.prog W 0 (fun _ => true) hd m 5 [c0] = some y0 ∧ DataW.trod enc Try.prog W 0 (fun _ => true) hd m 5 [c1] = some y1 ∧ DataW.trod enc Try.prog W 0 (fun _ => true) hd m 5 [c2] = some y2 := by
  cases fuel with
  | zero => simp [DataW.trod] at h
  | succ m =>
    unfold DataW.trod at h
    rw [Try.underlying65] at h
    have r3 : List.range 3 = [0, 1, 2] := rfl
    have r1 : Try.prog.cellsOf 5 = 1 := by kernel_rfl
    simp [r3, r1] at h
    obtain ⟨_, h⟩ := h
    cases h0 : DataW.trod enc Try.prog W 0 (fun _ => true) hd m 5 [c0] with
    | none => simp [h0] at h
    | some y0 =>
      cases h1 : DataW.trod enc Try.prog W 0 (fun _ => true) hd m 5 [c1] with
      | none => simp [h0, h1] at h
      | some y1 =>
        cases h2 : DataW.trod enc Try.prog W 0 (fun _ => true) hd m 5 [c2] with
        | none => simp [h0, h1, h2] at h
        | some y2 =>
          exact ⟨m, y0, y1, y2, h0, h1, h2⟩
set_option maxRecDepth 100000 in
theorem open_arr3 {r : Reach} {b0 : Nat} {hd : Bool} {v : Value} {d : DataW H} {p : List MemPlace} (hv : Value.okWide Try.prog W r b0 65 v) (h : DataW.Trod enc Try.prog W 0 (fun _ => true) hd 65 v d p) :
    ∃ a0 a1 a2 : Nat, v = .agg #[.int .u8 (a0 : Nat), .int .u8 (a1 : Nat), .int .u8 (a2 : Nat)] ∧ a0 < 256 ∧ a1 < 256 ∧ a2 < 256 := by
  simp only [Value.okWide, Try.underlying65] at hv
  obtain ⟨cs, rfl, h2, _⟩ := hv
  rw [show Try.prog.cellsOf 65 = 3 by kernel_rfl] at h2
  obtain ⟨l⟩ := cs
  match l, h2 with
  | [c0, c1, c2], _ =>
    obtain ⟨fuel, hf⟩ := h
    obtain ⟨m, y0, y1, y2, g0, g1, g2⟩ := trod_arr3 hf
    obtain ⟨b0, e0, -, w0⟩ := DataW.trod_int Try.underlying5 g0
    simp at e0
    subst e0
    obtain ⟨k0, rfl, hk0⟩ := u8_nat w0
    obtain ⟨b1, e1, -, w1⟩ := DataW.trod_int Try.underlying5 g1
    simp at e1
    subst e1
    obtain ⟨k1, rfl, hk1⟩ := u8_nat w1
    obtain ⟨b2, e2, -, w2⟩ := DataW.trod_int Try.underlying5 g2
    simp at e2
    subst e2
    obtain ⟨k2, rfl, hk2⟩ := u8_nat w2
    exact ⟨k0, k1, k2, rfl, hk0, hk1, hk2⟩
end
end Go.Proofs.Ytafncmgijbkomaa
