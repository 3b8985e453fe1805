/- Proved here: contracts and laws of F4, a part of the proofs about the crowd laws: what some functions of the program and of the reference compute, and plain facts about it. Conditions: those that each theorem names, no others. -/
import Derived.Test.YtbfhkknpocbeaaaF3
set_option linter.unusedSimpArgs false
set_option linter.unusedVariables false
namespace Go.Proofs.Ytbfhkknpocbeaaa
open Go.ChangeShapes Go.WideShapes Go.ChangeAt Go.RowKit Go.Joins Go.Deep
section
variable {H : Type} {enc : TypeId × Value → H} {W : World}
set_option maxRecDepth 100000 in
/-- a hall, with its slice's capacity -/
theorem open_hallc {r : Reach} {b0 : Nat} {hd : Bool} {v : Value} {d : DataW H} {p : List MemPlace} (hv : Value.okWide Try.prog W r b0 24 v) (h : DataW.Trod enc Try.prog W 0 (fun _ => true) hd 24 v d p) :
    ∃ (m : Int) (A : Option Addr) (ps : List P3) (c : Nat), v = .agg #[.int .i64 m, .slice A ps.length c] ∧ Ppl W A ps ∧ (ps.length ≤ c ∧ c ≤ 9223372036854775807) ∧ (Lit.int .i64 m).wf = true ∧ ∀ p, p ∈ ps → wfP p := by
  obtain ⟨v0, v1, y0, y1, n, rfl, -, -, h0, h1⟩ := open_agg2 Try.underlying24 (by kernel_rfl) (by kernel_rfl) hv h
  obtain ⟨m, e0, -, w0⟩ := DataW.trod_int Try.underlying2 h0
  simp at e0
  subst e0
  have hsl : ∃ A len c, v1 = .slice A len c ∧ len ≤ c ∧ c ≤ maxLen := by
    rcases open_slice Try.underlying22 h1 with ⟨hcs, _⟩ | ⟨a, l, c, _, _, _, _, hcs, _, hl, hm, _⟩
    · simp at hcs; exact ⟨none, 0, 0, hcs, Nat.le_refl _, Nat.zero_le _⟩
    · simp at hcs; exact ⟨some a, l, c, hcs, hl, hm⟩
  obtain ⟨A, len, c, rfl, hc1, hc2⟩ := hsl
  obtain ⟨ps, rfl, hP, hw⟩ := open_people h1
  unfold maxLen at hc2
  exact ⟨m, A, ps, c, rfl, hP, ⟨hc1, by omega⟩, w0, hw⟩
end
end Go.Proofs.Ytbfhkknpocbeaaa
