/- Proved here: contracts and laws of F5, a part of the proofs about the crowd laws: what some functions of the program and of the reference compute, and plain facts about it. Conditions: those that each theorem names, no others. -/
import Derived.Test.YtbfhkknpocbeaaaF3
import Derived.SizedLaws
set_option linter.unusedSimpArgs false
set_option linter.unusedVariables false
namespace Go.Proofs.Ytbfhkknpocbeaaa
open Go.ChangeShapes Go.WideShapes Go.ChangeAt Go.RowKit Go.Joins Go.Deep
section
variable {H : Type} {enc : TypeId × Value → H} {W : World}
set_option maxRecDepth 100000 in
/-- a slice of people, with its datum -/
theorem open_folkz {r : Reach} {b0 : Nat} {hd : Bool} {v : Value} {d : DataW H} {p : List MemPlace} (hv : Value.okWide Try.prog W r b0 22 v) (h : DataW.Trod enc Try.prog W 0 (fun _ => true) hd 22 v d p) :
    ∃ (A : Option Addr) (ps : List P3) (c : Nat), v = .slice A ps.length c ∧ Ppl W A ps ∧ (ps.length = 0 ∨ ∃ E S, d = .slice E S ∧ E.length = ps.length) := by
  obtain ⟨A, len, cap, rfl⟩ := okWide_slice Try.underlying22 hv
  obtain ⟨fuel, hf⟩ := h
  have hd : len = 0 ∨ ∃ E S, d = .slice E S ∧ E.length = len := by
    rcases open_slice Try.underlying22 hf with ⟨hcs, _⟩ | ⟨a, l, c, m, n, D, Pl, hcs, _, _, _, _, hx, _⟩
    · simp [Value.cells] at hcs; exact .inl hcs.2.1
    · simp [Value.cells] at hcs
      injection hx with hx _
      exact .inr ⟨_, _, hx, by simp [hcs.2.1]⟩
  obtain ⟨ps, rfl, hP, hw⟩ := open_people hf
  exact ⟨A, ps, cap, rfl, hP, hd⟩
theorem bytesP : Try.prog.bytesOf 57 = 24 := by kernel_rfl
end
end Go.Proofs.Ytbfhkknpocbeaaa
