/- Proved here: contracts and laws of F3, a part of the proofs about the crowd laws: what some functions of the program and of the reference compute, and plain facts about it. Conditions: those that each theorem names, no others. -/
import Derived.Test.YtbfhkknpocbeaaaF1
import Derived.Test.YtbfhkknpocbeaaaK1
set_option linter.unusedSimpArgs false
set_option linter.unusedVariables false
namespace Go.Proofs.Ytbfhkknpocbeaaa
open Go.ChangeShapes Go.WideShapes Go.ChangeAt Go.RowKit Go.Joins Go.Deep
section
variable {H : Type} {enc : TypeId × Value → H} {W : World}
set_option maxRecDepth 100000 in
/-- a slice of bytes -/
theorem open_bytes {r : Reach} {b0 : Nat} {hd : Bool} {v : Value} {d : DataW H} {p : List MemPlace} (hv : Value.okWide Try.prog W r b0 54 v) (h : DataW.Trod enc Try.prog W 0 (fun _ => true) hd 54 v d p) :
    ∃ (T : Option Addr) (ts : List Int) (c : Nat), v = .slice T ts.length c ∧ U8L W T ts := by
  obtain ⟨T, len, cap, rfl⟩ := okWide_slice Try.underlying54 hv
  obtain ⟨fuel, hf⟩ := h
  rcases open_ints Try.underlying54 Try.underlying5 (by kernel_rfl) hf with ⟨hcs, _⟩ | ⟨a, l, c, zs, hcs, _, hl, hm, hz, _, hcell, hwz⟩
  · simp [Value.cells] at hcs
    obtain ⟨rfl, rfl, rfl⟩ := hcs
    exact ⟨none, [], 0, rfl, fun k x hk => by simp at hk⟩
  · simp [Value.cells] at hcs
    obtain ⟨rfl, rfl, rfl⟩ := hcs
    rw [if_pos rfl] at hz
    refine ⟨some a, zs.take len, cap, by rw [List.length_take, Nat.min_eq_left (by omega)], fun k x hk => ?_⟩
    have hkl : k < len := by have := (List.getElem?_eq_some_iff.1 hk).1; simp at this; omega
    have hc := hcell k (by omega)
    have hs : a.spot = none := by
      have := World.cell?_spot (hcell 0 (by omega))
      simpa [Addr.add] using this
    rw [add_plain' hs] at hc
    have hlt : a.block < W.heap.size := by
      unfold World.cell? at hc
      rcases Nat.lt_or_ge a.block W.heap.size with h1 | h1
      · exact h1
      · simp [Array.getElem?_eq_none h1] at hc
    have hx : x = zs.getD k 0 := by
      rw [List.getElem?_take, if_pos hkl] at hk
      simp [List.getD, hk]
    rw [← hx] at hc
    exact ⟨⟨a.block, a.off, by obtain ⟨b, o, s⟩ := a; cases hs; rfl, hlt, Nat.le_of_lt hlt, hc⟩, u8b (hwz x (by rw [hx]; simp [List.getD_eq_getElem?_getD, show k < zs.length by omega]))⟩
set_option maxRecDepth 100000 in
/-- a slice of people, as an argument -/
theorem open_folk {r : Reach} {b0 : Nat} {hd : Bool} {v : Value} {d : DataW H} {p : List MemPlace} (hv : Value.okWide Try.prog W r b0 22 v) (h : DataW.Trod enc Try.prog W 0 (fun _ => true) hd 22 v d p) :
    ∃ (A : Option Addr) (ps : List P3) (c : Nat), v = .slice A ps.length c ∧ Ppl W A ps ∧ ∀ p, p ∈ ps → wfP p := by
  obtain ⟨A, len, cap, rfl⟩ := okWide_slice Try.underlying22 hv
  obtain ⟨fuel, hf⟩ := h
  obtain ⟨ps, rfl, hP, hw⟩ := open_people hf
  exact ⟨A, ps, cap, rfl, hP, hw⟩
end
end Go.Proofs.Ytbfhkknpocbeaaa
