/- Proved here: the opening of bytes, a part of the proofs about the ticket laws. Conditions: those that each theorem names, no others. -/
import Derived.Test.YtgjfejpibielaaaQ46
import Derived.Test.YtgjfejpibielaaaO2
set_option linter.unusedSimpArgs false
set_option linter.unusedVariables false
namespace Go.Proofs.Ytgjfejpibielaaa
open Go.ChangeShapes Go.WideShapes Go.ChangeAt Go.RowKit Go.Joins Go.Deep
theorem u8_nat {b : Int} (h : (Lit.int .u8 b).wf = true) : ∃ n : Nat, b = (n : Int) ∧ n < 256 := by
  simp only [Lit.wf, Bool.and_eq_true, decide_eq_true_eq] at h
  have h1 : b ≤ 255 := h.2
  have h3 : 0 ≤ b := h.1
  exact ⟨b.toNat, by omega, by omega⟩
theorem u16_nat {b : Int} (h : (Lit.int .u16 b).wf = true) : ∃ n : Nat, b = (n : Int) ∧ n < 65536 := by
  simp only [Lit.wf, Bool.and_eq_true, decide_eq_true_eq] at h
  have h1 : b ≤ 65535 := h.2
  have h3 : 0 ≤ b := h.1
  exact ⟨b.toNat, by omega, by omega⟩
section
variable {H : Type} {enc : TypeId × Value → H} {W : World}
set_option maxRecDepth 100000 in
/-- a slice of bytes -/
theorem open_u8s {hd : Bool} {fuel : Nat} {A : Option Addr} {len cap : Nat} {x : DataW H × List MemPlace} (h : DataW.trod enc Try.prog W 0 (fun _ => true) hd fuel 62 [.slice A len cap] = some x) :
    ∃ bs : List Nat, bs.length = len ∧ U8 W A bs ∧ bs.length ≤ cap ∧ cap ≤ 9223372036854775807 := by
  rcases open_ints Try.underlying62 Try.underlying5 (by kernel_rfl) h with ⟨hcs, _⟩ | ⟨a, l, c, zs, hcs, _, hl, hm, hz, _, hcell, hwz⟩
  · simp at hcs
    obtain ⟨rfl, rfl, rfl⟩ := hcs
    exact ⟨[], rfl, fun k x hk => by simp at hk, by simp, by simp⟩
  · simp at hcs
    obtain ⟨rfl, rfl, rfl⟩ := hcs
    rw [if_pos rfl] at hz
    refine ⟨(zs.take len).map Int.toNat, by rw [List.length_map, List.length_take, Nat.min_eq_left (by omega)], fun k x hk => ?_, by rw [List.length_map, List.length_take]; omega, by unfold maxLen at hm; omega⟩
    have hkl : k < len := by have := (List.getElem?_eq_some_iff.1 hk).1; simp at this; omega
    have hc := hcell k (by omega)
    have hs : a.spot = none := by
      have := World.cell?_spot (hcell 0 (by omega))
      simpa [Addr.add] using this
    rw [add_plain' hs] at hc
    have hlt : a.block < W.heap.size := cell_in hc
    obtain ⟨n, hn, hn2⟩ := u8_nat (hwz (zs.getD k 0) (by simp [List.getD_eq_getElem?_getD, show k < zs.length by omega]))
    have hx : x = n := by
      rw [List.getElem?_map, List.getElem?_take, if_pos hkl, List.getElem?_eq_getElem (by omega)] at hk
      simp only [Option.map_some, Option.some.injEq] at hk
      rw [List.getD_eq_getElem?_getD, List.getElem?_eq_getElem (by omega), Option.getD_some] at hn
      rw [← hk, hn]; simp
    rw [hn] at hc
    subst hx
    exact ⟨⟨a.block, a.off, by obtain ⟨b, o, s⟩ := a; cases hs; rfl, hlt, hc⟩, hn2⟩
set_option maxRecDepth 100000 in
theorem open_bytes {r : Reach} {b0 : Nat} {hd : Bool} {v : Value} {d : DataW H} {p : List MemPlace} (hv : Value.okWide Try.prog W r b0 62 v) (h : DataW.Trod enc Try.prog W 0 (fun _ => true) hd 62 v d p) :
    ∃ (B : Option Addr) (bs : List Nat) (c : Nat), v = .slice B bs.length c ∧ U8 W B bs ∧ bs.length ≤ c ∧ c ≤ 9223372036854775807 := by
  obtain ⟨T, len, cap, rfl⟩ := okWide_slice Try.underlying62 hv
  obtain ⟨fuel, hf⟩ := h
  obtain ⟨bs, rfl, hI, hc, hc9⟩ := open_u8s (hd := hd) (by simpa [Value.cells] using hf)
  exact ⟨T, bs, cap, rfl, hI, hc, hc9⟩
end
end Go.Proofs.Ytgjfejpibielaaa
