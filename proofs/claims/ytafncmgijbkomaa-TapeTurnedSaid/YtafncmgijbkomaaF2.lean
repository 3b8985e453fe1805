/- Proved here: how bytes, words and impulses are opened, a part of the proofs about the tape laws. Conditions: those that each theorem names, no others. -/
import Derived.Test.YtafncmgijbkomaaP31
set_option linter.unusedSimpArgs false
set_option linter.unusedVariables false
namespace Go.Proofs.Ytafncmgijbkomaa
open Go.ChangeShapes Go.WideShapes Go.ChangeAt Go.RowKit Go.Joins Go.Deep
theorem u8b {n : Int} (h : (Lit.int .u8 n).wf = true) : 0 ≤ n ∧ n ≤ 255 := by
  simp only [Lit.wf, Bool.and_eq_true, decide_eq_true_eq] at h
  exact h
theorem u32b {n : Int} (h : (Lit.int .u32 n).wf = true) : 0 ≤ n ∧ n ≤ 4294967295 := by
  simp only [Lit.wf, Bool.and_eq_true, decide_eq_true_eq] at h
  exact h
theorem u8_nat {b : Int} (h : (Lit.int .u8 b).wf = true) : ∃ n : Nat, b = (n : Int) ∧ n < 256 := by
  have := u8b h
  exact ⟨b.toNat, by omega, by omega⟩
/-- numbers of a kind, in a slice -/
def NL (k : IntKind) (m : Int) (w : World) (A : Option Addr) (xs : List Int) : Prop :=
  ∀ j x, xs[j]? = some x → (∃ b off, A = some ⟨b, off, none⟩ ∧ b < w.heap.size ∧ b ≤ w.heap.size ∧ w.cell? ⟨b, off + j, none⟩ = some (.int k x)) ∧ (0 ≤ x ∧ x ≤ m)
theorem NL.ext {k : IntKind} {m : Int} {w w' : World} {A : Option Addr} {xs : List Int} (h : NL k m w A xs) (hb : Below w.heap.size w w') : NL k m w' A xs := fun j p hk => by
  obtain ⟨⟨b, off, h0, h1, h2, h3⟩, hr⟩ := h j p hk
  have hs := hb.size
  exact ⟨⟨b, off, h0, by omega, by omega, (hb.cell (p := ⟨b, _, none⟩) h1).trans h3⟩, hr⟩
section
variable {H : Type} {enc : TypeId × Value → H} {W : World}
set_option maxRecDepth 100000 in
/-- a slice of bytes -/
theorem open_bytes {r : Reach} {b0 : Nat} {hd : Bool} {v : Value} {d : DataW H} {p : List MemPlace} (hv : Value.okWide Try.prog W r b0 57 v) (h : DataW.Trod enc Try.prog W 0 (fun _ => true) hd 57 v d p) :
    ∃ (T : Option Addr) (ts : List Int) (c : Nat), v = .slice T ts.length c ∧ NL .u8 255 W T ts := by
  obtain ⟨T, len, cap, rfl⟩ := okWide_slice Try.underlying57 hv
  obtain ⟨fuel, hf⟩ := h
  rcases open_ints Try.underlying57 Try.underlying5 (by kernel_rfl) hf with ⟨hcs, _⟩ | ⟨a, l, c, zs, hcs, _, hl, hm, hz, _, hcell, hwz⟩
  · simp [Value.cells] at hcs
    obtain ⟨rfl, rfl, rfl⟩ := hcs
    exact ⟨none, [], 0, rfl, fun k x hk => by simp at hk⟩
  · simp [Value.cells] at hcs
    obtain ⟨rfl, rfl, rfl⟩ := hcs
    rw [if_pos rfl] at hz
    refine ⟨some a, zs.take len, cap, by rw [List.length_take, Nat.min_eq_left (by omega)], fun k x hk => ?_⟩
    have hkl : k < len := by have := (List.getElem?_eq_some_iff.1 hk).1; simp at this; omega
    have hc := hcell k (by omega)
    have hs : a.spot = none := by
      have := World.cell?_spot (hcell 0 (by omega))
      simpa [Addr.add] using this
    rw [add_plain' hs] at hc
    have hlt : a.block < W.heap.size := by
      unfold World.cell? at hc
      rcases Nat.lt_or_ge a.block W.heap.size with h1 | h1
      · exact h1
      · simp [Array.getElem?_eq_none h1] at hc
    have hx : x = zs.getD k 0 := by
      rw [List.getElem?_take, if_pos hkl] at hk
      simp [List.getD, hk]
    rw [← hx] at hc
    exact ⟨⟨a.block, a.off, by obtain ⟨b, o, s⟩ := a; cases hs; rfl, hlt, Nat.le_of_lt hlt, hc⟩, u8b (hwz x (by rw [hx]; simp [List.getD_eq_getElem?_getD, show k < zs.length by omega]))⟩
set_option maxRecDepth 100000 in
/-- a slice of words -/
theorem open_words {r : Reach} {b0 : Nat} {hd : Bool} {v : Value} {d : DataW H} {p : List MemPlace} (hv : Value.okWide Try.prog W r b0 64 v) (h : DataW.Trod enc Try.prog W 0 (fun _ => true) hd 64 v d p) :
    ∃ (T : Option Addr) (ts : List Int) (c : Nat), v = .slice T ts.length c ∧ NL .u32 4294967295 W T ts := by
  obtain ⟨T, len, cap, rfl⟩ := okWide_slice Try.underlying64 hv
  obtain ⟨fuel, hf⟩ := h
  rcases open_ints Try.underlying64 Try.underlying68 (by kernel_rfl) hf with ⟨hcs, _⟩ | ⟨a, l, c, zs, hcs, _, hl, hm, hz, _, hcell, hwz⟩
  · simp [Value.cells] at hcs
    obtain ⟨rfl, rfl, rfl⟩ := hcs
    exact ⟨none, [], 0, rfl, fun k x hk => by simp at hk⟩
  · simp [Value.cells] at hcs
    obtain ⟨rfl, rfl, rfl⟩ := hcs
    rw [if_pos rfl] at hz
    refine ⟨some a, zs.take len, cap, by rw [List.length_take, Nat.min_eq_left (by omega)], fun k x hk => ?_⟩
    have hkl : k < len := by have := (List.getElem?_eq_some_iff.1 hk).1; simp at this; omega
    have hc := hcell k (by omega)
    have hs : a.spot = none := by
      have := World.cell?_spot (hcell 0 (by omega))
      simpa [Addr.add] using this
    rw [add_plain' hs] at hc
    have hlt : a.block < W.heap.size := by
      unfold World.cell? at hc
      rcases Nat.lt_or_ge a.block W.heap.size with h1 | h1
      · exact h1
      · simp [Array.getElem?_eq_none h1] at hc
    have hx : x = zs.getD k 0 := by
      rw [List.getElem?_take, if_pos hkl] at hk
      simp [List.getD, hk]
    rw [← hx] at hc
    exact ⟨⟨a.block, a.off, by obtain ⟨b, o, s⟩ := a; cases hs; rfl, hlt, Nat.le_of_lt hlt, hc⟩, u32b (hwz x (by rw [hx]; simp [List.getD_eq_getElem?_getD, show k < zs.length by omega]))⟩
set_option maxRecDepth 100000 in
/-- an impulse -/
theorem open_impulse {r : Reach} {b0 : Nat} {hd : Bool} {v : Value} {d : DataW H} {p : List MemPlace} (hv : Value.okWide Try.prog W r b0 54 v) (h : DataW.Trod enc Try.prog W 0 (fun _ => true) hd 54 v d p) :
    ∃ (a : Nat) (n : Int), v = .agg #[.int .u8 (a : Nat), .int .i64 n] ∧ a < 256 := by
  obtain ⟨v0, v1, y0, y1, n, rfl, -, -, h0, h1⟩ := open_agg2 Try.underlying54 (by kernel_rfl) (by kernel_rfl) hv h
  obtain ⟨a, e0, -, w0⟩ := DataW.trod_int Try.underlying5 h0
  obtain ⟨m, e1, -, w1⟩ := DataW.trod_int Try.underlying3 h1
  simp at e0 e1
  subst e0
  subst e1
  obtain ⟨k, rfl, hk⟩ := u8_nat w0
  exact ⟨k, m, rfl, hk⟩
end
end Go.Proofs.Ytafncmgijbkomaa
