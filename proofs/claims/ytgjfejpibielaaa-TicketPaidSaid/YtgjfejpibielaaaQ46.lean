/- Proved here: the opening of the arguments; the opening of ranges, a part of the proofs about the ticket laws. Conditions: those that each theorem names, no others. -/
import Derived.Test.YtgjfejpibielaaaQ42
import Derived.Test.YtgjfejpibielaaaRows
import Derived.ProofKit
import Derived.OpenShut
import Derived.ShutString
import Derived.ChangeOld
import Derived.Below
import Derived.Deep.Slices
import Derived.Deep.SlicePairs
import Derived.Lib.SmallJoins
set_option linter.unusedSimpArgs false
set_option linter.unusedVariables false
namespace Go.Proofs.Ytgjfejpibielaaa
open Go.ChangeShapes Go.WideShapes Go.ChangeAt Go.RowKit Go.Joins Go.Deep
theorem Try.own : ownKnob Try.prog.godebug = none := by kernel_rfl
theorem Try.laidOut : laidOutB Try.prog = true := by kernel_rfl
section
variable {H : Type} {enc : TypeId × Value → H} {W : World}
theorem add_plain' {a : Addr} (h : a.spot = none) (n : Nat) : a.add n = ⟨a.block, a.off + n, none⟩ := by
 obtain ⟨b, o, s⟩ := a; cases h; exact add_none b o n
set_option maxRecDepth 100000 in
/-- a slice of integers of 64 bits -/
theorem open_nums {hd : Bool} {fuel : Nat} {A : Option Addr} {len cap : Nat} {x : DataW H × List MemPlace} (h : DataW.trod enc Try.prog W 0 (fun _ => true) hd fuel 22 [.slice A len cap] = some x) :
 ∃ xs : List Int, xs.length = len ∧ I64 W A xs ∧ xs.length ≤ cap ∧ cap ≤ 9223372036854775807 ∧ ∀ n, n ∈ xs → (Lit.int .i64 n).wf = true := by
 rcases open_ints Try.underlying22 Try.underlying3 (by kernel_rfl) h with ⟨hcs, _⟩ | ⟨a, l, c, zs, hcs, _, hl, hm, hz, _, hcell, hwz⟩
 · simp at hcs
   obtain ⟨rfl, rfl, rfl⟩ := hcs
   exact ⟨[], rfl, fun k x hk => by simp at hk, by simp, by simp, by simp⟩
 · simp at hcs
   obtain ⟨rfl, rfl, rfl⟩ := hcs
   rw [if_pos rfl] at hz
   refine ⟨zs.take len, by rw [List.length_take, Nat.min_eq_left (by omega)], fun k x hk => ?_, by rw [List.length_take]; omega, by unfold maxLen at hm; omega, fun n hn => hwz n (List.mem_of_mem_take hn)⟩
   have hkl : k < len := by have := (List.getElem?_eq_some_iff.1 hk).1; simp at this; omega
   have hc := hcell k (by omega)
   have hs : a.spot = none := by
    have := World.cell?_spot (hcell 0 (by omega))
    simpa [Addr.add] using this
   rw [add_plain' hs] at hc
   have hlt : a.block < W.heap.size := by
    unfold World.cell? at hc
    rcases Nat.lt_or_ge a.block W.heap.size with h1 | h1
    · exact h1
    · simp [Array.getElem?_eq_none h1] at hc
   have hx : x = zs.getD k 0 := by
    rw [List.getElem?_take, if_pos hkl] at hk
    simp [List.getD, hk]
   rw [← hx] at hc
   exact ⟨a.block, a.off, by obtain ⟨b, o, s⟩ := a; cases hs; rfl, hlt, Nat.le_of_lt hlt, hc⟩
theorem slice_form {hd : Bool} {fuel : Nat} {t e : TypeId} {v : Value} {x : DataW H × List MemPlace} (ht : Try.prog.underlying t = some (.slice e)) (h : DataW.trod enc Try.prog W 0 (fun _ => true) hd fuel t [v] = some x) : ∃ A len c, v = .slice A len c := by
 rcases open_slice ht h with ⟨hcs, _⟩ | ⟨a, l, c, _, _, _, _, hcs, _⟩
 · simp at hcs; exact ⟨none, 0, 0, hcs⟩
 · simp at hcs; exact ⟨some a, l, c, hcs⟩
set_option maxRecDepth 100000 in
/-- a day -/
theorem open_day {r : Reach} {b0 : Nat} {hd : Bool} {v : Value} {d : DataW H} {p : List MemPlace} (hv : Value.okWide Try.prog W r b0 24 v) (h : DataW.Trod enc Try.prog W 0 (fun _ => true) hd 24 v d p) :
 ∃ (L n : Int) (A : Option Addr) (K : List Int) (c : Nat) (q : Int), v = .agg #[.int .i64 L, .int .i64 n, .slice A K.length c, .int .i64 q] ∧ I64 W A K ∧ K.length ≤ c ∧ c ≤ 9223372036854775807 := by
 obtain ⟨cs, rfl, hsz⟩ := okWide_struct Try.underlying24 hv
 obtain ⟨fuel, hf⟩ := h
 rw [show Try.prog.cellsOf 24 = 4 by kernel_rfl] at hsz
 obtain ⟨l⟩ := cs
 match l, hsz with
 | [v0, v1, v2, v3], _ =>
   obtain ⟨y0, y1, y2, y3, n, -, -, hy0, hy1, hy2, hy3⟩ := trod_struct4 Try.underlying24 hf
   have c22 : Try.prog.cellsOf 22 = 1 := by kernel_rfl
   have c3 : Try.prog.cellsOf 3 = 1 := by kernel_rfl
   have h0 : DataW.trod enc Try.prog W 0 (fun _ => true) hd n 3 [v0] = some y0 := by simpa [Value.cells, c22, c3] using hy0
   have h1 : DataW.trod enc Try.prog W 0 (fun _ => true) hd n 3 [v1] = some y1 := by simpa [Value.cells, c22, c3] using hy1
   have h2 : DataW.trod enc Try.prog W 0 (fun _ => true) hd n 22 [v2] = some y2 := by simpa [Value.cells, c22, c3] using hy2
   have h3 : DataW.trod enc Try.prog W 0 (fun _ => true) hd n 3 [v3] = some y3 := by simpa [Value.cells, c22, c3] using hy3
   obtain ⟨A, len, c, rfl⟩ := slice_form Try.underlying22 h2
   obtain ⟨xs, rfl, hI, hc, hc9, _⟩ := open_nums h2
   obtain ⟨a0, e0, -, _⟩ := DataW.trod_int Try.underlying3 h0
   obtain ⟨a1, e1, -, _⟩ := DataW.trod_int Try.underlying3 h1
   obtain ⟨a3, e3, -, _⟩ := DataW.trod_int Try.underlying3 h3
   simp at e0 e1 e3
   subst e0 e1 e3
   exact ⟨a0, a1, A, xs, c, a3, rfl, hI, hc, hc9⟩
set_option maxRecDepth 100000 in
theorem open_list {r : Reach} {b0 : Nat} {hd : Bool} {v : Value} {d : DataW H} {p : List MemPlace} (hv : Value.okWide Try.prog W r b0 22 v) (h : DataW.Trod enc Try.prog W 0 (fun _ => true) hd 22 v d p) :
 ∃ (T : Option Addr) (ts : List Int) (c : Nat), v = .slice T ts.length c ∧ I64 W T ts ∧ ts.length ≤ c ∧ c ≤ 9223372036854775807 ∧ ∀ n, n ∈ ts → (Lit.int .i64 n).wf = true := by
 obtain ⟨T, len, cap, rfl⟩ := okWide_slice Try.underlying22 hv
 obtain ⟨fuel, hf⟩ := h
 obtain ⟨xs, rfl, hI, hc, hc9, hw⟩ := open_nums (hd := hd) (by simpa [Value.cells] using hf)
 exact ⟨T, xs, cap, rfl, hI, hc, hc9, hw⟩
end
end Go.Proofs.Ytgjfejpibielaaa
namespace Go.Proofs.Ytgjfejpibielaaa
open Go.ChangeShapes Go.WideShapes Go.ChangeAt Go.RowKit Go.Joins Go.Deep
section
variable {H : Type} {enc : TypeId × Value → H} {W : World}
theorem cell_in {b o : Nat} {v : Value} (h : W.cell? ⟨b, o, none⟩ = some v) : b < W.heap.size := by
 unfold World.cell? at h
 rcases Nat.lt_or_ge b W.heap.size with h1 | h1
 · exact h1
 · simp [Array.getElem?_eq_none h1] at h
end
end Go.Proofs.Ytgjfejpibielaaa
