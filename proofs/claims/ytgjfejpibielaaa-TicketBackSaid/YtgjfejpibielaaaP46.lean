/- Proved here: the opening of the arguments; the opening of ranges, a part of the proofs about the ticket laws. Conditions: those that each theorem names, no others. -/
import Derived.Test.YtgjfejpibielaaaP42
import Derived.Test.YtgjfejpibielaaaRows
import Derived.ProofKit
import Derived.OpenShut
import Derived.ShutString
import Derived.ChangeOld
import Derived.Below
import Derived.Deep.Slices
import Derived.Deep.SlicePairs
import Derived.Lib.SmallJoins
set_option linter.unusedSimpArgs false
set_option linter.unusedVariables false
namespace Go.Proofs.Ytgjfejpibielaaa
open Go.ChangeShapes Go.WideShapes Go.ChangeAt Go.RowKit Go.Joins Go.Deep
theorem Try.own : ownKnob Try.prog.godebug = none := by kernel_rfl
theorem Try.laidOut : laidOutB Try.prog = true := by kernel_rfl
theorem list_of {α : Type} {R : Nat → α → Prop} (n : Nat) (h : ∀ i, i < n → ∃ x, R i x) : ∃ l : List α, l.length = n ∧ ∀ i x, l[i]? = some x → R i x := by
 induction n with
 | zero => exact ⟨[], rfl, by simp⟩
 | succ n ih =>
   obtain ⟨l, hl, hr⟩ := ih (fun i hi => h i (by omega))
   obtain ⟨x, hx⟩ := h n (by omega)
   refine ⟨l ++ [x], by simp [hl], fun i y hy => ?_⟩
   by_cases e : i < n
   · rw [List.getElem?_append_left (by omega)] at hy; exact hr i y hy
   · have : i = n := by have := (List.getElem?_eq_some_iff.1 hy).1; simp at this; omega
     subst this
     rw [List.getElem?_append_right (by omega), hl] at hy
     simp at hy
     subst hy
     exact hx
section
variable {H : Type} {enc : TypeId × Value → H} {W : World}
theorem add_plain' {a : Addr} (h : a.spot = none) (n : Nat) : a.add n = ⟨a.block, a.off + n, none⟩ := by
 obtain ⟨b, o, s⟩ := a; cases h; exact add_none b o n
set_option maxRecDepth 100000 in
/-- a slice of integers of 64 bits -/
theorem open_nums {hd : Bool} {fuel : Nat} {A : Option Addr} {len cap : Nat} {x : DataW H × List MemPlace} (h : DataW.trod enc Try.prog W 0 (fun _ => true) hd fuel 22 [.slice A len cap] = some x) :
 ∃ xs : List Int, xs.length = len ∧ I64 W A xs ∧ xs.length ≤ cap ∧ cap ≤ 9223372036854775807 ∧ ∀ n, n ∈ xs → (Lit.int .i64 n).wf = true := by
 rcases open_ints Try.underlying22 Try.underlying3 (by kernel_rfl) h with ⟨hcs, _⟩ | ⟨a, l, c, zs, hcs, _, hl, hm, hz, _, hcell, hwz⟩
 · simp at hcs
   obtain ⟨rfl, rfl, rfl⟩ := hcs
   exact ⟨[], rfl, fun k x hk => by simp at hk, by simp, by simp, by simp⟩
 · simp at hcs
   obtain ⟨rfl, rfl, rfl⟩ := hcs
   rw [if_pos rfl] at hz
   refine ⟨zs.take len, by rw [List.length_take, Nat.min_eq_left (by omega)], fun k x hk => ?_, by rw [List.length_take]; omega, by unfold maxLen at hm; omega, fun n hn => hwz n (List.mem_of_mem_take hn)⟩
   have hkl : k < len := by have := (List.getElem?_eq_some_iff.1 hk).1; simp at this; omega
   have hc := hcell k (by omega)
   have hs : a.spot = none := by
    have := World.cell?_spot (hcell 0 (by omega))
    simpa [Addr.add] using this
   rw [add_plain' hs] at hc
   have hlt : a.block < W.heap.size := by
    unfold World.cell? at hc
    rcases Nat.lt_or_ge a.block W.heap.size with h1 | h1
    · exact h1
    · simp [Array.getElem?_eq_none h1] at hc
   have hx : x = zs.getD k 0 := by
    rw [List.getElem?_take, if_pos hkl] at hk
    simp [List.getD, hk]
   rw [← hx] at hc
   exact ⟨a.block, a.off, by obtain ⟨b, o, s⟩ := a; cases hs; rfl, hlt, Nat.le_of_lt hlt, hc⟩
theorem slice_form {hd : Bool} {fuel : Nat} {t e : TypeId} {v : Value} {x : DataW H × List MemPlace} (ht : Try.prog.underlying t = some (.slice e)) (h : DataW.trod enc Try.prog W 0 (fun _ => true) hd fuel t [v] = some x) : ∃ A len c, v = .slice A len c := by
 rcases open_slice ht h with ⟨hcs, _⟩ | ⟨a, l, c, _, _, _, _, hcs, _⟩
 · simp at hcs; exact ⟨none, 0, 0, hcs⟩
 · simp at hcs; exact ⟨some a, l, c, hcs⟩
set_option maxRecDepth 100000 in
/-- a day -/
theorem open_day {r : Reach} {b0 : Nat} {hd : Bool} {v : Value} {d : DataW H} {p : List MemPlace} (hv : Value.okWide Try.prog W r b0 24 v) (h : DataW.Trod enc Try.prog W 0 (fun _ => true) hd 24 v d p) :
 ∃ (L n : Int) (A : Option Addr) (K : List Int) (c : Nat) (q : Int), v = .agg #[.int .i64 L, .int .i64 n, .slice A K.length c, .int .i64 q] ∧ I64 W A K ∧ K.length ≤ c ∧ c ≤ 9223372036854775807 := by
 obtain ⟨cs, rfl, hsz⟩ := okWide_struct Try.underlying24 hv
 obtain ⟨fuel, hf⟩ := h
 rw [show Try.prog.cellsOf 24 = 4 by kernel_rfl] at hsz
 obtain ⟨l⟩ := cs
 match l, hsz with
 | [v0, v1, v2, v3], _ =>
   obtain ⟨y0, y1, y2, y3, n, -, -, hy0, hy1, hy2, hy3⟩ := trod_struct4 Try.underlying24 hf
   have c22 : Try.prog.cellsOf 22 = 1 := by kernel_rfl
   have c3 : Try.prog.cellsOf 3 = 1 := by kernel_rfl
   have h0 : DataW.trod enc Try.prog W 0 (fun _ => true) hd n 3 [v0] = some y0 := by simpa [Value.cells, c22, c3] using hy0
   have h1 : DataW.trod enc Try.prog W 0 (fun _ => true) hd n 3 [v1] = some y1 := by simpa [Value.cells, c22, c3] using hy1
   have h2 : DataW.trod enc Try.prog W 0 (fun _ => true) hd n 22 [v2] = some y2 := by simpa [Value.cells, c22, c3] using hy2
   have h3 : DataW.trod enc Try.prog W 0 (fun _ => true) hd n 3 [v3] = some y3 := by simpa [Value.cells, c22, c3] using hy3
   obtain ⟨A, len, c, rfl⟩ := slice_form Try.underlying22 h2
   obtain ⟨xs, rfl, hI, hc, hc9, _⟩ := open_nums h2
   obtain ⟨a0, e0, -, _⟩ := DataW.trod_int Try.underlying3 h0
   obtain ⟨a1, e1, -, _⟩ := DataW.trod_int Try.underlying3 h1
   obtain ⟨a3, e3, -, _⟩ := DataW.trod_int Try.underlying3 h3
   simp at e0 e1 e3
   subst e0 e1 e3
   exact ⟨a0, a1, A, xs, c, a3, rfl, hI, hc, hc9⟩
set_option maxRecDepth 100000 in
theorem open_list {r : Reach} {b0 : Nat} {hd : Bool} {v : Value} {d : DataW H} {p : List MemPlace} (hv : Value.okWide Try.prog W r b0 22 v) (h : DataW.Trod enc Try.prog W 0 (fun _ => true) hd 22 v d p) :
 ∃ (T : Option Addr) (ts : List Int) (c : Nat), v = .slice T ts.length c ∧ I64 W T ts ∧ ts.length ≤ c ∧ c ≤ 9223372036854775807 ∧ ∀ n, n ∈ ts → (Lit.int .i64 n).wf = true := by
 obtain ⟨T, len, cap, rfl⟩ := okWide_slice Try.underlying22 hv
 obtain ⟨fuel, hf⟩ := h
 obtain ⟨xs, rfl, hI, hc, hc9, hw⟩ := open_nums (hd := hd) (by simpa [Value.cells] using hf)
 exact ⟨T, xs, cap, rfl, hI, hc, hc9, hw⟩
end
end Go.Proofs.Ytgjfejpibielaaa
namespace Go.Proofs.Ytgjfejpibielaaa
open Go.ChangeShapes Go.WideShapes Go.ChangeAt Go.RowKit Go.Joins Go.Deep
section
variable {H : Type} {enc : TypeId × Value → H} {W : World}
theorem cell_in {b o : Nat} {v : Value} (h : W.cell? ⟨b, o, none⟩ = some v) : b < W.heap.size := by
 unfold World.cell? at h
 rcases Nat.lt_or_ge b W.heap.size with h1 | h1
 · exact h1
 · simp [Array.getElem?_eq_none h1] at h
set_option maxRecDepth 100000 in
/-- a slice of ranges -/
theorem open_ranges {r : Reach} {b0 : Nat} {hd : Bool} {v : Value} {d : DataW H} {p : List MemPlace} (hv : Value.okWide Try.prog W r b0 35 v) (h : DataW.Trod enc Try.prog W 0 (fun _ => true) hd 35 v d p) :
 ∃ (D : Option Addr) (rs : List (Int × Int)) (c : Nat), v = .slice D rs.length c ∧ Rng W D rs ∧ rs.length ≤ c ∧ c ≤ 9223372036854775807 := by
 obtain ⟨T, len, cap, rfl⟩ := okWide_slice Try.underlying35 hv
 obtain ⟨fuel, hf⟩ := h
 rcases open_slice_pairs Try.underlying35 Try.underlying74 (by kernel_rfl) (by kernel_rfl) (by kernel_rfl) (by kernel_rfl) (by kernel_rfl) (by simpa [Value.cells] using hf) with ⟨hcs, _⟩ | ⟨a, l, c, m, n, V0, V1, D0, D1, P0, P1, hcs, _, hl, hm, hmm, _, hi⟩
 · simp at hcs
   obtain ⟨rfl, rfl, rfl⟩ := hcs
   exact ⟨none, [], 0, rfl, ⟨rfl, fun h => by simp at h⟩, by simp, by simp⟩
 · simp at hcs
   obtain ⟨rfl, rfl, rfl⟩ := hcs
   rw [if_pos rfl] at hmm
   subst hmm
   obtain ⟨rs, hpl, hps⟩ := list_of (R := fun i (t : Int × Int) => W.cell? (a.add (i * 2)) = some (.int .i64 t.1) ∧ W.cell? (a.add (i * 2 + 1)) = some (.int .i64 t.2)) len (fun i hil => by
    obtain ⟨h0, h1, h2, h3⟩ := hi i (by omega)
    obtain ⟨u, e1, -, w1⟩ := DataW.trod_int Try.underlying2 h2
    obtain ⟨z, e2, -, w2⟩ := DataW.trod_int Try.underlying2 h3
    simp at e1 e2
    rw [e1] at h0
    rw [e2] at h1
    exact ⟨(u, z), h0, h1⟩)
   refine ⟨some a, rs, _, by rw [hpl], ⟨rngC_len rs, fun h0 => ?_⟩, by omega, by unfold maxLen at hm; omega⟩
   have hs : a.spot = none := by
    have g0 := (hps 0 (rs[0]'(by omega)) (by rw [List.getElem?_eq_getElem])).1
    have := World.cell?_spot g0
    simpa [Addr.add] using this
   have hat : ∀ k (hk : k < rs.length), W.cell? ⟨a.block, a.off + k * 2, none⟩ = some (.int .i64 rs[k].1) ∧ W.cell? ⟨a.block, a.off + (k * 2 + 1), none⟩ = some (.int .i64 rs[k].2) := fun k hk => by
    obtain ⟨g0, g1⟩ := hps k rs[k] (by simp [hk])
    rw [add_plain' hs] at g0 g1
    exact ⟨g0, g1⟩
   refine ⟨a.block, a.off, by obtain ⟨b, o, s⟩ := a; cases hs; rfl, cell_in (hat 0 h0).1, fun j u hu => ?_⟩
   have hj : j < rs.length * 2 := by rw [← rngC_len]; exact (List.getElem?_eq_some_iff.1 hu).1
   have hk : j / 2 < rs.length := by omega
   obtain ⟨q0, q1⟩ := rngC_at rs[j / 2] rs (j / 2) (by simp [hk])
   obtain ⟨g0, g1⟩ := hat (j / 2) hk
   rcases Nat.mod_two_eq_zero_or_one j with hz | hz
   · have e : j / 2 * 2 = j := by omega
     rw [e] at q0 g0
     rw [q0] at hu
     rw [← Option.some.inj hu]; exact g0
   · have e : j / 2 * 2 + 1 = j := by omega
     rw [e] at q1 g1
     rw [q1] at hu
     rw [← Option.some.inj hu]; exact g1
set_option maxRecDepth 100000 in
/-- a slice of slices of numbers -/
theorem open_rows {r : Reach} {b0 : Nat} {hd : Bool} {v : Value} {d : DataW H} {p : List MemPlace} (hv : Value.okWide Try.prog W r b0 49 v) (h : DataW.Trod enc Try.prog W 0 (fun _ => true) hd 49 v d p) :
 ∃ (Y : Option Addr) (rows : List LRow) (c : Nat), v = .slice Y rows.length c ∧ Lst W Y rows ∧ rows.length ≤ c ∧ c ≤ 9223372036854775807 ∧ ∀ r, r ∈ rows → r.2.1.length ≤ 9223372036854775807 := by
 obtain ⟨T, len, cap, rfl⟩ := okWide_slice Try.underlying49 hv
 obtain ⟨fuel, hf⟩ := h
 have c22 : Try.prog.cellsOf 22 = 1 := by kernel_rfl
 rcases open_slice Try.underlying49 (by simpa [Value.cells] using hf) with ⟨hcs, _⟩ | ⟨a, l, c, m, n, D, Pl, hcs, _, hl, hm, hmm, _, hi⟩
 · simp at hcs
   obtain ⟨rfl, rfl, rfl⟩ := hcs
   exact ⟨none, [], 0, rfl, ⟨⟨rfl, fun h => by simp at h⟩, fun r hr => by cases hr⟩, by simp, by simp, fun r hr => by cases hr⟩
 · simp at hcs
   obtain ⟨rfl, rfl, rfl⟩ := hcs
   rw [if_pos rfl] at hmm
   subst hmm
   rw [c22] at hi
   obtain ⟨rows, hpl, hps⟩ := list_of (R := fun i (t : LRow) => W.cell? (a.add (i * 1)) = some (cellL t) ∧ I64 W t.1 t.2.1 ∧ t.2.1.length ≤ 9223372036854775807) len (fun i hil => by
    obtain ⟨cs', h0, h1⟩ := hi i (by omega)
    have hcs : ∃ A len c, cs' = [Value.slice A len c] := by
     rcases open_slice Try.underlying22 h1 with ⟨hcs, _⟩ | ⟨a, l, c, _, _, _, _, hcs, _⟩
     · exact ⟨none, 0, 0, hcs⟩
     · exact ⟨some a, l, c, hcs⟩
    obtain ⟨A, ln, k, rfl⟩ := hcs
    obtain ⟨xs, rfl, hI, hxc, hc9, _⟩ := open_nums h1
    exact ⟨(A, xs, k), cell_of_cells?_one h0, hI, by simp only; omega⟩)
   refine ⟨some a, rows, _, by rw [hpl], ⟨⟨by simp, fun h0 => ?_⟩, fun r hr => ?_⟩, by omega, by unfold maxLen at hm; omega, fun r hr => ?_⟩
   · have hs : a.spot = none := by
      have g0 := (hps 0 (rows[0]'(by omega)) (by rw [List.getElem?_eq_getElem])).1
      have := World.cell?_spot g0
      simpa [Addr.add] using this
     have hat : ∀ k (hk : k < rows.length), W.cell? ⟨a.block, a.off + k, none⟩ = some (cellL rows[k]) := fun k hk => by
      have g0 := (hps k rows[k] (by simp [hk])).1
      rw [add_plain' hs, Nat.mul_one] at g0
      exact g0
     refine ⟨a.block, a.off, by obtain ⟨b, o, s⟩ := a; cases hs; rfl, cell_in (hat 0 h0), fun j u hu => ?_⟩
     rw [List.getElem?_map] at hu
     cases hr : rows[j]? with
     | none => rw [hr] at hu; cases hu
     | some x =>
       rw [hr] at hu
       obtain ⟨hj, rfl⟩ := List.getElem?_eq_some_iff.1 hr
       rw [← Option.some.inj hu]
       exact hat j hj
   · obtain ⟨i, hi2, rfl⟩ := List.getElem_of_mem hr
     exact (hps i rows[i] (by simp [hi2])).2.1
   · obtain ⟨i, hi2, rfl⟩ := List.getElem_of_mem hr
     exact (hps i rows[i] (by simp [hi2])).2.2
end
end Go.Proofs.Ytgjfejpibielaaa
