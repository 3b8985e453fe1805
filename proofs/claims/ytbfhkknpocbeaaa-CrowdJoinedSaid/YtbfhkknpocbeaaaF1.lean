/- Proved here: contracts and laws of F1, a part of the proofs about the crowd laws: what some functions of the program and of the reference compute, and plain facts about it. Conditions: those that each theorem names, no others. -/
import Derived.Test.YtbfhkknpocbeaaaC33
import Derived.Test.YtbfhkknpocbeaaaRows
import Derived.ProofKit
import Derived.OpenShut
import Derived.ShutString
import Derived.ChangeOld
import Derived.Below
import Derived.Deep.Slices
import Derived.Lib.SmallJoins
set_option linter.unusedSimpArgs false
set_option linter.unusedVariables false
namespace Go.Proofs.Ytbfhkknpocbeaaa
open Go.ChangeShapes Go.WideShapes Go.ChangeAt Go.RowKit Go.Joins Go.Deep
theorem Try.own : ownKnob Try.prog.godebug = none := by kernel_rfl
theorem Try.laidOut : laidOutB Try.prog = true := by kernel_rfl
theorem list_of {α : Type} {R : Nat → α → Prop} (n : Nat) (h : ∀ i, i < n → ∃ x, R i x) : ∃ l : List α, l.length = n ∧ ∀ i x, l[i]? = some x → R i x := by
  induction n with
  | zero => exact ⟨[], rfl, by simp⟩
  | succ n ih =>
    obtain ⟨l, hl, hr⟩ := ih (fun i hi => h i (by omega))
    obtain ⟨x, hx⟩ := h n (by omega)
    refine ⟨l ++ [x], by simp [hl], fun i y hy => ?_⟩
    by_cases e : i < n
    · rw [List.getElem?_append_left (by omega)] at hy; exact hr i y hy
    · have : i = n := by have := (List.getElem?_eq_some_iff.1 hy).1; simp at this; omega
      subst this
      rw [List.getElem?_append_right (by omega), hl] at hy
      simp at hy
      subst hy
      exact hx
section
variable {H : Type} {enc : TypeId × Value → H} {W : World}
theorem add_plain' {a : Addr} (h : a.spot = none) (n : Nat) : a.add n = ⟨a.block, a.off + n, none⟩ := by
  obtain ⟨b, o, s⟩ := a; cases h; exact add_none b o n
set_option maxRecDepth 100000 in
/-- one person -/
theorem open_person {sp : Nat → Bool} {hd : Bool} {base : Nat} {n : Nat} {cs : List Value} {x : DataW H × List MemPlace} (h : DataW.trod enc Try.prog W base sp hd n 57 cs = some x) :
    ∃ p : P3, cs = [.int .i64 p.lo, .int .i64 p.hi, .int .i64 p.un] ∧ (Lit.int .i64 p.lo).wf = true ∧ (Lit.int .i64 p.hi).wf = true ∧ (Lit.int .i64 p.un).wf = true := by
  obtain ⟨y0, y1, n1, -, hl, h0, h1⟩ := trod_struct2 Try.underlying57 h
  obtain ⟨z0, z1, n2, -, hl2, g0, g1⟩ := trod_struct2 Try.underlying36 h0
  have c3 : Try.prog.cellsOf 57 = 3 := by kernel_rfl
  have c2 : Try.prog.cellsOf 36 = 2 := by kernel_rfl
  have c1 : Try.prog.cellsOf 2 = 1 := by kernel_rfl
  obtain ⟨a0, e0, -, w0⟩ := DataW.trod_int Try.underlying2 g0
  obtain ⟨a1, e1, -, w1⟩ := DataW.trod_int Try.underlying2 g1
  obtain ⟨a2, e2, -, w2⟩ := DataW.trod_int Try.underlying2 h1
  rw [c3] at hl
  match cs, hl with
  | [v0, v1, v2], _ =>
    simp [c2, c1] at e0 e1 e2
    exact ⟨⟨a0, a1, a2⟩, by simp [e0, e1, e2], w0, w1, w2⟩
def wfP (p : P3) : Prop := (Lit.int .i64 p.lo).wf = true ∧ (Lit.int .i64 p.hi).wf = true ∧ (Lit.int .i64 p.un).wf = true
set_option maxRecDepth 100000 in
/-- a slice of people -/
theorem open_people {hd : Bool} {fuel : Nat} {A : Option Addr} {len cap : Nat} {x : DataW H × List MemPlace} (h : DataW.trod enc Try.prog W 0 (fun _ => true) hd fuel 22 [.slice A len cap] = some x) :
    ∃ ps : List P3, ps.length = len ∧ Ppl W A ps ∧ ∀ p, p ∈ ps → wfP p := by
  rcases open_slice Try.underlying22 h with ⟨hcs, _⟩ | ⟨a, l, c, m, n, D, Pl, hcs, hb, hl, hm, hmm, hx, hi⟩
  · simp at hcs
    obtain ⟨rfl, rfl, rfl⟩ := hcs
    exact ⟨[], rfl, fun k p hk => by simp at hk, by simp⟩
  · simp at hcs
    obtain ⟨rfl, rfl, rfl⟩ := hcs
    have c3 : Try.prog.cellsOf 57 = 3 := by kernel_rfl
    rw [if_pos rfl] at hmm
    subst hmm
    obtain ⟨ps, hpl, hps⟩ := list_of (R := fun i (p : P3) => (W.cell? (a.add (i * 3)) = some (.int .i64 p.lo) ∧ W.cell? (a.add (i * 3 + 1)) = some (.int .i64 p.hi) ∧ W.cell? (a.add (i * 3 + 2)) = some (.int .i64 p.un)) ∧ wfP p) len (fun i hil => by
      obtain ⟨cs', hc, ht'⟩ := hi i (by omega)
      rw [c3] at hc
      obtain ⟨p, rfl, w0, w1, w2⟩ := open_person ht'
      obtain ⟨_, _, hat⟩ := World.cells?_some hc
      have f0 := hat 0 (by omega)
      have f1 := hat 1 (by omega)
      have f2 := hat 2 (by omega)
      rw [add_add] at f0 f1 f2
      exact ⟨p, ⟨by simpa using f0, by simpa using f1, by simpa using f2⟩, w0, w1, w2⟩)
    refine ⟨ps, hpl, fun k p hk => ?_, fun p hp => ?_⟩
    · have hk0 := (List.getElem?_eq_some_iff.1 hk).1
      have hs : a.spot = none := by
        obtain ⟨⟨g0, _⟩, _⟩ := hps 0 (ps[0]'(by omega)) (by rw [List.getElem?_eq_getElem])
        have := World.cell?_spot g0
        simpa [Addr.add] using this
      obtain ⟨⟨f0, f1, f2⟩, _⟩ := hps k p hk
      rw [add_plain' hs] at f0 f1 f2
      have hlt : a.block < W.heap.size := by
        unfold World.cell? at f0
        rcases Nat.lt_or_ge a.block W.heap.size with h1 | h1
        · exact h1
        · simp [Array.getElem?_eq_none h1] at f0
      exact ⟨a.block, a.off, by obtain ⟨b, o, s⟩ := a; cases hs; rfl, hlt, Nat.le_of_lt hlt, f0, f1, f2⟩
    · obtain ⟨i, hi, rfl⟩ := List.getElem_of_mem hp
      exact (hps i ps[i] (by simp [hi])).2
set_option maxRecDepth 100000 in
/-- a hall -/
theorem open_hall {r : Reach} {b0 : Nat} {hd : Bool} {v : Value} {d : DataW H} {p : List MemPlace} (hv : Value.okWide Try.prog W r b0 24 v) (h : DataW.Trod enc Try.prog W 0 (fun _ => true) hd 24 v d p) :
    ∃ (m : Int) (A : Option Addr) (ps : List P3) (c : Nat), v = .agg #[.int .i64 m, .slice A ps.length c] ∧ Ppl W A ps ∧ (Lit.int .i64 m).wf = true ∧ ∀ p, p ∈ ps → wfP p := by
  obtain ⟨v0, v1, y0, y1, n, rfl, -, -, h0, h1⟩ := open_agg2 Try.underlying24 (by kernel_rfl) (by kernel_rfl) hv h
  obtain ⟨m, e0, -, w0⟩ := DataW.trod_int Try.underlying2 h0
  simp at e0
  subst e0
  have hsl : ∃ A len c, v1 = .slice A len c := by
    rcases open_slice Try.underlying22 h1 with ⟨hcs, _⟩ | ⟨a, l, c, _, _, _, _, hcs, _⟩
    · simp at hcs; exact ⟨none, 0, 0, hcs⟩
    · simp at hcs; exact ⟨some a, l, c, hcs⟩
  obtain ⟨A, len, c, rfl⟩ := hsl
  obtain ⟨ps, rfl, hP, hw⟩ := open_people h1
  exact ⟨m, A, ps, c, rfl, hP, w0, hw⟩
set_option maxRecDepth 100000 in
/-- a slice of integers of 64 bits -/
theorem open_list {r : Reach} {b0 : Nat} {hd : Bool} {v : Value} {d : DataW H} {p : List MemPlace} (hv : Value.okWide Try.prog W r b0 25 v) (h : DataW.Trod enc Try.prog W 0 (fun _ => true) hd 25 v d p) :
    ∃ (T : Option Addr) (ts : List Int) (c : Nat), v = .slice T ts.length c ∧ I64 W T ts := by
  obtain ⟨T, len, cap, rfl⟩ := okWide_slice Try.underlying25 hv
  obtain ⟨fuel, hf⟩ := h
  rcases open_ints Try.underlying25 Try.underlying2 (by kernel_rfl) hf with ⟨hcs, _⟩ | ⟨a, l, c, zs, hcs, _, hl, hm, hz, _, hcell, hwz⟩
  · simp [Value.cells] at hcs
    obtain ⟨rfl, rfl, rfl⟩ := hcs
    exact ⟨none, [], 0, rfl, fun k x hk => by simp at hk⟩
  · simp [Value.cells] at hcs
    obtain ⟨rfl, rfl, rfl⟩ := hcs
    rw [if_pos rfl] at hz
    refine ⟨some a, zs.take len, cap, by rw [List.length_take, Nat.min_eq_left (by omega)], fun k x hk => ?_⟩
    have hkl : k < len := by have := (List.getElem?_eq_some_iff.1 hk).1; simp at this; omega
    have hc := hcell k (by omega)
    have hs : a.spot = none := by
      have := World.cell?_spot (hcell 0 (by omega))
      simpa [Addr.add] using this
    rw [add_plain' hs] at hc
    have hlt : a.block < W.heap.size := by
      unfold World.cell? at hc
      rcases Nat.lt_or_ge a.block W.heap.size with h1 | h1
      · exact h1
      · simp [Array.getElem?_eq_none h1] at hc
    have hx : x = zs.getD k 0 := by
      rw [List.getElem?_take, if_pos hkl] at hk
      simp [List.getD, hk]
    rw [← hx] at hc
    exact ⟨a.block, a.off, by obtain ⟨b, o, s⟩ := a; cases hs; rfl, hlt, Nat.le_of_lt hlt, hc⟩
end
end Go.Proofs.Ytbfhkknpocbeaaa
