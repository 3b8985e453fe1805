/- Proved here: contracts and laws of G1, a part of the proofs about the box laws. Conditions: those that each theorem names, no others. -/
import Derived.Test.YtlbkaeoagdbemaaP37
import Derived.Test.YtlbkaeoagdbemaaRows
import Derived.ProofKit
import Derived.OpenShut
import Derived.ShutString
import Derived.ChangeOld
import Derived.Below
import Derived.Deep.Slices
import Derived.Deep.SlicePairs
import Derived.Lib.SmallJoins
set_option linter.unusedSimpArgs false
set_option linter.unusedVariables false
namespace Go.Proofs.Ytlbkaeoagdbemaa
open Go.ChangeShapes Go.WideShapes Go.ChangeAt Go.RowKit Go.Joins Go.Deep
theorem Try.own : ownKnob Try.prog.godebug = none := by kernel_rfl
theorem Try.laidOut : laidOutB Try.prog = true := by kernel_rfl
theorem list_of {α : Type} {R : Nat → α → Prop} (n : Nat) (h : ∀ i, i < n → ∃ x, R i x) : ∃ l : List α, l.length = n ∧ ∀ i x, l[i]? = some x → R i x := by
  induction n with
  | zero => exact ⟨[], rfl, by simp⟩
  | succ n ih =>
    obtain ⟨l, hl, hr⟩ := ih (fun i hi => h i (by omega))
    obtain ⟨x, hx⟩ := h n (by omega)
    refine ⟨l ++ [x], by simp [hl], fun i y hy => ?_⟩
    by_cases e : i < n
    · rw [List.getElem?_append_left (by omega)] at hy; exact hr i y hy
    · have : i = n := by have := (List.getElem?_eq_some_iff.1 hy).1; simp at this; omega
      subst this
      rw [List.getElem?_append_right (by omega), hl] at hy
      simp at hy
      subst hy
      exact hx
section
variable {H : Type} {enc : TypeId × Value → H} {W : World}
theorem add_plain' {a : Addr} (h : a.spot = none) (n : Nat) : a.add n = ⟨a.block, a.off + n, none⟩ := by
  obtain ⟨b, o, s⟩ := a; cases h; exact add_none b o n
set_option maxRecDepth 100000 in
/-- a slice of integers of 64 bits -/
theorem open_nums {hd : Bool} {fuel : Nat} {A : Option Addr} {len cap : Nat} {x : DataW H × List MemPlace} (h : DataW.trod enc Try.prog W 0 (fun _ => true) hd fuel 22 [.slice A len cap] = some x) :
    ∃ xs : List Int, xs.length = len ∧ I64 W A xs ∧ xs.length ≤ cap ∧ cap ≤ 9223372036854775807 ∧ ∀ n, n ∈ xs → (Lit.int .i64 n).wf = true := by
  rcases open_ints Try.underlying22 Try.underlying3 (by kernel_rfl) h with ⟨hcs, _⟩ | ⟨a, l, c, zs, hcs, _, hl, hm, hz, _, hcell, hwz⟩
  · simp at hcs
    obtain ⟨rfl, rfl, rfl⟩ := hcs
    exact ⟨[], rfl, fun k x hk => by simp at hk, by simp, by simp, by simp⟩
  · simp at hcs
    obtain ⟨rfl, rfl, rfl⟩ := hcs
    rw [if_pos rfl] at hz
    refine ⟨zs.take len, by rw [List.length_take, Nat.min_eq_left (by omega)], fun k x hk => ?_, by rw [List.length_take]; omega, by unfold maxLen at hm; omega, fun n hn => hwz n (List.mem_of_mem_take hn)⟩
    have hkl : k < len := by have := (List.getElem?_eq_some_iff.1 hk).1; simp at this; omega
    have hc := hcell k (by omega)
    have hs : a.spot = none := by
      have := World.cell?_spot (hcell 0 (by omega))
      simpa [Addr.add] using this
    rw [add_plain' hs] at hc
    have hlt : a.block < W.heap.size := by
      unfold World.cell? at hc
      rcases Nat.lt_or_ge a.block W.heap.size with h1 | h1
      · exact h1
      · simp [Array.getElem?_eq_none h1] at hc
    have hx : x = zs.getD k 0 := by
      rw [List.getElem?_take, if_pos hkl] at hk
      simp [List.getD, hk]
    rw [← hx] at hc
    exact ⟨a.block, a.off, by obtain ⟨b, o, s⟩ := a; cases hs; rfl, hlt, Nat.le_of_lt hlt, hc⟩
theorem slice_form {hd : Bool} {fuel : Nat} {t e : TypeId} {v : Value} {x : DataW H × List MemPlace} (ht : Try.prog.underlying t = some (.slice e)) (h : DataW.trod enc Try.prog W 0 (fun _ => true) hd fuel t [v] = some x) : ∃ A len c, v = .slice A len c := by
  rcases open_slice ht h with ⟨hcs, _⟩ | ⟨a, l, c, _, _, _, _, hcs, _⟩
  · simp at hcs; exact ⟨none, 0, 0, hcs⟩
  · simp at hcs; exact ⟨some a, l, c, hcs⟩
set_option maxRecDepth 100000 in
/-- a slice of tickets -/
theorem open_tks {hd : Bool} {fuel : Nat} {A : Option Addr} {len cap : Nat} {x : DataW H × List MemPlace} (h : DataW.trod enc Try.prog W 0 (fun _ => true) hd fuel 25 [.slice A len cap] = some x) :
    ∃ ts : List Tz, ts.length = len ∧ Tks W A ts ∧ ts.length ≤ cap ∧ cap ≤ 9223372036854775807 ∧ ∀ t, t ∈ ts → t.1.length ≤ 9223372036854775807 ∧ (Lit.int .i64 t.2).wf = true ∧ ∀ n, n ∈ t.1 → (Lit.int .i64 n).wf = true := by
  rcases open_slice_pairs Try.underlying25 Try.underlying34 (by kernel_rfl) (by kernel_rfl) (by kernel_rfl) (by kernel_rfl) (by kernel_rfl) h with ⟨hcs, _⟩ | ⟨a, l, c, m, n, V0, V1, D0, D1, P0, P1, hcs, _, hl, hm, hmm, _, hi⟩
  · simp at hcs
    obtain ⟨rfl, rfl, rfl⟩ := hcs
    exact ⟨[], rfl, Tks.nil _ _, by simp, by simp, by simp⟩
  · simp at hcs
    obtain ⟨rfl, rfl, rfl⟩ := hcs
    rw [if_pos rfl] at hmm
    subst hmm
    obtain ⟨ts, hpl, hps⟩ := list_of (R := fun i (t : Tz) => ∃ S k, W.cell? (a.add (i * 2)) = some (.slice S t.1.length k) ∧ W.cell? (a.add (i * 2 + 1)) = some (.int .i64 t.2) ∧ t.1.length ≤ k ∧ I64 W S t.1 ∧ t.1.length ≤ 9223372036854775807 ∧ (Lit.int .i64 t.2).wf = true ∧ ∀ n, n ∈ t.1 → (Lit.int .i64 n).wf = true) len (fun i hil => by
      obtain ⟨h0, h1, h2, h3⟩ := hi i (by omega)
      obtain ⟨S, sl, sc, hS⟩ := slice_form Try.underlying22 h2
      rw [hS] at h0 h2
      obtain ⟨xs, rfl, hI, hxc, hc9, hwx⟩ := open_nums h2
      obtain ⟨u, e1, -, w1⟩ := DataW.trod_int Try.underlying2 h3
      simp at e1
      rw [e1] at h1
      exact ⟨(xs, u), S, sc, h0, h1, hxc, hI, by simp only; omega, w1, hwx⟩)
    refine ⟨ts, hpl, fun k t hk => ?_, by omega, by unfold maxLen at hm; omega, fun t ht => ?_⟩
    · have hk0 := (List.getElem?_eq_some_iff.1 hk).1
      have hs : a.spot = none := by
        obtain ⟨_, _, g0, _⟩ := hps 0 (ts[0]'(by omega)) (by rw [List.getElem?_eq_getElem])
        have := World.cell?_spot g0
        simpa [Addr.add] using this
      obtain ⟨S, sc, f0, f1, f2, f3, _⟩ := hps k t hk
      rw [add_plain' hs] at f0 f1
      have hlt : a.block < W.heap.size := by
        unfold World.cell? at f0
        rcases Nat.lt_or_ge a.block W.heap.size with h1 | h1
        · exact h1
        · simp [Array.getElem?_eq_none h1] at f0
      exact ⟨a.block, a.off, S, sc, by obtain ⟨b, o, s⟩ := a; cases hs; rfl, hlt, f0, f1, f2, f3⟩
    · obtain ⟨i, hi, rfl⟩ := List.getElem_of_mem ht
      obtain ⟨_, _, _, _, _, _, w1, w2, w3⟩ := hps i ts[i] (by simp [hi])
      exact ⟨w1, w2, w3⟩
set_option maxRecDepth 100000 in
/-- a card -/
theorem open_card {r : Reach} {b0 : Nat} {hd : Bool} {v : Value} {d : DataW H} {p : List MemPlace} (hv : Value.okWide Try.prog W r b0 24 v) (h : DataW.Trod enc Try.prog W 0 (fun _ => true) hd 24 v d p) :
    ∃ (A : Option Addr) (R : List Int) (c : Nat), v = .agg #[.slice A R.length c] ∧ I64 W A R ∧ R.length ≤ c ∧ c ≤ 9223372036854775807 ∧ ∀ n, n ∈ R → (Lit.int .i64 n).wf = true := by
  obtain ⟨cs, rfl, hsz⟩ := okWide_struct Try.underlying24 hv
  obtain ⟨fuel, hf⟩ := h
  rw [show Try.prog.cellsOf 24 = 1 by kernel_rfl] at hsz
  obtain ⟨l⟩ := cs
  match l, hsz with
  | [v0], _ =>
    obtain ⟨y0, n, -, -, hy0⟩ := trod_struct1 Try.underlying24 hf
    have c22 : Try.prog.cellsOf 22 = 1 := by kernel_rfl
    have hy : DataW.trod enc Try.prog W 0 (fun _ => true) hd n 22 [v0] = some y0 := by simpa [Value.cells, c22] using hy0
    obtain ⟨A, len, c, rfl⟩ := slice_form Try.underlying22 hy
    obtain ⟨xs, rfl, hI, hc, hc9, hw⟩ := open_nums hy
    exact ⟨A, xs, c, rfl, hI, hc, hc9, hw⟩
set_option maxRecDepth 100000 in
/-- a ticket -/
theorem open_ticket {r : Reach} {b0 : Nat} {hd : Bool} {v : Value} {d : DataW H} {p : List MemPlace} (hv : Value.okWide Try.prog W r b0 34 v) (h : DataW.Trod enc Try.prog W 0 (fun _ => true) hd 34 v d p) :
    ∃ (Y : Option Addr) (S : List Int) (c : Nat) (u : Int), v = .agg #[.slice Y S.length c, .int .i64 u] ∧ I64 W Y S ∧ S.length ≤ c ∧ c ≤ 9223372036854775807 ∧ (Lit.int .i64 u).wf = true ∧ ∀ n, n ∈ S → (Lit.int .i64 n).wf = true := by
  obtain ⟨v0, v1, y0, y1, n, rfl, -, -, h0, h1⟩ := open_agg2 Try.underlying34 (by kernel_rfl) (by kernel_rfl) hv h
  obtain ⟨u, e1, -, w1⟩ := DataW.trod_int Try.underlying2 h1
  simp at e1
  subst e1
  obtain ⟨Y, len, c, rfl⟩ := slice_form Try.underlying22 h0
  obtain ⟨S, rfl, hI, hc, hc9, hw⟩ := open_nums h0
  exact ⟨Y, S, c, u, rfl, hI, hc, hc9, w1, hw⟩
set_option maxRecDepth 100000 in
theorem open_list {r : Reach} {b0 : Nat} {hd : Bool} {v : Value} {d : DataW H} {p : List MemPlace} (hv : Value.okWide Try.prog W r b0 22 v) (h : DataW.Trod enc Try.prog W 0 (fun _ => true) hd 22 v d p) :
    ∃ (T : Option Addr) (ts : List Int) (c : Nat), v = .slice T ts.length c ∧ I64 W T ts ∧ ts.length ≤ c ∧ c ≤ 9223372036854775807 ∧ ∀ n, n ∈ ts → (Lit.int .i64 n).wf = true := by
  obtain ⟨T, len, cap, rfl⟩ := okWide_slice Try.underlying22 hv
  obtain ⟨fuel, hf⟩ := h
  obtain ⟨xs, rfl, hI, hc, hc9, hw⟩ := open_nums (hd := hd) (by simpa [Value.cells] using hf)
  exact ⟨T, xs, cap, rfl, hI, hc, hc9, hw⟩
set_option maxRecDepth 100000 in
theorem open_tickets {r : Reach} {b0 : Nat} {hd : Bool} {v : Value} {d : DataW H} {p : List MemPlace} (hv : Value.okWide Try.prog W r b0 25 v) (h : DataW.Trod enc Try.prog W 0 (fun _ => true) hd 25 v d p) :
    ∃ (T : Option Addr) (ts : List Tz) (c : Nat), v = .slice T ts.length c ∧ Tks W T ts ∧ ts.length ≤ c ∧ c ≤ 9223372036854775807 ∧ ∀ t, t ∈ ts → t.1.length ≤ 9223372036854775807 ∧ (Lit.int .i64 t.2).wf = true ∧ ∀ n, n ∈ t.1 → (Lit.int .i64 n).wf = true := by
  obtain ⟨T, len, cap, rfl⟩ := okWide_slice Try.underlying25 hv
  obtain ⟨fuel, hf⟩ := h
  obtain ⟨xs, rfl, hI, hc, hc9, hw⟩ := open_tks (hd := hd) (by simpa [Value.cells] using hf)
  exact ⟨T, xs, cap, rfl, hI, hc, hc9, hw⟩
theorem u8_nat {b : Int} (h : (Lit.int .u8 b).wf = true) : ∃ n : Nat, b = (n : Int) ∧ n < 256 := by
  have h2 : 0 ≤ b ∧ b < 256 := by
    simp only [Lit.wf, Bool.and_eq_true, decide_eq_true_eq] at h
    have h1 : b ≤ 255 := h.2
    have h3 : 0 ≤ b := h.1
    omega
  exact ⟨b.toNat, by omega, by omega⟩
set_option maxRecDepth 100000 in
theorem trod_arr2 {fuel : Nat} {hd : Bool} {c0 c1 : Value} {x : DataW H × List MemPlace} (h : DataW.trod enc Try.prog W 0 (fun _ => true) hd fuel 58 [c0, c1] = some x) :
    ∃ m y0 y1, DataW.trod enc Try.prog W 0 (fun _ => true) hd m 5 [c0] = some y0 ∧ DataW.trod enc Try.prog W 0 (fun _ => true) hd m 5 [c1] = some y1 := by
  cases fuel with
  | zero => simp [DataW.trod] at h
  | succ m =>
    unfold DataW.trod at h
    rw [Try.underlying58] at h
    have r3 : List.range 2 = [0, 1] := rfl
    have r1 : Try.prog.cellsOf 5 = 1 := by kernel_rfl
    simp [r3, r1] at h
    obtain ⟨_, h⟩ := h
    cases h0 : DataW.trod enc Try.prog W 0 (fun _ => true) hd m 5 [c0] with
    | none => simp [h0] at h
    | some y0 =>
      cases h1 : DataW.trod enc Try.prog W 0 (fun _ => true) hd m 5 [c1] with
      | none => simp [h0, h1] at h
      | some y1 =>
        exact ⟨m, y0, y1, h0, h1⟩
set_option maxRecDepth 100000 in
theorem open_arr2 {r : Reach} {b0 : Nat} {hd : Bool} {v : Value} {d : DataW H} {p : List MemPlace} (hv : Value.okWide Try.prog W r b0 58 v) (h : DataW.Trod enc Try.prog W 0 (fun _ => true) hd 58 v d p) :
    ∃ a0 a1 : Nat, v = .agg #[.int .u8 (a0 : Nat), .int .u8 (a1 : Nat)] ∧ a0 < 256 ∧ a1 < 256 := by
  simp only [Value.okWide, Try.underlying58] at hv
  obtain ⟨cs, rfl, h2, _⟩ := hv
  rw [show Try.prog.cellsOf 58 = 2 by kernel_rfl] at h2
  obtain ⟨l⟩ := cs
  match l, h2 with
  | [c0, c1], _ =>
    obtain ⟨fuel, hf⟩ := h
    obtain ⟨m, y0, y1, g0, g1⟩ := trod_arr2 hf
    obtain ⟨b0, e0, -, w0⟩ := DataW.trod_int Try.underlying5 g0
    simp at e0
    subst e0
    obtain ⟨k0, rfl, hk0⟩ := u8_nat w0
    obtain ⟨b1, e1, -, w1⟩ := DataW.trod_int Try.underlying5 g1
    simp at e1
    subst e1
    obtain ⟨k1, rfl, hk1⟩ := u8_nat w1
    exact ⟨k0, k1, rfl, hk0, hk1⟩
set_option maxRecDepth 100000 in
theorem trod_arr5 {fuel : Nat} {hd : Bool} {c0 c1 c2 c3 c4 : Value} {x : DataW H × List MemPlace} (h : DataW.trod enc Try.prog W 0 (fun _ => true) hd fuel 53 [c0, c1, c2, c3, c4] = some x) :
    ∃ m y0 y1 y2 y3 y4, DataW.trod enc Try.prog W 0 (fun _ => true) hd m 5 [c0] = some y0 ∧ DataW.trod enc Try.prog W 0 (fun _ => true) hd m 5 [c1] = some y1 ∧ DataW.trod enc Try.prog W 0 (fun _ => true) hd m 5 [c2] = some y2 ∧ DataW.trod enc Try.prog W 0 (fun _ => true) hd m 5 [c3] = some y3 ∧ DataW.trod enc Try.prog W 0 (fun _ => true) hd m 5 [c4] = some y4 := by
  cases fuel with
  | zero => simp [DataW.trod] at h
  | succ m =>
    unfold DataW.trod at h
    rw [Try.underlying53] at h
    have r3 : List.range 5 = [0, 1, 2, 3, 4] := rfl
    have r1 : Try.prog.cellsOf 5 = 1 := by kernel_rfl
    simp [r3, r1] at h
    obtain ⟨_, h⟩ := h
    cases h0 : DataW.trod enc Try.prog W 0 (fun _ => true) hd m 5 [c0] with
    | none => simp [h0] at h
    | some y0 =>
      cases h1 : DataW.trod enc Try.prog W 0 (fun _ => true) hd m 5 [c1] with
      | none => simp [h0, h1] at h
      | some y1 =>
        cases h2 : DataW.trod enc Try.prog W 0 (fun _ => true) hd m 5 [c2] with
        | none => simp [h0, h1, h2] at h
        | some y2 =>
          cases h3 : DataW.trod enc Try.prog W 0 (fun _ => true) hd m 5 [c3] with
          | none => simp [h0, h1, h2, h3] at h
          | some y3 =>
            cases h4 : DataW.trod enc Try.prog W 0 (fun _ => true) hd m 5 [c4] with
            | none => simp [h0, h1, h2, h3, h4] at h
            | some y4 =>
              exact ⟨m, y0, y1, y2, y3, y4, h0, h1, h2, h3, h4⟩
set_option maxRecDepth 100000 in
theorem open_arr5 {r : Reach} {b0 : Nat} {hd : Bool} {v : Value} {d : DataW H} {p : List MemPlace} (hv : Value.okWide Try.prog W r b0 53 v) (h : DataW.Trod enc Try.prog W 0 (fun _ => true) hd 53 v d p) :
    ∃ a0 a1 a2 a3 a4 : Nat, v = .agg #[.int .u8 (a0 : Nat), .int .u8 (a1 : Nat), .int .u8 (a2 : Nat), .int .u8 (a3 : Nat), .int .u8 (a4 : Nat)] ∧ a0 < 256 ∧ a1 < 256 ∧ a2 < 256 ∧ a3 < 256 ∧ a4 < 256 := by
  simp only [Value.okWide, Try.underlying53] at hv
  obtain ⟨cs, rfl, h2, _⟩ := hv
  rw [show Try.prog.cellsOf 53 = 5 by kernel_rfl] at h2
  obtain ⟨l⟩ := cs
  match l, h2 with
  | [c0, c1, c2, c3, c4], _ =>
    obtain ⟨fuel, hf⟩ := h
    obtain ⟨m, y0, y1, y2, y3, y4, g0, g1, g2, g3, g4⟩ := trod_arr5 hf
    obtain ⟨b0, e0, -, w0⟩ := DataW.trod_int Try.underlying5 g0
    simp at e0
    subst e0
    obtain ⟨k0, rfl, hk0⟩ := u8_nat w0
    obtain ⟨b1, e1, -, w1⟩ := DataW.trod_int Try.underlying5 g1
    simp at e1
    subst e1
    obtain ⟨k1, rfl, hk1⟩ := u8_nat w1
    obtain ⟨b2, e2, -, w2⟩ := DataW.trod_int Try.underlying5 g2
    simp at e2
    subst e2
    obtain ⟨k2, rfl, hk2⟩ := u8_nat w2
    obtain ⟨b3, e3, -, w3⟩ := DataW.trod_int Try.underlying5 g3
    simp at e3
    subst e3
    obtain ⟨k3, rfl, hk3⟩ := u8_nat w3
    obtain ⟨b4, e4, -, w4⟩ := DataW.trod_int Try.underlying5 g4
    simp at e4
    subst e4
    obtain ⟨k4, rfl, hk4⟩ := u8_nat w4
    exact ⟨k0, k1, k2, k3, k4, rfl, hk0, hk1, hk2, hk3, hk4⟩
end
end Go.Proofs.Ytlbkaeoagdbemaa
