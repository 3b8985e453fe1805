/- Proved here: the opening of rows of bytes, a part of the proofs about the ticket laws. Conditions: those that each theorem names, no others. -/
import Derived.Test.YtgjfejpibielaaaF3
set_option linter.unusedSimpArgs false
set_option linter.unusedVariables false
namespace Go.Proofs.Ytgjfejpibielaaa
open Go.ChangeShapes Go.WideShapes Go.ChangeAt Go.RowKit Go.Joins Go.Deep
/-- numbers of 16 bits in memory -/
def U16 (w : World) (A : Option Addr) (bs : List Nat) : Prop := ∀ k x, bs[k]? = some x → (∃ b o, A = some ⟨b, o, none⟩ ∧ b < w.heap.size ∧ w.cell? ⟨b, o + k, none⟩ = some (.int .u16 (x : Nat))) ∧ x < 65536
theorem U16.ext {w w' : World} {A : Option Addr} {ps : List Nat} (h : U16 w A ps) (hb : Below w.heap.size w w') : U16 w' A ps := fun k p hk => by
  obtain ⟨⟨b, o, h0, h1, h2⟩, h3⟩ := h k p hk
  have hs := hb.size
  exact ⟨⟨b, o, h0, by omega, (hb.cell (p := ⟨b, _, none⟩) h1).trans h2⟩, h3⟩
theorem U16.form {w : World} {A : Option Addr} {bs : List Nat} (h : U16 w A bs) (hk : 0 < bs.length) : ∃ b o, A = some ⟨b, o, none⟩ ∧ b < w.heap.size ∧ ∀ k (hk : k < bs.length), w.cell? ⟨b, o + k, none⟩ = some (.int .u16 (bs[k] : Nat)) ∧ bs[k] < 65536 := by
  obtain ⟨⟨b, o, h0, h1, h2⟩, h3⟩ := h 0 bs[0] (by simp [hk])
  refine ⟨b, o, h0, h1, fun k hk => ?_⟩
  obtain ⟨⟨b', o', g0, g1, g2⟩, g3⟩ := h k bs[k] (by simp [hk])
  rw [h0] at g0
  cases g0
  exact ⟨g2, g3⟩
/-- rows of bytes -/
abbrev BRow := Option Addr × List Nat × Nat
def cellB (r : BRow) : Value := .slice r.1 r.2.1.length r.2.2
def LstB (w : World) (A : Option Addr) (rows : List BRow) : Prop := Rd w 1 A rows.length (rows.map cellB) ∧ ∀ r, r ∈ rows → U8 w r.1 r.2.1
theorem LstB.ext {w w' : World} {A : Option Addr} {rows : List BRow} (h : LstB w A rows) (hb : Below w.heap.size w w') : LstB w' A rows := ⟨h.1.ext hb, fun r hr => (h.2 r hr).ext hb⟩
theorem list_of {α : Type} {R : Nat → α → Prop} (n : Nat) (h : ∀ i, i < n → ∃ x, R i x) : ∃ l : List α, l.length = n ∧ ∀ i x, l[i]? = some x → R i x := by
  induction n with
  | zero => exact ⟨[], rfl, by simp⟩
  | succ n ih =>
    obtain ⟨l, hl, hr⟩ := ih (fun i hi => h i (by omega))
    obtain ⟨x, hx⟩ := h n (by omega)
    refine ⟨l ++ [x], by simp [hl], fun i y hy => ?_⟩
    by_cases e : i < n
    · rw [List.getElem?_append_left (by omega)] at hy; exact hr i y hy
    · have : i = n := by have := (List.getElem?_eq_some_iff.1 hy).1; simp at this; omega
      subst this
      rw [List.getElem?_append_right (by omega), hl] at hy
      simp at hy
      subst hy
      exact hx
section
variable {H : Type} {enc : TypeId × Value → H} {W : World}
set_option maxRecDepth 100000 in
/-- a slice of numbers of 16 bits -/
theorem open_u16s {hd : Bool} {fuel : Nat} {A : Option Addr} {len cap : Nat} {x : DataW H × List MemPlace} (h : DataW.trod enc Try.prog W 0 (fun _ => true) hd fuel 63 [.slice A len cap] = some x) :
    ∃ bs : List Nat, bs.length = len ∧ U16 W A bs ∧ bs.length ≤ cap ∧ cap ≤ 9223372036854775807 := by
  rcases open_ints Try.underlying63 Try.underlying67 (by kernel_rfl) h with ⟨hcs, _⟩ | ⟨a, l, c, zs, hcs, _, hl, hm, hz, _, hcell, hwz⟩
  · simp at hcs
    obtain ⟨rfl, rfl, rfl⟩ := hcs
    exact ⟨[], rfl, fun k x hk => by simp at hk, by simp, by simp⟩
  · simp at hcs
    obtain ⟨rfl, rfl, rfl⟩ := hcs
    rw [if_pos rfl] at hz
    refine ⟨(zs.take len).map Int.toNat, by rw [List.length_map, List.length_take, Nat.min_eq_left (by omega)], fun k x hk => ?_, by rw [List.length_map, List.length_take]; omega, by unfold maxLen at hm; omega⟩
    have hkl : k < len := by have := (List.getElem?_eq_some_iff.1 hk).1; simp at this; omega
    have hc := hcell k (by omega)
    have hs : a.spot = none := by
      have := World.cell?_spot (hcell 0 (by omega))
      simpa [Addr.add] using this
    rw [add_plain' hs] at hc
    have hlt : a.block < W.heap.size := cell_in hc
    obtain ⟨n, hn, hn2⟩ := u16_nat (hwz (zs.getD k 0) (by simp [List.getD_eq_getElem?_getD, show k < zs.length by omega]))
    have hx : x = n := by
      rw [List.getElem?_map, List.getElem?_take, if_pos hkl, List.getElem?_eq_getElem (by omega)] at hk
      simp only [Option.map_some, Option.some.injEq] at hk
      rw [List.getD_eq_getElem?_getD, List.getElem?_eq_getElem (by omega), Option.getD_some] at hn
      rw [← hk, hn]; simp
    rw [hn] at hc
    subst hx
    exact ⟨⟨a.block, a.off, by obtain ⟨b, o, s⟩ := a; cases hs; rfl, hlt, hc⟩, hn2⟩
set_option maxRecDepth 100000 in
theorem open_words {r : Reach} {b0 : Nat} {hd : Bool} {v : Value} {d : DataW H} {p : List MemPlace} (hv : Value.okWide Try.prog W r b0 63 v) (h : DataW.Trod enc Try.prog W 0 (fun _ => true) hd 63 v d p) :
    ∃ (B : Option Addr) (bs : List Nat) (c : Nat), v = .slice B bs.length c ∧ U16 W B bs ∧ bs.length ≤ c ∧ c ≤ 9223372036854775807 := by
  obtain ⟨T, len, cap, rfl⟩ := okWide_slice Try.underlying63 hv
  obtain ⟨fuel, hf⟩ := h
  obtain ⟨bs, rfl, hI, hc, hc9⟩ := open_u16s (hd := hd) (by simpa [Value.cells] using hf)
  exact ⟨T, bs, cap, rfl, hI, hc, hc9⟩
set_option maxRecDepth 100000 in
theorem open_brows {r : Reach} {b0 : Nat} {hd : Bool} {v : Value} {d : DataW H} {p : List MemPlace} (hv : Value.okWide Try.prog W r b0 61 v) (h : DataW.Trod enc Try.prog W 0 (fun _ => true) hd 61 v d p) :
    ∃ (Y : Option Addr) (rows : List BRow) (c : Nat), v = .slice Y rows.length c ∧ LstB W Y rows ∧ rows.length ≤ c ∧ c ≤ 9223372036854775807 ∧ ∀ r, r ∈ rows → r.2.1.length ≤ 9223372036854775807 := by
  obtain ⟨T, len, cap, rfl⟩ := okWide_slice Try.underlying61 hv
  obtain ⟨fuel, hf⟩ := h
  have c62 : Try.prog.cellsOf 62 = 1 := by kernel_rfl
  rcases open_slice Try.underlying61 (by simpa [Value.cells] using hf) with ⟨hcs, _⟩ | ⟨a, l, c, m, n, D, Pl, hcs, _, hl, hm, hmm, _, hi⟩
  · simp at hcs
    obtain ⟨rfl, rfl, rfl⟩ := hcs
    exact ⟨none, [], 0, rfl, ⟨⟨rfl, fun h => by simp at h⟩, fun r hr => by cases hr⟩, by simp, by simp, fun r hr => by cases hr⟩
  · simp at hcs
    obtain ⟨rfl, rfl, rfl⟩ := hcs
    rw [if_pos rfl] at hmm
    subst hmm
    rw [c62] at hi
    obtain ⟨rows, hpl, hps⟩ := list_of (R := fun i (t : BRow) => W.cell? (a.add (i * 1)) = some (cellB t) ∧ U8 W t.1 t.2.1 ∧ t.2.1.length ≤ 9223372036854775807) len (fun i hil => by
      obtain ⟨cs', h0, h1⟩ := hi i (by omega)
      have hcs : ∃ A len c, cs' = [Value.slice A len c] := by
        rcases open_slice Try.underlying62 h1 with ⟨hcs, _⟩ | ⟨a, l, c, _, _, _, _, hcs, _⟩
        · exact ⟨none, 0, 0, hcs⟩
        · exact ⟨some a, l, c, hcs⟩
      obtain ⟨A, ln, k, rfl⟩ := hcs
      obtain ⟨xs, rfl, hI, hxc, hc9⟩ := open_u8s h1
      exact ⟨(A, xs, k), cell_of_cells?_one h0, hI, by simp only; omega⟩)
    refine ⟨some a, rows, _, by rw [hpl], ⟨⟨by simp, fun h0 => ?_⟩, fun r hr => ?_⟩, by omega, by unfold maxLen at hm; omega, fun r hr => ?_⟩
    · have hs : a.spot = none := by
        have g0 := (hps 0 (rows[0]'(by omega)) (by rw [List.getElem?_eq_getElem])).1
        have := World.cell?_spot g0
        simpa [Addr.add] using this
      have hat : ∀ k (hk : k < rows.length), W.cell? ⟨a.block, a.off + k, none⟩ = some (cellB rows[k]) := fun k hk => by
        have g0 := (hps k rows[k] (by simp [hk])).1
        rw [add_plain' hs, Nat.mul_one] at g0
        exact g0
      refine ⟨a.block, a.off, by obtain ⟨b, o, s⟩ := a; cases hs; rfl, cell_in (hat 0 h0), fun j u hu => ?_⟩
      rw [List.getElem?_map] at hu
      cases hr : rows[j]? with
      | none => rw [hr] at hu; cases hu
      | some x =>
        rw [hr] at hu
        obtain ⟨hj, rfl⟩ := List.getElem?_eq_some_iff.1 hr
        rw [← Option.some.inj hu]
        exact hat j hj
    · obtain ⟨i, hi2, rfl⟩ := List.getElem_of_mem hr
      exact (hps i rows[i] (by simp [hi2])).2.1
    · obtain ⟨i, hi2, rfl⟩ := List.getElem_of_mem hr
      exact (hps i rows[i] (by simp [hi2])).2.2
end
end Go.Proofs.Ytgjfejpibielaaa
