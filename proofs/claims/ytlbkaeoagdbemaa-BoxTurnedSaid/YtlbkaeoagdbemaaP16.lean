/- Proved here: tickets that a call has made; a map is made, a part of the proofs about the box laws. Conditions: those that each theorem names, no others. -/
import Derived.Test.YtlbkaeoagdbemaaP15
import Derived.WalkKit
import Derived.WalkSpells
import Derived.WalkLawsBesides
import Derived.Below
import Derived.Deep.QuietTactic
import Derived.BigQuiet
import Derived.Deep.Light
import Derived.Test.YtlbkaeoagdbemaaP03
set_option linter.unusedSimpArgs false
set_option linter.unusedVariables false
namespace Go.Proofs.Ytlbkaeoagdbemaa
open Go.RowKit Go.Maps Go.Shelf
attribute [local go_sem] Oper.semAt_some
/-- the two cells of a ticket -/
def TV (W : World) (p : Bm.Tk) (a b : Value) : Prop := ∃ X xc, a = .slice X p.1.length xc ∧ b = .int .i64 (p.2 : Nat) ∧ p.1.length ≤ xc ∧ I64 W X (zs p.1)
def TVs (W : World) (l : List Bm.Tk) (vs : List Value) : Prop := vs.length = l.length * 2 ∧ ∀ k p, l[k]? = some p → ∃ a b, vs[k * 2]? = some a ∧ vs[k * 2 + 1]? = some b ∧ TV W p a b
theorem TVs.nil (W : World) : TVs W [] [] := ⟨rfl, fun k p h => by simp at h⟩
theorem TVs.snoc {W : World} {l : List Bm.Tk} {vs : List Value} {p : Bm.Tk} {a b : Value} (h : TVs W l vs) (k : TV W p a b) : TVs W (l ++ [p]) (vs ++ [a, b]) := by
  refine ⟨by simp [h.1, Nat.add_mul], fun i q hq => ?_⟩
  rcases Nat.lt_or_ge i l.length with hi | hi
  · rw [List.getElem?_append_left hi] at hq
    obtain ⟨x, y, h1, h2, h3⟩ := h.2 i q hq
    have := (List.getElem?_eq_some_iff.1 h2).1
    exact ⟨x, y, by rw [List.getElem?_append_left (by omega)]; exact h1, by rw [List.getElem?_append_left (by omega)]; exact h2, h3⟩
  · rw [List.getElem?_append_right hi] at hq
    have hil : i = l.length := by
      rcases Nat.lt_or_ge (i - l.length) 1 with h5 | h5
      · omega
      · rw [List.getElem?_eq_none (by simpa using h5)] at hq; cases hq
    subst hil
    simp at hq; subst hq
    exact ⟨a, b, by rw [List.getElem?_append_right (by rw [h.1]; exact Nat.le_refl _), h.1]; simp, by rw [List.getElem?_append_right (by rw [h.1]; omega), h.1]; simp, k⟩
theorem I64.cells {W W' : World} {A : Option Addr} {xs : List Int} (h : I64 W A xs) (hz : W.heap.size ≤ W'.heap.size) (hk : ∀ (b : Nat) (o : Obj), W.heap[b]? = some o → o.isCells = true → W'.heap[b]? = some o) : I64 W' A xs := fun i p hp => by
  obtain ⟨b, off, h0, h1, h2, h3⟩ := h i p hp
  obtain ⟨o', ho', hc'⟩ := cells_of_cell h3
  exact ⟨b, off, h0, by omega, by omega, (heap_cell ((hk _ _ ho' hc').trans ho'.symm)).trans h3⟩
theorem TV.cells {W W' : World} {p : Bm.Tk} {a b : Value} (h : TV W p a b) (hz : W.heap.size ≤ W'.heap.size) (hk : ∀ (b : Nat) (o : Obj), W.heap[b]? = some o → o.isCells = true → W'.heap[b]? = some o) : TV W' p a b := by
  obtain ⟨X, xc, h1, h2, h3, h4⟩ := h
  exact ⟨X, xc, h1, h2, h3, h4.cells hz hk⟩
theorem TVs.cells {W W' : World} {l : List Bm.Tk} {vs : List Value} (h : TVs W l vs) (hz : W.heap.size ≤ W'.heap.size) (hk : ∀ (b : Nat) (o : Obj), W.heap[b]? = some o → o.isCells = true → W'.heap[b]? = some o) : TVs W' l vs :=
  ⟨h.1, fun k p hp => by obtain ⟨a, b, h1, h2, h3⟩ := h.2 k p hp; exact ⟨a, b, h1, h2, h3.cells hz hk⟩⟩
theorem Rd.cells {W W' : World} {size m : Nat} {A : Option Addr} {vs : List Value} (h : Rd W size A m vs) (h0 : 0 < size) (hz : W.heap.size ≤ W'.heap.size) (hk : ∀ (b : Nat) (o : Obj), W.heap[b]? = some o → o.isCells = true → W'.heap[b]? = some o) : Rd W' size A m vs :=
  ⟨h.1, fun hm => by
    obtain ⟨b, off, h1, h2, h3⟩ := h.2 hm
    have hv : 0 < vs.length := by rw [h.1]; exact Nat.mul_pos hm h0
    obtain ⟨o', ho', hc'⟩ := cells_of_cell (h3 0 vs[0] (by simp))
    exact ⟨b, off, h1, by omega, fun j u hu => (heap_cell ((hk _ _ ho' hc').trans ho'.symm)).trans (h3 j u hu)⟩⟩
theorem keeps_below {W W' : World} (h : Below W.heap.size W W') : W.heap.size ≤ W'.heap.size ∧ ∀ (b : Nat) (o : Obj), W.heap[b]? = some o → o.isCells = true → W'.heap[b]? = some o :=
  ⟨h.size, fun b o hb _ => (h.block b (obj_lt hb)).trans hb⟩
theorem keeps_row {W W' : World} {row : Option Nat} (hg : W.grownBy W' row) (hr : ∀ r, row = some r → ∃ o : Obj, W.heap[r]? = some o ∧ o.isCells = false) : W.heap.size ≤ W'.heap.size ∧ ∀ (b : Nat) (o : Obj), W.heap[b]? = some o → o.isCells = true → W'.heap[b]? = some o :=
  ⟨hg.size, fun b o hb hc => (grownBy_keeps_cells hg hr hb hc).trans hb⟩
/-- a slice of tickets that a call has made -/
def TkOut (W : World) (O : Option Addr) (l : List Bm.Tk) : Prop := ∃ vs, Rd W 2 O l.length vs ∧ TVs W l vs
theorem TkOut.cells {W W' : World} {O : Option Addr} {l : List Bm.Tk} (h : TkOut W O l) (hk : W.heap.size ≤ W'.heap.size ∧ ∀ (b : Nat) (o : Obj), W.heap[b]? = some o → o.isCells = true → W'.heap[b]? = some o) : TkOut W' O l := by
  obtain ⟨vs, h1, h2⟩ := h
  exact ⟨vs, h1.cells (by omega) hk.1 hk.2, h2.cells hk.1 hk.2⟩
theorem TkOut.tks {W : World} {O : Option Addr} {l : List Bm.Tk} (h : TkOut W O l) : Tks W O (tz l) := fun k t ht => by
  obtain ⟨vs, h1, h2⟩ := h
  unfold tz at ht
  rw [List.getElem?_map] at ht
  cases hp : l[k]? with
  | none => rw [hp] at ht; cases ht
  | some p =>
    rw [hp] at ht; cases ht
    obtain ⟨a, b, g1, g2, X, xc, rfl, rfl, g3, g4⟩ := h2.2 k p hp
    obtain ⟨bb, off, rfl, hb, hc⟩ := h1.2 (by have := (List.getElem?_eq_some_iff.1 hp).1; omega)
    exact ⟨bb, off, X, xc, rfl, hb, by rw [hc _ _ g1, zs_len], hc _ _ g2, by rw [zs_len]; exact g3, g4⟩
theorem I64.setv {W : World} {A : Option Addr} {xs : List Int} {v : Nat} {O : Option Addr} {n c : Nat} {t : TypeId} (h : I64 W A xs) (hv : W.heap[v]? = some (.cells #[.slice O n c] t (0, 0))) (u : Value) : I64 (W.setCell ⟨v, 0, none⟩ u) A xs := fun i p hp => by
  obtain ⟨b, off, h0, h1, h2, h3⟩ := h i p hp
  have hne : b ≠ v := fun e => by
    subst e
    rw [cell_of_row _ _ _ _ _ _ hv] at h3
    cases hk : off + i with
    | zero => rw [hk] at h3; simp at h3
    | succ m => rw [hk] at h3; simp at h3
  exact ⟨b, off, h0, by rw [size_setCell]; exact h1, by rw [size_setCell]; exact h2, (heap_cell (Below.heap_setCell _ _ _ _ hne)).trans h3⟩
theorem TkOut.setv {W : World} {g : Nat} {l : List Bm.Tk} {v : Nat} {O : Option Addr} {n c : Nat} {t : TypeId} (h : TkOut W (some ⟨g, 0, none⟩) l) (hg : g ≠ v) (hv : W.heap[v]? = some (.cells #[.slice O n c] t (0, 0))) (u : Value) : TkOut (W.setCell ⟨v, 0, none⟩ u) (some ⟨g, 0, none⟩) l := by
  obtain ⟨vs, h1, h2⟩ := h
  refine ⟨vs, ⟨h1.1, fun hm => ?_⟩, h2.1, fun k p hp => ?_⟩
  · obtain ⟨b, off, e, hb, hc⟩ := h1.2 hm
    injection e with e
    injection e with e1 e2 _
    subst e1 e2
    exact ⟨g, 0, rfl, by rw [size_setCell]; exact hb, fun j x hx => (heap_cell (Below.heap_setCell _ _ _ _ hg)).trans (hc j x hx)⟩
  · obtain ⟨a, b, g1, g2, X, xc, e1, e2, g3, g4⟩ := h2.2 k p hp
    exact ⟨a, b, g1, g2, X, xc, e1, e2, g3, g4.setv hv u⟩
theorem wpListIn_append_run {F : Fence} {n : Nat} {P : Program} {w w' : World} {ops : Array Oper} {rest : List Oper} {o : Oper} {a : Act} {Q : Exit → Act → World → Prop}
    (hg : o.guard = none) (s x : Operand) (t : TypeId) (hop : o.op = Op.call { callee := Callee.builtin Builtin.append, args := #[s, x], argTypes := #[t, t] }) (va vx v' : Value) (hs : a.eval s = va) (hx : a.eval x = vx)
    (hrun : (Builtin.append_ #[t, t] o.type #[va, vx]).run P w = .ok v' w') (hK : wpListIn F n P ops Q rest (a.put o.dst v') w') : wpListIn F n P ops Q (o :: rest) a w := by
  refine wpListIn_plain hg fun K hK' => ?_
  unfold Oper.wpIn
  refine ⟨?_, ?_⟩
  · simp [Oper.about, hop, resolve, Target.leads, Sem.run_pure]
  · rw [Oper.semAt_plain F _ _ (by rw [hop]; intro c hc'; cases hc')]
    simp [execOp, hop, resolve, invoke, builtin, hs, hx, hrun, Result.andThen]
    exact hK' _ _ hK
/-- what Map comes to -/
def GivesT (w : World) (l : List Bm.Tk) (e : Ending) (w' : World) : Prop := ∃ O c, e = .returned (.tuple #[.slice O l.length c, .int .i64 0]) ∧ (∃ g, w' = w.grow g) ∧ Tks w' O (tz l) ∧ l.length ≤ c
theorem info34 : (Try.prog.info? 34).map (fun i => (i.zero, i.size, i.bytes)) = some (some (.agg #[.slice none 0 0, .int .i64 0]), 2, 32) := by kernel_rfl
theorem und25 : Try.prog.underlying 25 = some (.slice 34) := by kernel_rfl
theorem slice_full {P : Program} (t e : TypeId) (i : TypeInfo) (ht : P.underlying t = some (.slice e)) (hi : P.info? e = some i) (A : Option Addr) (k c : Nat) (hk : k ≤ c) (w : World) :
    (Instr.sliceAt t (.slice A k c) none (some (.int .i64 (k : Int))) (some (.int .i64 (k : Int)))).run P w = .ok (.slice A k k) w := by
  have h2 : (fun a : Addr => a.add 0) = id := by funext a; simp [Addr.add]
  have h3 : A.map (fun a => a.add 0) = A := by rw [h2]; simp
  simp [Instr.sliceAt, run_underlying ht, Instr.slice, Instr.sliceBounds, Instr.sliceBound, asIntOf, sizeOf, typeInfo, hi, hk, h3]
/-- a ticket more, onto a slice without room -/
theorem app_tk (W : World) (O : Option Addr) (l : List Bm.Tk) (S : List Nat) (u : Nat) (Y : Option Addr) (yc : Nat) (hO : TkOut W O l) (hY : I64 W Y (zs S)) (hyc : S.length ≤ yc) (hl : l.length ≤ 1000000) :
    ∃ c' W', (Builtin.append_ #[25, 25] 25 #[.slice O l.length l.length, .slice (some ⟨W.heap.size, 0, none⟩) 1 1]).run Try.prog (W.alloc (.cells #[.slice Y S.length yc, .int .i64 (u : Nat)] 34)) = .ok (.slice (some ⟨W.heap.size + 1, 0, none⟩) (l.length + 1) c') W' ∧ Below W.heap.size W W' ∧ l.length + 1 ≤ c' ∧ TkOut W' (some ⟨W.heap.size + 1, 0, none⟩) (l ++ [(S, u)]) := by
  obtain ⟨i0, ih, iz, is, ib⟩ := info_parts info34
  have hb : Below W.heap.size W (W.alloc (.cells #[.slice Y S.length yc, .int .i64 (u : Nat)] 34)) := below_alloc (Below.refl _ _) (Nat.le_refl _) _
  obtain ⟨vs, h1, h2⟩ := hO.cells (keeps_below hb)
  have hr : Rd (W.alloc (.cells #[.slice Y S.length yc, .int .i64 (u : Nat)] 34)) 2 (some ⟨W.heap.size, 0, none⟩) 1 [.slice Y S.length yc, .int .i64 (u : Nat)] :=
    ⟨rfl, fun _ => ⟨_, 0, rfl, by simp, fun j v hv => by rw [Nat.zero_add]; exact obj_at (heap_alloc_new W _) j v (by simpa using hv)⟩⟩
  have hone : ∀ v ∈ vs, v.oneCell' = true := fun v hv => by
    obtain ⟨j, hj, rfl⟩ := List.getElem_of_mem hv
    have hjl : j / 2 < l.length := by have := h2.1; omega
    obtain ⟨a, b, g1, g2, X, xc, rfl, rfl, _, _⟩ := h2.2 (j / 2) l[j / 2] (List.getElem?_eq_getElem hjl)
    rcases Nat.mod_two_eq_zero_or_one j with hm | hm
    · have e : j / 2 * 2 = j := by omega
      rw [e, List.getElem?_eq_getElem hj] at g1
      rw [Option.some.inj g1]; rfl
    · have e : j / 2 * 2 + 1 = j := by omega
      rw [e, List.getElem?_eq_getElem hj] at g2
      rw [Option.some.inj g2]; rfl
  obtain ⟨c', g, hrun, hcc, hrd⟩ := full_run (P := Try.prog) (W.alloc (.cells #[.slice Y S.length yc, .int .i64 (u : Nat)] 34)) 25 25 34 i0 _ 2 32 und25 ih iz is ib O l.length vs h1 hone (some ⟨W.heap.size, 0, none⟩) 1 1 [.slice Y S.length yc, .int .i64 (u : Nat)] hr (by simp [Value.oneCell']) (by omega) (by omega) (by unfold maxLen; omega)
  have hb2 : Below W.heap.size W ((W.alloc (.cells #[.slice Y S.length yc, .int .i64 (u : Nat)] 34)).grow g) := below_gr hb (by simp) g
  have hb3 := grow_below (W.alloc (.cells #[.slice Y S.length yc, .int .i64 (u : Nat)] 34)) g
  rw [World.size_alloc] at hrun hrd
  refine ⟨c', _, hrun, hb2, hcc, vs ++ [.slice Y S.length yc, .int .i64 (u : Nat)], ?_, ?_⟩
  · rw [List.length_append]; exact hrd
  · exact (h2.cells (keeps_below hb3).1 (keeps_below hb3).2).snoc ⟨Y, yc, rfl, rfl, hyc, hY.ext hb2⟩
end Go.Proofs.Ytlbkaeoagdbemaa
namespace Go.Proofs.Ytlbkaeoagdbemaa
open Go.RowKit Go.Maps Go.Shelf
attribute [local go_sem] Oper.semAt_some
/-- a valid card with valid tickets -/
structure Ok (R : List Nat) (ts : List Bm.Tk) : Prop where
  h1 : 1 ≤ R.length
  h5 : R.length ≤ 5
  r1 : ∀ n, n ∈ R → 1 ≤ n
  r6 : ∀ n, n ∈ R → n ≤ 6
  t10 : ts.length ≤ 10
  tb : ∀ t, t ∈ ts → Bm.isBox R t.1 = true
  tu : ∀ t, t ∈ ts → 1 ≤ t.2 ∧ t.2 ≤ 1000
theorem Ok.hu {R : List Nat} {ts : List Bm.Tk} (h : Ok R ts) : ∀ t, t ∈ ts → t.2 ≤ 1000 := fun t ht => (h.tu t ht).2
theorem Ok.htl {R : List Nat} {ts : List Bm.Tk} (h : Ok R ts) : ∀ t, t ∈ ts → t.1.length = R.length := fun t ht => Bm.isBox_len (h.tb t ht)
theorem Ok.ht6 {R : List Nat} {ts : List Bm.Tk} (h : Ok R ts) : ∀ t, t ∈ ts → ∀ x, x ∈ t.1 → x < 64 := fun t ht => box64 h.r6 (h.tb t ht)
theorem zs_toNat {l : List Int} (h : ∀ x, x ∈ l → 0 ≤ x) : zs (l.map Int.toNat) = l := by
  unfold zs
  rw [List.map_map]
  conv => rhs; rw [← List.map_id l]
  apply List.map_congr_left
  intro x hx
  have := h x hx
  simp only [Function.comp, id]; omega
theorem not_odd {R S : List Int} (h : oddB R S = false) : ∀ k, (hR : k < R.length) → (hS : k < S.length) → 1 ≤ S[k] ∧ S[k] ≤ 2 ^ R[k].toNat - 1 := fun k hR hS => by
  unfold oddB at h
  simp only [Bool.not_eq_false', List.all_eq_true, decide_eq_true_eq] at h
  exact h (R[k], S[k]) (List.mem_iff_getElem.2 ⟨k, by simp; omega, by simp⟩)
theorem pow_nat (n : Nat) : ((2 : Int) ^ n) = ((2 ^ n : Nat) : Int) := by simp
theorem box_nat {R : List Nat} {S : List Int} (hl : S.length = (zs R).length) (h : oddB (zs R) S = false) : ∃ S' : List Nat, S = zs S' ∧ Bm.isBox R S' = true := by
  have h2 := not_odd h
  rw [zs_len] at hl
  have hS0 : ∀ x, x ∈ S → 0 ≤ x := fun x hx => by
    obtain ⟨k, hk, rfl⟩ := List.getElem_of_mem hx
    have := (h2 k (by rw [zs_len]; omega) hk).1; omega
  refine ⟨S.map Int.toNat, (zs_toNat hS0).symm, Bm.isBox_iff.2 ⟨by simp [hl], fun k hk => ?_⟩⟩
  have h3 := h2 k (by rw [zs_len]; exact hk) (by omega)
  rw [zs_at _ _ hk, Int.toNat_natCast, pow_nat] at h3
  rw [getD_at _ _ (by simp; omega), getD_at _ _ hk, List.getElem_map]
  have hp : 1 ≤ 2 ^ R[k] := Nat.one_le_two_pow
  omega
theorem tz_lift (P : Bm.Tk → Prop) (ts : List Tz) (hall : ∀ t, t ∈ ts → ∃ t' : Bm.Tk, t = (zs t'.1, (t'.2 : Int)) ∧ P t') : ∃ ts' : List Bm.Tk, ts = tz ts' ∧ ∀ t, t ∈ ts' → P t := by
  induction ts with
  | nil => exact ⟨[], rfl, by simp⟩
  | cons t ts ih =>
    obtain ⟨t', e, g⟩ := hall t (by simp)
    obtain ⟨ts', e2, g2⟩ := ih (fun y hy => hall y (by simp [hy]))
    refine ⟨t' :: ts', by rw [e2, e]; rfl, fun y hy => ?_⟩
    rcases List.mem_cons.1 hy with rfl | hy
    · exact g
    · exact g2 y hy
theorem chk_ok {R : List Int} {ts : List Tz} (h : chkT R ts = 0) : ∃ R' ts', R = zs R' ∧ ts = tz ts' ∧ Ok R' ts' := by
  unfold chkT at h
  split at h
  · contradiction
  · rename_i hc
    have hc : chkCard R = 0 := by simpa using hc
    obtain ⟨c1, c5, c6⟩ := chkCard_ok hc
    split at h
    · simp at h
    · rename_i h10
      split at h
      · contradiction
      · rename_i hb
        have hb : areB R ts = 0 := by simpa using hb
        split at h
        · simp at h
        · rename_i hf
          have hR0 : ∀ x, x ∈ R → 0 ≤ x := fun x hx => by
            obtain ⟨k, hk, rfl⟩ := List.getElem_of_mem hx
            have := (c6 k hk).1; omega
          have hR := (zs_toNat hR0).symm
          unfold areB at hb
          split at hb
          · simp at hb
          · rename_i hsh
            split at hb
            · simp at hb
            · rename_i hod
              have hall : ∀ t, t ∈ ts → ∃ t' : Bm.Tk, t = (zs t'.1, (t'.2 : Int)) ∧ Bm.isBox (R.map Int.toNat) t'.1 = true ∧ 1 ≤ t'.2 ∧ t'.2 ≤ 1000 := fun t ht => by
                have g1 : shortB R t = false := by
                  have : ts.any (shortB R) = false := by simpa using hsh
                  rw [List.any_eq_false] at this
                  simpa using this t ht
                have g2 : oddT R t = false := by
                  have : ts.any (oddT R) = false := by simpa using hod
                  rw [List.any_eq_false] at this
                  simpa using this t ht
                have g3 : unfitB t = false := by
                  have : ts.any unfitB = false := by simpa using hf
                  rw [List.any_eq_false] at this
                  simpa using this t ht
                have g1' : t.1.length = R.length := by unfold shortB at g1; simpa using g1
                unfold oddT at g2
                unfold unfitB at g3
                have g3' : 1 ≤ t.2 ∧ t.2 ≤ 1000 := by simpa using g3
                rw [hR] at g1' g2
                obtain ⟨S', e1, e2⟩ := box_nat g1' g2
                refine ⟨(S', t.2.toNat), ?_, e2, by simp; omega, by simp; omega⟩
                ext1
                · exact e1
                · simp; omega
              have hts := tz_lift (fun t' => Bm.isBox (R.map Int.toNat) t'.1 = true ∧ 1 ≤ t'.2 ∧ t'.2 ≤ 1000) ts hall
              obtain ⟨ts', e, g⟩ := hts
              refine ⟨R.map Int.toNat, ts', hR, e, ⟨by simpa using c1, by simpa using c5, fun n hn => ?_, fun n hn => ?_, ?_, fun t ht => (g t ht).1, fun t ht => (g t ht).2⟩⟩
              · obtain ⟨x, hx, rfl⟩ := List.mem_map.1 hn
                obtain ⟨k, hk, rfl⟩ := List.getElem_of_mem hx
                have := (c6 k hk).1; omega
              · obtain ⟨x, hx, rfl⟩ := List.mem_map.1 hn
                obtain ⟨k, hk, rfl⟩ := List.getElem_of_mem hx
                have := (c6 k hk).2; omega
              · rw [e, tz_len] at h10; omega
theorem ok_chk {R : List Nat} {ts : List Bm.Tk} (h : Ok R ts) : chkT (zs R) (tz ts) = 0 := by
  have hc : chkCard (zs R) = 0 := by
    unfold chkCard
    have hd : decide (1 ≤ ((zs R).length : Int) ∧ ((zs R).length : Int) ≤ 5) = true := by rw [zs_len]; have := h.h1; have := h.h5; simp; omega
    rw [hd, if_neg (by simp), if_pos]
    rw [List.all_eq_true]
    intro x hx
    obtain ⟨n, hn, rfl⟩ := List.mem_map.1 hx
    have := h.r1 n hn; have := h.r6 n hn
    simp; omega
  have hodd : ∀ t, t ∈ ts → oddB (zs R) (zs t.1) = false := fun t ht => by
    have hb := h.tb t ht
    unfold oddB
    simp only [Bool.not_eq_false', List.all_eq_true, decide_eq_true_eq]
    intro p hp
    obtain ⟨k, hk, rfl⟩ := List.getElem_of_mem hp
    have hkR : k < R.length := by simp [zs] at hk; omega
    have hkS : k < t.1.length := by rw [h.htl t ht]; exact hkR
    have := Bm.isBox_at hb k hkR
    rw [getD_at _ _ hkS, getD_at _ _ hkR] at this
    have hp : 1 ≤ 2 ^ R[k] := Nat.one_le_two_pow
    simp only [List.getElem_zip, zs_at _ _ hkR, zs_at _ _ hkS, Int.toNat_natCast, pow_nat]
    omega
  have hb : areB (zs R) (tz ts) = 0 := by
    unfold areB
    rw [if_neg, if_neg]
    · simp only [Bool.not_eq_true, List.any_eq_false]
      intro t ht
      obtain ⟨t', ht', rfl⟩ := List.mem_map.1 ht
      simp [oddT, hodd t' ht']
    · simp only [Bool.not_eq_true, List.any_eq_false]
      intro t ht
      obtain ⟨t', ht', rfl⟩ := List.mem_map.1 ht
      simp [shortB, zs_len, h.htl t' ht']
  unfold chkT
  rw [hc, if_neg (by simp), if_neg (by rw [tz_len]; have := h.t10; omega), hb, if_neg (by simp), if_neg]
  simp only [Bool.not_eq_true, List.any_eq_false]
  intro t ht
  obtain ⟨t', ht', rfl⟩ := List.mem_map.1 ht
  have := h.tu t' ht'
  simp [unfitB]; omega
theorem Ok.len {R : List Nat} {ts : List Bm.Tk} (h : Ok R ts) : (zs R).length ≤ 1000000 ∧ (tz ts).length ≤ 1000000 ∧ ∀ t, t ∈ tz ts → t.1.length ≤ 1000000 := by
  refine ⟨by rw [zs_len]; have := h.h5; omega, by rw [tz_len]; have := h.t10; omega, fun t ht => ?_⟩
  obtain ⟨t', ht', rfl⟩ := List.mem_map.1 ht
  have := h.htl t' ht'; have := h.h5
  simp only [zs_len]; omega
theorem opens_n (A : Option Addr) (R : List Nat) (rc : Nat) (B : Option Addr) (ts : List Bm.Tk) (d : Nat) (w : World) (hA : I64 w A (zs R)) (hB : Tks w B (tz ts)) (hok : Ok R ts) : Calls Try.prog 61 #[.agg #[.slice A R.length rc], .slice B ts.length d] w (Opens w A (zs R) rc B (tz ts) d) := by
  have := open_ok A (zs R) rc B (tz ts) d w hA hB hok.len.1 hok.len.2.1 hok.len.2.2 (ok_chk hok)
  rwa [zs_len, tz_len] at this
theorem tkout_nil (W : World) : TkOut W none [] := ⟨[], ⟨rfl, fun h => by simp at h⟩, TVs.nil W⟩
theorem ownP_out {B b : Nat} (h : b < B) : OwnP B (fun pre W => ∃ O c, W.heap[b]? = some (.cells #[.slice O pre.length c] 25 (0, 0)) ∧ TkOut W O pre ∧ pre.length ≤ c) := fun pre W W' row hi hg hr => by
  obtain ⟨O, c, h1, h2, h3⟩ := hi
  exact ⟨O, c, (hg.block b (obj_lt h1) (fun e => by have := (hr b e.symm).1; omega)).trans h1, h2.cells (keeps_row hg (fun r e => (hr r e).2)), h3⟩
set_option maxRecDepth 100000 in
set_option maxHeartbeats 4000000 in
theorem map_ok (A : Option Addr) (R : List Nat) (rc : Nat) (B : Option Addr) (ts : List Bm.Tk) (d : Nat) (w : World) (hA : I64 w A (zs R)) (hB : Tks w B (tz ts)) (hok : Ok R ts) : Calls Try.prog 29 #[.agg #[.slice A R.length rc], .slice B ts.length d] w (GivesT w (allParts R ts)) := by
  have HOP := hide (fun w' (h1 : I64 w' A (zs R)) (h2 : Tks w' B (tz ts)) => opens_n A R rc B ts d w' h1 h2 hok)
  refine (callsIn_wide (n := 8)).1 ?_
  refine callsIn_of_wp_marks Try.func29 rfl trivial ?_ rfl
  simp only [Try.ntmps29, List.size_toArray, List.length_cons, List.length_nil, Nat.reduceAdd, Nat.reduceSub, Array.replicate_succ, Array.replicate_zero, List.push_toArray, List.append_toArray, List.nil_append, List.cons_append]
  refine wpIn_wide.2 ?_
  go_wp2_with (first
    | (go_at_call 61; refine (HOP.out _ (hA.ext (by (repeat (first | exact Below.refl _ _ | assumption | refine below_drewN ?_ _ | refine below_drew ?_ | refine below_gr ?_ ?_ _ | refine below_alloc ?_ ?_ _ | refine Below.setCell ?_ ?_ _ | refine below_step ?_ (by assumption) ?_ | omega | (simp only [zz] at *; omega))))) (hB.ext (by (repeat (first | exact Below.refl _ _ | assumption | refine below_drewN ?_ _ | refine below_drew ?_ | refine below_gr ?_ ?_ _ | refine below_alloc ?_ ?_ _ | refine Below.setCell ?_ ?_ _ | refine below_step ?_ (by assumption) ?_ | omega | (simp only [zz] at *; omega)))))).mono ?_; rintro e w1 ⟨s, rfl, hb1, hs1, hS1⟩; replace hb1 := ex_below hb1; have hz1 := hb1.size; simp only [World.size_alloc] at hz1)
    | (go_at_call 65; refine (parts_any (some ⟨s, 0, none⟩) _).mono ?_; rintro e w3 ⟨rfl, rfl⟩))
  have hbW0 : Below w1.heap.size w1 ((w1.alloc (.cells #[.slice none 0 0] 25)).alloc (.cells #[.pointer (some ⟨s, 0, none⟩)] 80)) := by (repeat (first | exact Below.refl _ _ | assumption | (refine below_gr ?_ (by (first | omega | (simp only [zz] at *; omega))) _) | (refine below_alloc ?_ (by (first | omega | (simp only [zz] at *; omega))) _) | (refine Below.setCell ?_ (by (first | omega | (simp only [zz] at *; omega))) _) | refine below_drewN ?_ _ | refine below_drew ?_ | (refine below_step ?_ (by assumption) (by (first | omega | (simp only [zz] at *; omega))))))
  have q3 : ((w1.alloc (.cells #[.slice none 0 0] 25)).alloc (.cells #[.pointer (some ⟨s, 0, none⟩)] 80)).heap[w1.heap.size]? = some (.cells #[.slice none 0 0] 25 (0, 0)) := heap_a _ _ _
  have qB : ((w1.alloc (.cells #[.slice none 0 0] 25)).alloc (.cells #[.pointer (some ⟨s, 0, none⟩)] 80)).cell? ⟨w1.heap.size + 1, 0, none⟩ = some (.pointer (some ⟨s, 0, none⟩)) := obj_at (heap_b _ _ _) 0 _ rfl
  have hsz0 : ((w1.alloc (.cells #[.slice none 0 0] 25)).alloc (.cells #[.pointer (some ⟨s, 0, none⟩)] 80)).heap.size = w1.heap.size + 1 + 1 := by simp
  obtain ⟨W0, hW0⟩ : ∃ W0, ((w1.alloc (.cells #[.slice none 0 0] 25)).alloc (.cells #[.pointer (some ⟨s, 0, none⟩)] 80)) = W0 := ⟨_, rfl⟩
  rw [hW0] at hbW0 q3 qB hsz0 ⊢
  clear hW0
  have hb1w : Below w.heap.size w w1 := by (repeat (first | exact Below.refl _ _ | assumption | (refine below_gr ?_ (by (first | omega | (simp only [zz] at *; omega))) _) | (refine below_alloc ?_ (by (first | omega | (simp only [zz] at *; omega))) _) | (refine Below.setCell ?_ (by (first | omega | (simp only [zz] at *; omega))) _) | refine below_drewN ?_ _ | refine below_drew ?_ | (refine below_step ?_ (by assumption) (by (first | omega | (simp only [zz] at *; omega))))))
  have hpl := (allParts_len (ts := ts) hok.r1 hok.r6 hok.h5)
  have HPL := hide hpl
  clear hpl
  refine (wpIn_wide (n := 8)).1 ?_
  refine range_parts s A R rc B ts d w1 hS1 hok.h5 hok.r6 hok.t10 hok.hu hok.htl hok.ht6 (w1.heap.size + 1) rfl rfl (fun b hb => hbW0.block b hb) (by omega) (by omega) qB
    (fun pre W => (∃ O c, W.heap[w1.heap.size]? = some (.cells #[.slice O pre.length c] 25 (0, 0)) ∧ TkOut W O pre ∧ pre.length ≤ c) ∧ Below w1.heap.size w1 W)
    ((ownP_out (by omega)).and (ownP_below (by omega) (Nat.le_refl _))) ⟨⟨none, 0, q3, tkout_nil _, Nat.le_refl _⟩, hbW0⟩
    (fun x y => { tmps := #[.agg #[.slice A R.length rc], .slice B ts.length d, .pointer (some ⟨w.heap.size, 0, none⟩), undef, .slice none 0 0, .int .i64 0, .pointer (some ⟨s, 0, none⟩), .int .i64 0, .pointer (some ⟨w1.heap.size, 0, none⟩), x, y, .tuple #[.pointer (some ⟨s, 0, none⟩), .int .i64 0], .agg #[.slice A R.length rc], .slice B ts.length d, .tuple #[.pointer (some ⟨s, 0, none⟩), .int .i64 0], .pointer (some ⟨s, 0, none⟩), .int .i64 0, .int .i64 0, .bool false, undef, .pointer (some ⟨s, 0, none⟩), .func (.func 88) #[] #[.pointer (some ⟨w1.heap.size + 1, 0, none⟩)], x, y, undef, undef, undef, undef, undef, undef, undef, undef, undef, undef, undef, undef], defers := [] }) ?assign ?body ?done
  case assign =>
    intro l x y W K hK
    gi_wp2
    exact hK
  case done =>
    rintro D W ⟨⟨O, c, i3, it, ic⟩, ib⟩ hD hk hDw
    have c3 := obj_at i3 0 _ rfl
    have hl3 := obj_lt i3
    have HT := hide it
    clear it
    go_wp2
    refine ⟨by simp, .inl ⟨_, _, rfl, run_takeDeferred hD, ?_⟩⟩
    have hb2 : Below w.heap.size w (W.putObj D (.deferred none)) := (hb1w.trans (ib.mono (by omega))).trans (belowK_b (w := w) (Nat.le_refl _) W D _ _ (by omega) hD rfl rfl)
    exact ⟨.tuple #[.slice O (allParts R ts).length c, .int .i64 0], by simp [results, Try.results29, go_sem], O, c, rfl, below_grow hb2, ((HT.out.cells (keeps_row (grownBy_putObj' W D _) (fun r e => by cases e; exact ⟨_, hD, rfl⟩))).tks), ic⟩
  case body =>
    rintro l pre S u Y yc W hpre ⟨⟨O, c, i3, it, ic⟩, ib⟩ hO hz hY hSl hyc hYh
    have hpl := hpre.length_le
    have c3 := obj_at i3 0 _ rfl
    have f3 := obj_fz i3 0
    have hl3 := obj_lt i3
    have hlp : pre.length ≤ 7776 := by have := HPL.out; simp at hpl; omega
    obtain ⟨c', W', happ, hb', hcc, ht'⟩ := app_tk W O pre S u Y yc it hY hyc (by omega)
    obtain ⟨i0, ih, iz, is, ib0⟩ := info_parts info34
    have hsl := slice_full (P := Try.prog) 25 34 i0 und25 ih O pre.length c ic W
    clear ih iz is ib0
    have c9 := (hb'.cell (p := ⟨w1.heap.size, 0, none⟩) hl3).trans c3
    have n3 := (hb'.block _ hl3).trans i3
    have f9 := obj_fz n3 0
    have hz' := hb'.size
    have HIB := hide ib
    have HT := hide ht'
    have HA := hide happ
    clear ht' it hSl happ
    gi_wp2_with (gi_at_builtin; refine wpListIn_append_run rfl (.tmp 29) (.tmp 33) 25 rfl _ _ _ rfl rfl HA.out ?_)
    have hs0 := set_obj n3 0 (.slice (some ⟨W.heap.size + 1, 0, none⟩) (pre.length + 1) c')
    refine ⟨(ko_below hb').trans (KeepsOthers.setCell _ _ _), (KpR.below hb').trans (KpR.setCell _ (Nat.le_refl _) (by omega) _), ⟨some ⟨W.heap.size + 1, 0, none⟩, c', ?_, ?_, ?_⟩, ?_⟩
    · rw [hs0, List.length_append]; simp
    · exact HT.out.setv (by omega) n3 _
    · rw [List.length_append]; simpa using hcc
    · exact Below.setCell (p := ⟨w1.heap.size, 0, none⟩) (HIB.out.trans (hb'.mono HIB.out.size)) (Nat.le_refl _) _
end Go.Proofs.Ytlbkaeoagdbemaa
