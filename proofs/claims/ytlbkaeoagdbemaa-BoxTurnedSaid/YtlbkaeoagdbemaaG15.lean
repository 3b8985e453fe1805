/- Proved here: lists of tickets that are built anew, a part of the proofs about the box laws. Conditions: those that each theorem names, no others. -/
import Derived.Test.YtlbkaeoagdbemaaP38
import Derived.WalkKit
import Derived.WalkSpells
import Derived.WalkLawsBesides
import Derived.Below
import Derived.Deep.QuietTactic
import Derived.BigQuiet
import Derived.Deep.Light
import Derived.Deep.RegionHeld3
set_option linter.unusedSimpArgs false
set_option linter.unusedVariables false
namespace Go.Proofs.Ytlbkaeoagdbemaa
open Go.RowKit Go.Maps
/-- a block that is there, at or above a bound, and is not the row's -/
def Side (B : Nat) (W : World) (v : Value) (b : Nat) (o : Obj) : Prop := B ≤ b ∧ b < W.heap.size ∧ W.heap[b]? = some o ∧ Far v b
theorem Side.alloc {B : Nat} {W : World} {v : Value} {b : Nat} {o : Obj} (h : Side B W v b o) (o' : Obj) : Side B (W.alloc o') v b o :=
  ⟨h.1, by have := h.2.1; rw [World.size_alloc]; omega, (Below.heap_alloc _ _ _ h.2.1).trans h.2.2.1, h.2.2.2⟩
theorem Side.grown {B : Nat} {W W' : World} {v v' : Value} {b : Nat} {o : Obj} (h : Side B W v b o) (hg : W.grownBy W' v.ownBlock) (hf : ∀ b, b < W.heap.size → Far v b → Far v' b) : Side B W' v' b o :=
  ⟨h.1, Nat.lt_of_lt_of_le h.2.1 hg.size, (hg.block b h.2.1 (fun e => h.2.2.2 b e.symm rfl)).trans h.2.2.1, hf b h.2.1 h.2.2.2⟩
theorem Side.below {B : Nat} {W W' : World} {v : Value} {b : Nat} {o : Obj} (h : Side B W v b o) (hb : Below W.heap.size W W') : Side B W' v b o :=
  ⟨h.1, Nat.lt_of_lt_of_le h.2.1 hb.size, (hb.block b h.2.1).trans h.2.2.1, h.2.2.2⟩
theorem Side.fresh {B P : Nat} {W : World} {v : Value} {e : TypeId} {sz n : Nat} {xs : List Value} (hB : B ≤ W.heap.size) (hO : W.ownsRow P e sz v n xs) (cs : Array Value) (t : TypeId) : Side B (W.alloc (.cells cs t)) v W.heap.size (.cells cs t) :=
  ⟨hB, by rw [World.size_alloc]; omega, heap_alloc_new W _, fun g hg => by have := (hO.lt g hg).2; omega⟩
theorem Side.fresh0 {B : Nat} {W : World} (hB : B ≤ W.heap.size) (cs : Array Value) (t : TypeId) : Side B (W.alloc (.cells cs t)) (.slice none 0 0) W.heap.size (.cells cs t) :=
  ⟨hB, by rw [World.size_alloc]; omega, heap_alloc_new W _, fun g hg => by cases hg⟩
theorem Side.lit {B : Nat} {W : World} {v : Value} {b : Nat} {o : Obj} (h : Side B W v b o) (o' : Obj) : Side B (W.alloc o') (.slice (some ⟨W.heap.size, 0, none⟩) 0 0) b o :=
  ⟨h.1, by have := h.2.1; rw [World.size_alloc]; omega, (Below.heap_alloc _ _ _ h.2.1).trans h.2.2.1, fun g hg => by have := h.2.1; have := Option.some.inj hg; (try dsimp only at this); omega⟩
theorem Side.rd {B : Nat} {W : World} {v : Value} {b : Nat} {t : TypeId} {x : Value} (h : Side B W v b (.cells #[x] t (0, 0))) : Rd W 1 (some ⟨b, 0, none⟩) 1 [x] :=
  ⟨rfl, fun _ => ⟨b, 0, rfl, h.2.1, fun j u hu => by
    have hj : j = 0 := by
      have := (List.getElem?_eq_some_iff.1 hu).1
      simpa using this
    subst hj
    simp at hu
    subst hu
    exact obj_at h.2.2.1 0 _ rfl⟩⟩
theorem Side.set {B : Nat} {W : World} {v : Value} {b : Nat} {cs : Array Value} {t : TypeId} (h : Side B W v b (.cells cs t (0, 0))) (k : Nat) (u : Value) : Side B (W.setCell ⟨b, k, none⟩ u) v b (.cells (cs.setIfInBounds k u) t (0, 0)) :=
  ⟨h.1, by rw [size_setCell]; exact h.2.1, set_obj h.2.2.1 k u, h.2.2.2⟩
theorem step_appN {P : Program} (w : World) {ops : Array Oper} {o : Oper} {a : Act} {K : Act → World → Prop} {Q : Exit → Act → World → Prop} {E : Prop} (hgd : o.guard = none) (s x : Operand) (t : TypeId)
    (ho : o.op = .call { callee := .builtin .append, args := #[s, x], argTypes := #[t, t] })
    (base : Nat) (e : TypeId) (i : TypeInfo) (z : Value) (size bytes : Nat) (ht : P.underlying t = some (.slice e)) (hi : P.info? e = some i) (hz : i.zero = some z)
    (hsize : i.size = size) (hby : i.bytes = bytes) (hzs : z.cells.size = size) (hsz : 0 < size) (v : Value) (n : Nat) (xs : List Value) (hs : a.eval s = v) (hown : w.ownsRow base e size v n xs)
    (A : Option Addr) (m c : Nat) (news : List Value) (hx : a.eval x = .slice A m c) (hr : Rd w size A m news) (h1 : ∀ u ∈ news, u.oneCell' = true) (h63 : n + m ≤ maxLen) (hbytes : (n + m) * bytes ≤ 140737488355328) (hbase : base ≤ w.heap.size)
    (h : ∀ A' c' w', w'.ownsRow base e size (.slice A' (n + m) c') (n + m) (xs ++ news) → w.grownBy w' v.ownBlock → (∀ b, b < w.heap.size → Far v b → Far (.slice A' (n + m) c') b) → K (a.put o.dst (.slice A' (n + m) c')) w') :
    if Region.wanted o (yielded ops a.tmps) = true then Oper.wp P o a w K Q else E := by
  have hw : Region.wanted o (yielded ops a.tmps) = true := by simp [Region.wanted, hgd]
  rw [if_pos hw]
  exact wp_appN w s x t ho base e i z size bytes ht hi hz hsize hby hzs hsz v n xs hs hown A m c news hx hr h1 h63 hbytes hbase h
abbrev Row := Option Addr × List Int × Nat × Int
/-- the cells of tickets that lie side by side -/
def cellsT (rows : List Row) : List Value := rows.flatMap fun r => [Value.slice r.1 r.2.1.length r.2.2.1, .int .i64 r.2.2.2]
def tksT (rows : List Row) : List Tz := rows.map fun r => (r.2.1, r.2.2.2)
def RowsOk (w : World) (rows : List Row) : Prop := ∀ r, r ∈ rows → I64 w r.1 r.2.1 ∧ r.2.1.length ≤ r.2.2.1
theorem RowsOk.ext {w w' : World} {rows : List Row} (h : RowsOk w rows) (hb : Below w.heap.size w w') : RowsOk w' rows := fun r hr => ⟨(h r hr).1.ext hb, (h r hr).2⟩
theorem RowsOk.app {w : World} {a b : List Row} (h : RowsOk w a) (h' : RowsOk w b) : RowsOk w (a ++ b) := fun r hr => (List.mem_append.1 hr).elim (h r) (h' r)
theorem cellsT_app (a b : List Row) : cellsT (a ++ b) = cellsT a ++ cellsT b := List.flatMap_append
theorem cellsT_len (rows : List Row) : (cellsT rows).length = rows.length * 2 := by
  unfold cellsT
  induction rows with
  | nil => rfl
  | cons a l ih => rw [List.flatMap_cons, List.length_append, ih, List.length_cons]; simp; omega
theorem cellsT_one (rows : List Row) : ∀ u ∈ cellsT rows, u.oneCell' = true := by
  intro u hu
  obtain ⟨r, _, hr⟩ := List.mem_flatMap.1 hu
  simp only [List.mem_cons, List.not_mem_nil, or_false] at hr
  rcases hr with rfl | rfl <;> rfl
theorem cellsT_at (r : Row) : ∀ (rows : List Row) (k : Nat), rows[k]? = some r → (cellsT rows)[k * 2]? = some (.slice r.1 r.2.1.length r.2.2.1) ∧ (cellsT rows)[k * 2 + 1]? = some (.int .i64 r.2.2.2) := fun rows => by
  unfold cellsT
  induction rows with
  | nil => intro k hk; simp at hk
  | cons a rows ih =>
    intro k hk
    cases k with
    | zero => obtain rfl := Option.some.inj (by simpa using hk); simp
    | succ k =>
      have := ih k (by simpa using hk)
      rw [show (k + 1) * 2 = k * 2 + 2 by omega]
      simpa using this
theorem tks_rows {w : World} {A : Option Addr} {ts : List Tz} (h : Tks w A ts) : ∃ rows, tksT rows = ts ∧ RowsOk w rows ∧ Rd w 2 A ts.length (cellsT rows) := by
  by_cases h0 : ts.length = 0
  · obtain rfl := List.eq_nil_of_length_eq_zero h0
    exact ⟨[], rfl, fun r hr => by simp at hr, rfl, fun h => absurd h (by simp)⟩
  · obtain ⟨b, o, rfl, hlt⟩ := h.form (by omega)
    have hex : ∀ k : Nat, ∃ r : Row, ∀ hk : k < ts.length, (r.2.1, r.2.2.2) = ts[k] ∧ I64 w r.1 r.2.1 ∧ r.2.1.length ≤ r.2.2.1 ∧ w.cell? ⟨b, o + k * 2, none⟩ = some (.slice r.1 r.2.1.length r.2.2.1) ∧ w.cell? ⟨b, o + k * 2 + 1, none⟩ = some (.int .i64 r.2.2.2) := fun k => by
      by_cases hk : k < ts.length
      · obtain ⟨S, c, q1, q2, q3, hS⟩ := h.at (k := k) hk
        exact ⟨(S, ts[k].1, c, ts[k].2), fun _ => ⟨rfl, hS, q3, q1, q2⟩⟩
      · exact ⟨(none, [], 0, 0), fun h => absurd h hk⟩
    obtain ⟨f, hf⟩ := Classical.axiomOfChoice hex
    have hmem : ∀ r, r ∈ (List.range ts.length).map f → ∃ k, ∃ hk : k < ts.length, f k = r := fun r hr => by
      obtain ⟨k, hk, rfl⟩ := List.mem_map.1 hr
      exact ⟨k, List.mem_range.1 hk, rfl⟩
    refine ⟨(List.range ts.length).map f, ?_, fun r hr => ?_, ?_, fun _ => ⟨b, o, rfl, hlt, fun j u hu => ?_⟩⟩
    · unfold tksT
      apply List.ext_getElem
      · simp
      · intro i h1 h2
        simp only [List.getElem_map, List.getElem_range]
        exact (hf i h2).1
    · obtain ⟨k, hk, rfl⟩ := hmem r hr
      exact ⟨(hf k hk).2.1, (hf k hk).2.2.1⟩
    · rw [cellsT_len]; simp
    · have hj : j < ts.length * 2 := by have := (List.getElem?_eq_some_iff.1 hu).1; rw [cellsT_len] at this; simpa using this
      have hk : j / 2 < ts.length := by omega
      have hr : ((List.range ts.length).map f)[j / 2]? = some (f (j / 2)) := by simp [hk]
      obtain ⟨e1, e2⟩ := cellsT_at _ _ _ hr
      obtain ⟨-, -, -, q1, q2⟩ := hf _ hk
      rcases Nat.mod_two_eq_zero_or_one j with h2 | h2
      · have hj2 : j / 2 * 2 = j := by omega
        rw [hj2] at e1 q1
        rw [e1] at hu
        rw [q1]; exact hu
      · have hj2 : j / 2 * 2 + 1 = j := by omega
        rw [hj2] at e2
        rw [Nat.add_assoc, hj2] at q2
        rw [e2] at hu
        rw [q2]; exact hu
theorem own_at2 {w : World} {B : Nat} {e : TypeId} {sz n c : Nat} {A : Option Addr} {xs : List Value} (h : w.ownsRow B e sz (.slice A n c) n xs) (k : Nat) (u : Value) (hu : xs[k]? = some u) : ∃ b, A = some ⟨b, 0, none⟩ ∧ b < w.heap.size ∧ w.cell? ⟨b, k, none⟩ = some u := by
  have hk : k < xs.length := (List.getElem?_eq_some_iff.1 hu).1
  have hl := h.1
  obtain ⟨g, cap, cur, hv, hB, hh, hr⟩ := h.2.resolve_left (by rintro ⟨_, h0⟩; subst h0; rw [hl, Nat.zero_mul] at hk; omega)
  injection hv with hA _ _
  subst hA
  have hlt : g < w.heap.size := by
    rcases Nat.lt_or_ge g w.heap.size with h1 | h1
    · exact h1
    · rw [Array.getElem?_eq_none h1] at hh; cases hh
  have hc := h.cells (g := g) rfl k u hu
  refine ⟨g, rfl, hlt, ?_⟩
  unfold Addr.add at hc
  split at hc <;> simp_all
theorem own_tks {w : World} {B : Nat} {e : TypeId} {n c : Nat} {A : Option Addr} {rows : List Row} (h : w.ownsRow B e 2 (.slice A n c) n (cellsT rows)) (hr : RowsOk w rows) : Tks w A (tksT rows) := fun k x hx => by
  unfold tksT at hx
  rw [List.getElem?_map] at hx
  cases hk : rows[k]? with
  | none => rw [hk] at hx; cases hx
  | some r =>
    rw [hk] at hx
    obtain rfl := Option.some.inj hx
    obtain ⟨h1, h2⟩ := hr r (List.mem_of_getElem? hk)
    obtain ⟨e1, e2⟩ := cellsT_at r rows k hk
    obtain ⟨b, hA, hl, c1⟩ := own_at2 h _ _ e1
    obtain ⟨b', hA', _, c2⟩ := own_at2 h _ _ e2
    rw [hA] at hA'
    injection hA' with hA'
    injection hA' with e3
    subst e3
    exact ⟨b, 0, r.1, r.2.2.1, hA, hl, by rw [Nat.zero_add]; exact c1, by rw [Nat.zero_add]; exact c2, h2, h1⟩
theorem rd_take {w : World} {A : Option Addr} {n i : Nat} {rows : List Row} (h : Rd w 2 A n (cellsT rows)) (hl : rows.length = n) (hi : i ≤ n) : Rd w 2 A i (cellsT (rows.take i)) := by
  refine ⟨by rw [cellsT_len, List.length_take]; congr 1; omega, fun h0 => ?_⟩
  obtain ⟨b, o, h1, h2, h3⟩ := h.2 (by omega)
  refine ⟨b, o, h1, h2, fun j u hu => h3 j u ?_⟩
  have hj := (List.getElem?_eq_some_iff.1 hu).1
  rw [← List.take_append_drop i rows, cellsT_app, List.getElem?_append_left hj]
  exact hu
theorem rd_drop {w : World} {b o n k d : Nat} {rows : List Row} (h : Rd w 2 (some ⟨b, o, none⟩) n (cellsT rows)) (hl : rows.length = n) (hk : k ≤ n) (hd : n ≤ d) : Rd w 2 (if d = k then some ⟨b, o, none⟩ else some ⟨b, o + k * 2, none⟩) (n - k) (cellsT (rows.drop k)) := by
  refine ⟨by rw [cellsT_len, List.length_drop]; congr 1; omega, fun h0 => ?_⟩
  rw [if_neg (by omega)]
  obtain ⟨b', o', h1, h2, h3⟩ := h.2 (by omega)
  injection h1 with h1
  injection h1 with e1 e2 _
  subst e1 e2
  refine ⟨b, o + k * 2, rfl, h2, fun j u hu => ?_⟩
  have hlen : (cellsT (rows.take k)).length = k * 2 := by rw [cellsT_len, List.length_take]; congr 1; omega
  have := h3 (k * 2 + j) u (by
    rw [← List.take_append_drop k rows, cellsT_app, List.getElem?_append_right (by omega), hlen, show k * 2 + j - k * 2 = j by omega]
    exact hu)
  rw [show o + k * 2 + j = o + (k * 2 + j) by omega]
  exact this
end Go.Proofs.Ytlbkaeoagdbemaa
