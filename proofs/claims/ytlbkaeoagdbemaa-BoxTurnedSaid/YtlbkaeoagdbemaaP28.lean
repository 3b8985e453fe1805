/- Proved here: rows of numbers; the reference: all outcomes, a part of the proofs about the box laws. Conditions: those that each theorem names, no others. -/
import Derived.Test.YtlbkaeoagdbemaaP27
import Derived.WalkKit
import Derived.WalkSpells
import Derived.WalkLawsBesides
import Derived.Below
import Derived.Deep.QuietTactic
import Derived.BigQuiet
import Derived.Deep.Light
import Derived.Deep.RegionHeld3
import Derived.Maps.AppendAt
import Derived.Test.YtlbkaeoagdbemaaP03
import Derived.Test.YtlbkaeoagdbemaaP18
import Derived.Test.YtlbkaeoagdbemaaP04
set_option linter.unusedSimpArgs false
set_option linter.unusedVariables false
namespace Go.Proofs.Ytlbkaeoagdbemaa
open Go.RowKit Go.Maps
theorem und88 : Try.prog.underlying 88 = some (.slice 22) := by kernel_rfl
theorem info22 : (Try.prog.info? 22).map (fun i => (i.zero, i.size, i.bytes)) = some (some (.slice none 0 0), 1, 24) := by kernel_rfl
theorem own_at {w : World} {B : Nat} {e : TypeId} {n c : Nat} {A : Option Addr} {xs : List Value} (h : w.ownsRow B e 1 (.slice A n c) n xs) (k : Nat) (u : Value) (hu : xs[k]? = some u) : ∃ b, A = some ⟨b, 0, none⟩ ∧ b < w.heap.size ∧ w.cell? ⟨b, 0 + k, none⟩ = some u := by
  have hk : k < xs.length := (List.getElem?_eq_some_iff.1 hu).1
  have hl := h.1
  obtain ⟨g, cap, cur, hv, hB, hh, hr⟩ := h.2.resolve_left (by rintro ⟨_, h0⟩; omega)
  injection hv with hA _ _
  subst hA
  have hlt : g < w.heap.size := by
    rcases Nat.lt_or_ge g w.heap.size with h1 | h1
    · exact h1
    · rw [Array.getElem?_eq_none h1] at hh; cases hh
  have hc := h.cells (g := g) rfl k u hu
  refine ⟨g, rfl, hlt, ?_⟩
  rw [Nat.zero_add]
  unfold Addr.add at hc
  split at hc <;> simp_all
theorem ownI {w : World} {B : Nat} {e : TypeId} {n c : Nat} {A : Option Addr} {xs : List Int} (h : w.ownsRow B e 1 (.slice A n c) n (xs.map (Value.int .i64))) : I64 w A xs := fun k x hk => by
  obtain ⟨b, hA, hl, hc⟩ := own_at h k (.int .i64 x) (by rw [List.getElem?_map, hk]; rfl)
  exact ⟨b, 0, hA, hl, by omega, hc⟩

/-- a slice value that does not lie in this block -/
def Far (v : Value) (b : Nat) : Prop := ∀ g, v.ownBlock = some g → b ≠ g
theorem app_runN {P : Program} (w : World) (base : Nat) (t ty e : TypeId) (i : TypeInfo) (z : Value) (size bytes : Nat) (ht : P.underlying t = some (.slice e)) (hi : P.info? e = some i) (hz : i.zero = some z)
    (hsize : i.size = size) (hby : i.bytes = bytes) (hzs : z.cells.size = size) (hsz : 0 < size) (v : Value) (n : Nat) (xs : List Value) (hown : w.ownsRow base e size v n xs)
    (A : Option Addr) (m c : Nat) (news : List Value) (hr : Rd w size A m news) (h1 : ∀ u ∈ news, u.oneCell' = true) (h63 : n + m ≤ maxLen) (hbytes : (n + m) * bytes ≤ 140737488355328) (hbase : base ≤ w.heap.size) :
    ∃ v' w', (Builtin.append_ #[t, t] ty #[v, .slice A m c]).run P w = .ok v' w' ∧ w'.ownsRow base e size v' (n + m) (xs ++ news) ∧ w.grownBy w' v.ownBlock ∧ ∀ b, b < w.heap.size → Far v b → Far v' b := by
  have key : ∀ (ad : Addr), A = some ad → (∀ j u, news[j]? = some u → w.cell? (ad.add j) = some u) → ∃ v' w', (Builtin.append_ #[t, t] ty #[v, .slice A m c]).run P w = .ok v' w' ∧ w'.ownsRow base e size v' (n + m) (xs ++ news) ∧ w.grownBy w' v.ownBlock ∧ ∀ b, b < w.heap.size → Far v b → Far v' b := by
    rintro ad rfl hc
    obtain ⟨v', w', hrun, h2, h3, _, h5⟩ := run_append_own_at (P := P) w base t ty e i z size bytes ht hi hz hsize hby hzs hsz v n xs hown ad m c news hr.1 hc h1 h63 hbytes hbase
    refine ⟨v', w', hrun, h2, h3, fun b hb hf g hg => ?_⟩
    rcases h5 with h5 | h5
    · exact hf g (h5 ▸ hg)
    · rw [h5] at hg
      have := Option.some.inj hg
      omega
  rcases Nat.eq_zero_or_pos m with h0 | h0
  · subst h0
    have hn : news = [] := List.eq_nil_of_length_eq_zero (by simpa using hr.1)
    subst hn
    rcases A with _ | ad
    · exact ⟨v, w, app_nil w base t ty e i size ht hi v n xs hown c, by simpa using hown, World.grownBy.refl w _, fun b _ hf => hf⟩
    · exact key ad rfl (by simp)
  · obtain ⟨b, off, rfl, _, hc⟩ := hr.2 h0
    exact key _ rfl (fun j u hu => by rw [add_none]; exact hc j u hu)
theorem wp_appN {P : Program} (w : World) {o : Oper} {a : Act} {K : Act → World → Prop} {Q : Exit → Act → World → Prop} (s x : Operand) (t : TypeId)
    (ho : o.op = .call { callee := .builtin .append, args := #[s, x], argTypes := #[t, t] })
    (base : Nat) (e : TypeId) (i : TypeInfo) (z : Value) (size bytes : Nat) (ht : P.underlying t = some (.slice e)) (hi : P.info? e = some i) (hz : i.zero = some z)
    (hsize : i.size = size) (hby : i.bytes = bytes) (hzs : z.cells.size = size) (hsz : 0 < size) (v : Value) (n : Nat) (xs : List Value) (hs : a.eval s = v) (hown : w.ownsRow base e size v n xs)
    (A : Option Addr) (m c : Nat) (news : List Value) (hx : a.eval x = .slice A m c) (hr : Rd w size A m news) (h1 : ∀ u ∈ news, u.oneCell' = true) (h63 : n + m ≤ maxLen) (hbytes : (n + m) * bytes ≤ 140737488355328) (hbase : base ≤ w.heap.size)
    (h : ∀ A' c' w', w'.ownsRow base e size (.slice A' (n + m) c') (n + m) (xs ++ news) → w.grownBy w' v.ownBlock → (∀ b, b < w.heap.size → Far v b → Far (.slice A' (n + m) c') b) → K (a.put o.dst (.slice A' (n + m) c')) w') : o.wp P a w K Q := by
  obtain ⟨v', w', hrun, h2, h3, h4⟩ := app_runN (P := P) w base t o.type e i z size bytes ht hi hz hsize hby hzs hsz v n xs hown A m c news hr h1 h63 hbytes hbase
  obtain ⟨A', c', rfl⟩ := own_form h2
  unfold Oper.wp execOp
  simp only [ho, resolve, invoke, builtin, Sem.run_bind, Sem.run_pure, Result.andThen_ok, List.map_toArray, List.map_cons, List.map_nil, hs, hx, hrun]
  exact h A' c' w' h2 h3 h4
theorem wpList_appN {P : Program} (w : World) {ops : Array Oper} {rest : List Oper} {o : Oper} {a : Act} {Q : Exit → Act → World → Prop} (hgd : o.guard = none) (s x : Operand) (t : TypeId)
    (ho : o.op = .call { callee := .builtin .append, args := #[s, x], argTypes := #[t, t] })
    (base : Nat) (e : TypeId) (i : TypeInfo) (z : Value) (size bytes : Nat) (ht : P.underlying t = some (.slice e)) (hi : P.info? e = some i) (hz : i.zero = some z)
    (hsize : i.size = size) (hby : i.bytes = bytes) (hzs : z.cells.size = size) (hsz : 0 < size) (v : Value) (n : Nat) (xs : List Value) (hs : a.eval s = v) (hown : w.ownsRow base e size v n xs)
    (A : Option Addr) (m c : Nat) (news : List Value) (hx : a.eval x = .slice A m c) (hr : Rd w size A m news) (h1 : ∀ u ∈ news, u.oneCell' = true) (h63 : n + m ≤ maxLen) (hbytes : (n + m) * bytes ≤ 140737488355328) (hbase : base ≤ w.heap.size)
    (h : ∀ A' c' w', w'.ownsRow base e size (.slice A' (n + m) c') (n + m) (xs ++ news) → w.grownBy w' v.ownBlock → (∀ b, b < w.heap.size → Far v b → Far (.slice A' (n + m) c') b) → wpList P ops Q rest (a.put o.dst (.slice A' (n + m) c')) w') : wpList P ops Q (o :: rest) a w :=
  wpList_plain hgd fun _ hK => wp_appN w s x t ho base e i z size bytes ht hi hz hsize hby hzs hsz v n xs hs hown A m c news hx hr h1 h63 hbytes hbase fun A' c' w' h2 h3 h4 => hK _ _ (h A' c' w' h2 h3 h4)
theorem i64_rd {w : World} {A : Option Addr} {xs : List Int} (h : I64 w A xs) : Rd w 1 A xs.length (xs.map (Value.int .i64)) := by
  refine ⟨by simp, fun hl => ?_⟩
  obtain ⟨b, off, hA, hb, _⟩ := h 0 xs[0] (by simp)
  refine ⟨b, off, hA, hb, fun j u hu => ?_⟩
  rw [List.getElem?_map] at hu
  cases hx : xs[j]? with
  | none => rw [hx] at hu; simp at hu
  | some x =>
    rw [hx] at hu
    obtain ⟨b', off', hA', _, _, hc⟩ := h j x hx
    rw [hA] at hA'
    injection hA' with hA'
    injection hA' with e1 e2 _
    subst e1 e2
    simp only [Option.map_some, Option.some.injEq] at hu
    rw [hc, hu]
theorem own_lit0 {w : World} {base blk size : Nat} {e : TypeId} (h : w.heap[blk]? = some (.cells #[] e (0, 0))) (hb : base ≤ blk) : w.ownsRow base e size (.slice (some ⟨blk, 0, none⟩) 0 0) 0 [] :=
  ⟨by simp, .inr ⟨blk, 0, #[], rfl, hb, h, Nat.le_refl _, by decide, by simp, by simp⟩⟩
theorem ownsRow_grows {w w' : World} {B : Nat} {e : TypeId} {sz n : Nat} {v : Value} {xs : List Value} (h : w.ownsRow B e sz v n xs) (hb : Below w.heap.size w w') : w'.ownsRow B e sz v n xs :=
  h.kept (row := none) ⟨hb.1, hb.2, hb.3, hb.size, fun k hk _ => hb.block k hk⟩ (by cases hv : v.ownBlock <;> simp)
/-- rows of numbers, as the values of a row of the call's own -/
def RowsV (w : World) (v : Value) (vs : List Value) (rows : List (List Int)) : Prop :=
  vs.length = rows.length ∧ ∀ (k : Nat) (p : List Int), rows[k]? = some p → ∃ P d, vs[k]? = some (Value.slice P p.length d) ∧ I64 w P p ∧ ∀ b o, P = some ⟨b, o, none⟩ → Far v b ∧ b < w.heap.size
/-- rows of numbers behind an address -/
def RowsA (w : World) (A : Option Addr) (rows : List (List Int)) : Prop :=
  ∀ (k : Nat) (p : List Int), rows[k]? = some p → ∃ b off, A = some ⟨b, off, none⟩ ∧ b < w.heap.size ∧ b ≤ w.heap.size ∧ ∃ P d, w.cell? ⟨b, off + k, none⟩ = some (.slice P p.length d) ∧ I64 w P p
theorem RowsA.ext {w w' : World} {A : Option Addr} {rows : List (List Int)} (h : RowsA w A rows) (hb : Below w.heap.size w w') : RowsA w' A rows := fun k p hk => by
  obtain ⟨b, off, h0, h1, h2, P, d, h3, h4⟩ := h k p hk
  have hs := hb.size
  exact ⟨b, off, h0, by omega, by omega, P, d, (hb.cell (p := ⟨b, _, none⟩) h1).trans h3, h4.ext hb⟩
theorem i64_grown {w w' : World} {row : Option Nat} {P : Option Addr} {p : List Int} (h : I64 w P p) (hg : w.grownBy w' row) (hf : ∀ b o, P = some ⟨b, o, none⟩ → ∀ g, row = some g → b ≠ g) : I64 w' P p := fun k x hk => by
  obtain ⟨b, off, h0, h1, h2, h3⟩ := h k x hk
  have hs := hg.size
  exact ⟨b, off, h0, by omega, by omega, (gb_cell hg b h1 (hf b off h0) _).trans h3⟩
theorem RowsV.grown {w w' : World} {v v' : Value} {vs : List Value} {rows : List (List Int)} (h : RowsV w v vs rows) (hg : w.grownBy w' v.ownBlock) (hf : ∀ b, b < w.heap.size → Far v b → Far v' b) : RowsV w' v' vs rows :=
  ⟨h.1, fun k p hk => by
    obtain ⟨P, d, h1, h2, h3⟩ := h.2 k p hk
    refine ⟨P, d, h1, i64_grown h2 hg (fun b o e => (h3 b o e).1), fun b o e => ⟨hf b (h3 b o e).2 (h3 b o e).1, ?_⟩⟩
    have := (h3 b o e).2
    have := hg.size
    omega⟩
theorem RowsV.ext {w w' : World} {v : Value} {vs : List Value} {rows : List (List Int)} (h : RowsV w v vs rows) (hb : Below w.heap.size w w') : RowsV w' v vs rows :=
  ⟨h.1, fun k p hk => by
    obtain ⟨P, d, h1, h2, h3⟩ := h.2 k p hk
    refine ⟨P, d, h1, h2.ext hb, fun b o e => ⟨(h3 b o e).1, ?_⟩⟩
    have := (h3 b o e).2
    have := hb.size
    omega⟩
theorem RowsV.nil (w : World) (v : Value) : RowsV w v [] [] := ⟨rfl, fun k p hk => by simp at hk⟩
theorem RowsV.snoc {w : World} {v : Value} {vs : List Value} {rows : List (List Int)} (h : RowsV w v vs rows) {P : Option Addr} {q : List Int} {d : Nat} (hq : I64 w P q) (hf : ∀ b o, P = some ⟨b, o, none⟩ → Far v b ∧ b < w.heap.size) : RowsV w v (vs ++ [Value.slice P q.length d]) (rows ++ [q]) :=
  ⟨by simp [h.1], fun k p hk => by
    rcases Nat.lt_or_ge k rows.length with hl | hl
    · rw [List.getElem?_append_left hl] at hk
      obtain ⟨P', d', h1, h2⟩ := h.2 k p hk
      exact ⟨P', d', by rw [List.getElem?_append_left (by rw [h.1]; exact hl)]; exact h1, h2⟩
    · rw [List.getElem?_append_right hl] at hk
      have hk0 : k - rows.length = 0 := by
        rcases Nat.eq_zero_or_pos (k - rows.length) with h0 | h0
        · exact h0
        · rw [List.getElem?_eq_none (by simp; omega)] at hk; cases hk
      rw [hk0] at hk
      obtain rfl : q = p := by simpa using hk
      exact ⟨P, d, by rw [List.getElem?_append_right (by rw [h.1]; exact hl), h.1, hk0]; rfl, hq, hf⟩⟩
theorem rows_of {w : World} {B : Nat} {e : TypeId} {n c : Nat} {A : Option Addr} {vs : List Value} {rows : List (List Int)} (h : w.ownsRow B e 1 (.slice A n c) n vs) (k : RowsV w (.slice A n c) vs rows) : RowsA w A rows := fun j p hj => by
  obtain ⟨P, d, h1, h2, _⟩ := k.2 j p hj
  obtain ⟨b, hA, hl, hc⟩ := own_at h j _ h1
  exact ⟨b, 0, hA, hl, by omega, P, d, hc, h2⟩
def GivesRows (w : World) (rows : List (List Int)) (e : Ending) (w' : World) : Prop := ∃ A' c', e = .returned (.slice A' rows.length c') ∧ Grew w w' ∧ RowsA w' A' rows
/-- one row more -/
theorem rows_push {wr w2 w3 : World} {ob : Obj} {B m c' : Nat} {E : TypeId} {A' : Option Addr} {vs : List Value} {rows : List (List Int)} (hown : wr.ownsRow B E 1 (.slice A' m c') m vs) (hrv : RowsV wr (.slice A' m c') vs rows) (hb2 : Below wr.heap.size wr w2)
    {A2 : Option Addr} {c2 n2 : Nat} {q : List Int} {e2 : TypeId} (hn2 : n2 = q.length) (hown2 : w2.ownsRow wr.heap.size e2 1 (.slice A2 n2 c2) n2 (q.map (Value.int .i64))) {v3 : Value} (hgr3 : (w2.alloc ob).grownBy w3 (Value.ownBlock (.slice A' m c'))) (far3 : ∀ b, b < (w2.alloc ob).heap.size → Far (.slice A' m c') b → Far v3 b) :
    RowsV w3 v3 (vs ++ [Value.slice A2 n2 c2]) (rows ++ [q]) := by
  subst hn2
  have hb3 : Below wr.heap.size wr (w2.alloc ob) := hb2.alloc hb2.size _
  have hI : I64 (w2.alloc ob) A2 q := (ownI hown2).ext (Below.alloc (Below.refl _ _) (Nat.le_refl _) _)
  refine ((hrv.ext hb3).snoc hI (fun b o e => ⟨fun g hg => ?_, ?_⟩)).grown hgr3 far3
  · subst e
    have h1 := (hown2.lt b rfl).1
    have h2 := (hown.lt g hg).2
    omega
  · subst e
    have h1 := (hown2.lt b rfl).2
    rw [World.size_alloc]
    omega
def extP (m : Nat) (o : List Nat) : List (List Nat) := (List.range m).map (fun n => o ++ [n])
def midP (l : List (List Nat)) (m j : Nat) : List (List Nat) := (l.take j).flatMap (extP m)
theorem midP_zero (l : List (List Nat)) (m : Nat) : midP l m 0 = [] := rfl
theorem midP_succ (l : List (List Nat)) (m j : Nat) (h : j < l.length) : midP l m (j + 1) = midP l m j ++ extP m l[j] := by
  unfold midP
  rw [List.take_succ_eq_append_getElem h, List.flatMap_append]
  simp
theorem midP_all (l : List (List Nat)) (m : Nat) : midP l m l.length = l.flatMap (extP m) := by unfold midP; rw [List.take_length]
theorem extP_zero (o : List Nat) : extP 0 o = [] := rfl
theorem extP_succ (m : Nat) (o : List Nat) : extP (m + 1) o = extP m o ++ [o ++ [m]] := by unfold extP; rw [List.range_succ, List.map_append]; rfl
theorem extP_len (m : Nat) (o : List Nat) : (extP m o).length = m := by simp [extP]
theorem midP_len (l : List (List Nat)) (m : Nat) : ∀ j, j ≤ l.length → (midP l m j).length = j * m
  | 0, _ => by simp [midP]
  | j + 1, h => by rw [midP_succ l m j (by omega), List.length_append, extP_len, midP_len l m j (by omega), Nat.add_mul, Nat.one_mul]

abbrev natI := zs
theorem natI_len (p : List Nat) : (natI p).length = p.length := zs_len p
def natR (l : List (List Nat)) : List (List Int) := l.map natI
theorem natR_len (l : List (List Nat)) : (natR l).length = l.length := by simp [natR]
theorem natR_append (l m : List (List Nat)) : natR (l ++ m) = natR l ++ natR m := by simp [natR]
theorem natI_snoc (o : List Nat) (n : Nat) : natI o ++ [((n : Nat) : Int)] = natI (o ++ [n]) := by simp [natI, zs]
theorem rd_nat {w : World} {P : Option Addr} {o : List Nat} (h : I64 w P (natI o)) : Rd w 1 P o.length ((natI o).map (Value.int .i64)) := by
  have := i64_rd h
  rwa [natI_len] at this
theorem rowsA_at {w : World} {A : Option Addr} {l : List (List Nat)} (h : RowsA w A (natR l)) (k : Nat) (hk : k < l.length) : ∃ b off, A = some ⟨b, off, none⟩ ∧ b < w.heap.size ∧ ∃ P d, w.cell? ⟨b, off + k, none⟩ = some (.slice P l[k].length d) ∧ I64 w P (natI l[k]) := by
  obtain ⟨b, off, e, h1, _, P, d, h2, h3⟩ := h k (natI l[k]) (by simp [natR, hk])
  rw [natI_len] at h2
  exact ⟨b, off, e, h1, P, d, h2, h3⟩
theorem rows_one {w : World} {b d : Nat} (h : w.cell? ⟨b, 0, none⟩ = some (.slice none 0 d)) (hb : b < w.heap.size) : RowsA w (some ⟨b, 0, none⟩) (natR [[]]) := fun k p hk => by
  have h0 : k = 0 := by
    rcases Nat.eq_zero_or_pos k with h0 | h0
    · exact h0
    · rw [List.getElem?_eq_none (by simp [natR]; omega)] at hk; cases hk
  subst h0
  obtain rfl : p = [] := by simpa [natR, natI, zs] using hk.symm
  exact ⟨b, 0, rfl, hb, by omega, none, d, h, fun j x hj => by simp at hj⟩
end Go.Proofs.Ytlbkaeoagdbemaa
namespace Go.Proofs.Ytlbkaeoagdbemaa
open Go.RowKit Go.Maps
theorem Below.blk {w0 W : World} {b : Nat} {v : Value} (h : Below w0.heap.size w0 W) (hb : b < w0.heap.size) (hc : w0.cell? ⟨b, 0, none⟩ = some v) : W.cell? ⟨b, 0, none⟩ = some v := (h.cell (p := ⟨b, 0, none⟩) hb).trans hc
set_option maxRecDepth 100000 in
set_option maxHeartbeats 4000000 in
theorem Outcomes_any (A : Option Addr) (R : List Nat) (c : Nat) (w : World) (hA : I64 w A (zs R)) (h5 : R.length ≤ 5) (h6 : ∀ n, n ∈ R → n ≤ 6) :
    Calls Try.prog 64 #[.agg #[.slice A R.length c]] w (GivesRows w (natR (Bm.outs R))) := by
  obtain ⟨i0, ih, iz, is, ib⟩ := info_parts info3
  obtain ⟨l0, lh, lz, ls, lb⟩ := info_parts info22
  have HL := hide (fun k (h : k ≤ R.length) => (show (Bm.outs (R.take k)).length ≤ 6 ^ k by
    have := Bm.outs_len_le (R := R.take k) (fun n hn => h6 n (List.mem_of_mem_take hn))
    rwa [List.length_take, Nat.min_eq_left h] at this))
  have HM := hide (fun k (h : k ≤ R.length) o (ho : o ∈ Bm.outs (R.take k)) => (show o.length = k by
    have := Bm.outs_len ho
    rwa [List.length_take, Nat.min_eq_left h] at this))
  have HS := hide (fun k (h : k < R.length) => (show Bm.outs (R.take (k + 1)) = (Bm.outs (R.take k)).flatMap (extP R[k]) by
    rw [take_snoc R k h, Bm.outs_snoc]; rfl))
  have HEND : Hid (Bm.outs (R.take R.length) = Bm.outs R) := hide (by rw [List.take_length])
  have HZ := hide (show Bm.outs (R.take 0) = [[]] from rfl)
  rw [← HEND.out]
  have h5' : (R.length : Int) ≤ 5 := by omega
  obtain ⟨pl, hpl⟩ : ∃ pl : Nat → List (List Nat), pl = fun k => Bm.outs (R.take k) := ⟨_, rfl⟩
  have hpk : ∀ k, Bm.outs (R.take k) = pl k := fun k => by rw [hpl]
  simp only [hpk] at HL HM HS HZ ⊢
  clear hpl hpk HEND
  unfold GivesRows
  go_enter Try.func64, Try.ntmps64
  go_wp2
  obtain ⟨W0, hW0⟩ : ∃ W0, (((w.alloc (.cells #[.slice A R.length c] 24))).alloc (.cells #[.slice none 0 0] 22)) = W0 := ⟨_, rfl⟩
  have hbW : Below w.heap.size w W0 := by rw [← hW0]; (repeat (first | exact Below.refl _ _ | assumption | (refine below_gr ?_ (by (first | omega | (simp only [zz] at *; omega))) _) | (refine below_alloc ?_ (by (first | omega | (simp only [zz] at *; omega))) _) | (refine Below.setCell ?_ (by (first | omega | (simp only [zz] at *; omega))) _) | refine below_drewN ?_ _ | refine below_drew ?_ | (refine below_step ?_ (by assumption) (by (first | omega | (simp only [zz] at *; omega))))))
  have hsW : W0.heap.size = w.heap.size + 1 + 1 := by rw [← hW0]; simp
  have c0 : W0.cell? ⟨w.heap.size, 0, none⟩ = some (.slice A R.length c) := by rw [← hW0]; simp [go_sem]
  have hr0 : RowsA W0 (some ⟨w.heap.size + 1, 0, none⟩) (natR [[]]) := rows_one (d := 0) (by rw [← hW0]; exact obj_at (heap_b _ _ _) 0 _ rfl) (by omega)
  rw [hW0]
  clear hW0
  replace hA := hA.ext hbW
  go_loopw [3, 4] (fun out i wr => ∃ (k : Nat) (AO : Option Addr) (cO : Nat), k ≤ R.length ∧ i = .int .i64 (k : Nat) ∧ out = .slice AO (pl k).length cO ∧ RowsA wr AO (natR (pl k)) ∧ Below W0.heap.size W0 wr) (fun _ i _ => R.length - (intOf i).toNat)
  case atStart =>
    refine ⟨0, some ⟨w.heap.size + 1, 0, none⟩, 1, Nat.zero_le _, rfl, by rw [HZ.out]; rfl, ?_, Below.refl _ _⟩
    rw [HZ.out]
    exact hr0
  case round =>
    clear hr0
    obtain ⟨k, AO, cO, hk, rfl, rfl, hRA, hbo⟩ := hrel
    obtain ⟨wo, rfl⟩ : ∃ wo : World, wo = wr := ⟨_, rfl⟩
    have hzo := hbo.size
    have c1 := Below.blk hbo (by omega) c0
    have hl1 : w.heap.size < wo.heap.size := by omega
    by_cases hlt : k < R.length
    · have hA1 := hA.ext hbo
      obtain ⟨tb, toff, rfl, tl⟩ := zsF hA1 (by omega)
      have hs0 := zsI hA1 hlt
      have hs8 := h6 _ (List.getElem_mem hlt)
      have HS1 := hide (HS.out k hlt)
      have hlen := HL.out k hk
      have HLN := hide (HM.out k hk)
      have h9 : 6 ^ k ≤ 1296 := by
        have : k = 0 ∨ k = 1 ∨ k = 2 ∨ k = 3 ∨ k = 4 := by omega
        rcases this with rfl | rfl | rfl | rfl | rfl <;> decide
      have hln : (pl k).length ≤ 1296 := by omega
      have HNX := hide (fun j (h : j < (pl k).length) => midP_succ (pl k) R[k] j h)
      have HML := hide (fun j (h : j ≤ (pl k).length) => midP_len (pl k) R[k] j h)
      have HMA := hide (midP_all (pl k) R[k])
      have HM0 := hide (midP_zero (pl k) R[k])
      have HPL1 : Hid (pl (k + 1) = midP (pl k) R[k] (pl k).length) := hide (by rw [HS1.out, HMA.out])
      clear hlen h9 hA1
      generalize hL : pl k = L at *
      generalize R[k] = s at *
      have HLK := hide hL
      clear hL
      have hki : (k : Int) < (R.length : Nat) := by omega
      generalize midP L s = mid at *
      go_wp2
      go_loopw [5, 6] (fun nx j wr => ∃ (jn : Nat) (A' : Option Addr) (rl c' : Nat) (vs : List Value), jn ≤ L.length ∧ j = .int .i64 (jn : Nat) ∧ nx = .slice A' rl c' ∧ Hid (rl = (mid jn).length) ∧ wr.ownsRow wo.heap.size 22 1 (.slice A' rl c') rl vs ∧ RowsV wr (.slice A' rl c') vs (natR (mid jn)) ∧ Below wo.heap.size wo wr) (fun _ j _ => L.length - (intOf j).toNat)
      case atStart => exact ⟨0, none, 0, 0, [], Nat.zero_le _, rfl, rfl, hide (by rw [HM0.out]; rfl), World.ownsRow_nil _ _ _ _, by rw [HM0.out]; exact RowsV.nil _ _, Below.refl _ _⟩
      case round =>
        obtain ⟨jn, A', rl, c', vs, hj, rfl, rfl, HRL, hown, hrv, hb⟩ := hrel
        have hz := hb.size
        by_cases hjl : jn < L.length
        · have HN1 := hide (HNX.out jn hjl)
          have hml := HML.out jn hj
          have HOL := hide (HLN.out L[jn] (List.getElem_mem hjl))
          have hol3 : L[jn].length ≤ 5 := by rw [HOL.out]; omega
          have hmul : jn * s ≤ 1296 * 6 := Nat.mul_le_mul (by omega) (by omega)
          have hrl2 : rl ≤ 1296 * 6 := by have := HRL.out; omega
          obtain ⟨ob, oo, rfl, hol2, P, d, hcP, hIP⟩ := rowsA_at hRA jn hjl
          have hjli : (jn : Int) < (L.length : Nat) := by omega
          generalize L[jn] = o at *
          obtain ⟨wm, rfl⟩ : ∃ wm : World, wm = wr := ⟨_, rfl⟩
          clear hmul hml
          go_wp2
          go_loopw [5, 7] (fun nx n wr => ∃ (nn : Nat) (A' : Option Addr) (rl c' : Nat) (vs : List Value), nn ≤ s ∧ n = .int .i64 (nn : Nat) ∧ nx = .slice A' rl c' ∧ rl ≤ 7776 + nn ∧ Hid (rl = (mid jn ++ extP nn o).length) ∧ wr.ownsRow wo.heap.size 22 1 (.slice A' rl c') rl vs ∧ RowsV wr (.slice A' rl c') vs (natR (mid jn ++ extP nn o)) ∧ Below wo.heap.size wo wr) (fun _ n _ => s + 1 - (intOf n).toNat)
          case atStart => exact ⟨0, A', rl, c', vs, Nat.zero_le _, rfl, rfl, by omega, hide (by rw [extP_zero, List.append_nil]; exact HRL.out), hown, by rw [extP_zero, List.append_nil]; exact hrv, hb⟩
          case round =>
            clear hown hrv HRL hrl2
            obtain ⟨nn, A', rl, c', vs, hn, rfl, rfl, hrl2, HRL, hown, hrv, hb2⟩ := hrel
            have hcR := (hb2.cell (p := ⟨ob, oo + jn, none⟩) hol2).trans hcP
            replace hIP := hIP.ext hb2
            have holr : ob < wr.heap.size := by have := hb2.size; omega
            have htr : tb < wr.heap.size := by have := hb2.size; omega
            have hsr := (hb2.cell (p := ⟨tb, toff + k, none⟩) tl).trans hs0
            have hrb := hb2.size
            have c2 := Below.blk hb2 hl1 c1
            have hl2 : w.heap.size < wr.heap.size := by omega
            clear hcP hs0 hol2 tl c1
            by_cases hnl : nn < s
            · have hnli : (nn : Int) < (s : Nat) := by omega
              have HXS := hide (extP_succ nn o)
              go_wp2_with (first
    | (at_builtin; refine wpList_appN _ rfl (.tmp 32) (.tmp 36) 22 rfl (wr.heap.size) 3 i0 _ 1 8 und22 ih iz is ib rfl (by decide) (_) (0) ([]) rfl (own_lit0 (heap_alloc_new wr _) (Nat.le_refl _)) (P) (o.length) (d) ((natI o).map (Value.int .i64)) rfl (rd_nat (hIP.ext (by (repeat (first | exact Below.refl _ _ | assumption | refine below_drewN ?_ _ | refine below_drew ?_ | refine below_gr ?_ ?_ _ | refine below_alloc ?_ ?_ _ | refine Below.setCell ?_ ?_ _ | refine below_step ?_ (by assumption) ?_ | omega | (simp only [zz] at *; omega)))))) (one_ints _) (by unfold maxLen; omega) (by omega) (by (first | omega | (simp only [zz]; omega) | (simp only [zz] at *; omega) | (simp; done) | (simp; omega))) ?_; intro A1 c1 w1 hown1 hgr1 far1; rw [Nat.zero_add o.length]; rw [Nat.zero_add o.length] at hown1; rw [List.nil_append] at hown1; have hb1 : Below wr.heap.size wr w1 := gb_below (by (repeat (first | exact Below.refl _ _ | assumption | refine below_drewN ?_ _ | refine below_drew ?_ | refine below_gr ?_ ?_ _ | refine below_alloc ?_ ?_ _ | refine Below.setCell ?_ ?_ _ | refine below_step ?_ (by assumption) ?_ | omega | (simp only [zz] at *; omega)))) hgr1 (by (first | omega | (simp only [zz]; omega) | (simp only [zz] at *; omega) | (simp; done) | (simp; omega))) (fun k hk => by have hk' := Option.some.inj hk; (try dsimp only at hk'); omega); have hz1 := hb1.size; clear hgr1 far1)
    | (at_builtin; refine wpList_appN _ rfl (.tmp 37) (.tmp 39) 22 rfl (wr.heap.size) 3 i0 _ 1 8 und22 ih iz is ib rfl (by decide) (_) (o.length) ((natI o).map (Value.int .i64)) rfl (by have h := hown1.alloc (.cells #[.int .i64 (nn : Nat)] 3); first | exact h | (rw [Nat.zero_add]; exact h)) (some ⟨w1.heap.size, 0, none⟩) (1) (1) ([.int .i64 (nn : Nat)]) rfl (rd_new1 _ _ _) (by simp [Value.oneCell']) (by unfold maxLen; omega) (by omega) (by (first | omega | (simp only [zz]; omega) | (simp only [zz] at *; omega) | (simp; done) | (simp; omega))) ?_; intro A2 c2 w2 hown2 hgr2 far2; have hbx2 : Below wr.heap.size wr w2 := gb_below (below_alloc hb1 hz1 _) hgr2 (by (first | omega | (simp only [zz]; omega) | (simp only [zz] at *; omega) | (simp; done) | (simp; omega))) (fun k hk => (hown1.lt k hk).1); have hz2 := hbx2.size; clear hgr2 far2)
    | (at_builtin; refine wpList_appN _ rfl (.tmp 31) (.tmp 41) 88 rfl (wo.heap.size) 22 l0 _ 1 24 und88 lh lz ls lb rfl (by decide) ((.slice A' rl c')) (rl) (vs) rfl ((ownsRow_grows hown (hbx2.alloc hz2 _))) (some ⟨w2.heap.size, 0, none⟩) (1) (1) ([.slice A2 (o.length + 1) c2]) rfl (rd_new1 _ _ _) (by simp [Value.oneCell']) (by unfold maxLen; omega) (by omega) (by (first | omega | (simp only [zz]; omega) | (simp only [zz] at *; omega) | (simp; done) | (simp; omega))) ?_; intro A3 c3 w3 hown3 hgr3 far3))

              refine ⟨⟨nn + 1, A3, rl + 1, c3, _, by omega, by go_num, rfl, by omega, hide (by rw [HXS.out, ← List.append_assoc, List.length_append, HRL.out]; rfl), hown3, ?_, gb_below (below_alloc (below_step hb2 hbx2 hrb) (by omega) _) hgr3 (by simp; omega) (fun k hk => (hown.lt k hk).1)⟩, by simp [intOf]; omega⟩
              rw [HXS.out, ← List.append_assoc, natR_append]
              have hown2' : w2.ownsRow wr.heap.size 3 1 (.slice A2 (o.length + 1) c2) (o.length + 1) ((natI (o ++ [nn])).map (Value.int .i64)) := by rw [← natI_snoc, List.map_append]; exact hown2
              exact rows_push hown hrv hbx2 (by rw [natI_len]; simp) hown2' hgr3 far3
            · have hne : nn = s := by omega
              have hnli : ¬ ((nn : Int) < (s : Nat)) := by omega
              have HRE : Hid (mid (jn + 1) = mid jn ++ extP nn o) := hide (by rw [HN1.out, hne])
              clear hne
              go_wp2
              refine ⟨⟨jn + 1, A', rl, c', vs, by omega, by go_num, rfl, hide (by rw [HRE.out]; exact HRL.out), hown, by rw [HRE.out]; exact hrv, hb2⟩, by simp [intOf]; omega⟩
        · have hje : jn = L.length := by omega
          have hjli : ¬ ((jn : Int) < (L.length : Nat)) := by omega
          subst hje
          have hRN := rows_of hown hrv
          rw [← HPL1.out] at hRN
          have HL1 : Hid (rl = (pl (k + 1)).length) := hide (by rw [HPL1.out]; exact HRL.out)
          go_wp2
          refine ⟨⟨k + 1, A', c', by omega, by go_num, by rw [← HL1.out], hRN, hbo.trans (hb.mono hzo)⟩, by simp [intOf]; omega⟩
    · have hkn : k = R.length := by omega
      subst hkn
      go_wp2
      go_ret
      exact ⟨AO, cO, by rw [natR_len]; rfl, grew_of (hbW.trans (hbo.mono hbW.size)), hRA⟩
end Go.Proofs.Ytlbkaeoagdbemaa
