/- Proved here: rows of numbers; the places of the first tapes; the reference: all places; the reference: how few impulses what is left needs, a part of the proofs about the tape laws. Conditions: those that each theorem names, no others. -/
import Derived.Test.YtafncmgijbkomaaP14
import Derived.WalkKit
import Derived.WalkSpells
import Derived.WalkLawsBesides
import Derived.Below
import Derived.Deep.QuietTactic
import Derived.BigQuiet
import Derived.Deep.Light
import Derived.Maps.AppendAt
import Derived.Test.YtafncmgijbkomaaP02
import Derived.Test.YtafncmgijbkomaaP15
set_option linter.unusedSimpArgs false
set_option linter.unusedVariables false
namespace Go.Proofs.Ytafncmgijbkomaa
open Go.RowKit Go.Maps
theorem und101 : Try.prog.underlying 101 = some (.slice 32) := by kernel_rfl
theorem infoL : (Try.prog.info? 32).map (fun i => (i.zero, i.size, i.bytes)) = some (some (.slice none 0 0), 1, 24) := by kernel_rfl

/-- a slice value that does not lie in this block -/
def Far (v : Value) (b : Nat) : Prop := ∀ g, v.ownBlock = some g → b ≠ g
theorem app_runN {P : Program} (w : World) (base : Nat) (t ty e : TypeId) (i : TypeInfo) (z : Value) (size bytes : Nat) (ht : P.underlying t = some (.slice e)) (hi : P.info? e = some i) (hz : i.zero = some z)
    (hsize : i.size = size) (hby : i.bytes = bytes) (hzs : z.cells.size = size) (hsz : 0 < size) (v : Value) (n : Nat) (xs : List Value) (hown : w.ownsRow base e size v n xs)
    (A : Option Addr) (m c : Nat) (news : List Value) (hr : Rd w size A m news) (h1 : ∀ u ∈ news, u.oneCell' = true) (h63 : n + m ≤ maxLen) (hbytes : (n + m) * bytes ≤ 140737488355328) (hbase : base ≤ w.heap.size) :
    ∃ v' w', (Builtin.append_ #[t, t] ty #[v, .slice A m c]).run P w = .ok v' w' ∧ w'.ownsRow base e size v' (n + m) (xs ++ news) ∧ w.grownBy w' v.ownBlock ∧ ∀ b, b < w.heap.size → Far v b → Far v' b := by
  have key : ∀ (ad : Addr), A = some ad → (∀ j u, news[j]? = some u → w.cell? (ad.add j) = some u) → ∃ v' w', (Builtin.append_ #[t, t] ty #[v, .slice A m c]).run P w = .ok v' w' ∧ w'.ownsRow base e size v' (n + m) (xs ++ news) ∧ w.grownBy w' v.ownBlock ∧ ∀ b, b < w.heap.size → Far v b → Far v' b := by
    rintro ad rfl hc
    obtain ⟨v', w', hrun, h2, h3, _, h5⟩ := run_append_own_at (P := P) w base t ty e i z size bytes ht hi hz hsize hby hzs hsz v n xs hown ad m c news hr.1 hc h1 h63 hbytes hbase
    refine ⟨v', w', hrun, h2, h3, fun b hb hf g hg => ?_⟩
    rcases h5 with h5 | h5
    · exact hf g (h5 ▸ hg)
    · rw [h5] at hg
      have := Option.some.inj hg
      omega
  rcases Nat.eq_zero_or_pos m with h0 | h0
  · subst h0
    have hn : news = [] := List.eq_nil_of_length_eq_zero (by simpa using hr.1)
    subst hn
    rcases A with _ | ad
    · exact ⟨v, w, app_nil w base t ty e i size ht hi v n xs hown c, by simpa using hown, World.grownBy.refl w _, fun b _ hf => hf⟩
    · exact key ad rfl (by simp)
  · obtain ⟨b, off, rfl, _, hc⟩ := hr.2 h0
    exact key _ rfl (fun j u hu => by rw [add_none]; exact hc j u hu)
theorem wp_appN {P : Program} (w : World) {o : Oper} {a : Act} {K : Act → World → Prop} {Q : Exit → Act → World → Prop} (s x : Operand) (t : TypeId)
    (ho : o.op = .call { callee := .builtin .append, args := #[s, x], argTypes := #[t, t] })
    (base : Nat) (e : TypeId) (i : TypeInfo) (z : Value) (size bytes : Nat) (ht : P.underlying t = some (.slice e)) (hi : P.info? e = some i) (hz : i.zero = some z)
    (hsize : i.size = size) (hby : i.bytes = bytes) (hzs : z.cells.size = size) (hsz : 0 < size) (v : Value) (n : Nat) (xs : List Value) (hs : a.eval s = v) (hown : w.ownsRow base e size v n xs)
    (A : Option Addr) (m c : Nat) (news : List Value) (hx : a.eval x = .slice A m c) (hr : Rd w size A m news) (h1 : ∀ u ∈ news, u.oneCell' = true) (h63 : n + m ≤ maxLen) (hbytes : (n + m) * bytes ≤ 140737488355328) (hbase : base ≤ w.heap.size)
    (h : ∀ A' c' w', w'.ownsRow base e size (.slice A' (n + m) c') (n + m) (xs ++ news) → w.grownBy w' v.ownBlock → (∀ b, b < w.heap.size → Far v b → Far (.slice A' (n + m) c') b) → K (a.put o.dst (.slice A' (n + m) c')) w') : o.wp P a w K Q := by
  obtain ⟨v', w', hrun, h2, h3, h4⟩ := app_runN (P := P) w base t o.type e i z size bytes ht hi hz hsize hby hzs hsz v n xs hown A m c news hr h1 h63 hbytes hbase
  obtain ⟨A', c', rfl⟩ := own_form h2
  unfold Oper.wp execOp
  simp only [ho, resolve, invoke, builtin, Sem.run_bind, Sem.run_pure, Result.andThen_ok, List.map_toArray, List.map_cons, List.map_nil, hs, hx, hrun]
  exact h A' c' w' h2 h3 h4
theorem wpList_appN {P : Program} (w : World) {ops : Array Oper} {rest : List Oper} {o : Oper} {a : Act} {Q : Exit → Act → World → Prop} (hgd : o.guard = none) (s x : Operand) (t : TypeId)
    (ho : o.op = .call { callee := .builtin .append, args := #[s, x], argTypes := #[t, t] })
    (base : Nat) (e : TypeId) (i : TypeInfo) (z : Value) (size bytes : Nat) (ht : P.underlying t = some (.slice e)) (hi : P.info? e = some i) (hz : i.zero = some z)
    (hsize : i.size = size) (hby : i.bytes = bytes) (hzs : z.cells.size = size) (hsz : 0 < size) (v : Value) (n : Nat) (xs : List Value) (hs : a.eval s = v) (hown : w.ownsRow base e size v n xs)
    (A : Option Addr) (m c : Nat) (news : List Value) (hx : a.eval x = .slice A m c) (hr : Rd w size A m news) (h1 : ∀ u ∈ news, u.oneCell' = true) (h63 : n + m ≤ maxLen) (hbytes : (n + m) * bytes ≤ 140737488355328) (hbase : base ≤ w.heap.size)
    (h : ∀ A' c' w', w'.ownsRow base e size (.slice A' (n + m) c') (n + m) (xs ++ news) → w.grownBy w' v.ownBlock → (∀ b, b < w.heap.size → Far v b → Far (.slice A' (n + m) c') b) → wpList P ops Q rest (a.put o.dst (.slice A' (n + m) c')) w') : wpList P ops Q (o :: rest) a w :=
  wpList_plain hgd fun _ hK => wp_appN w s x t ho base e i z size bytes ht hi hz hsize hby hzs hsz v n xs hs hown A m c news hx hr h1 h63 hbytes hbase fun A' c' w' h2 h3 h4 => hK _ _ (h A' c' w' h2 h3 h4)
theorem i64_rd {w : World} {A : Option Addr} {xs : List Int} (h : I64 w A xs) : Rd w 1 A xs.length (xs.map (Value.int .i64)) := by
  refine ⟨by simp, fun hl => ?_⟩
  obtain ⟨b, off, hA, hb, _⟩ := h 0 xs[0] (by simp)
  refine ⟨b, off, hA, hb, fun j u hu => ?_⟩
  rw [List.getElem?_map] at hu
  cases hx : xs[j]? with
  | none => rw [hx] at hu; simp at hu
  | some x =>
    rw [hx] at hu
    obtain ⟨b', off', hA', _, _, hc⟩ := h j x hx
    rw [hA] at hA'
    injection hA' with hA'
    injection hA' with e1 e2 _
    subst e1 e2
    simp only [Option.map_some, Option.some.injEq] at hu
    rw [hc, hu]
theorem one_ints (xs : List Int) : ∀ u ∈ xs.map (Value.int .i64), u.oneCell' = true := by
  intro u hu
  obtain ⟨x, _, rfl⟩ := List.mem_map.1 hu
  rfl
theorem own_lit0 {w : World} {base blk size : Nat} {e : TypeId} (h : w.heap[blk]? = some (.cells #[] e (0, 0))) (hb : base ≤ blk) : w.ownsRow base e size (.slice (some ⟨blk, 0, none⟩) 0 0) 0 [] :=
  ⟨by simp, .inr ⟨blk, 0, #[], rfl, hb, h, Nat.le_refl _, by decide, by simp, by simp⟩⟩
theorem ownsRow_grows {w w' : World} {B : Nat} {e : TypeId} {sz n : Nat} {v : Value} {xs : List Value} (h : w.ownsRow B e sz v n xs) (hb : Below w.heap.size w w') : w'.ownsRow B e sz v n xs :=
  h.kept (row := none) ⟨hb.1, hb.2, hb.3, hb.size, fun k hk _ => hb.block k hk⟩ (by cases hv : v.ownBlock <;> simp)
/-- rows of numbers, as the values of a row of the call's own -/
def RowsV (w : World) (v : Value) (vs : List Value) (rows : List (List Int)) : Prop :=
  vs.length = rows.length ∧ ∀ (k : Nat) (p : List Int), rows[k]? = some p → ∃ P d, vs[k]? = some (Value.slice P p.length d) ∧ I64 w P p ∧ ∀ b o, P = some ⟨b, o, none⟩ → Far v b ∧ b < w.heap.size
/-- rows of numbers behind an address -/
def RowsA (w : World) (A : Option Addr) (rows : List (List Int)) : Prop :=
  ∀ (k : Nat) (p : List Int), rows[k]? = some p → ∃ b off, A = some ⟨b, off, none⟩ ∧ b < w.heap.size ∧ b ≤ w.heap.size ∧ ∃ P d, w.cell? ⟨b, off + k, none⟩ = some (.slice P p.length d) ∧ I64 w P p
theorem RowsA.ext {w w' : World} {A : Option Addr} {rows : List (List Int)} (h : RowsA w A rows) (hb : Below w.heap.size w w') : RowsA w' A rows := fun k p hk => by
  obtain ⟨b, off, h0, h1, h2, P, d, h3, h4⟩ := h k p hk
  have hs := hb.size
  exact ⟨b, off, h0, by omega, by omega, P, d, (hb.cell (p := ⟨b, _, none⟩) h1).trans h3, h4.ext hb⟩
theorem i64_grown {w w' : World} {row : Option Nat} {P : Option Addr} {p : List Int} (h : I64 w P p) (hg : w.grownBy w' row) (hf : ∀ b o, P = some ⟨b, o, none⟩ → ∀ g, row = some g → b ≠ g) : I64 w' P p := fun k x hk => by
  obtain ⟨b, off, h0, h1, h2, h3⟩ := h k x hk
  have hs := hg.size
  exact ⟨b, off, h0, by omega, by omega, (gb_cell hg b h1 (hf b off h0) _).trans h3⟩
theorem RowsV.grown {w w' : World} {v v' : Value} {vs : List Value} {rows : List (List Int)} (h : RowsV w v vs rows) (hg : w.grownBy w' v.ownBlock) (hf : ∀ b, b < w.heap.size → Far v b → Far v' b) : RowsV w' v' vs rows :=
  ⟨h.1, fun k p hk => by
    obtain ⟨P, d, h1, h2, h3⟩ := h.2 k p hk
    refine ⟨P, d, h1, i64_grown h2 hg (fun b o e => (h3 b o e).1), fun b o e => ⟨hf b (h3 b o e).2 (h3 b o e).1, ?_⟩⟩
    have := (h3 b o e).2
    have := hg.size
    omega⟩
theorem RowsV.ext {w w' : World} {v : Value} {vs : List Value} {rows : List (List Int)} (h : RowsV w v vs rows) (hb : Below w.heap.size w w') : RowsV w' v vs rows :=
  ⟨h.1, fun k p hk => by
    obtain ⟨P, d, h1, h2, h3⟩ := h.2 k p hk
    refine ⟨P, d, h1, h2.ext hb, fun b o e => ⟨(h3 b o e).1, ?_⟩⟩
    have := (h3 b o e).2
    have := hb.size
    omega⟩
theorem RowsV.nil (w : World) (v : Value) : RowsV w v [] [] := ⟨rfl, fun k p hk => by simp at hk⟩
theorem RowsV.snoc {w : World} {v : Value} {vs : List Value} {rows : List (List Int)} (h : RowsV w v vs rows) {P : Option Addr} {q : List Int} {d : Nat} (hq : I64 w P q) (hf : ∀ b o, P = some ⟨b, o, none⟩ → Far v b ∧ b < w.heap.size) : RowsV w v (vs ++ [Value.slice P q.length d]) (rows ++ [q]) :=
  ⟨by simp [h.1], fun k p hk => by
    rcases Nat.lt_or_ge k rows.length with hl | hl
    · rw [List.getElem?_append_left hl] at hk
      obtain ⟨P', d', h1, h2⟩ := h.2 k p hk
      exact ⟨P', d', by rw [List.getElem?_append_left (by rw [h.1]; exact hl)]; exact h1, h2⟩
    · rw [List.getElem?_append_right hl] at hk
      have hk0 : k - rows.length = 0 := by
        rcases Nat.eq_zero_or_pos (k - rows.length) with h0 | h0
        · exact h0
        · rw [List.getElem?_eq_none (by simp; omega)] at hk; cases hk
      rw [hk0] at hk
      obtain rfl : q = p := by simpa using hk
      exact ⟨P, d, by rw [List.getElem?_append_right (by rw [h.1]; exact hl), h.1, hk0]; rfl, hq, hf⟩⟩
theorem rows_of {w : World} {B : Nat} {e : TypeId} {n c : Nat} {A : Option Addr} {vs : List Value} {rows : List (List Int)} (h : w.ownsRow B e 1 (.slice A n c) n vs) (k : RowsV w (.slice A n c) vs rows) : RowsA w A rows := fun j p hj => by
  obtain ⟨P, d, h1, h2, _⟩ := k.2 j p hj
  obtain ⟨b, hA, hl, hc⟩ := own_at h j _ h1
  exact ⟨b, 0, hA, hl, by omega, P, d, hc, h2⟩
def GivesRows (w : World) (rows : List (List Int)) (e : Ending) (w' : World) : Prop := ∃ A' c', e = .returned (.slice A' rows.length c') ∧ Grew w w' ∧ RowsA w' A' rows
/-- one row more -/
theorem rows_push {wr w2 w3 : World} {ob : Obj} {B m c' : Nat} {E : TypeId} {A' : Option Addr} {vs : List Value} {rows : List (List Int)} (hown : wr.ownsRow B E 1 (.slice A' m c') m vs) (hrv : RowsV wr (.slice A' m c') vs rows) (hb2 : Below wr.heap.size wr w2)
    {A2 : Option Addr} {c2 n2 : Nat} {q : List Int} {e2 : TypeId} (hn2 : n2 = q.length) (hown2 : w2.ownsRow wr.heap.size e2 1 (.slice A2 n2 c2) n2 (q.map (Value.int .i64))) {v3 : Value} (hgr3 : (w2.alloc ob).grownBy w3 (Value.ownBlock (.slice A' m c'))) (far3 : ∀ b, b < (w2.alloc ob).heap.size → Far (.slice A' m c') b → Far v3 b) :
    RowsV w3 v3 (vs ++ [Value.slice A2 n2 c2]) (rows ++ [q]) := by
  subst hn2
  have hb3 : Below wr.heap.size wr (w2.alloc ob) := hb2.alloc hb2.size _
  have hI : I64 (w2.alloc ob) A2 q := (own_i64 hown2).ext (Below.alloc (Below.refl _ _) (Nat.le_refl _) _)
  refine ((hrv.ext hb3).snoc hI (fun b o e => ⟨fun g hg => ?_, ?_⟩)).grown hgr3 far3
  · subst e
    have h1 := (hown2.lt b rfl).1
    have h2 := (hown.lt g hg).2
    omega
  · subst e
    have h1 := (hown2.lt b rfl).2
    rw [World.size_alloc]
    omega

/-- the places of the first tapes -/
def plK (ts : List (List Int)) (k : Nat) : List (List Nat) := Tm.placesF [[]] (ts.take k)
def extP (m : Nat) (o : List Nat) : List (List Nat) := (List.range m).map (fun n => o ++ [n])
def midP (l : List (List Nat)) (m j : Nat) : List (List Nat) := (l.take j).flatMap (extP m)
theorem plK_zero (ts : List (List Int)) : plK ts 0 = [[]] := rfl
theorem plK_succ (ts : List (List Int)) (k : Nat) (h : k < ts.length) : plK ts (k + 1) = (plK ts k).flatMap (extP (ts[k].length + 1)) := by
  unfold plK Tm.placesF extP
  rw [List.take_succ_eq_append_getElem h, List.foldl_append]
  rfl
theorem plK_all (ts : List (List Int)) : plK ts ts.length = Tm.placesP ts := by
  unfold plK
  rw [List.take_length, Tm.placesF_eq]
  simp
theorem midP_zero (l : List (List Nat)) (m : Nat) : midP l m 0 = [] := rfl
theorem midP_succ (l : List (List Nat)) (m j : Nat) (h : j < l.length) : midP l m (j + 1) = midP l m j ++ extP m l[j] := by
  unfold midP
  rw [List.take_succ_eq_append_getElem h, List.flatMap_append]
  simp
theorem midP_all (l : List (List Nat)) (m : Nat) : midP l m l.length = l.flatMap (extP m) := by unfold midP; rw [List.take_length]
theorem extP_zero (o : List Nat) : extP 0 o = [] := rfl
theorem extP_succ (m : Nat) (o : List Nat) : extP (m + 1) o = extP m o ++ [o ++ [m]] := by unfold extP; rw [List.range_succ, List.map_append]; rfl
theorem extP_len (m : Nat) (o : List Nat) : (extP m o).length = m := by simp [extP]
theorem midP_len (l : List (List Nat)) (m : Nat) : ∀ j, j ≤ l.length → (midP l m j).length = j * m
  | 0, _ => by simp [midP]
  | j + 1, h => by rw [midP_succ l m j (by omega), List.length_append, extP_len, midP_len l m j (by omega), Nat.add_mul, Nat.one_mul]
theorem plK_mem (ts : List (List Int)) : ∀ k, k ≤ ts.length → ∀ o, o ∈ plK ts k → o.length = k
  | 0, _, o, ho => by rw [plK_zero] at ho; simp at ho; simp [ho]
  | k + 1, h, o, ho => by
    rw [plK_succ ts k (by omega)] at ho
    obtain ⟨q, hq, hm⟩ := List.mem_flatMap.1 ho
    obtain ⟨n, _, rfl⟩ := List.mem_map.1 hm
    have := plK_mem ts k (by omega) q hq
    simp [this]
theorem plK_len {ts : List (List Int)} (hs : ∀ t, t ∈ ts → t.length ≤ 8) : ∀ k, k ≤ ts.length → (plK ts k).length ≤ 9 ^ k
  | 0, _ => by simp [plK_zero]
  | k + 1, h => by
    have ih := plK_len hs k (by omega)
    rw [plK_succ ts k (by omega), ← midP_all, midP_len _ _ _ (Nat.le_refl _), Nat.pow_succ]
    exact Nat.mul_le_mul ih (by have := hs ts[k] (List.getElem_mem _); omega)
def natR (l : List (List Nat)) : List (List Int) := l.map natI
theorem natR_len (l : List (List Nat)) : (natR l).length = l.length := by simp [natR]
theorem natR_append (l m : List (List Nat)) : natR (l ++ m) = natR l ++ natR m := by simp [natR]
theorem natI_snoc (o : List Nat) (n : Nat) : natI o ++ [((n : Nat) : Int)] = natI (o ++ [n]) := by simp [natI]
end Go.Proofs.Ytafncmgijbkomaa
namespace Go.Proofs.Ytafncmgijbkomaa
open Go.RowKit Go.Maps
theorem rd_nat {w : World} {P : Option Addr} {o : List Nat} (h : I64 w P (natI o)) : Rd w 1 P o.length ((natI o).map (Value.int .i64)) := by
  have := i64_rd h
  rwa [natI_len] at this
theorem rowsA_at {w : World} {A : Option Addr} {l : List (List Nat)} (h : RowsA w A (natR l)) (k : Nat) (hk : k < l.length) : ∃ b off, A = some ⟨b, off, none⟩ ∧ b < w.heap.size ∧ ∃ P d, w.cell? ⟨b, off + k, none⟩ = some (.slice P l[k].length d) ∧ I64 w P (natI l[k]) := by
  obtain ⟨b, off, e, h1, _, P, d, h2, h3⟩ := h k (natI l[k]) (by simp [natR, hk])
  rw [natI_len] at h2
  exact ⟨b, off, e, h1, P, d, h2, h3⟩
theorem rows_one {w : World} {b d : Nat} (h : w.cell? ⟨b, 0, none⟩ = some (.slice none 0 d)) (hb : b < w.heap.size) : RowsA w (some ⟨b, 0, none⟩) (natR [[]]) := fun k p hk => by
  have h0 : k = 0 := by
    rcases Nat.eq_zero_or_pos k with h0 | h0
    · exact h0
    · rw [List.getElem?_eq_none (by simp [natR]; omega)] at hk; cases hk
  subst h0
  obtain rfl : p = [] := by simpa [natR, natI] using hk.symm
  exact ⟨b, 0, rfl, hb, by omega, none, d, h, fun j x hj => by simp at hj⟩
set_option maxRecDepth 100000 in
set_option maxHeartbeats 4000000 in
theorem Places_any (A : Option Addr) (ts : List ByteArray) (c : Nat) (w : World) (hA : Strs w A ts) (h3 : ts.length ≤ 3) (hs : Small ts) :
    Calls Try.prog 71 #[.slice A ts.length c] w (GivesRows w (natR (Tm.placesP (lts ts)))) := by
  obtain ⟨i0, ih, iz, is, ib⟩ := info_parts infoI
  obtain ⟨l0, lh, lz, ls, lb⟩ := info_parts infoL
  have hll : (lts ts).length = ts.length := by simp [lts]
  have hs8 : ∀ t, t ∈ lts ts → t.length ≤ 8 := fun t ht => by
    obtain ⟨s, hs1, rfl⟩ := List.mem_map.1 ht
    obtain ⟨k, hk, rfl⟩ := List.getElem_of_mem hs1
    rw [lt_len]; exact hs k hk
  have HL := hide (fun k (h : k ≤ ts.length) => plK_len hs8 k (by omega))
  have HM := hide (fun k (h : k ≤ ts.length) => plK_mem (lts ts) k (by omega))
  have HS := hide (fun k (h : k < ts.length) => (show plK (lts ts) (k + 1) = (plK (lts ts) k).flatMap (extP (ts[k].size + 1)) by
    rw [plK_succ (lts ts) k (by omega)]; simp [lts, lt_len]))
  have HEND : Hid (plK (lts ts) ts.length = Tm.placesP (lts ts)) := by
    have := plK_all (lts ts); rw [hll] at this; exact hide this
  have HZ := hide (plK_zero (lts ts))
  rw [← HEND.out]
  have h3' : (ts.length : Int) ≤ 3 := by omega
  clear hs8 hll
  generalize plK (lts ts) = pl at *
  unfold GivesRows
  go_enter Try.func71, Try.ntmps71
  go_wp2
  go_loopw [3, 4] (fun out i wr => ∃ (k : Nat) (AO : Option Addr) (cO : Nat), k ≤ ts.length ∧ i = .int .i64 (k : Nat) ∧ out = .slice AO (pl k).length cO ∧ RowsA wr AO (natR (pl k)) ∧ Below w.heap.size w wr) (fun _ i _ => ts.length - (intOf i).toNat)
  case atStart =>
    refine ⟨0, some ⟨w.heap.size, 0, none⟩, 1, Nat.zero_le _, rfl, by rw [HZ.out]; rfl, ?_, by (repeat (first | exact Below.refl _ _ | assumption | (refine below_gr ?_ (by (first | omega | (simp only [zz] at *; omega))) _) | (refine below_alloc ?_ (by (first | omega | (simp only [zz] at *; omega))) _) | (refine Below.setCell ?_ (by (first | omega | (simp only [zz] at *; omega))) _) | refine below_drewN ?_ _ | refine below_drew ?_ | (refine below_step ?_ (by assumption) (by (first | omega | (simp only [zz] at *; omega))))))⟩
    rw [HZ.out]
    exact rows_one (d := 0) (by simp) (by simp)
  case round =>
    obtain ⟨k, AO, cO, hk, rfl, rfl, hRA, hbo⟩ := hrel
    obtain ⟨wo, rfl⟩ : ∃ wo : World, wo = wr := ⟨_, rfl⟩
    have hzo := hbo.size
    by_cases hlt : k < ts.length
    · obtain ⟨tb, toff, rfl, tl, tl2, hs0⟩ := (hA.ext hbo) k ts[k] (by simp [hlt])
      have hs8 := hs k hlt
      have HS1 := hide (HS.out k hlt)
      have hlen := HL.out k hk
      have HLN := hide (HM.out k hk)
      have h9 : 9 ^ k ≤ 729 := by
        have : k = 0 ∨ k = 1 ∨ k = 2 := by omega
        rcases this with rfl | rfl | rfl <;> decide
      have hln : (pl k).length ≤ 729 := by omega
      have HNX := hide (fun j (h : j < (pl k).length) => midP_succ (pl k) (ts[k].size + 1) j h)
      have HML := hide (fun j (h : j ≤ (pl k).length) => midP_len (pl k) (ts[k].size + 1) j h)
      have HMA := hide (midP_all (pl k) (ts[k].size + 1))
      have HM0 := hide (midP_zero (pl k) (ts[k].size + 1))
      have HPL1 : Hid (pl (k + 1) = midP (pl k) (ts[k].size + 1) (pl k).length) := hide (by rw [HS1.out, HMA.out])
      clear hlen h9
      generalize hL : pl k = L at *
      generalize ts[k] = s at *
      have HLK := hide hL
      clear hL
      have hki : (k : Int) < (ts.length : Nat) := by omega
      generalize midP L (s.size + 1) = mid at *
      go_wp2
      go_loopw [5, 6] (fun nx j wr => ∃ (jn : Nat) (A' : Option Addr) (rl c' : Nat) (vs : List Value), jn ≤ L.length ∧ j = .int .i64 (jn : Nat) ∧ nx = .slice A' rl c' ∧ Hid (rl = (mid jn).length) ∧ wr.ownsRow wo.heap.size 32 1 (.slice A' rl c') rl vs ∧ RowsV wr (.slice A' rl c') vs (natR (mid jn)) ∧ Below wo.heap.size wo wr) (fun _ j _ => L.length - (intOf j).toNat)
      case atStart => exact ⟨0, none, 0, 0, [], Nat.zero_le _, rfl, rfl, hide (by rw [HM0.out]; rfl), World.ownsRow_nil _ _ _ _, by rw [HM0.out]; exact RowsV.nil _ _, Below.refl _ _⟩
      case round =>
        obtain ⟨jn, A', rl, c', vs, hj, rfl, rfl, HRL, hown, hrv, hb⟩ := hrel
        have hz := hb.size
        by_cases hjl : jn < L.length
        · have HN1 := hide (HNX.out jn hjl)
          have hml := HML.out jn hj
          have HOL := hide (HLN.out L[jn] (List.getElem_mem hjl))
          have hol3 : L[jn].length ≤ 3 := by rw [HOL.out]; omega
          have hmul : jn * (s.size + 1) ≤ 729 * 9 := Nat.mul_le_mul (by omega) (by omega)
          have hrl2 : rl ≤ 729 * 9 := by have := HRL.out; omega
          obtain ⟨ob, oo, rfl, hol2, P, d, hcP, hIP⟩ := rowsA_at hRA jn hjl
          have hjli : (jn : Int) < (L.length : Nat) := by omega
          generalize L[jn] = o at *
          obtain ⟨wm, rfl⟩ : ∃ wm : World, wm = wr := ⟨_, rfl⟩
          clear hmul hml
          go_wp2
          go_loopw [5, 7] (fun nx n wr => ∃ (nn : Nat) (A' : Option Addr) (rl c' : Nat) (vs : List Value), nn ≤ s.size + 1 ∧ n = .int .i64 (nn : Nat) ∧ nx = .slice A' rl c' ∧ rl ≤ 7000 + nn ∧ Hid (rl = (mid jn ++ extP nn o).length) ∧ wr.ownsRow wo.heap.size 32 1 (.slice A' rl c') rl vs ∧ RowsV wr (.slice A' rl c') vs (natR (mid jn ++ extP nn o)) ∧ Below wo.heap.size wo wr) (fun _ n _ => s.size + 1 - (intOf n).toNat)
          case atStart => exact ⟨0, A', rl, c', vs, Nat.zero_le _, rfl, rfl, by omega, hide (by rw [extP_zero, List.append_nil]; exact HRL.out), hown, by rw [extP_zero, List.append_nil]; exact hrv, hb⟩
          case round =>
            clear hown hrv HRL hrl2
            obtain ⟨nn, A', rl, c', vs, hn, rfl, rfl, hrl2, HRL, hown, hrv, hb2⟩ := hrel
            have hcR := (hb2.cell (p := ⟨ob, oo + jn, none⟩) hol2).trans hcP
            replace hIP := hIP.ext hb2
            have holr : ob < wr.heap.size := by have := hb2.size; omega
            have htr : tb < wr.heap.size := by have := hb2.size; omega
            have hsr := (hb2.cell (p := ⟨tb, toff + k, none⟩) tl).trans hs0
            have hrb := hb2.size
            clear hcP hs0 hol2 tl
            by_cases hnl : nn ≤ s.size
            · have hnli : (nn : Int) ≤ (s.size : Nat) := by omega
              have HXS := hide (extP_succ nn o)
              go_wp2_with (first
    | (at_builtin; refine wpList_appN _ rfl (.tmp 31) (.tmp 35) 32 rfl (wr.heap.size) 3 i0 _ 1 8 und32 ih iz is ib rfl (by decide) (_) (0) ([]) rfl (own_lit0 (heap_alloc_new wr _) (Nat.le_refl _)) (P) (o.length) (d) ((natI o).map (Value.int .i64)) rfl (rd_nat (hIP.ext (by (repeat (first | exact Below.refl _ _ | assumption | refine below_drewN ?_ _ | refine below_drew ?_ | refine below_gr ?_ ?_ _ | refine below_alloc ?_ ?_ _ | refine Below.setCell ?_ ?_ _ | refine below_step ?_ (by assumption) ?_ | omega | (simp only [zz] at *; omega)))))) (one_ints _) (by unfold maxLen; omega) (by omega) (by (first | omega | (simp only [zz]; omega) | (simp only [zz] at *; omega) | (simp; done) | (simp; omega))) ?_; intro A1 c1 w1 hown1 hgr1 far1; rw [Nat.zero_add o.length]; rw [Nat.zero_add o.length] at hown1; rw [List.nil_append] at hown1; have hb1 : Below wr.heap.size wr w1 := gb_below (by (repeat (first | exact Below.refl _ _ | assumption | refine below_drewN ?_ _ | refine below_drew ?_ | refine below_gr ?_ ?_ _ | refine below_alloc ?_ ?_ _ | refine Below.setCell ?_ ?_ _ | refine below_step ?_ (by assumption) ?_ | omega | (simp only [zz] at *; omega)))) hgr1 (by (first | omega | (simp only [zz]; omega) | (simp only [zz] at *; omega) | (simp; done) | (simp; omega))) (fun k hk => by have hk' := Option.some.inj hk; (try dsimp only at hk'); omega); have hz1 := hb1.size; clear hgr1 far1)
    | (at_builtin; refine wpList_appN _ rfl (.tmp 36) (.tmp 38) 32 rfl (wr.heap.size) 3 i0 _ 1 8 und32 ih iz is ib rfl (by decide) (_) (o.length) ((natI o).map (Value.int .i64)) rfl (by have h := hown1.alloc (.cells #[.int .i64 (nn : Nat)] 3); first | exact h | (rw [Nat.zero_add]; exact h)) (some ⟨w1.heap.size, 0, none⟩) (1) (1) ([.int .i64 (nn : Nat)]) rfl (rd_new1 _ _ _) (by simp [Value.oneCell']) (by unfold maxLen; omega) (by omega) (by (first | omega | (simp only [zz]; omega) | (simp only [zz] at *; omega) | (simp; done) | (simp; omega))) ?_; intro A2 c2 w2 hown2 hgr2 far2; have hbx2 : Below wr.heap.size wr w2 := gb_below (below_alloc hb1 hz1 _) hgr2 (by (first | omega | (simp only [zz]; omega) | (simp only [zz] at *; omega) | (simp; done) | (simp; omega))) (fun k hk => (hown1.lt k hk).1); have hz2 := hbx2.size; clear hgr2 far2)
    | (at_builtin; refine wpList_appN _ rfl (.tmp 30) (.tmp 40) 101 rfl (wo.heap.size) 32 l0 _ 1 24 und101 lh lz ls lb rfl (by decide) ((.slice A' rl c')) (rl) (vs) rfl ((ownsRow_grows hown (hbx2.alloc hz2 _))) (some ⟨w2.heap.size, 0, none⟩) (1) (1) ([.slice A2 (o.length + 1) c2]) rfl (rd_new1 _ _ _) (by simp [Value.oneCell']) (by unfold maxLen; omega) (by omega) (by (first | omega | (simp only [zz]; omega) | (simp only [zz] at *; omega) | (simp; done) | (simp; omega))) ?_; intro A3 c3 w3 hown3 hgr3 far3))

              refine ⟨⟨nn + 1, A3, rl + 1, c3, _, by omega, by go_num, rfl, by omega, hide (by rw [HXS.out, ← List.append_assoc, List.length_append, HRL.out]; rfl), hown3, ?_, gb_below (below_alloc (below_step hb2 hbx2 hrb) (by omega) _) hgr3 (by simp; omega) (fun k hk => (hown.lt k hk).1)⟩, by simp [intOf]; omega⟩
              rw [HXS.out, ← List.append_assoc, natR_append]
              have hown2' : w2.ownsRow wr.heap.size 3 1 (.slice A2 (o.length + 1) c2) (o.length + 1) ((natI (o ++ [nn])).map (Value.int .i64)) := by rw [← natI_snoc, List.map_append]; exact hown2
              exact rows_push hown hrv hbx2 (by rw [natI_len]; simp) hown2' hgr3 far3
            · have hne : nn = s.size + 1 := by omega
              have hnli : ¬ ((nn : Int) ≤ (s.size : Nat)) := by omega
              have HRE : Hid (mid (jn + 1) = mid jn ++ extP nn o) := hide (by rw [HN1.out, hne])
              clear hne
              go_wp2
              refine ⟨⟨jn + 1, A', rl, c', vs, by omega, by go_num, rfl, hide (by rw [HRE.out]; exact HRL.out), hown, by rw [HRE.out]; exact hrv, hb2⟩, by simp [intOf]; omega⟩
        · have hje : jn = L.length := by omega
          have hjli : ¬ ((jn : Int) < (L.length : Nat)) := by omega
          subst hje
          have hRN := rows_of hown hrv
          rw [← HPL1.out] at hRN
          have HL1 : Hid (rl = (pl (k + 1)).length) := hide (by rw [HPL1.out]; exact HRL.out)
          go_wp2
          refine ⟨⟨k + 1, A', c', by omega, by go_num, by rw [← HL1.out], hRN, hbo.trans (hb.mono hzo)⟩, by simp [intOf]; omega⟩
    · have hkn : k = ts.length := by omega
      subst hkn
      go_wp2
      go_ret
      exact ⟨AO, cO, by rw [natR_len]; rfl, grew_of hbo, hRA⟩
end Go.Proofs.Ytafncmgijbkomaa
namespace Go.Proofs.Ytafncmgijbkomaa
open Go.RowKit Go.Maps Go.Lib
/-- all places, with their number -/
theorem Places_m (A : Option Addr) (ts : List ByteArray) (c : Nat) (w : World) (hA : Strs w A ts) (h3 : ts.length ≤ 3) (hs : Small ts) :
    Calls Try.prog 71 #[.slice A ts.length c] w (fun e w' => ∃ A' c', e = .returned (.slice A' (Tm.prodP (lts ts)) c') ∧ Below w.heap.size w w' ∧ RowsA w' A' (natR (Tm.placesP (lts ts)))) := (Places_any A ts c w hA h3 hs).mono fun e w' h => by
  obtain ⟨A', c', rfl, hg, hr⟩ := h
  refine ⟨A', c', ?_, hg.below, hr⟩
  rw [natR_len, Tm.placesP_len]
theorem next_m (A : Option Addr) (ts : List ByteArray) (c : Nat) (P : Option Addr) (p : List Nat) (d : Nat) (win : Int) (w : World) (hA : Strs w A ts) (hP : I64 w P (natI p)) (h3 : ts.length ≤ 3) (hp : Tm.IsPl (lts ts) p) (hf : Fine ts) :
    Calls Try.prog 73 #[.slice A ts.length c, .slice P p.length d, .int .i64 win] w (fun e w' => ∃ A' c', e = .returned (.slice A' (Tm.nextP (lts ts) p win).length c') ∧ Below w.heap.size w w' ∧ I64 w' A' (natI (Tm.nextP (lts ts) p win))) := (rnext_any A ts c P p d win w hA hP h3 hp hf).mono fun e w' h => by
  obtain ⟨A', c', rfl, hg, hr⟩ := h
  refine ⟨A', c', ?_, hg.below, hr⟩
  rw [natI_len]
theorem places_row {w : World} {A : Option Addr} {ts : List (List Int)} (h : RowsA w A (natR (Tm.placesP ts))) (k : Nat) (hk : k < Tm.prodP ts) : ∃ b off, A = some ⟨b, off, none⟩ ∧ b < w.heap.size ∧ ∃ P d, w.cell? ⟨b, off + k, none⟩ = some (.slice P (Tm.placeP ts k).length d) ∧ I64 w P (natI (Tm.placeP ts k)) := by
  have h1 := Tm.placesP_at ts k hk
  have h2 : k < (Tm.placesP ts).length := by rw [Tm.placesP_len]; exact hk
  have h3 : (Tm.placesP ts)[k] = Tm.placeP ts k := by rw [List.getElem?_eq_getElem h2] at h1; exact Option.some.inj h1
  have := rowsA_at h k h2
  rwa [h3] at this
/-- the least number so far, with a mark for none -/
def bstK (ts : List (List Int)) (p : List Nat) (T : List Int) (k c : Nat) : Int :=
  (List.range c).foldl (fun (o : Int) (c : Nat) => if Tm.idxP ts (Tm.nextP ts p (c : Nat)) 0 ≠ k ∧ (o < 0 ∨ T.getD (Tm.idxP ts (Tm.nextP ts p (c : Nat)) 0) 0 + 1 < o) then T.getD (Tm.idxP ts (Tm.nextP ts p (c : Nat)) 0) 0 + 1 else o) (-1)
theorem bstK_succ (ts : List (List Int)) (p : List Nat) (T : List Int) (k c : Nat) : bstK ts p T k (c + 1) = if Tm.idxP ts (Tm.nextP ts p (c : Nat)) 0 ≠ k ∧ (bstK ts p T k c < 0 ∨ T.getD (Tm.idxP ts (Tm.nextP ts p (c : Nat)) 0) 0 + 1 < bstK ts p T k c) then T.getD (Tm.idxP ts (Tm.nextP ts p (c : Nat)) 0) 0 + 1 else bstK ts p T k c := by
  unfold bstK
  rw [List.range_succ, List.foldl_append]
  rfl
theorem bstK_rng {ts : List (List Int)} {p : List Nat} {T : List Int} {k : Nat} (h : ∀ j : Nat, 0 ≤ T.getD j 0 ∧ T.getD j 0 ≤ 24) (c : Nat) : -1 ≤ bstK ts p T k c ∧ bstK ts p T k c ≤ 25 := by
  induction c with
  | zero => simp [bstK]
  | succ c ih =>
    rw [bstK_succ]
    split
    · have := h (Tm.idxP ts (Tm.nextP ts p (c : Nat)) 0); omega
    · exact ih
theorem bst_val {W : Nat} (hW : 0 < W) {ts : List (List Int)} (h : Tm.lettersOk W ts) {k : Nat} (hk : k + 1 < Tm.prodP ts) (T : List Int) (hT : ∀ n : Nat, k < n → n < Tm.prodP ts → T.getD n 0 = Tm.bdVal W ts n) : bstK ts (Tm.placeP ts k) T k W = Tm.bdVal W ts k := by
  obtain ⟨hp, hi⟩ := Tm.place_is (ts := ts) (n := k) (by omega)
  have hl := Tm.rem_less ts hp
  have ho : Tm.over (Tm.remP ts (Tm.placeP ts k)) = false := by
    rw [Bool.eq_false_iff]
    intro g
    have e := (Tm.over_iff hp).1 g
    have := Tm.idx_last ts
    rw [← e, hi] at this
    omega
  have hf := Tm.fold_best hW (Tm.ok_less hl h) ho
  unfold Tm.bdVal bstK
  rw [← hf]
  have hfun : ∀ c : Nat, (Tm.idxP ts (Tm.nextP ts (Tm.placeP ts k) (c : Nat)) 0 ≠ k ↔ Tm.behs (c : Nat) (Tm.remP ts (Tm.placeP ts k)) ≠ Tm.remP ts (Tm.placeP ts k)) ∧ (Tm.idxP ts (Tm.nextP ts (Tm.placeP ts k) (c : Nat)) 0 ≠ k → T.getD (Tm.idxP ts (Tm.nextP ts (Tm.placeP ts k) (c : Nat)) 0) 0 = (Tm.fewN W (Tm.behs (c : Nat) (Tm.remP ts (Tm.placeP ts k))) : Nat)) := fun c => by
    have hn := Tm.next_is hp (c : Int)
    refine ⟨⟨fun g e => g ?_, fun g e => g ?_⟩, fun g => ?_⟩
    · rw [(Tm.next_eq hp _).2 e, hi]
    · refine (Tm.next_eq hp _).1 (Tm.idx_inj hn hp ?_)
      rw [e, hi]
    · have hne : Tm.nextP ts (Tm.placeP ts k) (c : Nat) ≠ Tm.placeP ts k := fun e => g (by rw [e, hi])
      have h1 := Tm.idx_next_lt hp hne
      rw [hi] at h1
      have h2 := (Tm.idx_lin hn 0).2
      rw [hT _ h1 h2]
      unfold Tm.bdVal
      rw [Tm.place_idx hn, Tm.rem_next]
  congr 1
  funext o c
  obtain ⟨h1, h2⟩ := hfun c
  by_cases e : Tm.idxP ts (Tm.nextP ts (Tm.placeP ts k) (c : Nat)) 0 = k
  · rw [if_neg (fun g => g.1 e), if_neg (fun g => (h1.2 g.1) e)]
  · rw [h2 e]
    simp only [ne_eq, e, not_false_eq_true, true_and, h1.1 e]
theorem bd_end {W : Nat} (hW : 0 < W) {ts : List (List Int)} (h : Tm.lettersOk W ts) : Tm.bdVal W ts (Tm.prodP ts - 1) = 0 := by
  have h0 := Tm.idx_last ts
  have h1 := Tm.place_idx (Tm.last_is ts)
  rw [show Tm.idxP ts (Tm.lastPl ts) 0 = Tm.prodP ts - 1 by omega] at h1
  exact Tm.bd_last hW h (by have := Tm.prod_pos ts; omega) h1
theorem bd_rng {W : Nat} (hW : 0 < W) {ts : List (List Int)} (h : Tm.lettersOk W ts) (ht : Tm.total ts ≤ 24) {k : Nat} (hk : k < Tm.prodP ts) : 0 ≤ Tm.bdVal W ts k ∧ Tm.bdVal W ts k ≤ 24 := by
  obtain ⟨hp, _⟩ := Tm.place_is hk
  have hl := Tm.rem_less ts hp
  have := Tm.fewN_total hW (Tm.ok_less hl h)
  have := Tm.total_less hl
  unfold Tm.bdVal
  omega
theorem getD_set {T : List Int} {k n : Nat} {v : Int} (hk : k < T.length) : (T.set k v).getD n 0 = if n = k then v else T.getD n 0 := by
  rw [List.getD_eq_getElem?_getD, List.getD_eq_getElem?_getD]
  by_cases e : n = k
  · subst e; rw [if_pos rfl, List.getElem?_set_self hk]; rfl
  · rw [if_neg e, List.getElem?_set_ne (by omega)]
theorem map_at {T : List Int} {n M : Nat} (h : T.length = M) (hn : n < M) : (T.map (Value.int .i64)).toArray[n]? = some (.int .i64 (T.getD n 0)) := by
  have : n < T.length := by omega
  rw [List.getD_eq_getElem?_getD, List.getElem?_eq_getElem this]
  simp [this]
theorem map_set (T : List Int) (k : Nat) (v : Int) : ((T.map (Value.int .i64)).toArray).setIfInBounds k (.int .i64 v) = ((T.set k v).map (Value.int .i64)).toArray := by simp [List.map_set]
set_option maxRecDepth 100000 in
set_option maxHeartbeats 4000000 in
theorem rBounds_any (Wn : Nat) (A : Option Addr) (ts : List ByteArray) (c : Nat) (w : World) (hA : Strs w A ts) (hW1 : 1 ≤ Wn) (hW2 : Wn ≤ 5) (h3 : ts.length ≤ 3) (hf : Fine ts) (hs : Small ts) (hlo : Tm.lettersOk Wn (lts ts)) :
    Calls Try.prog 65 #[.int .i64 (Wn : Nat), .slice A ts.length c] w (GivesInts w (bdsL Wn (lts ts))) := by
  obtain ⟨i0, ih, iz, is, ib⟩ := info_parts infoI
  have hpp := Tm.prod_pos (lts ts)
  have hm9 := prodP_small ts hs h3
  have ht := small_total hs h3
  have HEND := hide (bd_end (W := Wn) (by omega) hlo)
  have HRG := hide (fun k h => bd_rng (W := Wn) (by omega) hlo ht (k := k) h)
  have HBV := hide (fun k hk T hT => bst_val (W := Wn) (by omega) hlo (k := k) hk T hT)
  have HPI := hide (fun k h => Tm.place_is (ts := lts ts) (n := k) h)
  have HPLM := hide (fun w' (h : Strs w' A ts) => Places_m A ts c w' h h3 hs)
  have HROW := hide (fun (w' : World) (AO : Option Addr) (h : RowsA w' AO (natR (Tm.placesP (lts ts)))) => places_row h)
  have HIL := hide (fun p (hp : Tm.IsPl (lts ts) p) (x : Int) => (Tm.idx_lin (Tm.next_is hp x) 0).2)
  have HBL := hide (show bdsL Wn (lts ts) = (List.range (Tm.prodP (lts ts))).map (Tm.bdVal Wn (lts ts)) from rfl)
  have hmk := make_zeros (Tm.prodP (lts ts)) 32 3 i0 (.int .i64 0) und32 ih iz is (by rw [ib]; decide) rfl (by omega)
  generalize natR (Tm.placesP (lts ts)) = rows at *
  rw [HBL.out]
  generalize Tm.prodP (lts ts) = M at *
  generalize hV : Tm.bdVal Wn (lts ts) = V at *
  replace hV := hide hV
  clear HBL hlo ht
  have hW2i : (Wn : Int) ≤ 5 := by omega
  go_enter Try.func65, Try.ntmps65
  go_wp2_with (go_at_call 71; refine (HPLM.out _ hA).mono ?_; rintro e w1 ⟨AO, cO, rfl, hb1, hR1⟩; have hz1 := hb1.size)
  obtain ⟨O, hO⟩ : ∃ O, w1.heap.size = O := ⟨_, rfl⟩
  rw [hO] at hz1 ⊢
  have HO := hide hO
  clear hO
  go_loopw [7] (fun kv wr => ∃ (kz : Int) (T : List Int), -1 ≤ kz ∧ kz ≤ (M : Int) - 2 ∧ kv = .int .i64 kz ∧ Hid (T.length = M) ∧ Hid (∀ j : Nat, 0 ≤ T.getD j 0 ∧ T.getD j 0 ≤ 24) ∧ Hid (∀ n : Nat, kz < n → n < M → T.getD n 0 = V n) ∧ wr.heap[O]? = some (.cells (T.map (Value.int .i64)).toArray 3 (0, 0)) ∧ Below O w1 wr) (fun kv _ => (intOf kv + 1).toNat)
  case atStart =>
    refine ⟨(M : Int) - 2, List.replicate M 0, by omega, by omega, rfl, hide (by simp), hide (fun j => ?_), hide (fun n h1 h2 => ?_), ?_, ?_⟩
    · rw [List.getD_eq_getElem?_getD, List.getElem?_replicate]
      split <;> simp
    · rw [List.getD_eq_getElem?_getD, List.getElem?_replicate, if_pos h2]
      have e : n = M - 1 := by omega
      rw [e, HEND.out]
      rfl
    · rw [← HO.out, List.map_replicate]
      have h := heap_alloc_new w1 (.cells (Array.replicate M (.int .i64 0)) 3)
      simpa using h
    · rw [← HO.out]
      exact below_alloc (Below.refl _ _) (Nat.le_refl _) _
  case round =>
    obtain ⟨kz, T, hk1, hk2, rfl, HTL, HTR, HTV, hHO, hb⟩ := hrel
    obtain ⟨wo, rfl⟩ : ∃ wo : World, wo = wr := ⟨_, rfl⟩
    have hzo := hb.size
    have hb' : Below w1.heap.size w1 wo := by rw [HO.out]; exact hb
    have hOl := (Array.getElem?_eq_some_iff.1 hHO).1
    by_cases hlt : 0 ≤ kz
    · obtain ⟨k, rfl⟩ : ∃ k : Nat, kz = (k : Nat) := ⟨kz.toNat, by omega⟩
      have hkM : k + 1 < M := by omega
      obtain ⟨hp, hpi⟩ := HPI.out k (by omega)
      have HPV := hide (HBV.out k hkM T (fun n h1 h2 => HTV.out n (by omega) h2))
      have HRV := hide (HRG.out k (by omega))
      have HRK := hide (fun w' AO (h : RowsA w' AO rows) => HROW.out w' AO h k (by omega))
      generalize hV2 : V k = vk at *
      have HVK := hide hV2
      clear hV2
      generalize Tm.placeP (lts ts) k = p at *
      have HB0 := hide (show bstK (lts ts) p T k 0 = -1 from rfl)
      have HBR := hide (fun cn => bstK_rng (ts := lts ts) (p := p) (k := k) HTR.out cn)
      have HBS := hide (fun cn => bstK_succ (lts ts) p T k cn)
      generalize bstK (lts ts) p T k = bst at *
      go_wp2
      go_loopw [8, 9] (fun bv cv wr => ∃ cn : Nat, cn ≤ Wn ∧ cv = .int .i64 (cn : Nat) ∧ bv = .int .i64 (bst cn) ∧ wr.heap[O]? = some (.cells (T.map (Value.int .i64)).toArray 3 (0, 0)) ∧ Below O w1 wr) (fun _ cv _ => Wn - (intOf cv).toNat)
      case atStart => exact ⟨0, Nat.zero_le _, rfl, by rw [HB0.out], hHO, hb⟩
      case round =>
        clear hHO hb hb' hzo hOl
        obtain ⟨cn, hcn, rfl, rfl, hHO, hb⟩ := hrel
        have hOl := (Array.getElem?_eq_some_iff.1 hHO).1
        have hb' : Below w1.heap.size w1 wr := by rw [HO.out]; exact hb
        have hbw : Below w.heap.size w wr := below_step hb1 hb' (by rw [HO.out]; exact hz1)
        by_cases hcl : cn < Wn
        · have hcli : (cn : Int) < (Wn : Nat) := by omega
          obtain ⟨ob, oo, rfl, hob, P, d, hcP, hIP⟩ := HRK.out wr AO (hR1.ext hb')
          have HNX := hide (fun w' (hA : Strs w' A ts) (hI : I64 w' P (natI p)) => next_m A ts c P p d (cn : Int) w' hA hI h3 hp hf)
          have hn2 := HIL.out p hp (cn : Int)
          have HBS1 := hide (HBS.out cn)
          have hbr := HBR.out cn
          have hq := Tm.next_is hp (cn : Int)
          generalize Tm.nextP (lts ts) p (cn : Int) = q at *
          have HIX := hide (fun w' (hA : Strs w' A ts) A2 c2 (hI : I64 w' A2 (natI q)) => rindex_any A ts c A2 q c2 w' hA hI h3 hq hs)
          generalize Tm.idxP (lts ts) q 0 = n at *
          have hTn := map_at HTL.out hn2
          have htr := HTR.out n
          generalize T.getD n 0 = tn at *
          generalize bst cn = bv at *
          have hni : (n : Int) < (M : Nat) := by omega
          have hn0 : (0 : Int) ≤ (n : Int) := by omega
          have hkb : (k : Int) < (M : Nat) := by omega
          clear hq
          by_cases e1 : n = k
          · have x1 : ((n : Int) != (k : Int)) = false := by simp; omega
            have HB2 := hide (show bst (cn + 1) = bv by rw [HBS1.out, if_neg (fun g => g.1 e1)])
            clear e1
            go_wp2_with (first
    | (go_at_call 73; refine (HNX.out _ (hA.ext (by (repeat (first | exact Below.refl _ _ | assumption | refine below_drewN ?_ _ | refine below_drew ?_ | refine below_gr ?_ ?_ _ | refine below_alloc ?_ ?_ _ | refine Below.setCell ?_ ?_ _ | refine below_step ?_ (by assumption) ?_ | omega | (simp only [zz] at *; omega))))) (hIP.ext (by (repeat (first | exact Below.refl _ _ | assumption | refine below_drewN ?_ _ | refine below_drew ?_ | refine below_gr ?_ ?_ _ | refine below_alloc ?_ ?_ _ | refine Below.setCell ?_ ?_ _ | refine below_step ?_ (by assumption) ?_ | omega | (simp only [zz] at *; omega)))))).mono ?_; rintro e w2 ⟨A2, c2, rfl, hb2, hI2⟩; have hz2 := hb2.size)
    | (go_at_call 72; refine (HIX.out _ (hA.ext (by (repeat (first | exact Below.refl _ _ | assumption | refine below_drewN ?_ _ | refine below_drew ?_ | refine below_gr ?_ ?_ _ | refine below_alloc ?_ ?_ _ | refine Below.setCell ?_ ?_ _ | refine below_step ?_ (by assumption) ?_ | omega | (simp only [zz] at *; omega))))) _ _ hI2).mono ?_; rintro e w3 ⟨rfl, hb3⟩; replace hb3 := ex_below hb3; have hz3 := hb3.size; have hb3r : Below wr.heap.size wr w3 := below_step hb2 hb3 hz2; have hO3 := (hb3r.block O hOl).trans hHO; have hc3 := obj_at hO3 n _ hTn; have hb3w : Below O w1 w3 := below_step hb hb3r (by omega)))

            exact ⟨⟨cn + 1, by omega, by go_num, by rw [HB2.out], hO3, hb3w⟩, by simp [intOf]; omega⟩
          · have x1 : ((n : Int) != (k : Int)) = true := by simp; omega
            by_cases e2 : bv < 0
            · have HB2 := hide (show bst (cn + 1) = tn + 1 by rw [HBS1.out, if_pos ⟨e1, .inl e2⟩])
              clear e1
              go_wp2_with (first
    | (go_at_call 73; refine (HNX.out _ (hA.ext (by (repeat (first | exact Below.refl _ _ | assumption | refine below_drewN ?_ _ | refine below_drew ?_ | refine below_gr ?_ ?_ _ | refine below_alloc ?_ ?_ _ | refine Below.setCell ?_ ?_ _ | refine below_step ?_ (by assumption) ?_ | omega | (simp only [zz] at *; omega))))) (hIP.ext (by (repeat (first | exact Below.refl _ _ | assumption | refine below_drewN ?_ _ | refine below_drew ?_ | refine below_gr ?_ ?_ _ | refine below_alloc ?_ ?_ _ | refine Below.setCell ?_ ?_ _ | refine below_step ?_ (by assumption) ?_ | omega | (simp only [zz] at *; omega)))))).mono ?_; rintro e w2 ⟨A2, c2, rfl, hb2, hI2⟩; have hz2 := hb2.size)
    | (go_at_call 72; refine (HIX.out _ (hA.ext (by (repeat (first | exact Below.refl _ _ | assumption | refine below_drewN ?_ _ | refine below_drew ?_ | refine below_gr ?_ ?_ _ | refine below_alloc ?_ ?_ _ | refine Below.setCell ?_ ?_ _ | refine below_step ?_ (by assumption) ?_ | omega | (simp only [zz] at *; omega))))) _ _ hI2).mono ?_; rintro e w3 ⟨rfl, hb3⟩; replace hb3 := ex_below hb3; have hz3 := hb3.size; have hb3r : Below wr.heap.size wr w3 := below_step hb2 hb3 hz2; have hO3 := (hb3r.block O hOl).trans hHO; have hc3 := obj_at hO3 n _ hTn; have hb3w : Below O w1 w3 := below_step hb hb3r (by omega)))

              exact ⟨⟨cn + 1, by omega, by go_num, by rw [HB2.out], hO3, hb3w⟩, by simp [intOf]; omega⟩
            · by_cases e3 : tn + 1 < bv
              · have HB2 := hide (show bst (cn + 1) = tn + 1 by rw [HBS1.out, if_pos ⟨e1, .inr e3⟩])
                clear e1
                go_wp2_with (first
    | (go_at_call 73; refine (HNX.out _ (hA.ext (by (repeat (first | exact Below.refl _ _ | assumption | refine below_drewN ?_ _ | refine below_drew ?_ | refine below_gr ?_ ?_ _ | refine below_alloc ?_ ?_ _ | refine Below.setCell ?_ ?_ _ | refine below_step ?_ (by assumption) ?_ | omega | (simp only [zz] at *; omega))))) (hIP.ext (by (repeat (first | exact Below.refl _ _ | assumption | refine below_drewN ?_ _ | refine below_drew ?_ | refine below_gr ?_ ?_ _ | refine below_alloc ?_ ?_ _ | refine Below.setCell ?_ ?_ _ | refine below_step ?_ (by assumption) ?_ | omega | (simp only [zz] at *; omega)))))).mono ?_; rintro e w2 ⟨A2, c2, rfl, hb2, hI2⟩; have hz2 := hb2.size)
    | (go_at_call 72; refine (HIX.out _ (hA.ext (by (repeat (first | exact Below.refl _ _ | assumption | refine below_drewN ?_ _ | refine below_drew ?_ | refine below_gr ?_ ?_ _ | refine below_alloc ?_ ?_ _ | refine Below.setCell ?_ ?_ _ | refine below_step ?_ (by assumption) ?_ | omega | (simp only [zz] at *; omega))))) _ _ hI2).mono ?_; rintro e w3 ⟨rfl, hb3⟩; replace hb3 := ex_below hb3; have hz3 := hb3.size; have hb3r : Below wr.heap.size wr w3 := below_step hb2 hb3 hz2; have hO3 := (hb3r.block O hOl).trans hHO; have hc3 := obj_at hO3 n _ hTn; have hb3w : Below O w1 w3 := below_step hb hb3r (by omega)))

                exact ⟨⟨cn + 1, by omega, by go_num, by rw [HB2.out], hO3, hb3w⟩, by simp [intOf]; omega⟩
              · have HB2 := hide (show bst (cn + 1) = bv by rw [HBS1.out, if_neg (by omega)])
                clear e1
                go_wp2_with (first
    | (go_at_call 73; refine (HNX.out _ (hA.ext (by (repeat (first | exact Below.refl _ _ | assumption | refine below_drewN ?_ _ | refine below_drew ?_ | refine below_gr ?_ ?_ _ | refine below_alloc ?_ ?_ _ | refine Below.setCell ?_ ?_ _ | refine below_step ?_ (by assumption) ?_ | omega | (simp only [zz] at *; omega))))) (hIP.ext (by (repeat (first | exact Below.refl _ _ | assumption | refine below_drewN ?_ _ | refine below_drew ?_ | refine below_gr ?_ ?_ _ | refine below_alloc ?_ ?_ _ | refine Below.setCell ?_ ?_ _ | refine below_step ?_ (by assumption) ?_ | omega | (simp only [zz] at *; omega)))))).mono ?_; rintro e w2 ⟨A2, c2, rfl, hb2, hI2⟩; have hz2 := hb2.size)
    | (go_at_call 72; refine (HIX.out _ (hA.ext (by (repeat (first | exact Below.refl _ _ | assumption | refine below_drewN ?_ _ | refine below_drew ?_ | refine below_gr ?_ ?_ _ | refine below_alloc ?_ ?_ _ | refine Below.setCell ?_ ?_ _ | refine below_step ?_ (by assumption) ?_ | omega | (simp only [zz] at *; omega))))) _ _ hI2).mono ?_; rintro e w3 ⟨rfl, hb3⟩; replace hb3 := ex_below hb3; have hz3 := hb3.size; have hb3r : Below wr.heap.size wr w3 := below_step hb2 hb3 hz2; have hO3 := (hb3r.block O hOl).trans hHO; have hc3 := obj_at hO3 n _ hTn; have hb3w : Below O w1 w3 := below_step hb hb3r (by omega)))

                exact ⟨⟨cn + 1, by omega, by go_num, by rw [HB2.out], hO3, hb3w⟩, by simp [intOf]; omega⟩
        · have hce : cn = Wn := by omega
          have hcli : ¬ ((cn : Int) < (Wn : Nat)) := by omega
          have HVE := hide (show bst cn = vk by rw [hce, HPV.out])
          generalize bst cn = bv at *
          have hfz := obj_fz hHO k
          have hck := obj_at hHO k _ (map_at HTL.out (by omega))
          have hki : (k : Int) < (M : Nat) := by omega
          go_wp2
          refine ⟨⟨(k : Int) - 1, T.set k bv, by omega, by omega, rfl, hide (by rw [List.length_set]; exact HTL.out), hide (fun j => ?_), hide (fun n h1 h2 => ?_), ?_, below_set0 hb (Nat.le_refl _)⟩, by simp [intOf]⟩
          · rw [getD_set (by rw [HTL.out]; omega), HVE.out]
            split
            · exact HRV.out
            · exact HTR.out j
          · rw [getD_set (by rw [HTL.out]; omega), HVE.out]
            split
            · rename_i e; rw [e, HVK.out]
            · exact HTV.out n (by omega) h2
          · rw [← map_set]
            exact set_obj hHO k _
    · have HVA := hide (fun n (h : n < M) => HTV.out n (by omega) h)
      go_wp2
      go_ret
      refine ⟨some ⟨O, 0, none⟩, M, ?_, grew_of (below_step hb1 hb' (by rw [HO.out]; exact hz1)), ?_⟩
      · simp
      · have hT : T = (List.range M).map V := by
          apply List.ext_getElem
          · simp [HTL.out]
          · intro n h1 h2
            have := HVA.out n (by rw [← HTL.out]; exact h1)
            rw [List.getD_eq_getElem?_getD, List.getElem?_eq_getElem h1] at this
            simpa using this
        rw [← hT]
        exact i64_block hHO
end Go.Proofs.Ytafncmgijbkomaa
