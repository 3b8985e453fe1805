/- Proved here: a map by places; the search for the first outcome: its world, a part of the proofs about the box laws. Conditions: those that each theorem names, no others. -/
import Derived.Test.YtlbkaeoagdbemaaP11
import Derived.WalkKit
import Derived.WalkSpells
import Derived.WalkLawsBesides
import Derived.Below
import Derived.Deep.QuietTactic
import Derived.BigQuiet
import Derived.Deep.Light
import Derived.Maps.OwnOps
import Derived.Maps.OwnSet
import Derived.Carry
import Derived.DeepKeys4
import Derived.RangeFuncOwn
import Derived.Test.YtlbkaeoagdbemaaP04
import Derived.Test.YtlbkaeoagdbemaaP17
import Derived.Deep.RegionHeld3
set_option linter.unusedSimpArgs false
set_option linter.unusedVariables false
namespace Go.Proofs.Ytlbkaeoagdbemaa
open Go.RowKit Go.Maps
theorem laidOutT : laidOutB Try.prog = true := by kernel_rfl
theorem row110 : (110 : TypeId) < Try.prog.types.size := of_decide_eq_true (by kernel_rfl)
theorem keyType110 : Try.prog.keyType 110 = true := by kernel_rfl
theorem kt110 : Try.prog.keyTypeAt 4 110 = true := by kernel_rfl
theorem cells110 : Try.prog.cellsOf 110 = 11 := by kernel_rfl
theorem cells108 : Try.prog.cellsOf 108 = 10 := by kernel_rfl
def wfI (n : Int) : Prop := (Lit.int .i64 n).wf = true
theorem wf10 : ∀ r, r < 11 → (Lit.int .i64 ((r : Nat) : Int)).wf = true := by decide
def litM (al : List Bool) (i : Nat) : Lit := .int .i64 (if al.getD i false = true then 1 else 0)
theorem litsI (k : Nat) {n : Int} (h : wfI n) : Try.prog.keyLits (k + 1) 3 [.int .i64 n] = some [.int .i64 n] := by
  unfold Program.keyLits
  rw [Try.underlying3]
  simp [show (Lit.int .i64 n).wf = true from h]
theorem litsM (k : Nat) (al : List Bool) (i : Nat) : Try.prog.keyLits (k + 1) 3 [mk1 al i] = some [litM al i] := by
  unfold mk1 litM
  refine litsI k ?_
  unfold wfI
  split <;> decide
theorem litsA (k : Nat) (al : List Bool) : Try.prog.keyLits (k + 1 + 1) 108 [mk1 al 0, mk1 al 1, mk1 al 2, mk1 al 3, mk1 al 4, mk1 al 5, mk1 al 6, mk1 al 7, mk1 al 8, mk1 al 9] = some [litM al 0, litM al 1, litM al 2, litM al 3, litM al 4, litM al 5, litM al 6, litM al 7, litM al 8, litM al 9] := by
  conv => lhs; unfold Program.keyLits
  rw [und108]
  simp only [cells108, cells3]
  simp [List.range, List.range.loop, litsM k]
theorem lits110 (k : Nat) {r : Int} (al : List Bool) (hr : wfI r) : Try.prog.keyLits (k + 1 + 1 + 1) 110 (.int .i64 r :: [mk1 al 0, mk1 al 1, mk1 al 2, mk1 al 3, mk1 al 4, mk1 al 5, mk1 al 6, mk1 al 7, mk1 al 8, mk1 al 9]) = some (.int .i64 r :: [litM al 0, litM al 1, litM al 2, litM al 3, litM al 4, litM al 5, litM al 6, litM al 7, litM al 8, litM al 9]) := by
  conv => lhs; unfold Program.keyLits
  rw [Try.underlying110]
  simp only [cells110]
  simp [cells108, cells3, litsA k, litsI (k + 1) hr]
theorem mkP_list (r : Nat) (al : List Bool) : (mkP r al).toList = .int .i64 (r : Nat) :: [mk1 al 0, mk1 al 1, mk1 al 2, mk1 al 3, mk1 al 4, mk1 al 5, mk1 al 6, mk1 al 7, mk1 al 8, mk1 al 9] := by simp [mkP, List.range, List.range.loop]
theorem sizeT : ∃ k, Try.prog.types.size + 1 = k + 1 + 1 + 1 + 1 := ⟨Try.prog.types.size - 3, by have h : (110 : Nat) < Try.prog.types.size := row110; omega⟩
theorem keyP (r : Nat) (al : List Bool) (hr : r ≤ 10) : ∃ kl, keyOf Try.prog 110 (.agg (mkP r al)) = some kl := by
  unfold keyOf
  rw [Try.underlying110]
  have hf : (Value.agg (mkP r al)).formed Try.prog 110 = true := by simp [Value.formed, Try.underlying110, cells110, mkP_size]
  simp only [keyType110, hf]
  obtain ⟨k, hk⟩ := sizeT
  rw [hk]
  have hw : wfI (r : Int) := wf10 r (by omega)
  simp only [Value.cells, mkP_list, lits110 (k + 1) al hw]
  simp
theorem law110 : Keyed Try.prog 110 := Keyed.of_law (deep_law_laid laidOutT (m := 4) (by omega) row110 kt110 (by rw [Try.underlying110]))
theorem und114 : Try.prog.underlying 114 = some (.map 110 2) := by kernel_rfl
theorem below_grown {X Y : World} (h : Below X.heap.size X Y) : X.grownBy Y none := ⟨h.1, h.2, h.3, h.size, fun k hk _ => h.block k hk⟩
/-! maps by what they hold -/
def heldR (v : Value) : Option (DataW Value × List MemPlace) := some (.held v, [])
/-- block b is a map each of whose entries is good -/
def KMap (k : TypeId) (b : Nat) (good : Value → Value → Prop) (w : World) : Prop :=
  ∃ l : List (Lit × DataW Value), w.ownsMap Try.prog k heldR b l.length (.map l) ∧ ∀ x, x ∈ l → ∃ key v, keyOf Try.prog k key = some x.1 ∧ x.2 = .held v ∧ good key v
theorem tight {P : Program} {k : TypeId} {R : Value → Option (DataW Value × List MemPlace)} {w : World} {b n : Nat} {l : List (Lit × DataW Value)} (h : w.ownsMap P k R b n (.map l)) : w.ownsMap P k R b l.length (.map l) := by
  obtain ⟨es, clock, hb, F, hs, hD⟩ := h
  have hl := DataW.map.inj hD
  exact ⟨es, clock, hb, F, by rw [hl, length_sorted]; simp, hD⟩
theorem mem_insert (x y : Lit × DataW Value) : ∀ l : List (Lit × DataW Value), x ∈ DataW.insert y l → x = y ∨ x ∈ l
  | [], h => by simpa [DataW.insert] using h
  | z :: l, h => by
    unfold DataW.insert at h
    split at h
    · rcases List.mem_cons.1 h with h | h
      · exact .inl h
      · exact .inr h
    · rcases List.mem_cons.1 h with h | h
      · exact .inr (by simp [h])
      · rcases mem_insert x y l h with h | h
        · exact .inl h
        · exact .inr (by simp [h])
theorem KMap.made (w : World) (k : TypeId) (good : Value → Value → Prop) : KMap k w.heap.size good (w.alloc (.map #[] 0)) := ⟨[], World.ownsMap_made _ _ _ _, by simp⟩
theorem KMap.lt {k : TypeId} {b : Nat} {good : Value → Value → Prop} {w : World} (h : KMap k b good w) : b < w.heap.size := by
  obtain ⟨l, h, _⟩ := h
  exact h.lt
theorem KMap.kept {k : TypeId} {b : Nat} {good : Value → Value → Prop} {w w' : World} {row : Option Nat} (h : KMap k b good w) (hg : w.grownBy w' row) (hne : some b ≠ row) : KMap k b good w' := by
  obtain ⟨l, h, hl⟩ := h
  exact ⟨l, h.kept hg hne, hl⟩
theorem KMap.below {k : TypeId} {b : Nat} {good : Value → Value → Prop} {w w' : World} (h : KMap k b good w) (hb : Below w.heap.size w w') : KMap k b good w' := h.kept (below_grown hb) (by simp)
theorem KMap.look {k t e : TypeId} {b : Nat} {good : Value → Value → Prop} {w : World} (h : KMap k b good w) (K : Keyed Try.prog k) (ht : Try.prog.underlying t = some (.map k e)) {z : Value} (hz : (zeroValue e).run Try.prog w = .ok z w) {key : Value} {kl : Lit} (hkey : keyOf Try.prog k key = some kl) :
    (∃ v, (Instr.lookup t (.map (some b)) key true).run Try.prog w = .ok (.tuple #[v, .bool true]) w ∧ good key v) ∨ (Instr.lookup t (.map (some b)) key true).run Try.prog w = .ok (.tuple #[z, .bool false]) w := by
  obtain ⟨l, ⟨es, clock, hb, F, _, hD⟩, hl⟩ := h
  rcases Maps.fit_look true K ht hz hb F hkey with ⟨hrun, _, _⟩ | ⟨e0, y, _, _, hrun, hRv, hat, _⟩
  · exact .inr hrun
  · refine .inl ⟨e0.val, hrun, ?_⟩
    have hy : y.1 = .held e0.val := by rw [← Option.some.inj hRv]
    have h1 := hat .nil
    rw [← hD, hy] at h1
    unfold DataW.atKey at h1
    simp only at h1
    cases hf : l.find? (fun p => p.1.sameKey kl) with
    | none => rw [hf] at h1; cases h1
    | some p =>
      rw [hf] at h1
      have hp := List.mem_of_find?_eq_some hf
      have hs := List.find?_some hf
      obtain ⟨key', v', g1, g2, g3⟩ := hl p hp
      have e1 : p.1 = kl := WideAt.sameKey_eq (by simpa using hs)
      rw [e1] at g1
      have e2 : key' = key := K.inj g1 hkey
      have e3 : v' = e0.val := by
        have := g2.symm.trans h1
        cases this; rfl
      rw [← e2, ← e3]; exact g3
def Finite (k : TypeId) (good : Value → Value → Prop) : Prop := ∃ L : List Lit, L.length < 1000000000 ∧ ∀ key v kl, good key v → keyOf Try.prog k key = some kl → kl ∈ L
theorem KMap.put {k t e : TypeId} {b : Nat} {good : Value → Value → Prop} {w : World} (h : KMap k b good w) (K : Keyed Try.prog k) (ht : Try.prog.underlying t = some (.map k e)) (hfin : Finite k good) {key val : Value} {kl : Lit} (hkey : keyOf Try.prog k key = some kl) (hg : good key val) :
    ∃ w', (Instr.mapUpdate t (.map (some b)) key val).run Try.prog w = .ok () w' ∧ KMap k b good w' ∧ w.grownBy w' (some b) := by
  obtain ⟨l, h, hl⟩ := h
  obtain ⟨L, hL, hLm⟩ := hfin
  have hlen : l.length ≤ L.length := by
    obtain ⟨es, he, hp⟩ := h.tidy K
    have hle := DataW.map.inj he
    subst hle
    have := List.Nodup.length_le_of_subset (l₁ := l.map Prod.fst) (l₂ := L) (by rw [List.nodup_iff_pairwise_ne, List.pairwise_map]; exact hp) (fun x hx => by
      obtain ⟨q, hq, rfl⟩ := List.mem_map.1 hx
      obtain ⟨key', v', g1, _, g3⟩ := hl q hq
      exact hLm key' v' _ g3 g1)
    simpa using this
  obtain ⟨w', hrun, hown, hgr⟩ := h.update K ht (by unfold maxLen; omega) (d := .held val) (ps := []) hkey rfl
  refine ⟨w', hrun, ?_, hgr⟩
  have e1 : (DataW.map l).put kl (.held val) = .map (DataW.insert (kl, .held val) (l.filter fun p => !p.1.sameKey kl)) := rfl
  rw [e1] at hown
  refine ⟨_, tight hown, fun x hx => ?_⟩
  rcases mem_insert _ _ _ hx with rfl | hx
  · exact ⟨key, val, hkey, rfl, hg⟩
  · exact hl x (List.mem_filter.1 hx).1
theorem KMap.del {k t e : TypeId} {b : Nat} {good : Value → Value → Prop} {w : World} (h : KMap k b good w) (K : Keyed Try.prog k) (ht : Try.prog.underlying t = some (.map k e)) (ty : TypeId) {key : Value} {kl : Lit} (hkey : keyOf Try.prog k key = some kl) :
    ∃ w', (Builtin.delete_ #[t, k] ty #[.map (some b), key]).run Try.prog w = .ok (.tuple #[]) w' ∧ KMap k b good w' ∧ w.grownBy w' (some b) := by
  obtain ⟨l, h, hl⟩ := h
  obtain ⟨w', hrun, hown, hgr⟩ := h.drop K ht hkey ty
  refine ⟨w', hrun, ?_, hgr.grown⟩
  have e1 : (DataW.map l).del kl = .map (l.filter fun p => !p.1.sameKey kl) := rfl
  rw [e1] at hown
  exact ⟨_, tight hown, fun x hx => hl x (List.mem_filter.1 hx).1⟩

theorem KMap.obj {k : TypeId} {b : Nat} {good : Value → Value → Prop} {w : World} (h : KMap k b good w) : ∃ o : Obj, w.heap[b]? = some o ∧ o.isCells = false := by
  obtain ⟨l, ⟨es, clock, hb, _⟩, _⟩ := h
  exact ⟨_, hb, rfl⟩
/-- all lists of so many marks -/
def allB : Nat → List (List Bool)
  | 0 => [[]]
  | n + 1 => (allB n).flatMap fun l => [true :: l, false :: l]
theorem mem_allB (l : List Bool) : l ∈ allB l.length := by
  induction l with
  | nil => simp [allB]
  | cons a l ih =>
    simp only [List.length_cons, allB, List.mem_flatMap]
    exact ⟨l, ih, by cases a <;> simp⟩
theorem len_allB (n : Nat) : (allB n).length = 2 ^ n := by
  induction n with
  | zero => rfl
  | succ n ih =>
    rw [allB, List.length_flatMap]
    simp only [List.length_cons, List.length_nil]
    rw [Bm.sum_const, ih, Nat.pow_succ]
/-- what is known of the places -/
def goodP (n m : Nat) (g : Nat → List Bool → Int) (key val : Value) : Prop := ∃ r al, r < m ∧ al.length = n ∧ key = .agg (mkP r al) ∧ val = .int .i64 (g r al)
theorem good_fin (n m : Nat) (hn : n ≤ 10) (hm : m ≤ 5) (g : Nat → List Bool → Int) : Finite 110 (goodP n m g) := by
  refine ⟨(List.range m).flatMap fun r => (allB n).filterMap fun al => keyOf Try.prog 110 (.agg (mkP r al)), ?_, ?_⟩
  · have h1 := Bm.len_flatMap_le (List.range m) (fun r => (allB n).filterMap fun al => keyOf Try.prog 110 (.agg (mkP r al))) (2 ^ n) (fun r _ => by
      have := List.length_filterMap_le (fun al => keyOf Try.prog 110 (.agg (mkP r al))) (allB n)
      rwa [len_allB] at this)
    rw [List.length_range] at h1
    have h2 : 2 ^ n ≤ 2 ^ 10 := Nat.pow_le_pow_right (by omega) hn
    have h3 : m * 2 ^ n ≤ 5 * 1024 := Nat.mul_le_mul hm h2
    omega
  · rintro key v kl ⟨r, al, hr, hl, rfl, rfl⟩ hk
    simp only [List.mem_flatMap, List.mem_range, List.mem_filterMap]
    exact ⟨r, hr, al, by rw [← hl]; exact mem_allB al, hk⟩
theorem mkP_inj {n r r' : Nat} {al al' : List Bool} (h : mkP r al = mkP r' al') (h1 : al.length = n) (h2 : al'.length = n) (hn : n ≤ 10) : r = r' ∧ al = al' := by
  constructor
  · have := mkP_zero r al
    rw [h, mkP_zero] at this
    simp at this; omega
  · apply List.ext_getElem (by omega)
    intro i hi hj
    have e := mkP_at r al i (by omega)
    rw [h, mkP_at r' al' i (by omega)] at e
    unfold mk1 at e
    rw [getD_at _ _ hi, getD_at _ _ hj] at e
    cases h3 : al[i] <;> cases h4 : al'[i] <;> simp_all
theorem good_at {n m : Nat} {g : Nat → List Bool → Int} {r : Nat} {al : List Bool} {v : Value} (h : goodP n m g (.agg (mkP r al)) v) (hl : al.length = n) (hn : n ≤ 10) : v = .int .i64 (g r al) := by
  obtain ⟨r', al', _, hl', e, rfl⟩ := h
  obtain ⟨rfl, rfl⟩ := mkP_inj (Value.agg.inj e) hl hl' hn
  rfl
end Go.Proofs.Ytlbkaeoagdbemaa
namespace Go.Proofs.Ytlbkaeoagdbemaa
open Go.RowKit Go.Maps
/-- the least value from a place on -/
def leastP (R : List Nat) (ts : List Bm.Tk) (v : Nat → Int) (r : Nat) (al : List Bool) : Int := Bm.leastC (fun al => v (Bm.vals ts al)) (Bm.cols R ts r) al
def valuesP (R : List Nat) (ts : List Bm.Tk) (v : Nat → Int) (r : Nat) (al : List Bool) : List Int := (List.range (R.getD r 0)).map fun i => leastP R ts v (r + 1) (Bm.nx (Bm.colN ts r) al i)
theorem leastP_end {R : List Nat} {ts : List Bm.Tk} {v : Nat → Int} {r : Nat} {al : List Bool} (h : R.length ≤ r) : leastP R ts v r al = v (Bm.vals ts al) := by
  unfold leastP; rw [Bm.cols_nil h]; rfl
theorem leastP_step {R : List Nat} {ts : List Bm.Tk} {v : Nat → Int} {r : Nat} {al : List Bool} (h : r < R.length) : leastP R ts v r al = (valuesP R ts v r al).getD (Bm.bestP (valuesP R ts v r al) (valuesP R ts v r al).length) 0 := by
  have hl : (valuesP R ts v r al).length = R.getD r 0 := by simp [valuesP]
  unfold leastP
  rw [Bm.cols_cons h, Bm.leastC_cons, hl]
  rfl
/-- the world of a search for the first outcome -/
structure Env (s : Nat) (A : Option Addr) (R : List Nat) (rc : Nat) (B : Option Addr) (ts : List Bm.Tk) (d : Nat) (F : Nat) (v : Nat → Int) (bs bv bk bn bl bu M : Nat) (w : World) : Prop where
  sh : SheetAt w s A (zs R) rc B (tz ts) d
  cs : w.cell? ⟨bs, 0, none⟩ = some (.pointer (some ⟨s, 0, none⟩))
  cv : w.cell? ⟨bv, 0, none⟩ = some (.func (.func F) #[] #[])
  ck : w.cell? ⟨bk, 0, none⟩ = some (.map (some M))
  cn : w.cell? ⟨bn, 0, none⟩ = some (.func (.func 91) #[.pointer (some ⟨s, 0, none⟩)] #[])
  cl : w.cell? ⟨bl, 0, none⟩ = some (.func (.func 93) #[] #[.pointer (some ⟨bs, 0, none⟩), .pointer (some ⟨bv, 0, none⟩), .pointer (some ⟨bk, 0, none⟩), .pointer (some ⟨bu, 0, none⟩)])
  cu : w.cell? ⟨bu, 0, none⟩ = some (.func (.func 92) #[] #[.pointer (some ⟨bs, 0, none⟩), .pointer (some ⟨bl, 0, none⟩), .pointer (some ⟨bn, 0, none⟩)])
  km : KMap 110 M (goodP ts.length R.length (leastP R ts v)) w
theorem cell_lt {w : World} {b o : Nat} {x : Value} (h : w.cell? ⟨b, o, none⟩ = some x) : b < w.heap.size := by
  obtain ⟨o', ho, _⟩ := cells_of_cell h
  exact obj_lt ho
theorem cell_keeps {W W' : World} {b o : Nat} {x : Value} (h : W.cell? ⟨b, o, none⟩ = some x) (hk : ∀ (b : Nat) (o : Obj), W.heap[b]? = some o → o.isCells = true → W'.heap[b]? = some o) : W'.cell? ⟨b, o, none⟩ = some x := by
  obtain ⟨o', ho, hc⟩ := cells_of_cell h
  exact (heap_cell ((hk _ _ ho hc).trans ho.symm)).trans h
theorem Tks.cells {W W' : World} {A : Option Addr} {ts : List Tz} (h : Tks W A ts) (hz : W.heap.size ≤ W'.heap.size) (hk : ∀ (b : Nat) (o : Obj), W.heap[b]? = some o → o.isCells = true → W'.heap[b]? = some o) : Tks W' A ts := fun k t ht => by
  obtain ⟨b, off, S, c, h0, h1, h2, h3, h4, h5⟩ := h k t ht
  exact ⟨b, off, S, c, h0, by omega, cell_keeps h2 hk, cell_keeps h3 hk, h4, h5.cells hz hk⟩
theorem SheetAt.cells {W W' : World} {s : Nat} {A B : Option Addr} {R : List Int} {c d : Nat} {ts : List Tz} (h : SheetAt W s A R c B ts d) (hz : W.heap.size ≤ W'.heap.size) (hk : ∀ (b : Nat) (o : Obj), W.heap[b]? = some o → o.isCells = true → W'.heap[b]? = some o) : SheetAt W' s A R c B ts d :=
  ⟨cell_keeps h.1 hk, cell_keeps h.2.1 hk, by have := h.2.2.1; omega, h.2.2.2.1.cells hz hk, h.2.2.2.2.cells hz hk⟩
theorem Env.cells {s : Nat} {A : Option Addr} {R : List Nat} {rc : Nat} {B : Option Addr} {ts : List Bm.Tk} {d F : Nat} {v : Nat → Int} {bs bv bk bn bl bu M : Nat} {w w' : World} (h : Env s A R rc B ts d F v bs bv bk bn bl bu M w) (hk : w.heap.size ≤ w'.heap.size ∧ ∀ (b : Nat) (o : Obj), w.heap[b]? = some o → o.isCells = true → w'.heap[b]? = some o) (hm : KMap 110 M (goodP ts.length R.length (leastP R ts v)) w') : Env s A R rc B ts d F v bs bv bk bn bl bu M w' :=
  ⟨h.sh.cells hk.1 hk.2, cell_keeps h.cs hk.2, cell_keeps h.cv hk.2, cell_keeps h.ck hk.2, cell_keeps h.cn hk.2, cell_keeps h.cl hk.2, cell_keeps h.cu hk.2, hm⟩
theorem Env.below {s : Nat} {A : Option Addr} {R : List Nat} {rc : Nat} {B : Option Addr} {ts : List Bm.Tk} {d F : Nat} {v : Nat → Int} {bs bv bk bn bl bu M : Nat} {w w' : World} (h : Env s A R rc B ts d F v bs bv bk bn bl bu M w) (hb : Below w.heap.size w w') : Env s A R rc B ts d F v bs bv bk bn bl bu M w' :=
  h.cells (keeps_below hb) (h.km.below hb)
theorem keeps_M {k : TypeId} {M : Nat} {good : Value → Value → Prop} {w w' : World} (hm : KMap k M good w) (hg : w.grownBy w' (some M)) : w.heap.size ≤ w'.heap.size ∧ ∀ (b : Nat) (o : Obj), w.heap[b]? = some o → o.isCells = true → w'.heap[b]? = some o :=
  keeps_row hg (fun r e => by cases e; exact hm.obj)
/-- what a call comes to that may write into the map -/
def GivesM (w : World) (M : Nat) (good : Value → Value → Prop) (x : Value) (e : Ending) (w' : World) : Prop := e = .returned x ∧ w.grownBy w' (some M) ∧ KMap 110 M good w'
def GivesMI (w : World) (M : Nat) (good : Value → Value → Prop) (xs : List Int) (e : Ending) (w' : World) : Prop := ∃ O c, e = .returned (.slice O xs.length c) ∧ w.grownBy w' (some M) ∧ KMap 110 M good w' ∧ I64 w' O xs
theorem grown_trans {X Y Z : World} {row : Option Nat} (h : X.grownBy Y row) (k : Y.grownBy Z row) : X.grownBy Z row :=
  ⟨k.1.trans h.1, k.2.trans h.2, k.3.trans h.3, Nat.le_trans h.size k.size, fun b hb hne => (k.block b (Nat.lt_of_lt_of_le hb h.size) hne).trans (h.block b hb hne)⟩
theorem grown_none {X Y : World} {row : Option Nat} (h : X.grownBy Y none) : X.grownBy Y row := ⟨h.1, h.2, h.3, h.size, fun b hb _ => h.block b hb (by simp)⟩
theorem grown_new {X Y Z : World} {M r : Nat} (h : X.grownBy Y (some M)) (k : Y.grownBy Z (some r)) (hr : X.heap.size ≤ r) : X.grownBy Z (some M) :=
  ⟨k.1.trans h.1, k.2.trans h.2, k.3.trans h.3, Nat.le_trans h.size k.size, fun b hb hne => (k.block b (Nat.lt_of_lt_of_le hb h.size) (by simp; omega)).trans (h.block b hb hne)⟩
theorem grown_own {X Y Z : World} {M : Nat} {row : Option Nat} (h : X.grownBy Y (some M)) (k : Y.grownBy Z row) (hr : ∀ r, row = some r → X.heap.size ≤ r) : X.grownBy Z (some M) :=
  ⟨k.1.trans h.1, k.2.trans h.2, k.3.trans h.3, Nat.le_trans h.size k.size, fun b hb hne => (k.block b (Nat.lt_of_lt_of_le hb h.size) (fun e => by have := hr b e.symm; omega)).trans (h.block b hb hne)⟩
theorem own_keeps {w w' : World} {B : Nat} {e : TypeId} {sz n : Nat} {v : Value} {xs : List Value} (h : w.ownsRow B e sz v n xs) (hk : ∀ (b : Nat) (o : Obj), w.heap[b]? = some o → o.isCells = true → w'.heap[b]? = some o) : w'.ownsRow B e sz v n xs := by
  refine ⟨h.1, ?_⟩
  rcases h.2 with h1 | ⟨g, cap, cur, h1, h2, h3, h4⟩
  · exact .inl h1
  · exact .inr ⟨g, cap, cur, h1, h2, hk _ _ h3 rfl, h4⟩
theorem rd_new1 (w : World) (v : Value) (t : TypeId) : Rd (w.alloc (.cells #[v] t)) 1 (some ⟨w.heap.size, 0, none⟩) 1 [v] := by
  refine ⟨rfl, fun _ => ⟨_, 0, rfl, by simp, fun j u hu => ?_⟩⟩
  rw [World.cell?_alloc_at _ _ _ _ rfl, Nat.zero_add]
  simpa using hu
set_option maxRecDepth 100000 in
set_option maxHeartbeats 4000000 in
theorem values_of (s : Nat) (A : Option Addr) (R : List Nat) (rc : Nat) (B : Option Addr) (ts : List Bm.Tk) (d : Nat) (F : Nat) (v : Nat → Int) (bs bv bk bn bl bu M : Nat) (hok : Ok R ts) (hv : ∀ n, n ≤ 10000 → ∀ w, Calls Try.prog F #[.int .i64 (n : Nat)] w (Gives w (.int .i64 (v n)))) (r : Nat) (hr : r < R.length) (IH : ∀ al w, al.length = ts.length → Env s A R rc B ts d F v bs bv bk bn bl bu M w → Calls Try.prog 93 #[.agg (mkP (r + 1) al), .pointer (some ⟨bs, 0, none⟩), .pointer (some ⟨bv, 0, none⟩), .pointer (some ⟨bk, 0, none⟩), .pointer (some ⟨bu, 0, none⟩)] w (GivesM w M (goodP ts.length R.length (leastP R ts v)) (.int .i64 (leastP R ts v (r + 1) al)))) (al : List Bool) (w : World) (hal : al.length = ts.length) (hE : Env s A R rc B ts d F v bs bv bk bn bl bu M w) :
    Calls Try.prog 92 #[.agg (mkP r al), .pointer (some ⟨bs, 0, none⟩), .pointer (some ⟨bl, 0, none⟩), .pointer (some ⟨bn, 0, none⟩)] w (GivesMI w M (goodP ts.length R.length (leastP R ts v)) (valuesP R ts v r al)) := by
  obtain ⟨i0, ih, iz, is, ib⟩ := info_parts info64
  have hr5 := hok.h5
  have HVL := hide (show (valuesP R ts v r al).length = R.getD r 0 by simp [valuesP])
  have hn6 : R[r] ≤ 6 := hok.r6 _ (List.getElem_mem hr)
  have hgn : R.getD r 0 = R[r] := getD_at _ _ hr _
  rw [hgn] at HVL
  have HVA := hide (fun i (hi : i < R[r]) => (show (valuesP R ts v r al).take (i + 1) = (valuesP R ts v r al).take i ++ [leastP R ts v (r + 1) (Bm.nx (Bm.colN ts r) al i)] by
    rw [take_snoc _ i (by rw [HVL.out]; exact hi)]; simp [valuesP]))
  have HNX := hide (fun i w' (h : SheetAt w' s A (zs R) rc B (tz ts) d) hi' => next_any s A R rc B ts d w' h hok.h5 hok.r6 hok.t10 r al i hr hal hi' hok.htl hok.ht6)
  rw [show colN ts r = Bm.colN ts r from rfl] at HNX
  have HFL := hide (fun i => Bm.nx_len (c := Bm.colN ts r) (al := al) (by simp [Bm.colN, hal]) i)
  have HIH := hide (fun i w' h => IH (Bm.nx (Bm.colN ts r) al i) w' (by rw [HFL.out]; exact hal) h)
  generalize valuesP R ts v r al = vl at *
  generalize Bm.nx (Bm.colN ts r) al = f at *
  have hE0 := hide hE
  obtain ⟨sh, cs, cv, ck, cn, cl, cu, km⟩ := hE
  obtain ⟨r0, r1, rl, hA, hB⟩ := sh
  rw [zs_len] at r0
  obtain ⟨ab, ao, rfl, hab⟩ := zsF hA (by omega)
  have ha0 := zsI hA hr
  have l1 := cell_lt cs
  have l2 := cell_lt cn
  have l3 := cell_lt cl
  have hMl := km.lt
  have HKM := hide km
  have hlt1 : ∀ b, b < w.heap.size → b < w.heap.size + 1 := fun b h => by omega
  have hr' : (r : Int) ≤ 5 := by omega
  have hRl : (R.length : Int) ≤ 5 := by omega
  have hRr : (r : Int) < (R.length : Int) := by omega
  generalize R[r] = n at *
  have hn' : (n : Int) ≤ 6 := by omega
  have HAL := hide hal
  clear IH hv hgn hal km hA hB
  go_enter Try.func92, Try.ntmps92
  go_wp2
  refine wp_region_grow (by kernel_rfl) (by kernel_rfl) ?_
  repeat (go_big_quiet_step (fail))
  refine wpQuiet_nil ?_
  intro w2 hb2
  replace hb2 := ex_below hb2
  have hz2 := hb2.size
  (try simp only [zz] at hz2)
  have hs2 : w.heap.size < w2.heap.size := (by (first | omega | (simp only [zz] at *; omega)))
  have ho2 := own_cell hb2 (b := w.heap.size) (by (first | omega | (simp only [zz] at *; omega)))
  have hq2 := own_frozen hb2 (b := w.heap.size) (by (first | omega | (simp only [zz] at *; omega)))
  have hlt2 : ∀ b, b < w.heap.size → b < w2.heap.size := fun b hb => (by (first | omega | (simp only [zz] at *; omega)))
  have hc2 : ∀ b o, b < w.heap.size → w2.cell? ⟨b, o, none⟩ = w.cell? ⟨b, o, none⟩ := old_cell (by (repeat (first | exact Below.refl _ _ | assumption | refine below_drewN ?_ _ | refine below_drew ?_ | refine below_gr ?_ ?_ _ | refine below_alloc ?_ ?_ _ | refine Below.setCell ?_ ?_ _ | refine below_step ?_ (by assumption) ?_ | omega | (simp only [zz] at *; omega))))
  have hbx : Below (w.heap.size + 1) (w.alloc (.cells (mkP r al) 110)) w2 := hb2.mono (by simp)
  have hbw : Below w.heap.size w w2 := by (repeat (first | exact Below.refl _ _ | assumption | (refine below_gr ?_ (by (first | omega | (simp only [zz] at *; omega))) _) | (refine below_alloc ?_ (by (first | omega | (simp only [zz] at *; omega))) _) | (refine Below.setCell ?_ (by (first | omega | (simp only [zz] at *; omega))) _) | refine below_drewN ?_ _ | refine below_drew ?_ | (refine below_step ?_ (by assumption) (by (first | omega | (simp only [zz] at *; omega))))))
  have hP2 : w2.heap[w.heap.size]? = some (.cells (mkP r al) 110 (0, 0)) := (hbx.block _ (by omega)).trans (heap_alloc_new w _)
  have hz22 := hbx.size
  rw [World.size_alloc] at hz22
  go_wp2
  go_loopw [6, 7, 17] (fun t6 _ t17 wr => ∃ (i : Nat) (O : Option Addr) (c : Nat), i ≤ n ∧ t17 = .int .i64 i ∧ t6 = .slice O i c ∧ w.grownBy wr (some M) ∧ KMap 110 M (goodP ts.length R.length (leastP R ts v)) wr ∧ wr.heap[w.heap.size]? = some (.cells (mkP r al) 110 (0, 0)) ∧ wr.ownsRow (w.heap.size + 1) 2 1 (.slice O i c) i ((vl.take i).map (Value.int .i64))) (fun _ _ t17 _ => n - (intOf t17).toNat)
  case atStart => exact ⟨0, none, 0, Nat.zero_le _, rfl, rfl, grown_none (below_grown hbw), HKM.out.below hbw, hP2, World.ownsRow_nil _ _ _ _⟩
  case round =>
    obtain ⟨i, O, c, hin, rfl, rfl, hg, hm, hP, hown⟩ := hrel
    clear hP2 hbx hbw hz22 hb2 hz2 ho2 hq2 hs2 hlt2 hc2
    have hkp := keeps_M HKM.out hg
    have hEr := hide (hE0.out.cells hkp hm)
    have hzr := hkp.1
    have hlP := obj_lt hP
    by_cases hlt : i < n
    · have cn' := cell_keeps cn hkp.2
      have cl' := cell_keeps cl hkp.2
      have lm' := hm.lt
      have l2' : bn < wr.heap.size := by omega
      have l3' : bl < wr.heap.size := by omega
      have hce : ∀ o, wr.cell? ⟨w.heap.size, o, none⟩ = (mkP r al)[o]? := fun o => cell_of_row _ _ _ _ _ _ hP
      have HVI := hide (HVA.out i hlt)
      have HNI := hide (fun w' h => HNX.out i w' h (by omega))
      have HII := hide (fun w' h => HIH.out i w' h)
      have hge := own_ge hown
      have HM := hide hm
      have HG := hide hg
      clear hm hg cs cv ck cn cl cu r0 r1 hkp
      generalize leastP R ts v (r + 1) (f i) = lv at *
      go_wp2
      go_region_held3 (fun w' => w'.cell? ⟨bl, 0, none⟩ = some (.func (.func 93) #[] #[.pointer (some ⟨bs, 0, none⟩), .pointer (some ⟨bv, 0, none⟩), .pointer (some ⟨bk, 0, none⟩), .pointer (some ⟨bu, 0, none⟩)]) ∧ w'.cell? ⟨bn, 0, none⟩ = some (.func (.func 91) #[.pointer (some ⟨s, 0, none⟩)] #[]) ∧ ∀ o, w'.cell? ⟨w.heap.size, o, none⟩ = (mkP r al)[o]?) (go_keep) (first
        | (go_at_call 91; refine (HNI.out _ (hEr.out.sh.ext (by (repeat (first | exact Below.refl _ _ | assumption | refine below_drewN ?_ _ | refine below_drew ?_ | refine below_gr ?_ ?_ _ | refine below_alloc ?_ ?_ _ | refine Below.setCell ?_ ?_ _ | refine below_step ?_ (by assumption) ?_ | omega | (simp only [zz] at *; omega)))))).mono ?_; rintro e w5 ⟨rfl, hb5⟩; replace hb5 := ex_below hb5; have hb5w : Below wr.heap.size wr w5 := (by (repeat (first | exact Below.refl _ _ | assumption | refine below_drewN ?_ _ | refine below_drew ?_ | refine below_gr ?_ ?_ _ | refine below_alloc ?_ ?_ _ | refine Below.setCell ?_ ?_ _ | refine below_step ?_ (by assumption) ?_ | omega | (simp only [zz] at *; omega)))); have k5 := keeps_below hb5w; have e1 := cell_keeps cl' k5.2; have e2 := cell_keeps cn' k5.2; have P5 := (hb5w.block _ hlP).trans hP; have e3 : (∀ o, w5.cell? ⟨w.heap.size, o, none⟩ = (mkP r al)[o]?) := (fun o => cell_of_row _ _ _ _ _ _ P5); have E5 := hide (hEr.out.below hb5w); have K5 := hide k5; clear k5)
        | (go_at_call 93; refine (HII.out _ E5.out).mono ?_; rintro e w6 ⟨rfl, hg6, hm6⟩; have k6 := keeps_M E5.out.km hg6; have d1 := cell_keeps e1 k6.2; have d2 := cell_keeps e2 k6.2; have P6 := k6.2 _ _ P5 rfl; have d3 : (∀ o, w6.cell? ⟨w.heap.size, o, none⟩ = (mkP r al)[o]?) := (fun o => cell_of_row _ _ _ _ _ _ P6); have z6 := k6.1; have z5 := K5.out.1; have s1 : bl < w6.heap.size := (by omega); have s2 : bn < w6.heap.size := (by omega); have s3 : w.heap.size < w6.heap.size := (by omega); have d4 : (∀ o, (w6.alloc (.cells #[.int .i64 lv] 2)).cell? ⟨w.heap.size, o, none⟩ = (mkP r al)[o]?) := (fun o => (World.cell?_alloc_past _ _ _ s3).trans (d3 o)); have K6 := hide k6; have G6 := hide hg6; have M6 := hide hm6; clear k6 hg6 hm6)
        | (refine step_app _ rfl (.tmp 20) (.tmp 27) 85 rfl (w.heap.size + 1) 2 i0 _ 1 8 und85 ih iz is ib rfl (by decide) _ i ((vl.take i).map (Value.int .i64)) rfl ?own (some ⟨w6.heap.size, 0, none⟩) 1 1 [.int .i64 lv] rfl ?rd ?one ?b1 ?b2 ?b3 ?_
           case own => exact (own_keeps (own_keeps hown K5.out.2) K6.out.2).alloc _
           case rd => exact rd_new1 w6 _ _
           case one => simp [Value.oneCell']
           case b1 => unfold maxLen; omega
           case b2 => omega
           case b3 => (first | omega | (simp only [zz]; omega) | (simp only [zz] at *; omega) | (simp; done) | (simp; omega))
           intro A2 c2 w7 hown7 hgr7
           have hz7 := hgr7.size
           rw [World.size_alloc] at hz7
           have f1 := gb_cell hgr7 bl (by (first | omega | (simp only [zz]; omega) | (simp only [zz] at *; omega) | (simp; done) | (simp; omega))) (fun kk h => by have := hge kk h; omega)
           have f2 := gb_cell hgr7 bn (by (first | omega | (simp only [zz]; omega) | (simp only [zz] at *; omega) | (simp; done) | (simp; omega))) (fun kk h => by have := hge kk h; omega)
           have f3 := gb_cell hgr7 w.heap.size (by (first | omega | (simp only [zz]; omega) | (simp only [zz] at *; omega) | (simp; done) | (simp; omega))) (fun kk h => by have := hge kk h; omega)
           have hgA : w6.grownBy w7 (Value.slice O i c).ownBlock := grown_trans (grown_none (below_grown (below_alloc (Below.refl w6.heap.size w6) (Nat.le_refl _) (.cells #[.int .i64 lv] 2)))) hgr7
           have G7 := hide hgA
           have O7 := hide hown7
           clear hgr7 hown7 hgA))
      all_goals
        go_wp2
        go_roundw
        case measure => simp [intOf]; omega
        have g1 := grown_trans HG.out (grown_trans (grown_none (below_grown (by assumption : Below wr.heap.size wr w5))) G6.out)
        refine ⟨i + 1, A2, c2, by omega, by go_num, rfl, grown_own g1 G7.out (fun rr h => by have := hge rr h; omega), M6.out.kept G7.out (fun e => by have := hge M e.symm; omega), ?_, ?_⟩
        · exact (G7.out.block _ s3 (fun e => by have := hge _ e.symm; omega)).trans P6
        · rw [HVI.out, List.map_append]
          exact O7.out
    · have hie : i = n := by omega
      subst hie
      rw [List.take_of_length_le (by rw [HVL.out]; exact Nat.le_refl _)] at hown
      have hI := own_i64 (xs := vl) (c := c) (by rw [HVL.out]; exact hown)
      have HI := hide hI
      have HM := hide hm
      have HG := hide hg
      clear hI hown hm hg
      go_wp2
      go_ret
      exact ⟨O, c, by rw [HVL.out]; rfl, HG.out, HM.out, HI.out.1⟩
end Go.Proofs.Ytlbkaeoagdbemaa
