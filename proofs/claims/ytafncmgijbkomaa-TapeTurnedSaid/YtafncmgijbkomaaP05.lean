/- Proved here: maps of what is known; a new reel; worlds whose map has turned; a new reel, a part of the proofs about the tape laws. Conditions: those that each theorem names, no others. -/
import Derived.Test.YtafncmgijbkomaaP04
import Derived.WalkKit
import Derived.WalkSpells
import Derived.WalkLawsBesides
import Derived.Below
import Derived.Deep.QuietTactic
import Derived.BigQuiet
import Derived.Deep.Light
import Derived.Maps.OwnOps
import Derived.Maps.OwnSet
import Derived.Carry
import Derived.DeepKeys4
set_option linter.unusedSimpArgs false
set_option linter.unusedVariables false
namespace Go.Proofs.Ytafncmgijbkomaa
open Go.RowKit Go.Maps
theorem laidOutT : laidOutB Try.prog = true := by kernel_rfl
theorem rowS : (109 : TypeId) < Try.prog.types.size := of_decide_eq_true (by kernel_rfl)
theorem rowW : (127 : TypeId) < Try.prog.types.size := of_decide_eq_true (by kernel_rfl)
theorem keyTypeS : Try.prog.keyType 109 = true := by kernel_rfl
theorem keyTypeW : Try.prog.keyType 127 = true := by kernel_rfl
theorem ktS : Try.prog.keyTypeAt 4 109 = true := by kernel_rfl
theorem ktW : Try.prog.keyTypeAt 4 127 = true := by kernel_rfl
theorem cellsS : Try.prog.cellsOf 109 = 4 := by kernel_rfl
theorem cellsW : Try.prog.cellsOf 127 = 6 := by kernel_rfl
theorem cellsP : Try.prog.cellsOf 86 = 3 := by kernel_rfl
theorem cells3 : Try.prog.cellsOf 3 = 1 := by kernel_rfl
def I (n : Int) : Value := .int .i64 n
def wfI (n : Int) : Prop := (Lit.int .i64 n).wf = true
theorem litsI (k : Nat) {n : Int} (h : wfI n) : Try.prog.keyLits (k + 1) 3 [.int .i64 n] = some [.int .i64 n] := by
  unfold Program.keyLits
  rw [Try.underlying3]
  simp [show (Lit.int .i64 n).wf = true from h]
theorem litsP (k : Nat) {a b c : Int} (ha : wfI a) (hb : wfI b) (hc : wfI c) : Try.prog.keyLits (k + 1 + 1) 86 [.int .i64 a, .int .i64 b, .int .i64 c] = some [.int .i64 a, .int .i64 b, .int .i64 c] := by
  conv => lhs; unfold Program.keyLits
  rw [Try.underlying86]
  simp only [cellsP, cells3]
  simp [List.range, List.range.loop, litsI k ha, litsI k hb, litsI k hc]
theorem litsS (k : Nat) {a b c l : Int} (ha : wfI a) (hb : wfI b) (hc : wfI c) (hl : wfI l) : Try.prog.keyLits (k + 1 + 1 + 1) 109 [.int .i64 a, .int .i64 b, .int .i64 c, .int .i64 l] = some [.int .i64 a, .int .i64 b, .int .i64 c, .int .i64 l] := by
  conv => lhs; unfold Program.keyLits
  rw [Try.underlying109]
  simp only [cellsS]
  simp [cellsP, cells3, litsP k ha hb hc, litsI (k + 1) hl]
theorem litsW (k : Nat) {a b c l x y : Int} (ha : wfI a) (hb : wfI b) (hc : wfI c) (hl : wfI l) (hx : wfI x) (hy : wfI y) : Try.prog.keyLits (k + 1 + 1 + 1 + 1) 127 [.int .i64 a, .int .i64 b, .int .i64 c, .int .i64 l, .int .i64 x, .int .i64 y] = some [.int .i64 a, .int .i64 b, .int .i64 c, .int .i64 l, .int .i64 x, .int .i64 y] := by
  conv => lhs; unfold Program.keyLits
  rw [Try.underlying127]
  simp only [cellsW]
  simp [cellsS, cells3, litsS k ha hb hc hl, litsI (k + 1 + 1) hx, litsI (k + 1 + 1) hy]
theorem sizeT : ∃ k, Try.prog.types.size + 1 = k + 1 + 1 + 1 + 1 := ⟨Try.prog.types.size - 3, by have h : (127 : Nat) < Try.prog.types.size := rowW; omega⟩
theorem keyS {a b c l : Int} (ha : wfI a) (hb : wfI b) (hc : wfI c) (hl : wfI l) : ∃ kl, keyOf Try.prog 109 (.agg #[.int .i64 a, .int .i64 b, .int .i64 c, .int .i64 l]) = some kl := by
  unfold keyOf
  rw [Try.underlying109]
  have hf : (Value.agg #[.int .i64 a, .int .i64 b, .int .i64 c, .int .i64 l]).formed Try.prog 109 = true := by simp [Value.formed, Try.underlying109, cellsS]
  simp only [keyTypeS, hf]
  obtain ⟨k, hk⟩ := sizeT
  rw [hk]
  simp only [Value.cells, litsS (k + 1) ha hb hc hl]
  simp
theorem keyW {a b c l x y : Int} (ha : wfI a) (hb : wfI b) (hc : wfI c) (hl : wfI l) (hx : wfI x) (hy : wfI y) : ∃ kl, keyOf Try.prog 127 (.agg #[.int .i64 a, .int .i64 b, .int .i64 c, .int .i64 l, .int .i64 x, .int .i64 y]) = some kl := by
  unfold keyOf
  rw [Try.underlying127]
  have hf : (Value.agg #[.int .i64 a, .int .i64 b, .int .i64 c, .int .i64 l, .int .i64 x, .int .i64 y]).formed Try.prog 127 = true := by simp [Value.formed, Try.underlying127, cellsW]
  simp only [keyTypeW, hf]
  obtain ⟨k, hk⟩ := sizeT
  rw [hk]
  simp only [Value.cells, litsW k ha hb hc hl hx hy]
  simp
theorem lawS : Keyed Try.prog 109 := Keyed.of_law (deep_law_laid laidOutT (m := 4) (by omega) rowS ktS (by rw [Try.underlying109]))
theorem lawW : Keyed Try.prog 127 := Keyed.of_law (deep_law_laid laidOutT (m := 4) (by omega) rowW ktW (by rw [Try.underlying127]))
/-! maps by what they hold -/
def heldR (v : Value) : Option (DataW Value × List MemPlace) := some (.held v, [])
/-- block b is a map each of whose entries is good -/
def KMap (k : TypeId) (b : Nat) (good : Value → Value → Prop) (w : World) : Prop :=
  ∃ l : List (Lit × DataW Value), w.ownsMap Try.prog k heldR b l.length (.map l) ∧ ∀ x, x ∈ l → ∃ key v, keyOf Try.prog k key = some x.1 ∧ x.2 = .held v ∧ good key v
theorem tight {P : Program} {k : TypeId} {R : Value → Option (DataW Value × List MemPlace)} {w : World} {b n : Nat} {l : List (Lit × DataW Value)} (h : w.ownsMap P k R b n (.map l)) : w.ownsMap P k R b l.length (.map l) := by
  obtain ⟨es, clock, hb, F, hs, hD⟩ := h
  have hl := DataW.map.inj hD
  exact ⟨es, clock, hb, F, by rw [hl, length_sorted]; simp, hD⟩
theorem mem_insert (x y : Lit × DataW Value) : ∀ l : List (Lit × DataW Value), x ∈ DataW.insert y l → x = y ∨ x ∈ l
  | [], h => by simpa [DataW.insert] using h
  | z :: l, h => by
    unfold DataW.insert at h
    split at h
    · rcases List.mem_cons.1 h with h | h
      · exact .inl h
      · exact .inr h
    · rcases List.mem_cons.1 h with h | h
      · exact .inr (by simp [h])
      · rcases mem_insert x y l h with h | h
        · exact .inl h
        · exact .inr (by simp [h])
theorem KMap.made (w : World) (k : TypeId) (good : Value → Value → Prop) : KMap k w.heap.size good (w.alloc (.map #[] 0)) := ⟨[], World.ownsMap_made _ _ _ _, by simp⟩
theorem KMap.lt {k : TypeId} {b : Nat} {good : Value → Value → Prop} {w : World} (h : KMap k b good w) : b < w.heap.size := by
  obtain ⟨l, h, _⟩ := h
  exact h.lt
theorem KMap.kept {k : TypeId} {b : Nat} {good : Value → Value → Prop} {w w' : World} {row : Option Nat} (h : KMap k b good w) (hg : w.grownBy w' row) (hne : some b ≠ row) : KMap k b good w' := by
  obtain ⟨l, h, hl⟩ := h
  exact ⟨l, h.kept hg hne, hl⟩
theorem KMap.below {k : TypeId} {b : Nat} {good : Value → Value → Prop} {w w' : World} (h : KMap k b good w) (hb : Below w.heap.size w w') : KMap k b good w' := h.kept (below_grown hb) (by simp)
theorem KMap.look {k t e : TypeId} {b : Nat} {good : Value → Value → Prop} {w : World} (h : KMap k b good w) (K : Keyed Try.prog k) (ht : Try.prog.underlying t = some (.map k e)) {z : Value} (hz : (zeroValue e).run Try.prog w = .ok z w) {key : Value} {kl : Lit} (hkey : keyOf Try.prog k key = some kl) :
    (∃ v, (Instr.lookup t (.map (some b)) key true).run Try.prog w = .ok (.tuple #[v, .bool true]) w ∧ good key v) ∨ (Instr.lookup t (.map (some b)) key true).run Try.prog w = .ok (.tuple #[z, .bool false]) w := by
  obtain ⟨l, ⟨es, clock, hb, F, _, hD⟩, hl⟩ := h
  rcases Maps.fit_look true K ht hz hb F hkey with ⟨hrun, _, _⟩ | ⟨e0, y, _, _, hrun, hRv, hat, _⟩
  · exact .inr hrun
  · refine .inl ⟨e0.val, hrun, ?_⟩
    have hy : y.1 = .held e0.val := by rw [← Option.some.inj hRv]
    have h1 := hat .nil
    rw [← hD, hy] at h1
    unfold DataW.atKey at h1
    simp only at h1
    cases hf : l.find? (fun p => p.1.sameKey kl) with
    | none => rw [hf] at h1; cases h1
    | some p =>
      rw [hf] at h1
      have hp := List.mem_of_find?_eq_some hf
      have hs := List.find?_some hf
      obtain ⟨key', v', g1, g2, g3⟩ := hl p hp
      have e1 : p.1 = kl := WideAt.sameKey_eq (by simpa using hs)
      rw [e1] at g1
      have e2 : key' = key := K.inj g1 hkey
      have e3 : v' = e0.val := by
        have := g2.symm.trans h1
        cases this; rfl
      rw [← e2, ← e3]; exact g3
def Finite (k : TypeId) (good : Value → Value → Prop) : Prop := ∃ L : List Lit, L.length < 1000000000 ∧ ∀ key v kl, good key v → keyOf Try.prog k key = some kl → kl ∈ L
theorem KMap.put {k t e : TypeId} {b : Nat} {good : Value → Value → Prop} {w : World} (h : KMap k b good w) (K : Keyed Try.prog k) (ht : Try.prog.underlying t = some (.map k e)) (hfin : Finite k good) {key val : Value} {kl : Lit} (hkey : keyOf Try.prog k key = some kl) (hg : good key val) :
    ∃ w', (Instr.mapUpdate t (.map (some b)) key val).run Try.prog w = .ok () w' ∧ KMap k b good w' ∧ w.grownBy w' (some b) := by
  obtain ⟨l, h, hl⟩ := h
  obtain ⟨L, hL, hLm⟩ := hfin
  have hlen : l.length ≤ L.length := by
    obtain ⟨es, he, hp⟩ := h.tidy K
    have hle := DataW.map.inj he
    subst hle
    have := List.Nodup.length_le_of_subset (l₁ := l.map Prod.fst) (l₂ := L) (by rw [List.nodup_iff_pairwise_ne, List.pairwise_map]; exact hp) (fun x hx => by
      obtain ⟨q, hq, rfl⟩ := List.mem_map.1 hx
      obtain ⟨key', v', g1, _, g3⟩ := hl q hq
      exact hLm key' v' _ g3 g1)
    simpa using this
  obtain ⟨w', hrun, hown, hgr⟩ := h.update K ht (by unfold maxLen; omega) (d := .held val) (ps := []) hkey rfl
  refine ⟨w', hrun, ?_, hgr⟩
  have e1 : (DataW.map l).put kl (.held val) = .map (DataW.insert (kl, .held val) (l.filter fun p => !p.1.sameKey kl)) := rfl
  rw [e1] at hown
  refine ⟨_, tight hown, fun x hx => ?_⟩
  rcases mem_insert _ _ _ hx with rfl | hx
  · exact ⟨key, val, hkey, rfl, hg⟩
  · exact hl x (List.mem_filter.1 hx).1
theorem KMap.del {k t e : TypeId} {b : Nat} {good : Value → Value → Prop} {w : World} (h : KMap k b good w) (K : Keyed Try.prog k) (ht : Try.prog.underlying t = some (.map k e)) (ty : TypeId) {key : Value} {kl : Lit} (hkey : keyOf Try.prog k key = some kl) :
    ∃ w', (Builtin.delete_ #[t, k] ty #[.map (some b), key]).run Try.prog w = .ok (.tuple #[]) w' ∧ KMap k b good w' ∧ w.grownBy w' (some b) := by
  obtain ⟨l, h, hl⟩ := h
  obtain ⟨w', hrun, hown, hgr⟩ := h.drop K ht hkey ty
  refine ⟨w', hrun, ?_, hgr.grown⟩
  have e1 : (DataW.map l).del kl = .map (l.filter fun p => !p.1.sameKey kl) := rfl
  rw [e1] at hown
  exact ⟨_, tight hown, fun x hx => hl x (List.mem_filter.1 hx).1⟩
end Go.Proofs.Ytafncmgijbkomaa
namespace Go.Proofs.Ytafncmgijbkomaa
open Go.RowKit Go.Maps
/-! a world whose map has turned, and that has grown -/
structure Gm where
  objs : Array Obj
  drawn : Nat
  o : Obj
def _root_.Go.World.gro (w : World) (M : Nat) (g : Gm) : World := { w with heap := w.heap.setIfInBounds M g.o ++ g.objs, drawn := g.drawn }
@[go_sem] theorem size_gro (w : World) (M : Nat) (g : Gm) : (w.gro M g).heap.size = w.heap.size + g.objs.size := by simp [World.gro]
theorem heap_gro (w : World) (M : Nat) (g : Gm) (n : Nat) (h : n < w.heap.size) (hne : n ≠ M) : (w.gro M g).heap[n]? = w.heap[n]? := by
  unfold World.gro
  simp only
  rw [Array.getElem?_append_left (by simpa using h), Array.getElem?_setIfInBounds_ne (Ne.symm hne)]
@[go_sem] theorem cell_gro (w : World) (M : Nat) (g : Gm) (n i : Nat) (h : n < w.heap.size) (hne : n ≠ M) : (w.gro M g).cell? ⟨n, i, none⟩ = w.cell? ⟨n, i, none⟩ := by
  simp [World.cell?, heap_gro w M g n h hne]
@[go_sem] theorem frozen_gro (w : World) (M : Nat) (g : Gm) (n i : Nat) (h : n < w.heap.size) (hne : n ≠ M) : (w.gro M g).frozen? ⟨n, i, none⟩ = w.frozen? ⟨n, i, none⟩ := by
  simp [World.frozen?, heap_gro w M g n h hne]
theorem gro_grown (w : World) (M : Nat) (g : Gm) : w.grownBy (w.gro M g) (some M) := ⟨rfl, rfl, rfl, by simp [size_gro], fun k h hne => heap_gro w M g k h (fun e => hne (by rw [e]))⟩
theorem grown_gro {w w' : World} {M : Nat} (h : w.grownBy w' (some M)) (hM : M < w.heap.size) : ∃ g, w' = w.gro M g := by
  have hs := h.size
  refine ⟨⟨w'.heap.extract w.heap.size w'.heap.size, w'.drawn, w'.heap[M]'(by omega)⟩, ?_⟩
  obtain ⟨heap, tape, drawn, os, output⟩ := w
  obtain ⟨heap', tape', drawn', os', output'⟩ := w'
  obtain ⟨h1, h2, h3, h4, h5⟩ := h
  simp only at h1 h2 h3 h4 h5 hM
  subst h1 h2 h3
  simp only [World.gro, World.mk.injEq, and_true, true_and]
  apply Array.ext_getElem?
  intro i
  by_cases hi : i < heap.size
  · rw [Array.getElem?_append_left (by simpa using hi)]
    by_cases he : i = M
    · subst he
      rw [Array.getElem?_setIfInBounds_self_of_lt hi, Array.getElem?_eq_getElem (by omega)]
    · rw [Array.getElem?_setIfInBounds_ne (Ne.symm he), h5 i hi (fun e => he (Option.some.inj e))]
  · rw [Array.getElem?_append_right (by simp; omega)]
    simp only [Array.getElem?_extract, Array.size_setIfInBounds, Nat.min_self]
    split
    · congr 1; omega
    · rw [Array.getElem?_eq_none (by omega)]
theorem gro_below {w w' : World} {M : Nat} (h : Below w.heap.size w w') (hM : M < w.heap.size) : ∃ g, w' = w.gro M g :=
  grown_gro (let q := below_grown h; ⟨q.1, q.2, q.3, q.size, fun k hk _ => h.block k hk⟩) hM
theorem grown_none {w w' : World} {row : Option Nat} (h : w.grownBy w' none) : w.grownBy w' row := ⟨h.1, h.2, h.3, h.size, fun k hk _ => h.block k hk (by simp)⟩
theorem grown_trans {a b c : World} {M : Nat} (h : a.grownBy b (some M)) (k : b.grownBy c (some M)) : a.grownBy c (some M) :=
  ⟨k.1.trans h.1, k.2.trans h.2, k.3.trans h.3, Nat.le_trans h.size k.size, fun i hi hne => (k.block i (Nat.lt_of_lt_of_le hi h.size) hne).trans (h.block i hi hne)⟩
/-- growths that keep a word -/
def Gk (w : World) (M : Nat) (K : World → Prop) : Type := { g : Gm // K (w.gro M g) }
theorem Gk.ok {w : World} {M : Nat} {K : World → Prop} (g : Gk w M K) : K (w.gro M g.1) := g.2
theorem gk_mk {w w' : World} {M : Nat} {K : World → Prop} (h : w.grownBy w' (some M)) (hM : M < w.heap.size) (hK : K w') : ∃ g : Gk w M K, w' = w.gro M g.1 := by
  obtain ⟨g, rfl⟩ := grown_gro h hM
  exact ⟨⟨g, hK⟩, rfl⟩
theorem wp_region_gk {P : Program} {M : Nat} {K : World → Prop} {id : Nat} {Q : Exit → Act → World → Prop} {a : Act} {w : World} {l : List Oper} (hm : P.follows .mixedOrders = true) (hB : Region.lexB .any l.toArray = true) (hM : M < w.heap.size) (hK : K { w with drawn := w.drawn + 1 })
    (h : wpQuiet P l.toArray (fun w' => ∃ g : Gk w M K, w' = w.gro M g.1) (fun a' => ∀ w', (∃ g : Gk w M K, w' = w.gro M g.1) → Q .normal a' w') l a) : (Code.region id l.toArray true).wp P Q a w :=
  wp_region_quiet (C := fun w' => ∃ g : Gk w M K, w' = w.gro M g.1) hm hB (gk_mk (K := K) ⟨rfl, rfl, rfl, Nat.le_refl _, fun _ _ _ => rfl⟩ hM hK) (by simpa using h)
/-- what a call comes to that hands back v, turns the map M, and keeps a word -/
def GivesM (w : World) (M : Nat) (K : World → Prop) (v : Value) (e : Ending) (w' : World) : Prop := e = .returned v ∧ w.grownBy w' (some M) ∧ K w'
theorem GivesM.quiet {P : Program} {f : FuncId} {args : Array Value} {w : World} {M : Nat} {K : World → Prop} (hM : M < w.heap.size) {g : Gk w M K} {v : Value} (h : Calls P f args (w.gro M g.1) (GivesM (w.gro M g.1) M K v)) :
    Calls P f args (w.gro M g.1) fun e w' => e = .returned v ∧ ∃ g' : Gk w M K, w' = w.gro M g'.1 := h.mono fun e w'' hh => by
  obtain ⟨he, hg, hk⟩ := hh
  exact ⟨he, gk_mk (grown_trans (gro_grown _ _ _) hg) hM hk⟩
theorem Gives.quietK {P : Program} {f : FuncId} {args : Array Value} {w : World} {M : Nat} {K : World → Prop} (hM : M < w.heap.size) {g : Gk w M K} {v : Value} (hK : ∀ a b : World, Below a.heap.size a b → K a → K b) (h : Calls P f args (w.gro M g.1) (Gives (w.gro M g.1) v)) :
    Calls P f args (w.gro M g.1) fun e w' => e = .returned v ∧ ∃ g' : Gk w M K, w' = w.gro M g'.1 := h.mono fun e w'' hh => by
  obtain ⟨he, g', rfl⟩ := hh
  exact ⟨he, gk_mk (grown_trans (gro_grown _ _ _) (grown_none (below_grown (grow_below _ _)))) hM (hK _ _ (grow_below _ _) g.2)⟩
/-! the reel, with what is known -/
def stC (p : List Nat) (l : Nat) : Array Value := #[.int .i64 (p.getD 0 0 : Nat), .int .i64 (p.getD 1 0 : Nat), .int .i64 (p.getD 2 0 : Nat), .int .i64 (l : Nat)]
def stV (p : List Nat) (l : Nat) : Value := .agg (stC p l)
theorem stV_inj {ts : List (List Int)} {p q : List Nat} {l m : Nat} (h3 : ts.length ≤ 3) (hp : Tm.IsPl ts p) (hq : Tm.IsPl ts q) (h : stV p l = stV q m) : p = q ∧ l = m := by
  unfold stV stC at h
  injection h with h
  simp at h
  obtain ⟨h0, h1, h2, h4⟩ := h
  refine ⟨?_, by omega⟩
  have e1 := hp.len
  have e2 := hq.len
  apply List.ext_getElem (by omega)
  intro i hi hj
  have key : p.getD i 0 = q.getD i 0 := by
    rcases (by omega : i = 0 ∨ i = 1 ∨ i = 2) with rfl | rfl | rfl
    · simp; omega
    · simp; omega
    · simp; omega
  rw [List.getD_eq_getElem?_getD, List.getD_eq_getElem?_getD, List.getElem?_eq_getElem hi, List.getElem?_eq_getElem hj] at key
  exact key
/-- an entry tells how many nights go on -/
def goodC (W : Nat) (ts : List (List Int)) (key v : Value) : Prop := ∃ p l, Tm.IsPl ts p ∧ l ≤ 20 ∧ key = stV p l ∧ v = .int .i64 (Tm.cntC W l (Tm.remP ts p) : Nat)
theorem wfI_small {n : Nat} (h : n ≤ 1000000) : wfI n := WalkArith.wf_i64 (by omega)
theorem isPl_small {ts : List ByteArray} (hs : Small ts) {p : List Nat} (hp : Tm.IsPl (lts ts) p) (k : Nat) : p.getD k 0 ≤ 8 := by
  by_cases h : k < ts.length
  · exact Nat.le_trans (isPl_le hp k h) (hs k h)
  · have : p.length = ts.length := by rw [hp.len]; simp [lts]
    rw [List.getD_eq_getElem?_getD, List.getElem?_eq_none (by omega)]; exact Nat.zero_le _
theorem keyS_of {ts : List ByteArray} (hs : Small ts) {p : List Nat} {l : Nat} (hp : Tm.IsPl (lts ts) p) (hl : l ≤ 20) : ∃ kl, keyOf Try.prog 109 (stV p l) = some kl :=
  keyS (wfI_small (by have := isPl_small hs hp 0; omega)) (wfI_small (by have := isPl_small hs hp 1; omega)) (wfI_small (by have := isPl_small hs hp 2; omega)) (wfI_small (by omega))
theorem mem_place {ts : List (List Int)} {p : List Nat} (hp : Tm.IsPl ts p) : p ∈ (List.range (Tm.prodP ts)).map (Tm.placeP ts) :=
  List.mem_map.2 ⟨Tm.idxP ts p 0, List.mem_range.2 (Tm.idx_lin hp 0).2, Tm.place_idx hp⟩
theorem finite_of {k : TypeId} {good : Value → Value → Prop} (L : List Value) (hL : L.length < 1000000000) (h : ∀ key v, good key v → key ∈ L) : Finite k good :=
  ⟨L.filterMap (keyOf Try.prog k), Nat.lt_of_le_of_lt (List.length_filterMap_le _ _) hL, fun key v kl hg hk => List.mem_filterMap.2 ⟨key, h key v hg, hk⟩⟩
theorem finC {W : Nat} {ts : List ByteArray} (hs : Small ts) (h3 : ts.length ≤ 3) : Finite 109 (goodC W (lts ts)) := by
  have h9 := prodP_small ts hs h3
  refine finite_of (((List.range (Tm.prodP (lts ts))).map (Tm.placeP (lts ts))).flatMap (fun p => (List.range 21).map (fun l => stV p l))) ?_ ?_
  · rw [List.length_flatMap]
    have : ∀ (l : List (List Nat)), (l.map (fun p => ((List.range 21).map (fun m => stV p m)).length)).sum = l.length * 21 := fun l => by
      induction l with
      | nil => rfl
      | cons a l ih => rw [List.map_cons, List.sum_cons, ih]; simp; omega
    rw [this]
    simp
    omega
  · rintro key v ⟨p, l, hp, hl, rfl, rfl⟩
    exact List.mem_flatMap.2 ⟨p, mem_place hp, List.mem_map.2 ⟨l, List.mem_range.2 (by omega), rfl⟩⟩
/-- a reel -/
structure Reel (R M : Nat) (W : Int) (A : Option Addr) (ts : List ByteArray) (cap : Nat) (w : World) : Prop where
  rat : ReelAt w R W A ts cap
  str : Strs w A ts
  mp : w.cell? ⟨R, 2, none⟩ = some (.map (some M))
  ne : R ≠ M
  nea : ∀ (k : Nat) (s : ByteArray), ts[k]? = some s → ∃ b o, A = some ⟨b, o, none⟩ ∧ b ≠ M
  km : KMap 109 M (goodC W.toNat (lts ts)) w
theorem Reel.lt {R M : Nat} {W : Int} {A : Option Addr} {ts : List ByteArray} {cap : Nat} {w : World} (h : Reel R M W A ts cap w) : R < w.heap.size ∧ M < w.heap.size := ⟨h.rat.2.2, h.km.lt⟩
theorem Reel.grown {R M : Nat} {W : Int} {A : Option Addr} {ts : List ByteArray} {cap : Nat} {w w' : World} (h : Reel R M W A ts cap w) (hg : w.grownBy w' (some M)) (hk : KMap 109 M (goodC W.toNat (lts ts)) w') : Reel R M W A ts cap w' := by
  have hz := hg.size
  have hc : ∀ b o, b < w.heap.size → b ≠ M → w'.cell? ⟨b, o, none⟩ = w.cell? ⟨b, o, none⟩ := fun b o hb hne => gb_cell hg b hb (fun k e => by have := Option.some.inj e; omega) o
  refine ⟨⟨(hc R 0 h.rat.2.2 h.ne).trans h.rat.1, (hc R 1 h.rat.2.2 h.ne).trans h.rat.2.1, Nat.lt_of_lt_of_le h.rat.2.2 hz⟩, fun k s hks => ?_, (hc R 2 h.rat.2.2 h.ne).trans h.mp, h.ne, h.nea, hk⟩
  obtain ⟨b, o, e, h1, h2, h3⟩ := h.str k s hks
  obtain ⟨b', o', e', hne⟩ := h.nea k s hks
  rw [e] at e'
  have : b = b' := by injection e' with e'; injection e' with e1
  subst this
  exact ⟨b, o, e, by omega, by omega, (hc b _ h1 hne).trans h3⟩
theorem Reel.below {R M : Nat} {W : Int} {A : Option Addr} {ts : List ByteArray} {cap : Nat} {w w' : World} (h : Reel R M W A ts cap w) (hb : Below w.heap.size w w') : Reel R M W A ts cap w' :=
  h.grown (grown_none (below_grown hb)) (h.km.below hb)
/-- a new reel -/
def GivesReel (w : World) (W : Int) (A : Option Addr) (ts : List ByteArray) (c : Nat) (e : Ending) (w' : World) : Prop :=
  ∃ R M, e = .returned (.pointer (some ⟨R, 0, none⟩)) ∧ Below w.heap.size w w' ∧ w.heap.size ≤ R ∧ w.heap.size ≤ M ∧ Reel R M W A ts c w'
theorem strs_low {w : World} {A : Option Addr} {ts : List ByteArray} (h : Strs w A ts) : ∀ (k : Nat) (s : ByteArray), ts[k]? = some s → ∃ b o, A = some ⟨b, o, none⟩ ∧ b < w.heap.size := fun k s hk => by
  obtain ⟨b, o, e, h1, _⟩ := h k s hk
  exact ⟨b, o, e, h1⟩
set_option maxRecDepth 100000 in
set_option maxHeartbeats 1000000 in
theorem newReel_any (W : Int) (A : Option Addr) (ts : List ByteArray) (c : Nat) (w : World) (hA : Strs w A ts) : Calls Try.prog 55 #[.agg #[.int .i64 W, .slice A ts.length c]] w (GivesReel w W A ts c) := by
  have hmm := @run_makeMap Try.prog
  go_enter Try.func55, Try.ntmps55
  go_wp2
  go_ret
  obtain ⟨w1, hw1⟩ : ∃ w1, w.alloc (Obj.cells #[Value.int IntKind.i64 W, Value.slice A ts.length c] 24) = w1 := ⟨_, rfl⟩
  have hz1 : w1.heap.size = w.heap.size + 1 := by rw [← hw1]; simp
  have hb1 : Below w.heap.size w w1 := by rw [← hw1]; (repeat (first | exact Below.refl _ _ | assumption | (refine below_gr ?_ (by (first | omega | (simp only [zz] at *; omega))) _) | (refine below_alloc ?_ (by (first | omega | (simp only [zz] at *; omega))) _) | (refine Below.setCell ?_ (by (first | omega | (simp only [zz] at *; omega))) _) | refine below_drewN ?_ _ | refine below_drew ?_ | (refine below_step ?_ (by assumption) (by (first | omega | (simp only [zz] at *; omega))))))
  rw [hw1, ← hz1]
  refine ⟨w1.heap.size + 1, w1.heap.size, rfl, by (repeat (first | exact Below.refl _ _ | assumption | (refine below_gr ?_ (by (first | omega | (simp only [zz] at *; omega))) _) | (refine below_alloc ?_ (by (first | omega | (simp only [zz] at *; omega))) _) | (refine Below.setCell ?_ (by (first | omega | (simp only [zz] at *; omega))) _) | refine below_drewN ?_ _ | refine below_drew ?_ | (refine below_step ?_ (by assumption) (by (first | omega | (simp only [zz] at *; omega)))))), by omega, by omega, ⟨⟨?_, ?_, by simp⟩, hA.ext (by (repeat (first | exact Below.refl _ _ | assumption | refine below_drewN ?_ _ | refine below_drew ?_ | refine below_gr ?_ ?_ _ | refine below_alloc ?_ ?_ _ | refine Below.setCell ?_ ?_ _ | refine below_step ?_ (by assumption) ?_ | omega | (simp only [zz] at *; omega)))), ?_, by omega, fun k s hk => ?_, ?_⟩⟩
  · simp [go_sem]
  · simp [go_sem]
  · simp [go_sem]
  · obtain ⟨b, o, e, hb⟩ := strs_low hA k s hk
    exact ⟨b, o, e, by omega⟩
  · exact (KMap.made w1 _ _).below ((Below.refl _ _).alloc (Nat.le_refl _) _)
end Go.Proofs.Ytafncmgijbkomaa
