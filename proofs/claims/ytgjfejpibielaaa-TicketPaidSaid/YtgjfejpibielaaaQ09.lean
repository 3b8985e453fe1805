/- Proved here: maps by what they hold; the letters that can come; the walk over the letters that can come; how many go on from the end, a part of the proofs about the ticket laws. Conditions: those that each theorem names, no others. -/
import Derived.Test.YtgjfejpibielaaaQ08
import Derived.WalkKit
import Derived.WalkSpells
import Derived.WalkLawsBesides
import Derived.Below
import Derived.Deep.QuietTactic
import Derived.BigQuiet
import Derived.Deep.Light
import Derived.Maps.OwnOps
import Derived.Maps.OwnSet
import Derived.Carry
import Derived.DeepKeys4
import Derived.RangeFuncNested
import Derived.RangeFuncBound
import Derived.RangeFuncCalls
import Derived.RangeFuncLeaves
import Derived.Shelf.Abstract
import Derived.OwnWalkIn
import Derived.TacticsInMore
import Derived.LoopNIn
import Derived.LoopIn
import Derived.RangeFuncOne
import Derived.RangeFuncStops
import Derived.WalkMore
import Derived.Test.YtgjfejpibielaaaQ05
import Derived.Deep.RegionLaw
import Derived.Deep.RegionHeld3
import Derived.Sort.CutIn
import Derived.Laws.StructEq
set_option linter.unusedSimpArgs false
set_option linter.unusedVariables false
namespace Go.Proofs.Ytgjfejpibielaaa
open Go.RowKit Go.Maps
theorem laidOutT : laidOutB Try.prog = true := by kernel_rfl
theorem rowS : (91 : TypeId) < Try.prog.types.size := of_decide_eq_true (by kernel_rfl)
theorem keyTypeS : Try.prog.keyType 91 = true := by kernel_rfl
theorem ktS : Try.prog.keyTypeAt 4 91 = true := by kernel_rfl
theorem cellsS : Try.prog.cellsOf 91 = 3 := by kernel_rfl
theorem cells3 : Try.prog.cellsOf 3 = 1 := by kernel_rfl
def wfI (n : Int) : Prop := (Lit.int .i64 n).wf = true
theorem litsI (k : Nat) {n : Int} (h : wfI n) : Try.prog.keyLits (k + 1) 3 [.int .i64 n] = some [.int .i64 n] := by
 unfold Program.keyLits
 rw [Try.underlying3]
 simp [show (Lit.int .i64 n).wf = true from h]
theorem litsS (k : Nat) {a b c : Int} (ha : wfI a) (hb : wfI b) (hc : wfI c) : Try.prog.keyLits (k + 1 + 1) 91 [.int .i64 a, .int .i64 b, .int .i64 c] = some [.int .i64 a, .int .i64 b, .int .i64 c] := by
 conv => lhs; unfold Program.keyLits
 rw [Try.underlying91]
 simp only [cellsS, cells3]
 simp [List.range, List.range.loop, cells3, litsI k ha, litsI k hb, litsI k hc]
theorem sizeT : ∃ k, Try.prog.types.size + 1 = k + 1 + 1 := ⟨Try.prog.types.size - 1, by have h : (91 : Nat) < Try.prog.types.size := rowS; omega⟩
theorem keyS {a b c : Int} (ha : wfI a) (hb : wfI b) (hc : wfI c) : ∃ kl, keyOf Try.prog 91 (.agg #[.int .i64 a, .int .i64 b, .int .i64 c]) = some kl := by
 unfold keyOf
 rw [Try.underlying91]
 have hf : (Value.agg #[.int .i64 a, .int .i64 b, .int .i64 c]).formed Try.prog 91 = true := by simp [Value.formed, Try.underlying91, cellsS]
 simp only [keyTypeS, hf]
 obtain ⟨k, hk⟩ := sizeT
 rw [hk]
 simp only [Value.cells, litsS k ha hb hc]
 simp
theorem lawS : Keyed Try.prog 91 := Keyed.of_law (deep_law_laid laidOutT (m := 4) (by omega) rowS ktS (by rw [Try.underlying91]))
theorem wfI_small {n : Nat} (h : n ≤ 1000000) : wfI n := WalkArith.wf_i64 (by omega)
theorem wfI_int {n : Int} (h : -1000000 ≤ n ∧ n ≤ 1000000) : wfI n := WalkArith.wf_i64 (by omega)
theorem grown_none {w w' : World} {row : Option Nat} (h : w.grownBy w' none) : w.grownBy w' row := ⟨h.1, h.2, h.3, h.size, fun k hk _ => h.block k hk (by simp)⟩
/-! maps by what they hold -/
def heldR (v : Value) : Option (DataW Value × List MemPlace) := some (.held v, [])
/-- block b is a map each of whose entries is good -/
def KMap (k : TypeId) (b : Nat) (good : Value → Value → Prop) (must : Value → Prop) (w : World) : Prop :=
 ∃ l : List (Lit × DataW Value), w.ownsMap Try.prog k heldR b l.length (.map l) ∧ (∀ x, x ∈ l → ∃ key v, keyOf Try.prog k key = some x.1 ∧ x.2 = .held v ∧ good key v) ∧ ∀ key kl, must key → keyOf Try.prog k key = some kl → ∃ x, x ∈ l ∧ x.1 = kl
theorem tight {P : Program} {k : TypeId} {R : Value → Option (DataW Value × List MemPlace)} {w : World} {b n : Nat} {l : List (Lit × DataW Value)} (h : w.ownsMap P k R b n (.map l)) : w.ownsMap P k R b l.length (.map l) := by
 obtain ⟨es, clock, hb, F, hs, hD⟩ := h
 have hl := DataW.map.inj hD
 exact ⟨es, clock, hb, F, by rw [hl, length_sorted]; simp, hD⟩
theorem mem_insert (x y : Lit × DataW Value) : ∀ l : List (Lit × DataW Value), x ∈ DataW.insert y l → x = y ∨ x ∈ l
 | [], h => by simpa [DataW.insert] using h
 | z :: l, h => by
   unfold DataW.insert at h
   split at h
   · rcases List.mem_cons.1 h with h | h
     · exact .inl h
     · exact .inr h
   · rcases List.mem_cons.1 h with h | h
     · exact .inr (by simp [h])
     · rcases mem_insert x y l h with h | h
       · exact .inl h
       · exact .inr (by simp [h])
theorem KMap.made (w : World) (k : TypeId) (good : Value → Value → Prop) : KMap k w.heap.size good (fun _ => False) (w.alloc (.map #[] 0)) := ⟨[], World.ownsMap_made _ _ _ _, by simp, fun _ _ h => h.elim⟩
theorem KMap.weaken {k : TypeId} {b : Nat} {good : Value → Value → Prop} {must m2 : Value → Prop} {w : World} (h : KMap k b good must w) (hm : ∀ x, m2 x → must x) : KMap k b good m2 w := by
 obtain ⟨l, h, hl, hu⟩ := h
 exact ⟨l, h, hl, fun key kl hk => hu key kl (hm key hk)⟩
theorem KMap.lt {k : TypeId} {b : Nat} {good : Value → Value → Prop} {must : Value → Prop} {w : World} (h : KMap k b good must w) : b < w.heap.size := by
 obtain ⟨l, h, _⟩ := h
 exact h.lt
theorem KMap.kept {k : TypeId} {b : Nat} {good : Value → Value → Prop} {must : Value → Prop} {w w' : World} {row : Option Nat} (h : KMap k b good must w) (hg : w.grownBy w' row) (hne : some b ≠ row) : KMap k b good must w' := by
 obtain ⟨l, h, hl⟩ := h
 exact ⟨l, h.kept hg hne, hl⟩
theorem KMap.below {k : TypeId} {b : Nat} {good : Value → Value → Prop} {must : Value → Prop} {w w' : World} (h : KMap k b good must w) (hb : Below w.heap.size w w') : KMap k b good must w' := h.kept (below_grown hb) (by simp)
theorem KMap.look {k t e : TypeId} {b : Nat} {good : Value → Value → Prop} {must : Value → Prop} {w : World} (h : KMap k b good must w) (K : Keyed Try.prog k) (ht : Try.prog.underlying t = some (.map k e)) {z : Value} (hz : (zeroValue e).run Try.prog w = .ok z w) {key : Value} {kl : Lit} (hkey : keyOf Try.prog k key = some kl) :
 (∃ v, (Instr.lookup t (.map (some b)) key true).run Try.prog w = .ok (.tuple #[v, .bool true]) w ∧ good key v ∧ KMap k b good (fun x => must x ∨ x = key) w) ∨ ((Instr.lookup t (.map (some b)) key true).run Try.prog w = .ok (.tuple #[z, .bool false]) w ∧ ¬ must key) := by
 obtain ⟨l, ⟨es, clock, hb, F, hn, hD⟩, hl, hu⟩ := h
 rcases Maps.fit_look true K ht hz hb F hkey with ⟨hrun, _, hat⟩ | ⟨e0, y, _, _, hrun, hRv, hat, _⟩
 · refine .inr ⟨hrun, fun hmu => ?_⟩
   obtain ⟨x, hx, hxk⟩ := hu key kl hmu hkey
   have h1 := hat (.held z)
   have h2 := hat .nil
   rw [← hD] at h1 h2
   unfold DataW.atKey at h1 h2
   simp only at h1 h2
   cases hf : l.find? (fun p => p.1.sameKey kl) with
   | none => exact absurd hf (by rw [List.find?_eq_none]; intro h; exact h x hx (by rw [hxk]; exact WideAt.sameKey_self (K.key hkey)))
   | some p => rw [hf] at h1 h2; rw [h1] at h2; cases h2
 · refine .inl ⟨e0.val, hrun, ?_⟩
   have hy : y.1 = .held e0.val := by rw [← Option.some.inj hRv]
   have h1 := hat .nil
   rw [← hD, hy] at h1
   unfold DataW.atKey at h1
   simp only at h1
   cases hf : l.find? (fun p => p.1.sameKey kl) with
   | none => rw [hf] at h1; cases h1
   | some p =>
     rw [hf] at h1
     have hp := List.mem_of_find?_eq_some hf
     have hs := List.find?_some hf
     obtain ⟨key', v', g1, g2, g3⟩ := hl p hp
     have e1 : p.1 = kl := WideAt.sameKey_eq (by simpa using hs)
     rw [e1] at g1
     have e2 : key' = key := K.inj g1 hkey
     have e3 : v' = e0.val := by
      have := g2.symm.trans h1
      cases this; rfl
     refine ⟨by rw [← e2, ← e3]; exact g3, l, ⟨es, clock, hb, F, hn, hD⟩, hl, fun key2 kl2 hm2 hk2 => ?_⟩
     rcases hm2 with hm2 | rfl
     · exact hu key2 kl2 hm2 hk2
     · exact ⟨p, hp, by rw [hkey] at hk2; rw [e1]; exact Option.some.inj hk2⟩
def Finite (k : TypeId) (good : Value → Value → Prop) : Prop := ∃ L : List Lit, L.length < 1000000000 ∧ ∀ key v kl, good key v → keyOf Try.prog k key = some kl → kl ∈ L
theorem mem_ins_self (y : Lit × DataW Value) : ∀ l : List (Lit × DataW Value), y ∈ DataW.insert y l
 | [] => by simp [DataW.insert]
 | z :: l => by
   unfold DataW.insert
   split
   · simp
   · exact List.mem_cons_of_mem _ (mem_ins_self y l)
theorem mem_ins_old (x y : Lit × DataW Value) : ∀ l : List (Lit × DataW Value), x ∈ l → x ∈ DataW.insert y l
 | [], h => by cases h
 | z :: l, h => by
   unfold DataW.insert
   split
   · exact List.mem_cons_of_mem _ h
   · rcases List.mem_cons.1 h with rfl | h
     · simp
     · exact List.mem_cons_of_mem _ (mem_ins_old x y l h)
theorem KMap.put {k t e : TypeId} {b : Nat} {good : Value → Value → Prop} {must : Value → Prop} {w : World} (h : KMap k b good must w) (K : Keyed Try.prog k) (ht : Try.prog.underlying t = some (.map k e)) (hfin : Finite k good) {key val : Value} {kl : Lit} (hkey : keyOf Try.prog k key = some kl) (hg : good key val) :
 ∃ w', (Instr.mapUpdate t (.map (some b)) key val).run Try.prog w = .ok () w' ∧ KMap k b good (fun x => must x ∨ x = key) w' ∧ w.grownBy w' (some b) := by
 obtain ⟨l, h, hl, hu⟩ := h
 obtain ⟨L, hL, hLm⟩ := hfin
 have hlen : l.length ≤ L.length := by
  obtain ⟨es, he, hp⟩ := h.tidy K
  have hle := DataW.map.inj he
  subst hle
  have := List.Nodup.length_le_of_subset (l₁ := l.map Prod.fst) (l₂ := L) (by rw [List.nodup_iff_pairwise_ne, List.pairwise_map]; exact hp) (fun x hx => by
   obtain ⟨q, hq, rfl⟩ := List.mem_map.1 hx
   obtain ⟨key', v', g1, _, g3⟩ := hl q hq
   exact hLm key' v' _ g3 g1)
  simpa using this
 obtain ⟨w', hrun, hown, hgr⟩ := h.update K ht (by unfold maxLen; omega) (d := .held val) (ps := []) hkey rfl
 refine ⟨w', hrun, ?_, hgr⟩
 have e1 : (DataW.map l).put kl (.held val) = .map (DataW.insert (kl, .held val) (l.filter fun p => !p.1.sameKey kl)) := rfl
 rw [e1] at hown
 refine ⟨_, tight hown, fun x hx => ?_, fun key2 kl2 hm2 hk2 => ?_⟩
 · rcases mem_insert _ _ _ hx with rfl | hx
   · exact ⟨key, val, hkey, rfl, hg⟩
   · exact hl x (List.mem_filter.1 hx).1
 · rcases hm2 with hm2 | rfl
   · obtain ⟨x, hx, hxk⟩ := hu key2 kl2 hm2 hk2
     by_cases hs : x.1.sameKey kl = true
     · exact ⟨_, mem_ins_self _ _, by rw [← hxk]; exact (WideAt.sameKey_eq hs).symm⟩
     · exact ⟨x, mem_ins_old _ _ _ (List.mem_filter.2 ⟨hx, by simpa using hs⟩), hxk⟩
   · exact ⟨_, mem_ins_self _ _, by rw [hkey] at hk2; exact Option.some.inj hk2⟩
theorem KMap.del {k t e : TypeId} {b : Nat} {good : Value → Value → Prop} {must : Value → Prop} {w : World} (h : KMap k b good must w) (K : Keyed Try.prog k) (ht : Try.prog.underlying t = some (.map k e)) (ty : TypeId) {key : Value} {kl : Lit} (hkey : keyOf Try.prog k key = some kl) (hno : ∀ key2, must key2 → keyOf Try.prog k key2 ≠ some kl) :
 ∃ w', (Builtin.delete_ #[t, k] ty #[.map (some b), key]).run Try.prog w = .ok (.tuple #[]) w' ∧ KMap k b good must w' ∧ w.grownBy w' (some b) := by
 obtain ⟨l, h, hl, hu⟩ := h
 obtain ⟨w', hrun, hown, hgr⟩ := h.drop K ht hkey ty
 refine ⟨w', hrun, ?_, hgr.grown⟩
 have e1 : (DataW.map l).del kl = .map (l.filter fun p => !p.1.sameKey kl) := rfl
 rw [e1] at hown
 refine ⟨_, tight hown, fun x hx => hl x (List.mem_filter.1 hx).1, fun key2 kl2 hm2 hk2 => ?_⟩
 obtain ⟨x, hx, hxk⟩ := hu key2 kl2 hm2 hk2
 refine ⟨x, List.mem_filter.2 ⟨hx, ?_⟩, hxk⟩
 cases hs : x.1.sameKey kl with
 | false => rfl
 | true => exact absurd (by rw [hk2, ← hxk, WideAt.sameKey_eq hs]) (hno key2 hm2)
/-- the same at all worlds whose map is the same -/
theorem KMap.look2 {k t e : TypeId} {b : Nat} {good : Value → Value → Prop} {must : Value → Prop} {w : World} (h : KMap k b good must w) (K : Keyed Try.prog k) (ht : Try.prog.underlying t = some (.map k e)) {z : Value} (hz : ∀ w', (zeroValue e).run Try.prog w' = .ok z w') {key : Value} {kl : Lit} (hkey : keyOf Try.prog k key = some kl) :
 (∃ v, (good key v ∧ KMap k b good (fun x => must x ∨ x = key) w) ∧ ∀ w' : World, w'.heap[b]? = w.heap[b]? → (Instr.lookup t (.map (some b)) key true).run Try.prog w' = .ok (.tuple #[v, .bool true]) w') ∨ (¬ must key ∧ ∀ w' : World, w'.heap[b]? = w.heap[b]? → (Instr.lookup t (.map (some b)) key true).run Try.prog w' = .ok (.tuple #[z, .bool false]) w') := by
 obtain ⟨l, ⟨es, clock, hb, F, hn, hD⟩, hl⟩ := h
 by_cases hin : ∃ x, x ∈ es.toList ∧ x.key = key
 · left
   have hm : KMap k b good must w := ⟨l, ⟨es, clock, hb, F, hn, hD⟩, hl⟩
   rcases hm.look K ht (hz w) hkey with ⟨v, hrun, hg⟩ | ⟨hno, _⟩
   · refine ⟨v, hg, fun w' hw => ?_⟩
     rcases Maps.fit_look true K ht (hz w') (hw.trans hb) F hkey with ⟨_, hne, _⟩ | ⟨e1, y1, _, _, hrun1, hR1, hat1, _⟩
     · obtain ⟨x, hx, hxk⟩ := hin
       exact absurd hxk (hne x hx)
     · rcases Maps.fit_look true K ht (hz w) hb F hkey with ⟨_, hne, _⟩ | ⟨e2, y2, _, _, hrun2, hR2, hat2, _⟩
       · obtain ⟨x, hx, hxk⟩ := hin
         exact absurd hxk (hne x hx)
       · have e3 : y1.1 = y2.1 := (hat1 .nil).symm.trans (hat2 .nil)
         rw [← Option.some.inj hR1, ← Option.some.inj hR2] at e3
         have e4 : e1.val = e2.val := DataW.held.inj e3
         rw [hrun] at hrun2
         have e5 : v = e2.val := by
          have e6 := Result.ok.inj hrun2
          have e7 := Value.tuple.inj e6.1
          have e8 := congrArg (fun a => a[0]?) e7
          exact Option.some.inj e8
         rw [e5, ← e4]
         exact hrun1
   · rcases Maps.fit_look true K ht (hz w) hb F hkey with ⟨_, hne, _⟩ | ⟨e2, y2, _, _, hrun2, _⟩
     · obtain ⟨x, hx, hxk⟩ := hin
       exact absurd hxk (hne x hx)
     · rw [hno] at hrun2
       injection hrun2 with e6
       simp at e6
 · right
   refine ⟨?_, fun w' hw => ?_⟩
   · have hm : KMap k b good must w := ⟨l, ⟨es, clock, hb, F, hn, hD⟩, hl⟩
     rcases hm.look K ht (hz w) hkey with ⟨v, hrun, _⟩ | ⟨_, hno⟩
     · rcases Maps.fit_look true K ht (hz w) hb F hkey with ⟨hrun2, _, _⟩ | ⟨e1, y1, h1, h2, _⟩
       · rw [hrun] at hrun2; injection hrun2 with e6; simp at e6
       · exact absurd ⟨e1, h1, h2⟩ hin
     · exact hno
   rcases Maps.fit_look true K ht (hz w') (hw.trans hb) F hkey with ⟨hrun, _, _⟩ | ⟨e1, y1, h1, h2, _⟩
   · exact hrun
   · exact absurd ⟨e1, h1, h2⟩ hin
/-! a world whose map has turned, and that has grown -/
structure Gm where
 objs : Array Obj
 drawn : Nat
 o : Obj
def _root_.Go.World.gro (w : World) (M : Nat) (g : Gm) : World := { w with heap := w.heap.setIfInBounds M g.o ++ g.objs, drawn := g.drawn }
@[go_sem] theorem size_gro (w : World) (M : Nat) (g : Gm) : (w.gro M g).heap.size = w.heap.size + g.objs.size := by simp [World.gro]
theorem heap_gro (w : World) (M : Nat) (g : Gm) (n : Nat) (h : n < w.heap.size) (hne : n ≠ M) : (w.gro M g).heap[n]? = w.heap[n]? := by
 unfold World.gro
 simp only
 rw [Array.getElem?_append_left (by simpa using h), Array.getElem?_setIfInBounds_ne (Ne.symm hne)]
@[go_sem] theorem cell_gro (w : World) (M : Nat) (g : Gm) (n i : Nat) (h : n < w.heap.size) (hne : n ≠ M) : (w.gro M g).cell? ⟨n, i, none⟩ = w.cell? ⟨n, i, none⟩ := by
 simp [World.cell?, heap_gro w M g n h hne]
@[go_sem] theorem frozen_gro (w : World) (M : Nat) (g : Gm) (n i : Nat) (h : n < w.heap.size) (hne : n ≠ M) : (w.gro M g).frozen? ⟨n, i, none⟩ = w.frozen? ⟨n, i, none⟩ := by
 simp [World.frozen?, heap_gro w M g n h hne]
theorem gro_grown (w : World) (M : Nat) (g : Gm) : w.grownBy (w.gro M g) (some M) := ⟨rfl, rfl, rfl, by simp [size_gro], fun k h hne => heap_gro w M g k h (fun e => hne (by rw [e]))⟩
theorem grown_gro {w w' : World} {M : Nat} (h : w.grownBy w' (some M)) (hM : M < w.heap.size) : ∃ g, w' = w.gro M g := by
 have hs := h.size
 refine ⟨⟨w'.heap.extract w.heap.size w'.heap.size, w'.drawn, w'.heap[M]'(by omega)⟩, ?_⟩
 obtain ⟨heap, tape, drawn, os, output⟩ := w
 obtain ⟨heap', tape', drawn', os', output'⟩ := w'
 obtain ⟨h1, h2, h3, h4, h5⟩ := h
 simp only at h1 h2 h3 h4 h5 hM
 subst h1 h2 h3
 simp only [World.gro, World.mk.injEq, and_true, true_and]
 apply Array.ext_getElem?
 intro i
 by_cases hi : i < heap.size
 · rw [Array.getElem?_append_left (by simpa using hi)]
   by_cases he : i = M
   · subst he
     rw [Array.getElem?_setIfInBounds_self_of_lt hi, Array.getElem?_eq_getElem (by omega)]
   · rw [Array.getElem?_setIfInBounds_ne (Ne.symm he), h5 i hi (fun e => he (Option.some.inj e))]
 · rw [Array.getElem?_append_right (by simp; omega)]
   simp only [Array.getElem?_extract, Array.size_setIfInBounds, Nat.min_self]
   split
   · congr 1; omega
   · rw [Array.getElem?_eq_none (by omega)]
theorem grown_trans {a b c : World} {M : Nat} (h : a.grownBy b (some M)) (k : b.grownBy c (some M)) : a.grownBy c (some M) :=
 ⟨k.1.trans h.1, k.2.trans h.2, k.3.trans h.3, Nat.le_trans h.size k.size, fun i hi hne => (k.block i (Nat.lt_of_lt_of_le hi h.size) hne).trans (h.block i hi hne)⟩
/-- growths that keep a word -/
def Gk (w : World) (M : Nat) (K : World → Prop) : Type := { g : Gm // K (w.gro M g) }
theorem Gk.ok {w : World} {M : Nat} {K : World → Prop} (g : Gk w M K) : K (w.gro M g.1) := g.2
theorem gk_mk {w w' : World} {M : Nat} {K : World → Prop} (h : w.grownBy w' (some M)) (hM : M < w.heap.size) (hK : K w') : ∃ g : Gk w M K, w' = w.gro M g.1 := by
 obtain ⟨g, rfl⟩ := grown_gro h hM
 exact ⟨⟨g, hK⟩, rfl⟩
/-- what a call comes to that hands back v, turns the map M, and keeps a word -/
def GivesM (w : World) (M : Nat) (K : World → Prop) (v : Value) (e : Ending) (w' : World) : Prop := e = .returned v ∧ w.grownBy w' (some M) ∧ K w'
theorem GivesM.quiet {P : Program} {f : FuncId} {args : Array Value} {w : World} {M : Nat} {K : World → Prop} (hM : M < w.heap.size) {g : Gk w M K} {v : Value} (h : Calls P f args (w.gro M g.1) (GivesM (w.gro M g.1) M K v)) :
 Calls P f args (w.gro M g.1) fun e w' => e = .returned v ∧ ∃ g' : Gk w M K, w' = w.gro M g'.1 := h.mono fun e w'' hh => by
 obtain ⟨he, hg, hk⟩ := hh
 exact ⟨he, gk_mk (grown_trans (gro_grown _ _ _) hg) hM hk⟩
theorem finite_of {k : TypeId} {good : Value → Value → Prop} (L : List Value) (hL : L.length < 1000000000) (h : ∀ key v, good key v → key ∈ L) : Finite k good :=
 ⟨L.filterMap (keyOf Try.prog k), Nat.lt_of_le_of_lt (List.length_filterMap_le _ _) hL, fun key v kl hg hk => List.mem_filterMap.2 ⟨key, h key v hg, hk⟩⟩
end Go.Proofs.Ytgjfejpibielaaa
namespace Go.Proofs.Ytgjfejpibielaaa
open Go.RowKit Go.Maps Go.Shelf
attribute [local go_sem] Oper.semAt_some
theorem start_any (w : World) : Calls Try.prog 62 #[] w (Gives w (stV 0 (-1) 0)) := by
 go_enter Try.func62, Try.ntmps62
 go_wp2
 have k0 := obj_at (heap_alloc_new w (.cells #[.int .i64 0, .int .i64 (-1), .int .i64 0] 91)) 0 _ rfl
 have k1 := obj_at (heap_alloc_new w (.cells #[.int .i64 0, .int .i64 (-1), .int .i64 0] 91)) 1 _ rfl
 have k2 := obj_at (heap_alloc_new w (.cells #[.int .i64 0, .int .i64 (-1), .int .i64 0] 91)) 2 _ rfl
 refine bodyPost_ret (v := .agg #[.int .i64 0, .int .i64 (-1), .int .i64 0]) (by simp [results, Try.results62, go_sem, k0, k1, k2]) rfl (gives_of rfl (by (repeat (first | exact Below.refl _ _ | assumption | refine below_drewN ?_ _ | refine below_drew ?_ | refine below_gr ?_ ?_ _ | refine below_alloc ?_ ?_ _ | refine Below.setCell ?_ ?_ _ | refine below_step ?_ (by assumption) ?_ | omega | (simp only [zz] at *; omega)))))
/-- what lies before, but for a map, and two blocks, stay -/
structure Kq (n M B1 B2 : Nat) (X Y : World) : Prop where
 old : ∀ b, b < n → b ≠ M → Y.heap[b]? = X.heap[b]?
 o1 : Y.heap[B1]? = X.heap[B1]?
 o2 : Y.heap[B2]? = X.heap[B2]?
 sz : X.heap.size ≤ Y.heap.size
theorem Kq.refl (n M B1 B2 : Nat) (X : World) : Kq n M B1 B2 X X := ⟨fun _ _ _ => rfl, rfl, rfl, Nat.le_refl _⟩
theorem Kq.trans {n M B1 B2 : Nat} {X Y Z : World} (h : Kq n M B1 B2 X Y) (k : Kq n M B1 B2 Y Z) : Kq n M B1 B2 X Z := ⟨fun b hb hm => (k.old b hb hm).trans (h.old b hb hm), k.o1.trans h.o1, k.o2.trans h.o2, Nat.le_trans h.sz k.sz⟩
theorem Kq.below {n M B1 B2 m : Nat} {X Y : World} (h : Below m X Y) (hn : n ≤ m) (h1 : B1 < m) (h2 : B2 < m) : Kq n M B1 B2 X Y := ⟨fun b hb _ => h.block b (by omega), h.block B1 h1, h.block B2 h2, h.size⟩
theorem kq_put {w : World} {n M B1 B2 : Nat} (h0 : n ≤ w.heap.size) (h1 : B1 < w.heap.size) (h2 : B2 < w.heap.size) (W : World) (l : Nat) (o o' : Obj) (hl : w.heap.size ≤ l) (_ : W.heap[l]? = some o) (_ : o.isCells = false) (_ : o.isWalk = false) : Kq n M B1 B2 W (W.putObj l o') :=
 ⟨fun b hb _ => World.putObj_heap_other (by omega), World.putObj_heap_other (by omega), World.putObj_heap_other (by omega), by simp⟩
theorem Kq.grown {n M B1 B2 : Nat} {X Y : World} (h : X.grownBy Y (some M)) (hn : n ≤ X.heap.size) (h1 : B1 < X.heap.size) (h2 : B2 < X.heap.size) (e1 : B1 ≠ M) (e2 : B2 ≠ M) : Kq n M B1 B2 X Y :=
 ⟨fun b hb hm => h.block b (by omega) (fun e => hm (Option.some.inj e)), h.block B1 h1 (fun e => e1 (Option.some.inj e)), h.block B2 h2 (fun e => e2 (Option.some.inj e)), h.size⟩
theorem old_lt {X Y : World} {b : Nat} (h : b < X.heap.size) (k : Y.heap[b]? = X.heap[b]?) : b < Y.heap.size := by
 rw [Array.getElem?_eq_getElem h] at k
 exact (Array.getElem?_eq_some_iff.1 k).1
/-- the map lies apart from the machine, its keys and its sets -/
def NeM (B M : Nat) (A S : Option Addr) : Prop := B ≠ M ∧ (∀ b o, A = some ⟨b, o, none⟩ → b ≠ M) ∧ ∀ b o, S = some ⟨b, o, none⟩ → b ≠ M
theorem I64.old {X Y : World} {A : Option Addr} {xs : List Int} {M : Nat} (h : I64 X A xs) (hA : ∀ b o, A = some ⟨b, o, none⟩ → b ≠ M) (k : ∀ b, b < X.heap.size → b ≠ M → Y.heap[b]? = X.heap[b]?) : I64 Y A xs := fun i p hk => by
 obtain ⟨b, off, h0, h1, h2, h3⟩ := h i p hk
 have hb := k b h1 (hA b off h0)
 have := old_lt h1 hb
 exact ⟨b, off, h0, this, by omega, (World.cell?_of_block (a := ⟨b, off + i, none⟩) hb).trans h3⟩
theorem MachAt.old {X Y : World} {B M : Nat} {L rest : Nat} {A : Option Addr} {K : List Nat} {c : Nat} {S : Option Addr} {T : List Nat} {d : Nat} (h : MachAt X B M L rest A K c S T d) (hn : NeM B M A S) (k : ∀ b, b < X.heap.size → b ≠ M → Y.heap[b]? = X.heap[b]?) : MachAt Y B M L rest A K c S T d :=
 ⟨(k B (obj_lt h.1) hn.1).trans h.1, h.2.1.old hn.2.1 k, h.2.2.old hn.2.2 k⟩
theorem MachAt.grown {X Y : World} {B M : Nat} {L rest : Nat} {A : Option Addr} {K : List Nat} {c : Nat} {S : Option Addr} {T : List Nat} {d : Nat} (h : MachAt X B M L rest A K c S T d) (hn : NeM B M A S) (hg : X.grownBy Y (some M)) : MachAt Y B M L rest A K c S T d :=
 h.old hn (fun b hb hm => hg.block b hb (fun e => hm (Option.some.inj e)))
theorem steps_in (w : World) (p : Option Addr) (pl : Nat) (la : Int) (s : Nat) : Calls Try.prog 82 #[.pointer p, stV pl la s] w fun e w' => e = .returned (.func (.func 94) #[] #[.pointer (some ⟨w.heap.size, 0, none⟩), .pointer (some ⟨w.heap.size + 1, 0, none⟩)]) ∧ w' = (w.alloc (.cells #[.pointer p] 83)).alloc (.cells (stC pl la s) 91) := by
 unfold stV stC
 go_enter Try.func82, Try.ntmps82
 go_wp2
 go_ret
 exact ⟨rfl, rfl⟩
/-- the letters that can come -/
def letters (L : Nat) (t : Nat) (la : Int) : List Nat := (List.range L).filter fun (c : Nat) => decide ((c : Int) ≠ la) && t.testBit c
/-- a letter, and the state behind it -/
def encS (L k pl s x : Nat) : Array Value := #[.int .i64 ((x % L : Nat) : Int), stV (pl + 1) ((x % L : Nat) : Int) ((s + k * (x % L)) % L)]
end Go.Proofs.Ytgjfejpibielaaa
namespace Go.Proofs.Ytgjfejpibielaaa
open Go.RowKit Go.Maps Go.Shelf
attribute [local go_sem] Oper.semAt_some
def lettersK (t : Nat) (la : Int) (k : Nat) : List Nat := (List.range k).filter fun (c : Nat) => decide ((c : Int) ≠ la) && t.testBit c
theorem lettersK_yes {t : Nat} {la : Int} {k : Nat} (h : (decide ((k : Int) ≠ la) && t.testBit k) = true) : lettersK t la (k + 1) = lettersK t la k ++ [k] := by
 unfold lettersK; rw [List.range_succ, List.filter_append]; simp only [List.filter_cons, h, if_true, List.filter_nil]
theorem lettersK_no {t : Nat} {la : Int} {k : Nat} (h : (decide ((k : Int) ≠ la) && t.testBit k) = false) : lettersK t la (k + 1) = lettersK t la k := by
 unfold lettersK; rw [List.range_succ, List.filter_append]; simp only [List.filter_cons, h, List.filter_nil]; simp
theorem lettersK_pre (t : Nat) (la : Int) {k L : Nat} (h : k ≤ L) : lettersK t la k <+: letters L t la := by
 obtain ⟨d, rfl⟩ : ∃ d, L = k + d := ⟨L - k, by omega⟩
 unfold lettersK letters
 rw [List.range_add, List.filter_append]
 exact List.prefix_append _ _
theorem lettersK_len (t : Nat) (la : Int) (k : Nat) : (lettersK t la k).length ≤ k := by
 unfold lettersK
 have := List.length_filter_le (fun (c : Nat) => decide ((c : Int) ≠ la) && t.testBit c) (List.range k)
 rwa [List.length_range] at this
set_option maxRecDepth 100000 in
set_option maxHeartbeats 2000000 in
theorem steps1_in (n : Nat) (hn : 1 ≤ n) (Bm Bs : Nat) (B M : Nat) (L rest : Nat) (A : Option Addr) (K : List Nat) (c : Nat) (S : Option Addr) (T : List Nat) (d : Nat) (p : Nat) (la : Int) (s : Nat) (l : Nat) (base : World) (hm : MachAt base B M L rest A K c S T d) (hok : OkM L rest K T) (hne : NeM B M A S) (hp : p < K.length) (hla : -1 ≤ la ∧ la ≤ 5) (hs : s < L) (htp : p < T.length) (B0 : Nat) (J Jx : List Nat → World → Prop) (hJ : AbidesFrom B0 J)
 (hY : ∀ pre x Wr, J pre Wr → pre.length < L → YieldAt Fence.wide (n - 1) Try.prog l (encS L K[p] p s x) Wr fun e W' =>
  (e = .returned (.bool true) ∧ J (pre ++ [x]) W' ∧ Kq base.heap.size M Bm Bs Wr W') ∨ (e = .returned (.bool false) ∧ Jx (pre ++ [x]) W'))
 (Wl : World) (hK : ∀ b, b < base.heap.size → b ≠ M → Wl.heap[b]? = base.heap[b]?) (hBm : BlkAt Wl Bm #[.pointer (some ⟨B, 0, none⟩)] 83) (hBs : BlkAt Wl Bs (stC p la s) 91) (hnl : base.heap.size ≤ Wl.heap.size) (h0 : J [] Wl) :
 CallsIn Fence.wide n Try.prog 94 #[.func (.yield l) #[] #[], .pointer (some ⟨Bm, 0, none⟩), .pointer (some ⟨Bs, 0, none⟩)] Wl fun e W' => (∃ v, e = .returned v) ∧
  ((∃ ys, ys = letters L T[p] la ∧ J ys W') ∨ (∃ pre, pre <+: letters L T[p] la ∧ Jx pre W')) := by
 have HNX := hide (fun (w' : World) (c' : Nat) (h : MachAt w' B M L rest A K c S T d) (hc : c' < L) => next_any B M L rest A K c S T d p la s c' w' h hok hp hla hs hc htp)
 have hL2 := hok.1
 have hL6 := hok.2.1
 have hBl := obj_lt hm.1
 have hml := hm.old hne hK
 have hmb := hml.1
 have hmc := obj_at hmb 0 _ rfl
 have hm0 := obj_at hBm 0 _ rfl
 have HLE := hide (lettersK_pre T[p] la (Nat.le_refl L))
 generalize K[p] = kp at *
 generalize T[p] = tp at *
 refine callsIn_of_wp Try.func94 rfl trivial ?_ rfl
 simp only [Try.ntmps94, List.size_toArray, List.length_cons, List.length_nil, Nat.reduceAdd, Nat.reduceSub, Array.replicate_succ, Array.replicate_zero, List.push_toArray, List.append_toArray, List.nil_append, List.cons_append]
 gi_wp2
 gi_loopw [12] (fun q wr => ∃ k : Nat, k ≤ L ∧ q = .int .i64 (k : Nat) ∧ J (lettersK tp la k) wr ∧ Kq base.heap.size M Bm Bs Wl wr) (fun q _ => L - (intOf q).toNat)
 case atStart => exact ⟨0, Nat.zero_le _, rfl, h0, Kq.refl _ _ _ _ _⟩
 case round =>
  obtain ⟨k, hk, rfl, hJa, hb⟩ := hrel
  have hko : ∀ b, b < base.heap.size → b ≠ M → wr.heap[b]? = base.heap[b]? := fun b h h2 => (hb.old b h h2).trans (hK b h h2)
  have hmr := hm.old hne hko
  have hBmr : BlkAt wr Bm #[.pointer (some ⟨B, 0, none⟩)] 83 := hb.o1.trans hBm
  have hBsr : BlkAt wr Bs (stC p la s) 91 := hb.o2.trans hBs
  have hbl1 := obj_lt hBmr
  have hbl2 := obj_lt hBsr
  by_cases hlt : k < L
  · have hki : (k : Int) < (L : Int) := by omega
    have hw9 : IntKind.i64.wrap ((k : Int) + 1) = (k : Int) + 1 := by rw [IntKind.wrap_i64]; omega
    have c0 := obj_at hBmr 0 _ rfl
    have d0 := obj_at hBsr 0 _ rfl
    have d1 := obj_at hBsr 1 _ rfl
    have d2 := obj_at hBsr 2 _ rfl
    have hlen : (lettersK tp la k).length < L := Nat.lt_of_le_of_lt (lettersK_len _ _ _) hlt
    have hpre := lettersK_pre tp la (show k + 1 ≤ L by omega)
    have HNK0 := HNX.out wr k hmr hlt
    have hve : encS L kp p s k = #[.int .i64 (k : Nat), .agg #[.int .i64 ((p : Int) + 1), .int .i64 (k : Nat), .int .i64 (((s + kp * k) % L : Nat) : Int)]] := by unfold encS stV stC; rw [Nat.mod_eq_of_lt hlt]; rfl
    unfold stV stC at HNK0
    rw [show ((p + 1 : Nat) : Int) = (p : Int) + 1 by omega] at HNK0
    obtain ⟨v, hv⟩ : ∃ v, (s + kp * k) % L = v := ⟨_, rfl⟩
    rw [hv] at HNK0 hve
    have HNK := hide HNK0
    have HVE := hide hve
    clear hv hve HNK0
    cases hyes : (decide ((k : Int) ≠ la) && tp.testBit k) with
    | true =>
      rw [hyes] at HNK
      have hst := lettersK_yes hyes
      clear hyes
      gi_wp2_with (refine ⟨trivial, ?_⟩; gi_at_call 63; refine (callsIn_wide.2 HNK.out).mono ?_; rintro e w2 ⟨rfl, hb2⟩; replace hb2 := ex_below hb2; have hz2 := hb2.size)
      have hJ2 := hJ _ wr (w2.alloc (.cells #[.int .i64 ((p : Int) + 1), .int .i64 (k : Nat), .int .i64 (v : Nat)] 91)) none hJa (below_grown (by (repeat (first | exact Below.refl _ _ | assumption | refine below_drewN ?_ _ | refine below_drew ?_ | refine below_gr ?_ ?_ _ | refine below_alloc ?_ ?_ _ | refine Below.setCell ?_ ?_ _ | refine below_step ?_ (by assumption) ?_ | omega | (simp only [zz] at *; omega))))) (fun _ h => by cases h)
      have hnr : base.heap.size ≤ wr.heap.size := Nat.le_trans hnl hb.sz
      have hk2 : Kq base.heap.size M Bm Bs wr (w2.alloc (.cells #[.int .i64 ((p : Int) + 1), .int .i64 (k : Nat), .int .i64 (v : Nat)] 91)) := Kq.below (m := wr.heap.size) (by (repeat (first | exact Below.refl _ _ | assumption | refine below_drewN ?_ _ | refine below_drew ?_ | refine below_gr ?_ ?_ _ | refine below_alloc ?_ ?_ _ | refine Below.setCell ?_ ?_ _ | refine below_step ?_ (by assumption) ?_ | omega | (simp only [zz] at *; omega)))) hnr hbl1 hbl2
      obtain ⟨fn, tmps, assign, body, hy, hRR⟩ := hY _ k _ hJ2 hlen
      rw [HVE.out] at hy
      gi_wp2
      rw [hy]
      gi_wp2
      refine hRR.mono ?_
      rintro e W3 (⟨rfl, hJ4, hk3⟩ | ⟨rfl, hJx3⟩)
      · gi_wp2
        go_roundw
        case measure => simp [intOf]; try omega
        exact ⟨k + 1, by omega, by go_num, by rw [hst]; exact hJ4, (hb.trans hk2).trans hk3⟩
      · gi_wp2
        refine bodyPost_ret (results_none rfl _ _ _) rfl ?_
        exact ⟨⟨_, rfl⟩, .inr ⟨_, hpre, by rw [hst]; exact hJx3⟩⟩
    | false =>
      rw [hyes] at HNK
      have hst := lettersK_no hyes
      clear hyes
      gi_wp2_with (refine ⟨trivial, ?_⟩; gi_at_call 63; refine (callsIn_wide.2 HNK.out).mono ?_; rintro e w2 ⟨rfl, hb2⟩; replace hb2 := ex_below hb2; have hz2 := hb2.size)
      have hJ2 := hJ _ wr (w2.alloc (.cells #[.int .i64 ((p : Int) + 1), .int .i64 (k : Nat), .int .i64 (v : Nat)] 91)) none hJa (below_grown (by (repeat (first | exact Below.refl _ _ | assumption | refine below_drewN ?_ _ | refine below_drew ?_ | refine below_gr ?_ ?_ _ | refine below_alloc ?_ ?_ _ | refine Below.setCell ?_ ?_ _ | refine below_step ?_ (by assumption) ?_ | omega | (simp only [zz] at *; omega))))) (fun _ h => by cases h)
      have hnr : base.heap.size ≤ wr.heap.size := Nat.le_trans hnl hb.sz
      have hk2 : Kq base.heap.size M Bm Bs wr (w2.alloc (.cells #[.int .i64 ((p : Int) + 1), .int .i64 (k : Nat), .int .i64 (v : Nat)] 91)) := Kq.below (m := wr.heap.size) (by (repeat (first | exact Below.refl _ _ | assumption | refine below_drewN ?_ _ | refine below_drew ?_ | refine below_gr ?_ ?_ _ | refine below_alloc ?_ ?_ _ | refine Below.setCell ?_ ?_ _ | refine below_step ?_ (by assumption) ?_ | omega | (simp only [zz] at *; omega)))) hnr hbl1 hbl2
      gi_wp2_with (refine ⟨fun _ h => (by cases h), ?_⟩)
      go_roundw
      case measure => simp [intOf]; try omega
      exact ⟨k + 1, by omega, by go_num, by rw [hst]; exact hJ2, hb.trans hk2⟩
  · have hkL : k = L := by omega
    gi_wp2
    go_end0
    refine ⟨⟨_, rfl⟩, .inl ⟨_, ?_, hJa⟩⟩
    rw [hkL]; rfl
theorem steps_stops (n : Nat) (hn : 1 ≤ n) (Bm Bs : Nat) (B M : Nat) (L rest : Nat) (A : Option Addr) (K : List Nat) (c : Nat) (S : Option Addr) (T : List Nat) (d : Nat) (p : Nat) (la : Int) (s : Nat) (base : World) (hm : MachAt base B M L rest A K c S T d) (hok : OkM L rest K T) (hne : NeM B M A S) (hp : p < K.length) (hla : -1 ≤ la ∧ la ≤ 5) (hs : s < L) (htp : p < T.length) (w : World) (h1 : BlkAt w Bm #[.pointer (some ⟨B, 0, none⟩)] 83) (h2 : BlkAt w Bs (stC p la s) 91) (h3 : base.heap.size ≤ w.heap.size) (hK : ∀ b, b < base.heap.size → b ≠ M → w.heap[b]? = base.heap[b]?) :
 SeqStopsK Fence.wide n Try.prog 94 #[.pointer (some ⟨Bm, 0, none⟩), .pointer (some ⟨Bs, 0, none⟩)] (encS L K[p] p s) (Kq base.heap.size M Bm Bs) (fun ys => ys = letters L T[p] la) (fun pre => pre <+: letters L T[p] la) L w := fun l J Jx W' hW hJ _ hY h0 =>
 steps1_in n hn Bm Bs B M L rest A K c S T d p la s l base hm hok hne hp hla hs htp _ J Jx hJ hY W' (fun b hb hm2 => (hW.block b (by omega)).trans (hK b hb hm2)) (h1.ext hW) (h2.ext hW) (by have := hW.size; omega) h0
end Go.Proofs.Ytgjfejpibielaaa
namespace Go.Proofs.Ytgjfejpibielaaa
open Go.RowKit Go.Maps Go.Shelf
/-- an entry tells how many go on -/
def goodF (L rest : Nat) (K T : List Nat) (key v : Value) : Prop := ∃ (p : Nat) (la : Int) (s : Nat), p ≤ 8 ∧ (-1 ≤ la ∧ la ≤ 5) ∧ s ≤ 5 ∧ key = stV p la s ∧ v = .int .i64 (Tt.cnt L rest ((K.zip T).drop p) la s : Nat)
theorem stV_inj {p q : Nat} {la lb : Int} {s t : Nat} (h : stV p la s = stV q lb t) : p = q ∧ la = lb ∧ s = t := by
 unfold stV stC at h
 injection h with h
 simp at h
 omega
theorem keyS_of {p : Nat} {la : Int} {s : Nat} (hp : p ≤ 8) (hla : -1 ≤ la ∧ la ≤ 5) (hs : s ≤ 5) : ∃ kl, keyOf Try.prog 91 (stV p la s) = some kl :=
 keyS (wfI_small (by omega)) (wfI_int (by omega)) (wfI_small (by omega))
theorem finF (L rest : Nat) (K T : List Nat) : Finite 91 (goodF L rest K T) := by
 refine finite_of ((List.range 9).flatMap fun p => (List.range 7).flatMap fun (l : Nat) => (List.range 6).map fun s => stV p ((l : Int) - 1) s) (by decide +kernel) ?_
 rintro key v ⟨p, la, s, hp, hla, hs, rfl, rfl⟩
 refine List.mem_flatMap.2 ⟨p, List.mem_range.2 (by omega), List.mem_flatMap.2 ⟨(la + 1).toNat, List.mem_range.2 (by omega), List.mem_map.2 ⟨s, List.mem_range.2 (by omega), ?_⟩⟩⟩
 rw [show (((la + 1).toNat : Nat) : Int) - 1 = la by omega]
set_option maxRecDepth 100000 in
set_option maxHeartbeats 2000000 in
theorem from_end (B M : Nat) (L rest : Nat) (A : Option Addr) (K : List Nat) (c : Nat) (S : Option Addr) (T : List Nat) (d : Nat) (la : Int) (s : Nat) (w : World) (hm : MachAt w B M L rest A K c S T d) (hok : OkM L rest K T) :
 Calls Try.prog 83 #[.pointer (some ⟨B, 0, none⟩), stV K.length la s] w (Gives w (.int .i64 ((if s = rest then 1 else 0 : Nat) : Int))) := by
 unfold stV stC
 have hBl := obj_lt hm.1
 go_enter Try.func83, Try.ntmps83
 go_upto_region 1 with fail
 have hW : Below w.heap.size w ((w.alloc (.cells #[.pointer (some ⟨B, 0, none⟩)] 83)).alloc (.cells #[.int .i64 (K.length : Nat), .int .i64 la, .int .i64 (s : Nat)] 91)) := by (repeat (first | exact Below.refl _ _ | assumption | (refine below_gr ?_ (by (first | omega | (simp only [zz] at *; omega))) _) | (refine below_alloc ?_ (by (first | omega | (simp only [zz] at *; omega))) _) | (refine Below.setCell ?_ (by (first | omega | (simp only [zz] at *; omega))) _) | refine below_drewN ?_ _ | refine below_drew ?_ | (refine below_step ?_ (by assumption) (by (first | omega | (simp only [zz] at *; omega))))))
 have hX : BlkAt ((w.alloc (.cells #[.pointer (some ⟨B, 0, none⟩)] 83)).alloc (.cells #[.int .i64 (K.length : Nat), .int .i64 la, .int .i64 (s : Nat)] 91)) w.heap.size #[.pointer (some ⟨B, 0, none⟩)] 83 := heap_a _ _ _
 have hY : BlkAt ((w.alloc (.cells #[.pointer (some ⟨B, 0, none⟩)] 83)).alloc (.cells #[.int .i64 (K.length : Nat), .int .i64 la, .int .i64 (s : Nat)] 91)) (w.heap.size + 1) #[.int .i64 (K.length : Nat), .int .i64 la, .int .i64 (s : Nat)] 91 := heap_b _ _ _
 obtain ⟨wa, hwa⟩ : ∃ wa, ((w.alloc (.cells #[.pointer (some ⟨B, 0, none⟩)] 83)).alloc (.cells #[.int .i64 (K.length : Nat), .int .i64 la, .int .i64 (s : Nat)] 91)) = wa := ⟨_, rfl⟩
 rw [hwa] at hW hX hY ⊢
 clear hwa
 have hB := hm.1.ext hW
 (try clear hBc0 hBc1 hBc2 hBc3 hBc4 hBc5 hBf hBl)
 have hBc0 := obj_at hB 0 _ rfl
 have hBc1 := obj_at hB 1 _ rfl
 have hBc2 := obj_at hB 2 _ rfl
 have hBc3 := obj_at hB 3 _ rfl
 have hBc4 := obj_at hB 4 _ rfl
 have hBc5 := obj_at hB 5 _ rfl
 have hBf := obj_fz hB 0
 have hBl := obj_lt hB
 (try clear hXc0 hXf hXl)
 have hXc0 := obj_at hX 0 _ rfl
 have hXf := obj_fz hX 0
 have hXl := obj_lt hX
 (try clear hYc0 hYc1 hYc2 hYf hYl)
 have hYc0 := obj_at hY 0 _ rfl
 have hYc1 := obj_at hY 1 _ rfl
 have hYc2 := obj_at hY 2 _ rfl
 have hYf := obj_fz hY 0
 have hYl := obj_lt hY
 go_upto_region 1 with fail
 refine wp_region_grow (by kernel_rfl) (by kernel_rfl) ?_
 repeat (go_big_quiet_step (fail))
 refine wpQuiet_nil ?_
 intro w1 hb_w1
 replace hb_w1 := ex_below hb_w1
 replace hB := hB.ext hb_w1
 replace hX := hX.ext hb_w1
 replace hY := hY.ext hb_w1
 replace hW := below_step hW hb_w1 (by have := hW.size; omega)
 have sz_w1 := hb_w1.size
 clear hb_w1
 (try clear hBc0 hBc1 hBc2 hBc3 hBc4 hBc5 hBf hBl)
 have hBc0 := obj_at hB 0 _ rfl
 have hBc1 := obj_at hB 1 _ rfl
 have hBc2 := obj_at hB 2 _ rfl
 have hBc3 := obj_at hB 3 _ rfl
 have hBc4 := obj_at hB 4 _ rfl
 have hBc5 := obj_at hB 5 _ rfl
 have hBf := obj_fz hB 0
 have hBl := obj_lt hB
 (try clear hXc0 hXf hXl)
 have hXc0 := obj_at hX 0 _ rfl
 have hXf := obj_fz hX 0
 have hXl := obj_lt hX
 (try clear hYc0 hYc1 hYc2 hYf hYl)
 have hYc0 := obj_at hY 0 _ rfl
 have hYc1 := obj_at hY 1 _ rfl
 have hYc2 := obj_at hY 2 _ rfl
 have hYf := obj_fz hY 0
 have hYl := obj_lt hY
 go_upto_region 2 with fail
 refine wp_region_grow (by kernel_rfl) (by kernel_rfl) ?_
 repeat (go_big_quiet_step (fail))
 refine wpQuiet_nil ?_
 intro w2 hb_w2
 replace hb_w2 := ex_below hb_w2
 replace hB := hB.ext hb_w2
 replace hX := hX.ext hb_w2
 replace hY := hY.ext hb_w2
 replace hW := below_step hW hb_w2 (by have := hW.size; omega)
 have sz_w2 := hb_w2.size
 clear hb_w2
 (try clear hBc0 hBc1 hBc2 hBc3 hBc4 hBc5 hBf hBl)
 have hBc0 := obj_at hB 0 _ rfl
 have hBc1 := obj_at hB 1 _ rfl
 have hBc2 := obj_at hB 2 _ rfl
 have hBc3 := obj_at hB 3 _ rfl
 have hBc4 := obj_at hB 4 _ rfl
 have hBc5 := obj_at hB 5 _ rfl
 have hBf := obj_fz hB 0
 have hBl := obj_lt hB
 (try clear hXc0 hXf hXl)
 have hXc0 := obj_at hX 0 _ rfl
 have hXf := obj_fz hX 0
 have hXl := obj_lt hX
 (try clear hYc0 hYc1 hYc2 hYf hYl)
 have hYc0 := obj_at hY 0 _ rfl
 have hYc1 := obj_at hY 1 _ rfl
 have hYc2 := obj_at hY 2 _ rfl
 have hYf := obj_fz hY 0
 have hYl := obj_lt hY
 by_cases hsr : s = rest
 · subst hsr
   go_wp2
   go_ret
   exact gives_of (v_int (by simp)) hW
 · have hsi : ((s : Int) == (rest : Int)) = false := by simp; omega
   have hsj : ¬ ((s : Int) = (rest : Int)) := by omega
   go_wp2
   go_ret
   exact gives_of (v_int (by simp [hsr])) hW
end Go.Proofs.Ytgjfejpibielaaa
