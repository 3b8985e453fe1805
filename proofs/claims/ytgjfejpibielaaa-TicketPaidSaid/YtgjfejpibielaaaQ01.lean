/- Proved here: words and laws about worlds that only grow, a part of the proofs about the ticket laws. Conditions: those that each theorem names, no others. -/
import Derived.Test.YtgjfejpibielaaaProg
import Derived.WalkKit
import Derived.WalkSpells
import Derived.WalkLawsBesides
import Derived.Below
import Derived.Deep.QuietTactic
import Derived.BigQuiet
import Derived.Deep.Light
set_option linter.unusedSimpArgs false
set_option linter.unusedVariables false
namespace Go.Proofs.Ytgjfejpibielaaa
open Go.RowKit
/-- How much a world has grown: new blocks behind the old ones, and draws. -/
structure Gr where
 objs : Array Obj
 drawn : Nat
instance : Nonempty Gr := ⟨⟨#[], 0⟩⟩
def _root_.Go.World.grow (w : World) (g : Gr) : World := { w with heap := w.heap ++ g.objs, drawn := g.drawn }
@[go_sem] theorem size_grow (w : World) (g : Gr) : (w.grow g).heap.size = w.heap.size + g.objs.size := by simp [World.grow]
theorem heap_grow (w : World) (g : Gr) (n : Nat) (h : n < w.heap.size) : (w.grow g).heap[n]? = w.heap[n]? := by
 simp [World.grow, Array.getElem?_append, h]
@[go_sem] theorem cell_grow (w : World) (g : Gr) (n i : Nat) (h : n < w.heap.size) : (w.grow g).cell? ⟨n, i, none⟩ = w.cell? ⟨n, i, none⟩ := by
 simp [World.cell?, heap_grow w g n h]
@[go_sem] theorem frozen_grow (w : World) (g : Gr) (n i : Nat) (h : n < w.heap.size) : (w.grow g).frozen? ⟨n, i, none⟩ = w.frozen? ⟨n, i, none⟩ := by
 simp [World.frozen?, heap_grow w g n h]
theorem grow_below (w : World) (g : Gr) : Below w.heap.size w (w.grow g) := ⟨rfl, rfl, rfl, by simp [size_grow], fun k h => heap_grow w g k h⟩
theorem below_grow {w w' : World} (h : Below w.heap.size w w') : ∃ g, w' = w.grow g := by
 refine ⟨⟨w'.heap.extract w.heap.size w'.heap.size, w'.drawn⟩, ?_⟩
 obtain ⟨heap, tape, drawn, os, output⟩ := w
 obtain ⟨heap', tape', drawn', os', output'⟩ := w'
 obtain ⟨h1, h2, h3, h4, h5⟩ := h
 simp only at h1 h2 h3 h4 h5
 subst h1 h2 h3
 simp only [World.grow, World.mk.injEq, and_true, true_and]
 apply Array.ext_getElem?
 intro i
 by_cases hi : i < heap.size
 · rw [h5 i hi, Array.getElem?_append_left hi]
 · rw [Array.getElem?_append_right (by omega)]
   simp only [Array.getElem?_extract, Nat.min_self]
   split
   · congr 1; omega
   · rw [Array.getElem?_eq_none (by omega)]
theorem wp_region_grow {P : Program} {id : Nat} {Q : Exit → Act → World → Prop} {a : Act} {w : World} {l : List Oper} (hm : P.follows .mixedOrders = true) (hB : Region.lexB .any l.toArray = true)
 (h : wpQuiet P l.toArray (fun w' => ∃ g, w' = w.grow g) (fun a' => ∀ w', (∃ g, w' = w.grow g) → Q .normal a' w') l a) : (Code.region id l.toArray true).wp P Q a w :=
 wp_region_quiet (C := fun w' => ∃ g, w' = w.grow g) hm hB ⟨⟨#[], w.drawn + 1⟩, by simp [World.grow]⟩ (by simpa using h)
theorem grow_grow (w : World) (g g' : Gr) : (w.grow g).grow g' = w.grow ⟨g.objs ++ g'.objs, g'.drawn⟩ := by simp [World.grow, Array.append_assoc]
/-- What a call comes to that hands back v and only grows the world. -/
def Gives (w : World) (v : Value) (e : Ending) (w' : World) : Prop := e = .returned v ∧ ∃ g, w' = w.grow g
theorem Gives.quiet {P : Program} {f : FuncId} {args : Array Value} {w : World} {g : Gr} {v : Value} (h : Calls P f args (w.grow g) (Gives (w.grow g) v)) :
 Calls P f args (w.grow g) fun e w' => e = .returned v ∧ ∃ g', w' = w.grow g' := h.mono fun e w'' hh => by
 obtain ⟨he, g', rfl⟩ := hh
 exact ⟨he, _, grow_grow w g g'⟩
theorem gives_of {w w' : World} {v v' : Value} (hv : v' = v) (h : Below w.heap.size w w') : Gives w v (.returned v') w' := ⟨by rw [hv], below_grow h⟩
theorem own_cell {W w1 : World} {B : Nat} (hb : Below B W w1) {b : Nat} (h : b < B) : ∀ o, w1.cell? ⟨b, o, none⟩ = W.cell? ⟨b, o, none⟩ := fun o => hb.cell (p := ⟨b, o, none⟩) h
theorem own_frozen {W w1 : World} {B : Nat} (hb : Below B W w1) {b : Nat} (h : b < B) : ∀ o, w1.frozen? ⟨b, o, none⟩ = W.frozen? ⟨b, o, none⟩ := fun o => hb.frozen (p := ⟨b, o, none⟩) h
theorem old_cell {W w1 : World} {B : Nat} (hb : Below B W w1) : ∀ b o, b < B → w1.cell? ⟨b, o, none⟩ = W.cell? ⟨b, o, none⟩ := fun b o h => hb.cell (p := ⟨b, o, none⟩) h
theorem ex_below {w w' : World} (h : ∃ g, w' = w.grow g) : Below w.heap.size w w' := by obtain ⟨g, rfl⟩ := h; exact grow_below w g
def Grew (w w' : World) : Prop := ∃ g, w' = w.grow g
theorem grew_of {w w' : World} (h : Below w.heap.size w w') : Grew w w' := below_grow h
theorem Grew.below {w w' : World} (h : Grew w w') : Below w.heap.size w w' := ex_below h
theorem grew_refl (w : World) : Grew w w := below_grow (Below.refl _ _)
theorem size_drewN (w : World) (n : Nat) : (w.drewN n).heap.size = w.heap.size := rfl
theorem size_drew (w : World) : w.drew.heap.size = w.heap.size := rfl
theorem below_drew {B : Nat} {a w : World} (h : Below B a w) : Below B a w.drew := h.drew
theorem size_setCell (w : World) (a : Addr) (v : Value) : (w.setCell a v).heap.size = w.heap.size := by simp [World.setCell]
theorem below_alloc {w w' : World} {B : Nat} (h : Below B w w') (hB : B ≤ w'.heap.size) (o : Obj) : Below B w (w'.alloc o) := h.alloc hB o
theorem below_gr {w w' : World} {B : Nat} (h : Below B w w') (hB : B ≤ w'.heap.size) (g : Gr) : Below B w (w'.grow g) := h.trans ((grow_below w' g).mono hB)
theorem below_step {B C : Nat} {W w1 w2 : World} (h : Below B W w1) (k : Below C w1 w2) (hB : B ≤ C) : Below B W w2 := h.trans (k.mono hB)
theorem below_drewN {B : Nat} {a w : World} (h : Below B a w) (n : Nat) : Below B a (w.drewN n) := ⟨h.os, h.tape, h.output, h.size, h.block⟩
theorem gb_cell {w w' : World} {row : Option Nat} (hg : w.grownBy w' row) (b : Nat) (hb : b < w.heap.size) (hne : ∀ k, row = some k → b ≠ k) : ∀ o, w'.cell? ⟨b, o, none⟩ = w.cell? ⟨b, o, none⟩ :=
 fun o => World.cell?_of_block (w := w) (a := ⟨b, o, none⟩) (hg.block b hb (fun h => hne b h.symm rfl))
theorem gb_frozen {w w' : World} {row : Option Nat} (hg : w.grownBy w' row) (b : Nat) (hb : b < w.heap.size) (hne : ∀ k, row = some k → b ≠ k) : ∀ o, w'.frozen? ⟨b, o, none⟩ = w.frozen? ⟨b, o, none⟩ :=
 fun o => World.frozen?_of_block (w := w) (a := ⟨b, o, none⟩) (hg.block b hb (fun h => hne b h.symm rfl))
theorem gb_below {B : Nat} {a w w' : World} {row : Option Nat} (h : Below B a w) (hg : w.grownBy w' row) (hB : B ≤ w.heap.size) (hr : ∀ k, row = some k → B ≤ k) : Below B a w' := h.grown hg hB hr
theorem own_form {w : World} {B : Nat} {e : TypeId} {sz : Nat} {v : Value} {n : Nat} {xs : List Value} (h : w.ownsRow B e sz v n xs) : ∃ A c, v = .slice A n c := by
 rcases h.2 with ⟨rfl, rfl⟩ | ⟨g, cap, cur, rfl, _⟩
 · exact ⟨none, 0, rfl⟩
 · exact ⟨_, cap, rfl⟩
theorem own_ge {w : World} {B : Nat} {e : TypeId} {sz : Nat} {v : Value} {n : Nat} {xs : List Value} (h : w.ownsRow B e sz v n xs) : ∀ k, v.ownBlock = some k → B ≤ k := fun k hk => (h.lt k hk).1
theorem cells_new (w : World) (cs : List Value) (t : TypeId) (n : Nat) (hn : n = w.heap.size) : ∀ j u, cs[j]? = some u → (w.alloc (.cells cs.toArray t)).cell? ((⟨n, 0, none⟩ : Addr).add j) = some u := by
 intro j u h
 subst hn
 unfold Addr.add
 split
 · rename_i h0; subst h0; rw [World.cell?_alloc_at _ _ _ _ rfl]; simpa using h
 · rw [World.cell?_alloc_at _ _ _ _ rfl]; simpa using h
theorem hide {p : Prop} (h : p) : Hid p := h
theorem take_snoc {α : Type} (l : List α) (k : Nat) (h : k < l.length) : l.take (k + 1) = l.take k ++ [l[k]] := by
 rw [List.take_succ_eq_append_getElem h]
theorem all_bad {α : Type} {f : α → Bool} {l : List α} {k : Nat} (h : k < l.length) (hb : f l[k] = false) : l.all f = false := by
 rw [List.all_eq_false]; exact ⟨l[k], List.getElem_mem h, by simp [hb]⟩
theorem all_good {α : Type} {f : α → Bool} {l : List α} {k : Nat} (h : k < l.length) (ha : (l.take k).all f = true) (hg : f l[k] = true) : (l.take (k + 1)).all f = true := by
 rw [take_snoc l k h, List.all_append, ha]; simp [hg]
theorem v_int {k : IntKind} {a b : Int} (h : a = b) : Value.int k a = .int k b := by rw [h]
theorem tup2 {a b a' b' : Value} (h : a = a') (k : b = b') : Value.tuple #[a, b] = .tuple #[a', b'] := by rw [h, k]
theorem tup3 {a b c a' b' c' : Value} (h : a = a') (k : b = b') (l : c = c') : Value.tuple #[a, b, c] = .tuple #[a', b', c'] := by rw [h, k, l]
theorem v_bool {a b : Bool} (h : a = b) : Value.bool a = .bool b := by rw [h]
end Go.Proofs.Ytgjfejpibielaaa
namespace Go.Proofs.Ytgjfejpibielaaa
open Go.RowKit
/-- the sizes of grown worlds, in one -/
theorem zz : (∀ (w : World) (g : Gr), (w.grow g).heap.size = w.heap.size + g.objs.size) ∧ (∀ (w : World) (o : Obj), (w.alloc o).heap.size = w.heap.size + 1) ∧ (∀ (w : World) (n : Nat), (w.drewN n).heap.size = w.heap.size) ∧ (∀ (w : World), w.drew.heap.size = w.heap.size) ∧ (∀ (w : World) (a : Addr) (v : Value), (w.setCell a v).heap.size = w.heap.size) :=
  ⟨@size_grow, @World.size_alloc, @size_drewN, @size_drew, @size_setCell⟩
end Go.Proofs.Ytgjfejpibielaaa
