/- Proved here: what stays in a region that draws its order, with appends and new variables, a part of the proofs about the tape laws. Conditions: those that each theorem names, no others. -/
import Derived.Test.YtafncmgijbkomaaP30
import Derived.WalkKit
import Derived.WalkSpells
import Derived.WalkLawsBesides
import Derived.Below
import Derived.Deep.QuietTactic
import Derived.BigQuiet
import Derived.Deep.Light
import Derived.Test.YtafncmgijbkomaaE5
import Derived.Deep.RegionHeld3

set_option linter.unusedSimpArgs false
set_option linter.unusedVariables false
namespace Go.Proofs.Ytafncmgijbkomaa
open Go.RowKit Go.Maps Go.Lib
/-! a region that draws its order, with appends, literals and new variables: what stays, whatever comes up -/
/-- a block that is there, at or above a bound, and is not the row's -/
def Side (B : Nat) (W : World) (v : Value) (b : Nat) (o : Obj) : Prop := B ≤ b ∧ b < W.heap.size ∧ W.heap[b]? = some o ∧ Far v b
theorem Side.alloc {B : Nat} {W : World} {v : Value} {b : Nat} {o : Obj} (h : Side B W v b o) (o' : Obj) : Side B (W.alloc o') v b o :=
  ⟨h.1, by have := h.2.1; rw [World.size_alloc]; omega, (Below.heap_alloc _ _ _ h.2.1).trans h.2.2.1, h.2.2.2⟩
theorem Side.grown {B : Nat} {W W' : World} {v v' : Value} {b : Nat} {o : Obj} (h : Side B W v b o) (hg : W.grownBy W' v.ownBlock) (hf : ∀ b, b < W.heap.size → Far v b → Far v' b) : Side B W' v' b o :=
  ⟨h.1, Nat.lt_of_lt_of_le h.2.1 hg.size, (hg.block b h.2.1 (fun e => h.2.2.2 b e.symm rfl)).trans h.2.2.1, hf b h.2.1 h.2.2.2⟩
theorem Side.below {B : Nat} {W W' : World} {v : Value} {b : Nat} {o : Obj} (h : Side B W v b o) (hb : Below W.heap.size W W') : Side B W' v b o :=
  ⟨h.1, Nat.lt_of_lt_of_le h.2.1 hb.size, (hb.block b h.2.1).trans h.2.2.1, h.2.2.2⟩
theorem Side.fresh {B P : Nat} {W : World} {v : Value} {e : TypeId} {sz n : Nat} {xs : List Value} (hB : B ≤ W.heap.size) (hO : W.ownsRow P e sz v n xs) (cs : Array Value) (t : TypeId) : Side B (W.alloc (.cells cs t)) v W.heap.size (.cells cs t) :=
  ⟨hB, by rw [World.size_alloc]; omega, heap_alloc_new W _, fun g hg => by have := (hO.lt g hg).2; omega⟩
theorem Side.fresh0 {B : Nat} {W : World} (hB : B ≤ W.heap.size) (cs : Array Value) (t : TypeId) : Side B (W.alloc (.cells cs t)) (.slice none 0 0) W.heap.size (.cells cs t) :=
  ⟨hB, by rw [World.size_alloc]; omega, heap_alloc_new W _, fun g hg => by cases hg⟩
theorem Side.lit {B : Nat} {W : World} {v : Value} {b : Nat} {o : Obj} (h : Side B W v b o) (o' : Obj) : Side B (W.alloc o') (.slice (some ⟨W.heap.size, 0, none⟩) 0 0) b o :=
  ⟨h.1, by have := h.2.1; rw [World.size_alloc]; omega, (Below.heap_alloc _ _ _ h.2.1).trans h.2.2.1, fun g hg => by have := h.2.1; have := Option.some.inj hg; (try dsimp only at this); omega⟩
theorem Side.rd {B : Nat} {W : World} {v : Value} {b : Nat} {t : TypeId} {x : Value} (h : Side B W v b (.cells #[x] t (0, 0))) : Rd W 1 (some ⟨b, 0, none⟩) 1 [x] :=
  ⟨rfl, fun _ => ⟨b, 0, rfl, h.2.1, fun j u hu => by
    have hj : j = 0 := by
      have := (List.getElem?_eq_some_iff.1 hu).1
      simpa using this
    subst hj
    simp at hu
    subst hu
    exact obj_at h.2.2.1 0 _ rfl⟩⟩
theorem Side.set {B : Nat} {W : World} {v : Value} {b : Nat} {cs : Array Value} {t : TypeId} (h : Side B W v b (.cells cs t (0, 0))) (k : Nat) (u : Value) : Side B (W.setCell ⟨b, k, none⟩ u) v b (.cells (cs.setIfInBounds k u) t (0, 0)) :=
  ⟨h.1, by rw [size_setCell]; exact h.2.1, set_obj h.2.2.1 k u, h.2.2.2⟩
theorem strs_far {W : World} {B n c : Nat} {e : TypeId} {A : Option Addr} {ss : List ByteArray} {b : Nat} (hO : W.ownsRow B e 1 (.slice A n c) n (ss.map Value.string)) (hF : Far (.slice A n c) b) (u v : Value) : Strs ((W.setCell ⟨b, 0, none⟩ u).setCell ⟨b, 1, none⟩ v) A ss := fun k s hk => by
  obtain ⟨b1, off, h1, h2, h3, h4⟩ := own_strs hO k s hk
  have hne : b1 ≠ b := by
    obtain ⟨b2, e2, _⟩ := own_at hO k (.string s) (by rw [List.getElem?_map, hk]; rfl)
    rw [h1] at e2
    injection e2 with e2
    injection e2 with e3 e4 _
    subst e3 e4
    intro e
    subst e
    subst h1
    exact hF _ rfl rfl
  refine ⟨b1, off, h1, by simpa using h2, by simpa using h3, ?_⟩
  rw [World.cell?_of_block (a := ⟨b1, off + k, none⟩) (Below.heap_setCell _ _ _ _ hne), World.cell?_of_block (a := ⟨b1, off + k, none⟩) (Below.heap_setCell _ _ _ _ hne), h4]
theorem strs_rd {w : World} {A : Option Addr} {ss : List ByteArray} (h : Strs w A ss) : Rd w 1 A ss.length (ss.map Value.string) := by
  refine ⟨by simp, fun hl => ?_⟩
  obtain ⟨b, off, hA, hb, _⟩ := h 0 ss[0] (by simp)
  refine ⟨b, off, hA, hb, fun j u hu => ?_⟩
  rw [List.getElem?_map] at hu
  cases hx : ss[j]? with
  | none => rw [hx] at hu; simp at hu
  | some x =>
    rw [hx] at hu
    obtain ⟨b', off', hA', _, _, hc⟩ := h j x hx
    rw [hA] at hA'
    injection hA' with hA'
    injection hA' with e1 e2 _
    subst e1 e2
    simp only [Option.map_some, Option.some.injEq] at hu
    rw [hc, hu]
theorem one_strs (xs : List ByteArray) : ∀ u ∈ xs.map Value.string, u.oneCell' = true := by
  intro u hu
  obtain ⟨x, _, rfl⟩ := List.mem_map.1 hu
  rfl
theorem step_appN {P : Program} (w : World) {ops : Array Oper} {o : Oper} {a : Act} {K : Act → World → Prop} {Q : Exit → Act → World → Prop} {E : Prop} (hgd : o.guard = none) (s x : Operand) (t : TypeId)
    (ho : o.op = .call { callee := .builtin .append, args := #[s, x], argTypes := #[t, t] })
    (base : Nat) (e : TypeId) (i : TypeInfo) (z : Value) (size bytes : Nat) (ht : P.underlying t = some (.slice e)) (hi : P.info? e = some i) (hz : i.zero = some z)
    (hsize : i.size = size) (hby : i.bytes = bytes) (hzs : z.cells.size = size) (hsz : 0 < size) (v : Value) (n : Nat) (xs : List Value) (hs : a.eval s = v) (hown : w.ownsRow base e size v n xs)
    (A : Option Addr) (m c : Nat) (news : List Value) (hx : a.eval x = .slice A m c) (hr : Rd w size A m news) (h1 : ∀ u ∈ news, u.oneCell' = true) (h63 : n + m ≤ maxLen) (hbytes : (n + m) * bytes ≤ 140737488355328) (hbase : base ≤ w.heap.size)
    (h : ∀ A' c' w', w'.ownsRow base e size (.slice A' (n + m) c') (n + m) (xs ++ news) → w.grownBy w' v.ownBlock → (∀ b, b < w.heap.size → Far v b → Far (.slice A' (n + m) c') b) → K (a.put o.dst (.slice A' (n + m) c')) w') :
    if Region.wanted o (yielded ops a.tmps) = true then Oper.wp P o a w K Q else E := by
  have hw : Region.wanted o (yielded ops a.tmps) = true := by simp [Region.wanted, hgd]
  rw [if_pos hw]
  exact wp_appN w s x t ho base e i z size bytes ht hi hz hsize hby hzs hsz v n xs hs hown A m c news hx hr h1 h63 hbytes hbase h
end Go.Proofs.Ytafncmgijbkomaa
