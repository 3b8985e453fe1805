/- Proved here: places are compared; what stays while parts are yielded, a part of the proofs about the box laws. Conditions: those that each theorem names, no others. -/
import Derived.Test.YtlbkaeoagdbemaaP10
import Derived.WalkKit
import Derived.WalkSpells
import Derived.WalkLawsBesides
import Derived.Below
import Derived.Deep.QuietTactic
import Derived.BigQuiet
import Derived.Deep.Light
import Derived.ChangeKeysEq
import Derived.RangeFuncNested
import Derived.RangeFuncBound
import Derived.RangeFuncCalls
import Derived.RangeFuncLeaves
import Derived.Shelf.Abstract
import Derived.OwnWalkIn
import Derived.TacticsInMore
import Derived.LoopNIn
import Derived.LoopIn
import Derived.RangeFuncOne
import Derived.RangeFuncStops
import Derived.WalkMore
import Derived.Test.YtlbkaeoagdbemaaP04
import Derived.Laws.CopyOwn
import Derived.Laws.MakeOwn
set_option linter.unusedSimpArgs false
set_option linter.unusedVariables false
namespace Go.Proofs.Ytlbkaeoagdbemaa
open Go.RowKit Go.Maps
@[go_sem] theorem mkP_g0 (r : Nat) (al : List Bool) : (mkP r al)[0]? = some (.int .i64 (r : Nat)) := mkP_zero r al
@[go_sem] theorem mkP_g1 (r : Nat) (al : List Bool) : (mkP r al)[1]? = some (mk1 al 0) := mkP_at r al 0 (by omega)
@[go_sem] theorem mkP_g2 (r : Nat) (al : List Bool) : (mkP r al)[2]? = some (mk1 al 1) := mkP_at r al 1 (by omega)
@[go_sem] theorem mkP_g3 (r : Nat) (al : List Bool) : (mkP r al)[3]? = some (mk1 al 2) := mkP_at r al 2 (by omega)
@[go_sem] theorem mkP_g4 (r : Nat) (al : List Bool) : (mkP r al)[4]? = some (mk1 al 3) := mkP_at r al 3 (by omega)
@[go_sem] theorem mkP_g5 (r : Nat) (al : List Bool) : (mkP r al)[5]? = some (mk1 al 4) := mkP_at r al 4 (by omega)
@[go_sem] theorem mkP_g6 (r : Nat) (al : List Bool) : (mkP r al)[6]? = some (mk1 al 5) := mkP_at r al 5 (by omega)
@[go_sem] theorem mkP_g7 (r : Nat) (al : List Bool) : (mkP r al)[7]? = some (mk1 al 6) := mkP_at r al 6 (by omega)
@[go_sem] theorem mkP_g8 (r : Nat) (al : List Bool) : (mkP r al)[8]? = some (mk1 al 7) := mkP_at r al 7 (by omega)
@[go_sem] theorem mkP_g9 (r : Nat) (al : List Bool) : (mkP r al)[9]? = some (mk1 al 8) := mkP_at r al 8 (by omega)
@[go_sem] theorem mkP_g10 (r : Nat) (al : List Bool) : (mkP r al)[10]? = some (mk1 al 9) := mkP_at r al 9 (by omega)

@[go_sem] theorem mk_fold (al : List Bool) : (#[mk1 al 0, mk1 al 1, mk1 al 2, mk1 al 3, mk1 al 4, mk1 al 5, mk1 al 6, mk1 al 7, mk1 al 8, mk1 al 9] : Array Value) = mk al := by simp [mk, List.range, List.range.loop]
@[go_sem] theorem mkP_fold (r : Nat) (al : List Bool) : (#[.int .i64 (r : Nat), mk1 al 0, mk1 al 1, mk1 al 2, mk1 al 3, mk1 al 4, mk1 al 5, mk1 al 6, mk1 al 7, mk1 al 8, mk1 al 9] : Array Value) = mkP r al := by simp [mkP, List.range, List.range.loop]
@[go_sem] theorem mkP_fold1 (r : Nat) (al : List Bool) : (#[.int .i64 ((r : Int) + 1), mk1 al 0, mk1 al 1, mk1 al 2, mk1 al 3, mk1 al 4, mk1 al 5, mk1 al 6, mk1 al 7, mk1 al 8, mk1 al 9] : Array Value) = mkP (r + 1) al := by simp [mkP, List.range, List.range.loop]
theorem mk_zeros : (#[.int .i64 0, .int .i64 0, .int .i64 0, .int .i64 0, .int .i64 0, .int .i64 0, .int .i64 0, .int .i64 0, .int .i64 0, .int .i64 0] : Array Value) = mk [] := by simp [mk, mk1, List.range, List.range.loop]
@[go_sem] theorem mkP_extract (r : Nat) (al : List Bool) : (mkP r al).extract 1 11 = mk al := by simp [mkP, mk, List.range, List.range.loop]
@[go_sem] theorem part_alive (r : Nat) (al : List Bool) (w : World) : (part 108 (mkP r al) 1).run Try.prog w = .ok (.agg (mk al)) w := by
  have a108 := Try.isAgg108
  have z108 := Try.sizeOf108
  unfold part
  simp [a108, z108, mkP_extract]
@[go_sem] theorem field_alive (r : Nat) (al : List Bool) (w : World) : (Instr.field 110 (.agg (mkP r al)) 1).run Try.prog w = .ok (.agg (mk al)) w := by
  unfold Instr.field
  simp only [Sem.run_bind, run_underlying Try.underlying110, Result.andThen_ok]
  simp [asAgg, part_alive]
theorem cells3 : Try.prog.cellsOf 3 = 1 := by kernel_rfl
theorem und108 : Try.prog.underlying 108 = some (.array 10 3) := by kernel_rfl
theorem eq_items (al bl : List Bool) (w : World) (is : List Nat) (h : ∀ i, i ∈ is → i < 10) : (Op.eqItems 9999 3 1 (mk al) (mk bl) is).run Try.prog w = .ok (is.all fun i => al.getD i false == bl.getD i false) w := by
  induction is with
  | nil => simp [Op.eqItems]
  | cons i is ih =>
    have h1 := mk_at al i (h i (by simp))
    have h2 := mk_at bl i (h i (by simp))
    have u3 := Try.underlying3
    have a3 := Try.isAgg3
    have z3 := Try.sizeOf3
    have p1 : (part 3 (mk al) (i * 1)).run Try.prog w = .ok (mk1 al i) w := by simp [part, a3, h1]
    have p2 : (part 3 (mk bl) (i * 1)).run Try.prog w = .ok (mk1 bl i) w := by simp [part, a3, h2]
    have p3 : (Op.equalIn 9999 3 (mk1 al i) (mk1 bl i)).run Try.prog w = .ok (al.getD i false == bl.getD i false) w := by
      unfold mk1
      rw [show (9999 : Nat) = 9998 + 1 from rfl, run_equalIn_int w 9998 3 .i64 .i64 _ _ u3]
      cases al.getD i false <;> cases bl.getD i false <;> rfl
    simp only [Op.eqItems, Sem.run_bind, p1, p2, p3, Result.andThen_ok, List.all_cons]
    cases al.getD i false == bl.getD i false with
    | false => simp
    | true => simpa using ih (fun j hj => h j (by simp [hj]))
def sameM (al bl : List Bool) : Bool := (List.range 10).all fun i => al.getD i false == bl.getD i false
@[go_sem] theorem eqMk (al bl : List Bool) (w : World) : (Op.equalIn 10000 108 (.agg (mk al)) (.agg (mk bl))).run Try.prog w = .ok (sameM al bl) w := by
  obtain ⟨i0, ih, _⟩ := info_parts info3
  rw [show (10000 : Nat) = 9999 + 1 from rfl, run_equalIn_array w 9999 (mk al) (mk bl) und108 ih, cells3]
  exact eq_items al bl w _ (fun i hi => List.mem_range.1 hi)
@[go_sem] theorem eqMk0 (al : List Bool) (w : World) : (Op.equalIn 10000 108 (.agg (mk al)) (.agg #[.int .i64 0, .int .i64 0, .int .i64 0, .int .i64 0, .int .i64 0, .int .i64 0, .int .i64 0, .int .i64 0, .int .i64 0, .int .i64 0])).run Try.prog w = .ok (sameM al []) w := by
  rw [mk_zeros]; exact eqMk al [] w
theorem sameM_eq {al bl : List Bool} (h : al.length = bl.length) (h10 : al.length ≤ 10) : sameM al bl = decide (al = bl) := by
  rw [Bool.eq_iff_iff]
  simp only [sameM, List.all_eq_true, List.mem_range, beq_iff_eq, decide_eq_true_eq]
  constructor
  · intro hh
    apply List.ext_getElem h
    intro i h1 h2
    have := hh i (by omega)
    rw [getD_at _ _ h1, getD_at _ _ h2] at this
    exact this
  · rintro rfl; simp
theorem sameM_nil {al : List Bool} (h10 : al.length ≤ 10) : sameM al [] = !al.any id := by
  rw [Bool.eq_iff_iff]
  simp only [sameM, List.all_eq_true, List.mem_range, beq_iff_eq, Bool.not_eq_true', List.any_eq_false, id]
  constructor
  · intro hh x hx
    obtain ⟨i, hi, rfl⟩ := List.getElem_of_mem hx
    have := hh i (by omega)
    rw [getD_at _ _ hi] at this
    rw [this]; simp
  · intro hh i hi
    simp only [List.getD_eq_getElem?_getD, List.getElem?_nil, Option.getD_none]
    cases h : al[i]? with
    | none => rfl
    | some v =>
      have := hh v (List.mem_of_getElem? h)
      simpa using this
end Go.Proofs.Ytlbkaeoagdbemaa
namespace Go.Proofs.Ytlbkaeoagdbemaa
open Go.RowKit Go.Maps
theorem bBit : ∀ x, x < 64 → ∀ i, i < 6 → bits BinOp.and .i64 ((x : Nat) / 2 ^ i : Int) 1 = if x.testBit i = true then 1 else 0 := by decide +kernel
theorem bOr : ∀ a, a < 64 → ∀ k, k < 6 → bits BinOp.or .i64 ((a : Nat) : Int) (wrap64 ((2 : Int) ^ k)) = ((a ||| 2 ^ k : Nat) : Int) := by decide +kernel
theorem bAndNot : ∀ a, a < 64 → ∀ b, b < 64 → bits BinOp.andNot .i64 ((a : Nat) : Int) ((b : Nat) : Int) = ((a ^^^ (a &&& b) : Nat) : Int) := by decide +kernel
/-- what lies outside of some blocks stays -/
structure KpR (lo hi : Nat) (X Y : World) : Prop where
  size : X.heap.size ≤ Y.heap.size
  same : ∀ b, b < X.heap.size → (b < lo ∨ hi ≤ b) → Y.heap[b]? = X.heap[b]?
theorem KpR.refl (lo hi : Nat) (X : World) : KpR lo hi X X := ⟨Nat.le_refl _, fun _ _ _ => rfl⟩
theorem KpR.trans {lo hi : Nat} {X Y Z : World} (h : KpR lo hi X Y) (k : KpR lo hi Y Z) : KpR lo hi X Z :=
  ⟨Nat.le_trans h.size k.size, fun b hb ho => (k.same b (Nat.lt_of_lt_of_le hb h.size) ho).trans (h.same b hb ho)⟩
theorem KpR.below {lo hi : Nat} {X Y : World} (h : Below X.heap.size X Y) : KpR lo hi X Y := ⟨h.size, fun b hb _ => h.block b hb⟩
theorem heap_cell {X Y : World} {b o : Nat} (h : Y.heap[b]? = X.heap[b]?) : Y.cell? ⟨b, o, none⟩ = X.cell? ⟨b, o, none⟩ := World.cell?_of_block (a := ⟨b, o, none⟩) h
theorem heap_lt {X Y : World} {b : Nat} (h : b < X.heap.size) (k : Y.heap[b]? = X.heap[b]?) : b < Y.heap.size := by
  rw [Array.getElem?_eq_getElem h] at k
  exact (Array.getElem?_eq_some_iff.1 k).1
theorem I64.old {X Y : World} {A : Option Addr} {xs : List Int} (h : I64 X A xs) (k : ∀ b, b < X.heap.size → Y.heap[b]? = X.heap[b]?) : I64 Y A xs := fun i p hk => by
  obtain ⟨b, off, h0, h1, h2, h3⟩ := h i p hk
  have := heap_lt h1 (k b h1)
  exact ⟨b, off, h0, this, by omega, (heap_cell (k b h1)).trans h3⟩
theorem Tks.old {X Y : World} {A : Option Addr} {ts : List Tz} (h : Tks X A ts) (k : ∀ b, b < X.heap.size → Y.heap[b]? = X.heap[b]?) : Tks Y A ts := fun i t hk => by
  obtain ⟨b, off, S, c, h0, h1, h2, h3, h4, h5⟩ := h i t hk
  exact ⟨b, off, S, c, h0, heap_lt h1 (k b h1), (heap_cell (k b h1)).trans h2, (heap_cell (k b h1)).trans h3, h4, h5.old k⟩
theorem SheetAt.old {X Y : World} {s : Nat} {A B : Option Addr} {R : List Int} {c d : Nat} {ts : List Tz} (h : SheetAt X s A R c B ts d) (k : ∀ b, b < X.heap.size → Y.heap[b]? = X.heap[b]?) : SheetAt Y s A R c B ts d :=
  ⟨(heap_cell (k s h.2.2.1)).trans h.1, (heap_cell (k s h.2.2.1)).trans h.2.1, heap_lt h.2.2.1 (k s h.2.2.1), h.2.2.2.1.old k, h.2.2.2.2.old k⟩
/-- a slice that lies in none of the blocks that may be turned -/
theorem I64.kp {lo hi : Nat} {X Y : World} {A : Option Addr} {xs : List Int} (h : I64 X A xs) (hA : ∀ b o, A = some ⟨b, o, none⟩ → hi ≤ b) (k : KpR lo hi X Y) : I64 Y A xs := fun i p hk => by
  obtain ⟨b, off, h0, h1, h2, h3⟩ := h i p hk
  have e := k.same b h1 (.inr (hA b off h0))
  have := heap_lt h1 e
  exact ⟨b, off, h0, this, by omega, (heap_cell e).trans h3⟩
/-- the world in which the iterator runs -/
structure OldB (base W : World) (hi : Nat) : Prop where
  old : ∀ b, b < base.heap.size → W.heap[b]? = base.heap[b]?
  le : base.heap.size ≤ hi
  hi : hi ≤ W.heap.size
theorem OldB.kp {base W W' : World} {hi : Nat} (h : OldB base W hi) (k : KpR base.heap.size hi W W') : OldB base W' hi :=
  ⟨fun b hb => (k.same b (by have := h.le; have := h.hi; omega) (.inl hb)).trans (h.old b hb), h.le, Nat.le_trans h.hi k.size⟩
theorem OldB.below {base W W' : World} {hi : Nat} (h : OldB base W hi) (k : Below W.heap.size W W') : OldB base W' hi := h.kp (KpR.below k)
/-- what a round of a loop over parts does -/
def RoundP (J : List Bm.Tk → World → Prop) (lo hi : Nat) (l : Nat) (full : List Bm.Tk) (base : World) (n : Nat) : Prop :=
  ∀ pre S u X xc W1, pre ++ [(S, u)] <+: full → J pre W1 → OldB base W1 hi → I64 W1 X (zs S) → S.length = n → S.length ≤ xc → (∀ b o, X = some ⟨b, o, none⟩ → hi ≤ b) →
    YieldAt Fence.wide 7 Try.prog l #[.slice X S.length xc, .int .i64 (u : Nat)] W1 fun e W' => e = .returned (.bool true) ∧ J (pre ++ [(S, u)]) W' ∧ KpR lo hi W1 W'
def CutPost (J : List Bm.Tk → World → Prop) (lo hi : Nat) (done : List Bm.Tk) (W : World) (e : Ending) (W' : World) : Prop :=
  e = .returned (.bool true) ∧ J done W' ∧ KpR lo hi W W'
theorem make_zeros (m : Nat) (hm : m ≤ 1000000) (W : World) :
    (Instr.makeSlice 22 (.int .i64 (m : Nat)) (.int .i64 (m : Nat))).run Try.prog W = .ok (.slice (some ⟨W.heap.size, 0, none⟩) m m) (W.alloc (.cells (List.replicate m (.int .i64 0)).toArray 3)) := by
  obtain ⟨i0, ih, iz, is, ib⟩ := info_parts info3
  have := run_make (P := Try.prog) W 22 3 i0 (.int .i64 0) und22 ih iz .i64 .i64 (m : Int) (m : Int) (by omega) (Int.le_refl _) (by rw [ib]; omega) (by omega)
  have hmz : madeCells (Value.int .i64 0).cells m = (List.replicate m (Value.int .i64 0)).toArray := by
    unfold madeCells
    apply Array.ext
    · simp
    · intro j h1 h2
      simp [Value.cells, Nat.mod_one]
  rw [this, is, Int.toNat_natCast, Nat.mul_one, hmz]
theorem repl_new (w : World) (m : Nat) : (w.alloc (.cells (List.replicate m (Value.int .i64 0)).toArray 3)).heap[w.heap.size]? = some (.cells (List.replicate m (Value.int .i64 0)).toArray 3 (0, 0)) := heap_alloc_new w _
theorem siz3 : (Try.prog.info? 3).map (·.size) = some 1 := by kernel_rfl
theorem i64_src {w : World} {A : Option Addr} {xs : List Int} (h : I64 w A xs) (h0 : 0 < xs.length) : ∃ ad, A = some ad ∧ ∀ j v, (xs.map (Value.int .i64))[j]? = some v → w.cell? (ad.add j) = some v := by
  obtain ⟨b, o, rfl, _⟩ := h.form h0
  refine ⟨_, rfl, fun j v hv => ?_⟩
  rw [List.getElem?_map] at hv
  cases hx : xs[j]? with
  | none => rw [hx] at hv; cases hv
  | some x =>
    rw [hx] at hv; cases hv
    obtain ⟨b', o', he, _, _, hc⟩ := h j x hx
    injection he with he
    injection he with e1 e2 _
    subst e1 e2
    rw [add_none]; exact hc
theorem i64_block {w : World} {b : Nat} {t : TypeId} {xs : List Int} (h : w.heap[b]? = some (.cells (xs.map (Value.int .i64)).toArray t (0, 0))) : I64 w (some ⟨b, 0, none⟩) xs := fun k x hk => by
  have hl := (Array.getElem?_eq_some_iff.1 h).1
  refine ⟨b, 0, rfl, hl, by omega, ?_⟩
  rw [Nat.zero_add]
  exact obj_at h k _ (by simp [hk])
theorem splice_zero (m : Nat) (v : Value) (cs : List Value) (h : cs.length = m) : splice (List.replicate m v) 0 cs = cs := by simp [splice, h]
theorem zs_set (S : List Nat) (r o : Nat) : ((zs S).map (Value.int .i64)).toArray.setIfInBounds r (.int .i64 (o : Nat)) = ((zs (S.set r o)).map (Value.int .i64)).toArray := by
  simp [zs, List.map_set]
theorem one_ints (xs : List Int) : ∀ u ∈ xs.map (Value.int .i64), u.oneCell' = true := by
  intro u hu
  obtain ⟨x, _, rfl⟩ := List.mem_map.1 hu
  rfl
end Go.Proofs.Ytlbkaeoagdbemaa
