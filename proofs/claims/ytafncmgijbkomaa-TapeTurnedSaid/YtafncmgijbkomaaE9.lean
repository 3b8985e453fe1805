/- Proved here: variables of three cells; an impulse by its parts, a part of the proofs about the tape laws. Conditions: those that each theorem names, no others. -/
import Derived.Test.YtafncmgijbkomaaP30
import Derived.WalkKit
import Derived.WalkSpells
import Derived.WalkLawsBesides
import Derived.Below
import Derived.Deep.QuietTactic
import Derived.BigQuiet
import Derived.Deep.Light
import Derived.Test.YtafncmgijbkomaaE7

set_option linter.unusedSimpArgs false
set_option linter.unusedVariables false
namespace Go.Proofs.Ytafncmgijbkomaa
open Go.RowKit Go.Maps Go.Lib
/-- a variable of three cells -/
def Obj3 (W : World) (B : Nat) (t : TypeId) (a b c : Value) : Prop := W.heap[B]? = some (.cells #[a, b, c] t (0, 0))
theorem Obj3.lt {W : World} {B : Nat} {t : TypeId} {a b c : Value} (h : Obj3 W B t a b c) : B < W.heap.size := (Array.getElem?_eq_some_iff.1 (show W.heap[B]? = _ from h)).1
theorem Obj3.c0 {W : World} {B : Nat} {t : TypeId} {a b c : Value} (h : Obj3 W B t a b c) : W.cell? ⟨B, 0, none⟩ = some a := by simp [World.cell?, show W.heap[B]? = _ from h]
theorem Obj3.c1 {W : World} {B : Nat} {t : TypeId} {a b c : Value} (h : Obj3 W B t a b c) : W.cell? ⟨B, 1, none⟩ = some b := by simp [World.cell?, show W.heap[B]? = _ from h]
theorem Obj3.c2 {W : World} {B : Nat} {t : TypeId} {a b c : Value} (h : Obj3 W B t a b c) : W.cell? ⟨B, 2, none⟩ = some c := by simp [World.cell?, show W.heap[B]? = _ from h]
theorem Obj3.below {W W' : World} {B : Nat} {t : TypeId} {a b c : Value} (h : Obj3 W B t a b c) (hb : Below W.heap.size W W') : Obj3 W' B t a b c := (hb.block B h.lt).trans h
theorem Obj3.new (W : World) (t : TypeId) (a b c : Value) : Obj3 (W.alloc (.cells #[a, b, c] t)) W.heap.size t a b c := heap_alloc_new W _
theorem nthM (b n : Int) (w : World) : Calls Try.prog 48 #[.int .u8 b, .int .i64 n] w (Gives w (.agg #[.int .u8 b, .int .i64 n])) := by
  go_enter Try.func48, Try.ntmps48
  go_wp2
  refine bodyPost_ret (v := .agg #[.int .u8 b, .int .i64 n]) (by simp [results, Try.results48, go_sem]) rfl ?_
  exact gives_of (rfl) (by (repeat (first | exact Below.refl _ _ | assumption | refine below_drewN ?_ _ | refine below_drew ?_ | refine below_gr ?_ ?_ _ | refine below_alloc ?_ ?_ _ | refine Below.setCell ?_ ?_ _ | refine below_step ?_ (by assumption) ?_ | omega | (simp only [zz] at *; omega))))
theorem raw_win {W : Int} (h1 : 1 ≤ W) (h2 : W ≤ 5) {v b : Nat} (hv : v < 256) (h : wrap64 (97 + (v : Int) % W) % 256 = (b : Nat)) : IntKind.u8.wrap (IntKind.i64.wrap (97 + (IntKind.i64.wrap (v : Int)).tmod W)) = (b : Nat) := by
  have e1 := Int.emod_nonneg (v : Int) (show W ≠ 0 by omega)
  have e2 := Int.emod_lt_of_pos (v : Int) (show 0 < W by omega)
  rw [IntWalk.i64_in (v : Int) (by omega), Int.tmod_eq_emod_of_nonneg (by omega), IntWalk.i64_in _ (by omega), IntKind.wrap_u8, ← h, IntWalk.wrap64_in _ (by omega)]
theorem raw_num {d m : Nat} (hd : d < 256) (h : (d : Int) % 20 = (m : Nat)) : IntKind.i64.wrap (1 + (IntKind.i64.wrap (d : Int)).tmod 20) = 1 + (m : Nat) := by
  rw [IntWalk.i64_in (d : Int) (by omega), Int.tmod_eq_emod_of_nonneg (by omega), h, IntWalk.i64_in _ (by omega)]
end Go.Proofs.Ytafncmgijbkomaa
