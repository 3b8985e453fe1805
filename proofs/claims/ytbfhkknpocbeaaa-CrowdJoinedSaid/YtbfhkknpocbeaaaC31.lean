/- Proved here: contracts and laws of C31, a part of the proofs about the crowd laws: what some functions of the program and of the reference compute, and plain facts about it. Conditions: those that each theorem names, no others. -/
import Derived.Test.YtbfhkknpocbeaaaC31p
import Derived.WalkKit
import Derived.WalkSpells
import Derived.WalkLawsBesides
import Derived.Below
import Derived.Deep.QuietTactic
import Derived.BigQuiet
import Derived.Deep.Light

set_option linter.unusedSimpArgs false
set_option linter.unusedVariables false
namespace Go.Proofs.Ytbfhkknpocbeaaa
open Go.RowKit
/-- two cells in a block -/
def ObjV (W : World) (B : Nat) (t : TypeId) (a b : Value) : Prop := W.heap[B]? = some (.cells #[a, b] t (0, 0))
theorem ObjV.lt {W : World} {B : Nat} {t : TypeId} {a b : Value} (h : ObjV W B t a b) : B < W.heap.size := (Array.getElem?_eq_some_iff.1 (show W.heap[B]? = _ from h)).1
theorem ObjV.c0 {W : World} {B : Nat} {t : TypeId} {a b : Value} (h : ObjV W B t a b) : W.cell? ⟨B, 0, none⟩ = some a := by simp [World.cell?, show W.heap[B]? = _ from h]
theorem ObjV.c1 {W : World} {B : Nat} {t : TypeId} {a b : Value} (h : ObjV W B t a b) : W.cell? ⟨B, 1, none⟩ = some b := by simp [World.cell?, show W.heap[B]? = _ from h]
theorem ObjV.below {W W' : World} {B : Nat} {t : TypeId} {a b : Value} (h : ObjV W B t a b) (hb : Below W.heap.size W W') : ObjV W' B t a b := (hb.block B h.lt).trans h
theorem ObjV.alloc {W : World} {B : Nat} {t : TypeId} {a b : Value} (h : ObjV W B t a b) (o : Obj) : ObjV (W.alloc o) B t a b := (Below.heap_alloc W o B h.lt).trans h
theorem ObjV.new (W : World) (t : TypeId) (a b : Value) : ObjV (W.alloc (.cells #[a, b] t)) W.heap.size t a b := World.alloc_heap_new W _
theorem wk_cp (A : Option Addr) (c : Nat) (w : World) (hA : Ppl w A hallPs) (r : Int) (T : Option Addr) (ts : List Int) (tc : Nat) (hT : I64 w T ts) (hl : ts.length = 5) (hr : planW hallPs 2 ts = r) : Calls Try.prog 22 #[.agg #[.int .i64 5, .slice A 5 c], .int .i64 2, .slice T 5 tc] w (Gives w (.int .i64 r)) := by
  have := pcheck_ok 2 T ts tc 5 A hallPs c w hA (by decide) hT hk_chk (by decide) (by decide) hl
  unfold planW at hr; rw [hr] at this; exact this
theorem wk_mach (A : Option Addr) (c : Nat) (w : World) (hA : Ppl w A hallPs) : Calls Try.prog 24 #[.agg #[.int .i64 5, .slice A 5 c]] w (Gives w (.tuple #[.agg #[.int .i64 1, .int .i64 2], .int .i64 0])) := by
  have := machines_ok 5 A hallPs c w hA (by decide) hk_chk
  rw [hk_m1, hk_m2] at this; exact this
theorem wk_plan2 (A : Option Addr) (c : Nat) (w : World) (hA : Ppl w A hallPs) : Calls Try.prog 18 #[.agg #[.int .i64 5, .slice A 5 c], .int .i64 2] w (GivesIntsE w [2, 3, 2, 4, 0] 0) := by
  have := plan_ok 2 5 A hallPs c w hA (by decide) hk_chk (by decide) (by decide) hk_s2
  rw [hk_o2] at this; exact this
theorem wk_plan1 (A : Option Addr) (c : Nat) (w : World) (hA : Ppl w A hallPs) : Calls Try.prog 18 #[.agg #[.int .i64 5, .slice A 5 c], .int .i64 1] w (GivesIntsE w [] 23) := plan_shut 1 5 A hallPs c w hA (by decide) hk_chk (by decide) (by decide) 1 hk_s1 (by decide) (by decide)
theorem wk_bound (A : Option Addr) (c : Nat) (w : World) (hA : Ppl w A hallPs) : Calls Try.prog 26 #[.agg #[.int .i64 5, .slice A 5 c], .int .i64 2, .int .i64 3] w (Gives w (.tuple #[.int .i64 2, .int .i64 0])) := by
  have := pboundF_any 2 3 5 A hallPs c w hA (by decide)
  rw [hk_b] at this; exact this
theorem wk_crowd (A : Option Addr) (c : Nat) (w : World) (hA : Ppl w A hallPs) : Calls Try.prog 28 #[.agg #[.int .i64 5, .slice A 5 c]] w (Gives w (.tuple #[.agg #[.int .i64 2, .int .i64 3], .int .i64 0])) := crowd_ok 5 A hallPs c w hA (by decide) hk_chk ⟨2, 3, 2⟩ 0 hk_c (by decide)
theorem wk_serve (A : Option Addr) (c : Nat) (w : World) (hA : Ppl w A hallPs) (T : Option Addr) (tc : Nat) (hT : I64 w T [2, 3, 2, 4, 3]) : Calls Try.prog 30 #[.agg #[.int .i64 5, .slice A 5 c], .int .i64 1, .slice T 5 tc] w (GivesSrv w [2, 3, 0, 4, 0] 1 0) := by
  refine (pserve_ok 1 T [2, 3, 2, 4, 3] tc 5 A hallPs c w hA (by decide) hT (by decide) hk_chk (by decide) (by decide) (by decide)).mono ?_
  rintro e w' (⟨h, _⟩ | ⟨_, h⟩)
  · rw [hk_t] at h; cases h
  · rw [hk_o1, hk_h1] at h; exact h
theorem wk_late (A : Option Addr) (c : Nat) (w : World) (hA : Ppl w A hallPs) : Calls Try.prog 33 #[.agg #[.int .i64 5, .slice A 5 c], .int .i64 2, .int .i64 0] w (Gives w (.tuple #[.int .i64 3, .int .i64 0])) := by
  have := late_ok 2 0 5 A hallPs c w hA (by decide) hk_chk (by decide) (by decide) (by decide) (by decide) hk_s2
  have e : lastOr hallPs[0] + (lateD 5 hallPs 2 0 (lastOr hallPs[0]) (hallPs[0].un - lastOr hallPs[0]).toNat : Nat) = 3 := by
    rw [show lastOr hallPs[0] = 2 from rfl, show hallPs[0].un = 3 from rfl, show ((3 : Int) - 2).toNat = 1 from rfl, hk_l]; rfl
  rw [e] at this; exact this
theorem wk_late4 (A : Option Addr) (c : Nat) (w : World) (hA : Ppl w A hallPs) : Calls Try.prog 33 #[.agg #[.int .i64 5, .slice A 5 c], .int .i64 2, .int .i64 4] w (Gives w (.tuple #[.int .i64 0, .int .i64 16])) := late_bad4 2 4 5 A hallPs c w hA (by decide) hk_chk (by decide) (by decide) (by decide) (by decide)
theorem wk_room (A : Option Addr) (c : Nat) (w : World) (hA : Ppl w A hallPs) : Calls Try.prog 35 #[.agg #[.int .i64 5, .slice A 5 c], .int .i64 2, .int .i64 3] w (Gives w (.tuple #[.int .i64 1, .int .i64 0])) :=
  room_any 2 5 3 A hallPs c w hA (by decide) hk_chk (by decide) (by decide) (by decide) (by decide) 1 0 (fun _ => ⟨hk_r.symm, rfl⟩) (fun ⟨x, hx, hlt⟩ => by
    have := List.all_eq_true.1 hk_g x hx
    rw [decide_eq_true_eq] at this; omega)
theorem wk_rplan (A : Option Addr) (c : Nat) (w : World) (hA : Ppl w A hallPs) (T : Option Addr) (tc : Nat) (hT : I64 w T [2, 3, 2, 4, 0]) : Calls Try.prog 23 #[.agg #[.int .i64 5, .slice A 5 c], .int .i64 2, .slice T 5 tc] w (Gives w (.int .i64 0)) := by
  have := rplan_ok 2 T [2, 3, 2, 4, 0] tc 5 A hallPs c w hA (by decide) hT hk_ask (by decide)
  rw [hk_q] at this; exact this
theorem wk_longs (A B : Option Addr) (ca cb : Nat) (w : World) (hA : I64 w A [2, 3, 0, 4, 0]) (hB : I64 w B [2, 3, 0, 4, 0]) : Calls Try.prog 32 #[.slice A 5 ca, .slice B 5 cb] w (Gives w (.bool true)) := by
  have := longs_any A B [2, 3, 0, 4, 0] [2, 3, 0, 4, 0] ca cb w hA hB (by decide) (by decide)
  rw [decide_eq_true rfl] at this; exact this
end Go.Proofs.Ytbfhkknpocbeaaa
