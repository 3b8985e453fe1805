/- Proved here: contracts and laws of C23, a part of the proofs about the crowd laws: what some functions of the program and of the reference compute, and plain facts about it. Conditions: those that each theorem names, no others. -/
import Derived.Test.YtbfhkknpocbeaaaC22
import Derived.WalkKit
import Derived.WalkSpells
import Derived.WalkLawsBesides
import Derived.Below
import Derived.Deep.QuietTactic
import Derived.BigQuiet
import Derived.Deep.Light
import Derived.RangeFuncNested
import Derived.RangeFuncBound
import Derived.RangeFuncCalls
import Derived.RangeFuncLeaves
import Derived.Shelf.Abstract
import Derived.OwnWalkIn
import Derived.TacticsInMore
import Derived.LoopNIn
import Derived.LoopIn
import Derived.RangeFuncOne
import Derived.RangeFuncStops
import Derived.WalkMore

set_option linter.unusedSimpArgs false
set_option linter.unusedVariables false
namespace Go.Proofs.Ytbfhkknpocbeaaa
open Go.RowKit Go.Maps Go.Shelf
attribute [local go_sem] Oper.semAt_some
structure Bst where
  fr : Int
  ti : Int
  top : Int
def bestStep (ps : List P3) (s : Bst) (x : SpanV) : Bst := if s.top < boundW x.fr x.ti ps then ⟨x.fr, x.ti, boundW x.fr x.ti ps⟩ else s
def bestS (ps : List P3) (l : List SpanV) : Bst := l.foldl (bestStep ps) ⟨0, 0, 0⟩
theorem bestS_snoc (ps : List P3) (l : List SpanV) (x : SpanV) : bestS ps (l ++ [x]) = bestStep ps (bestS ps l) x := by simp [bestS]
def Obj2 (W : World) (B : Nat) (t : TypeId) (a b : Int) : Prop := W.heap[B]? = some (.cells #[.int .i64 a, .int .i64 b] t (0, 0))
theorem obj2_own {β : Type} (B : Nat) (t : TypeId) (f g : β → Int) : Own (fun s W => Obj2 W B t (f s) (g s)) := fun s X Y row hs hg hrow => by
  refine (hg.block B (Array.getElem?_eq_some_iff.1 (show X.heap[B]? = _ from hs)).1 (fun e' => ?_)).trans hs
  obtain ⟨o, ho, hc⟩ := hrow B e'.symm; rw [show X.heap[B]? = _ from hs] at ho; cases ho; cases hc
theorem Obj2.c0 {W : World} {B : Nat} {t : TypeId} {a b : Int} (h : Obj2 W B t a b) : W.cell? ⟨B, 0, none⟩ = some (.int .i64 a) := by simp [World.cell?, show W.heap[B]? = _ from h]
theorem Obj2.c1 {W : World} {B : Nat} {t : TypeId} {a b : Int} (h : Obj2 W B t a b) : W.cell? ⟨B, 1, none⟩ = some (.int .i64 b) := by simp [World.cell?, show W.heap[B]? = _ from h]
theorem Obj2.fz {W : World} {B : Nat} {t : TypeId} {a b : Int} (h : Obj2 W B t a b) (o : Nat) : W.frozen? ⟨B, o, none⟩ = false := by simp [World.frozen?, show W.heap[B]? = _ from h]
theorem Obj2.lt {W : World} {B : Nat} {t : TypeId} {a b : Int} (h : Obj2 W B t a b) : B < W.heap.size := (Array.getElem?_eq_some_iff.1 (show W.heap[B]? = _ from h)).1
theorem Obj2.new (W : World) (t : TypeId) (a b : Int) : Obj2 (W.alloc (.cells #[.int .i64 a, .int .i64 b] t)) W.heap.size t a b := World.alloc_heap_new W _
theorem Obj2.kept {W W' : World} {row : Option Nat} {B : Nat} {t : TypeId} {a b : Int} (h : Obj2 W B t a b) (hg : W.grownBy W' row) (hne : some B ≠ row) : Obj2 W' B t a b := (hg.block B h.lt hne).trans h
theorem Obj2.alloc {W : World} {B : Nat} {t : TypeId} {a b : Int} (h : Obj2 W B t a b) (o : Obj) : Obj2 (W.alloc o) B t a b := h.kept (World.grownBy_alloc W o none) (by simp)
theorem Obj2.below {W W' : World} {B : Nat} {t : TypeId} {a b : Int} (h : Obj2 W B t a b) (hb : Below W.heap.size W W') : Obj2 W' B t a b := (hb.block B h.lt).trans h
theorem boxed_below {W W' : World} {B : Nat} {t : TypeId} {v : Value} (h : Boxed W B t v) (hb : Below W.heap.size W W') : Boxed W' B t v := (hb.block B h.lt).trans h
theorem Obj2.other {W : World} {B : Nat} {t : TypeId} {a b : Int} (h : Obj2 W B t a b) {p : Addr} (hne : B ≠ p.block) (v : Value) : Obj2 (W.setCell p v) B t a b := (Below.heap_setCell _ _ _ _ hne).trans h
theorem boxed_other {W : World} {B : Nat} {t : TypeId} {u : Value} (h : Boxed W B t u) {p : Addr} (hne : B ≠ p.block) (v : Value) : Boxed (W.setCell p v) B t u := (Below.heap_setCell _ _ _ _ hne).trans h
theorem set_obj {W : World} {B : Nat} {t : TypeId} {cs : Array Value} (h : W.heap[B]? = some (.cells cs t (0, 0))) (k : Nat) (v : Value) : (W.setCell ⟨B, k, none⟩ v).heap[B]? = some (.cells (cs.setIfInBounds k v) t (0, 0)) := by
  obtain ⟨hlt, hk⟩ := Array.getElem?_eq_some_iff.1 h
  show (W.heap.modify B _)[B]? = _
  rw [Array.getElem?_eq_getElem (by rw [Array.size_modify]; exact hlt), Array.getElem_modify_self, hk]
  rfl
theorem Obj2.set {W : World} {B : Nat} {t : TypeId} {a b : Int} (h : Obj2 W B t a b) (a' b' : Int) : Obj2 ((W.setCell ⟨B, 0, none⟩ (.int .i64 a')).setCell ⟨B, 1, none⟩ (.int .i64 b')) B t a' b' :=
  set_obj (set_obj h 0 _) 1 _
theorem keepsFrom_below {B : Nat} {W W' : World} (h : Below W.heap.size W W') : KeepsFrom B W W' :=
  ⟨h.size, fun k o _ ho _ => (h.block k (Array.getElem?_eq_some_iff.1 ho).1).trans ho⟩
set_option maxHeartbeats 400000 in
theorem crowd_bad (m : Int) (A : Option Addr) (ps : List P3) (c : Nat) (w : World) (hA : Ppl w A ps) (hl : ps.length ≤ 100) (h0 : checkHall m ps ≠ 0) :
    Calls Try.prog 28 #[.agg #[.int .i64 m, .slice A ps.length c]] w (Gives w (.tuple #[.agg #[.int .i64 0, .int .i64 0], .int .i64 (checkHall m ps)])) := by
  have h1 : (checkHall m ps != 0) = true := by simp [h0]
  go_enter Try.func28, Try.ntmps28
  go_wp2_with (go_at_call 58; refine (open_bad m A ps c _ (hA.ext (by (repeat (first | exact Below.refl _ _ | assumption | (refine below_gr ?_ (by (first | omega | (simp only [size_grow, World.size_alloc, size_drewN, size_drew, size_setCell] at *; omega))) _) | (refine below_alloc ?_ (by (first | omega | (simp only [size_grow, World.size_alloc, size_drewN, size_drew, size_setCell] at *; omega))) _) | (refine Below.setCell ?_ (by (first | omega | (simp only [size_grow, World.size_alloc, size_drewN, size_drew, size_setCell] at *; omega))) _) | refine below_drewN ?_ _ | refine below_drew ?_ | (refine below_step ?_ (by assumption) (by (first | omega | (simp only [size_grow, World.size_alloc, size_drewN, size_drew, size_setCell] at *; omega)))))))) hl h0).mono ?_; rintro e w1 ⟨rfl, hb1⟩; replace hb1 := ex_below hb1; have hz1 := hb1.size; (try simp only [size_grow, World.size_alloc, size_drewN, size_drew, size_setCell] at hz1); have hs1 : w.heap.size < w1.heap.size := (by (first | omega | (simp only [size_grow, World.size_alloc, size_drewN, size_drew, size_setCell] at *; omega))); have ho1 := own_cell hb1 (b := w.heap.size) (by (first | omega | (simp only [size_grow, World.size_alloc, size_drewN, size_drew, size_setCell] at *; omega))); have hq1 := own_frozen hb1 (b := w.heap.size) (by (first | omega | (simp only [size_grow, World.size_alloc, size_drewN, size_drew, size_setCell] at *; omega))); have hs1 : w.heap.size + 1 < w1.heap.size := (by (first | omega | (simp only [size_grow, World.size_alloc, size_drewN, size_drew, size_setCell] at *; omega))); have ho1 := own_cell hb1 (b := w.heap.size + 1) (by (first | omega | (simp only [size_grow, World.size_alloc, size_drewN, size_drew, size_setCell] at *; omega))); have hq1 := own_frozen hb1 (b := w.heap.size + 1) (by (first | omega | (simp only [size_grow, World.size_alloc, size_drewN, size_drew, size_setCell] at *; omega))); have hlt1 : ∀ b, b < w.heap.size → b < w1.heap.size := fun b hb => (by (first | omega | (simp only [size_grow, World.size_alloc, size_drewN, size_drew, size_setCell] at *; omega))); have hc1 : ∀ b o, b < w.heap.size → w1.cell? ⟨b, o, none⟩ = w.cell? ⟨b, o, none⟩ := old_cell (by (repeat (first | exact Below.refl _ _ | assumption | (refine below_gr ?_ (by (first | omega | (simp only [size_grow, World.size_alloc, size_drewN, size_drew, size_setCell] at *; omega))) _) | (refine below_alloc ?_ (by (first | omega | (simp only [size_grow, World.size_alloc, size_drewN, size_drew, size_setCell] at *; omega))) _) | (refine Below.setCell ?_ (by (first | omega | (simp only [size_grow, World.size_alloc, size_drewN, size_drew, size_setCell] at *; omega))) _) | refine below_drewN ?_ _ | refine below_drew ?_ | (refine below_step ?_ (by assumption) (by (first | omega | (simp only [size_grow, World.size_alloc, size_drewN, size_drew, size_setCell] at *; omega))))))))
  refine bodyPost_ret (v := .tuple #[.agg #[.int .i64 0, .int .i64 0], .int .i64 (checkHall m ps)]) (by simp [results, Try.results28, go_sem, ho1, hs1, hq1]) rfl (gives_of rfl (by (repeat (first | exact Below.refl _ _ | assumption | (refine below_gr ?_ (by (first | omega | (simp only [size_grow, World.size_alloc, size_drewN, size_drew, size_setCell] at *; omega))) _) | (refine below_alloc ?_ (by (first | omega | (simp only [size_grow, World.size_alloc, size_drewN, size_drew, size_setCell] at *; omega))) _) | (refine Below.setCell ?_ (by (first | omega | (simp only [size_grow, World.size_alloc, size_drewN, size_drew, size_setCell] at *; omega))) _) | refine below_drewN ?_ _ | refine below_drew ?_ | (refine below_step ?_ (by assumption) (by (first | omega | (simp only [size_grow, World.size_alloc, size_drewN, size_drew, size_setCell] at *; omega))))))))
set_option maxRecDepth 100000 in
set_option maxHeartbeats 1000000 in
theorem crowd_ok (m : Nat) (A : Option Addr) (ps : List P3) (c : Nat) (w : World) (hA : Ppl w A ps) (hl : ps.length ≤ 100) (h0 : checkHall m ps = 0) (S : Bst) (er : Int) (hS : bestS ps (spansL m) = S) (her : er = if S.fr = 0 ∧ S.ti = 0 then 16 else 0) :
    Calls Try.prog 28 #[.agg #[.int .i64 m, .slice A ps.length c]] w (Gives w (.tuple #[.agg #[.int .i64 S.fr, .int .i64 S.ti], .int .i64 er])) := by
  have HSS := hide hS
  have HER := hide her
  clear hS her
  have hv := check_val h0
  refine (callsIn_wide (n := 8)).1 ?_
  have h1 : 1 ≤ 8 := by omega
  refine callsIn_of_wp_marks Try.func28 rfl trivial ?_ rfl
  simp only [Try.ntmps28, List.size_toArray, List.length_cons, List.length_nil, Nat.reduceAdd, Nat.reduceSub, Array.replicate_succ, Array.replicate_zero, List.push_toArray, List.append_toArray, List.nil_append, List.cons_append]
  gi_wp2_with (first
    | (refine ⟨trivial, ?_⟩; gi_at_call 58; refine (callsIn_wide.2 (open_ok m A ps c _ (hA.ext (by (repeat (first | exact Below.refl _ _ | assumption | (refine below_gr ?_ (by (first | omega | (simp only [size_grow, World.size_alloc, size_drewN, size_drew, size_setCell] at *; omega))) _) | (refine below_alloc ?_ (by (first | omega | (simp only [size_grow, World.size_alloc, size_drewN, size_drew, size_setCell] at *; omega))) _) | (refine Below.setCell ?_ (by (first | omega | (simp only [size_grow, World.size_alloc, size_drewN, size_drew, size_setCell] at *; omega))) _) | refine below_drewN ?_ _ | refine below_drew ?_ | (refine below_step ?_ (by assumption) (by (first | omega | (simp only [size_grow, World.size_alloc, size_drewN, size_drew, size_setCell] at *; omega)))))))) hl h0)).mono ?_; rintro e w1 ⟨fb, rfl, hb1, hF1⟩; replace hb1 := ex_below hb1; have hz1 := hb1.size; (try simp only [size_grow, World.size_alloc, size_drewN, size_drew, size_setCell] at hz1); have hs1 : w.heap.size < w1.heap.size := (by (first | omega | (simp only [size_grow, World.size_alloc, size_drewN, size_drew, size_setCell] at *; omega))); have ho1 := own_cell hb1 (b := w.heap.size) (by (first | omega | (simp only [size_grow, World.size_alloc, size_drewN, size_drew, size_setCell] at *; omega))); have hq1 := own_frozen hb1 (b := w.heap.size) (by (first | omega | (simp only [size_grow, World.size_alloc, size_drewN, size_drew, size_setCell] at *; omega))); have hs1 : w.heap.size + 1 < w1.heap.size := (by (first | omega | (simp only [size_grow, World.size_alloc, size_drewN, size_drew, size_setCell] at *; omega))); have ho1 := own_cell hb1 (b := w.heap.size + 1) (by (first | omega | (simp only [size_grow, World.size_alloc, size_drewN, size_drew, size_setCell] at *; omega))); have hq1 := own_frozen hb1 (b := w.heap.size + 1) (by (first | omega | (simp only [size_grow, World.size_alloc, size_drewN, size_drew, size_setCell] at *; omega))); have hlt1 : ∀ b, b < w.heap.size → b < w1.heap.size := fun b hb => (by (first | omega | (simp only [size_grow, World.size_alloc, size_drewN, size_drew, size_setCell] at *; omega))); have hc1 : ∀ b o, b < w.heap.size → w1.cell? ⟨b, o, none⟩ = w.cell? ⟨b, o, none⟩ := old_cell (by (repeat (first | exact Below.refl _ _ | assumption | (refine below_gr ?_ (by (first | omega | (simp only [size_grow, World.size_alloc, size_drewN, size_drew, size_setCell] at *; omega))) _) | (refine below_alloc ?_ (by (first | omega | (simp only [size_grow, World.size_alloc, size_drewN, size_drew, size_setCell] at *; omega))) _) | (refine Below.setCell ?_ (by (first | omega | (simp only [size_grow, World.size_alloc, size_drewN, size_drew, size_setCell] at *; omega))) _) | refine below_drewN ?_ _ | refine below_drew ?_ | (refine below_step ?_ (by assumption) (by (first | omega | (simp only [size_grow, World.size_alloc, size_drewN, size_drew, size_setCell] at *; omega))))))))
    | (refine ⟨trivial, ?_⟩; gi_at_call 62; refine (callsIn_wide.2 (spans_in _ (some ⟨fb, 0, none⟩))).mono ?_; rintro e w2 ⟨rfl, rfl⟩))
  have hB0 : Below w1.heap.size w1 ((((w1.alloc (.cells #[.pointer (some ⟨fb, 0, none⟩)] 69)).alloc (.cells #[.int .i64 0, .int .i64 0] 89)).alloc (.cells #[.int .i64 0] 3)).alloc (.cells #[.pointer (some ⟨fb, 0, none⟩)] 69)) := by (repeat (first | exact Below.refl _ _ | assumption | (refine below_gr ?_ (by (first | omega | (simp only [size_grow, World.size_alloc, size_drewN, size_drew, size_setCell] at *; omega))) _) | (refine below_alloc ?_ (by (first | omega | (simp only [size_grow, World.size_alloc, size_drewN, size_drew, size_setCell] at *; omega))) _) | (refine Below.setCell ?_ (by (first | omega | (simp only [size_grow, World.size_alloc, size_drewN, size_drew, size_setCell] at *; omega))) _) | refine below_drewN ?_ _ | refine below_drew ?_ | (refine below_step ?_ (by assumption) (by (first | omega | (simp only [size_grow, World.size_alloc, size_drewN, size_drew, size_setCell] at *; omega))))))
  have o0 := (((Boxed.new w1 69 (.pointer (some ⟨fb, 0, none⟩))).alloc (.cells #[.int .i64 0, .int .i64 0] 89)).alloc (.cells #[.int .i64 0] 3)).alloc (.cells #[.pointer (some ⟨fb, 0, none⟩)] 69)
  have o1 := ((Obj2.new (w1.alloc (.cells #[.pointer (some ⟨fb, 0, none⟩)] 69)) 89 0 0).alloc (.cells #[.int .i64 0] 3)).alloc (.cells #[.pointer (some ⟨fb, 0, none⟩)] 69)
  have o2 := (Boxed.new ((w1.alloc (.cells #[.pointer (some ⟨fb, 0, none⟩)] 69)).alloc (.cells #[.int .i64 0, .int .i64 0] 89)) 3 (.int .i64 0)).alloc (.cells #[.pointer (some ⟨fb, 0, none⟩)] 69)
  have o3 := Boxed.new (((w1.alloc (.cells #[.pointer (some ⟨fb, 0, none⟩)] 69)).alloc (.cells #[.int .i64 0, .int .i64 0] 89)).alloc (.cells #[.int .i64 0] 3)) 69 (.pointer (some ⟨fb, 0, none⟩))
  have hsz : ((((w1.alloc (.cells #[.pointer (some ⟨fb, 0, none⟩)] 69)).alloc (.cells #[.int .i64 0, .int .i64 0] 89)).alloc (.cells #[.int .i64 0] 3)).alloc (.cells #[.pointer (some ⟨fb, 0, none⟩)] 69)).heap.size = w1.heap.size + 4 := by simp
  simp only [World.size_alloc] at o1 o2 o3
  obtain ⟨W0, hW0⟩ : ∃ W0, ((((w1.alloc (.cells #[.pointer (some ⟨fb, 0, none⟩)] 69)).alloc (.cells #[.int .i64 0, .int .i64 0] 89)).alloc (.cells #[.int .i64 0] 3)).alloc (.cells #[.pointer (some ⟨fb, 0, none⟩)] 69)) = W0 := ⟨_, rfl⟩
  rw [hW0] at hB0 o0 o1 o2 o3 hsz ⊢
  clear hW0
  have hfb := hF1.1
  have hF0 := hF1.ext hB0
  have hbw1 : Below w.heap.size w w1 := by (repeat (first | exact Below.refl _ _ | assumption | (refine below_gr ?_ (by (first | omega | (simp only [size_grow, World.size_alloc, size_drewN, size_drew, size_setCell] at *; omega))) _) | (refine below_alloc ?_ (by (first | omega | (simp only [size_grow, World.size_alloc, size_drewN, size_drew, size_setCell] at *; omega))) _) | (refine Below.setCell ?_ (by (first | omega | (simp only [size_grow, World.size_alloc, size_drewN, size_drew, size_setCell] at *; omega))) _) | refine below_drewN ?_ _ | refine below_drew ?_ | (refine below_step ?_ (by assumption) (by (first | omega | (simp only [size_grow, World.size_alloc, size_drewN, size_drew, size_setCell] at *; omega))))))
  refine wpIn_rangeFunc_ownH rfl h1 (gf := 79) (lb := #[.pointer (some ⟨w1.heap.size + 1 + 1 + 1, 0, none⟩)]) rfl trivial (enters_of Try.func79 (by kernel_rfl) rfl)
    (spans_stops 7 (by omega) (w1.heap.size + 1 + 1 + 1) fb m (by omega) W0 (by omega) (by omega) o3.cell hF0.2.1) (fun h k => h.trans k) (keep2_b (by omega) (by omega)) (Below.refl _ _) (fun _ => rfl)
    (fun pre W => ((Obj2 W (w1.heap.size + 1) 89 (bestS ps pre).fr (bestS ps pre).ti ∧ Boxed W (w1.heap.size + 1 + 1) 3 (.int .i64 (bestS ps pre).top)) ∧ (Boxed W w1.heap.size 69 (.pointer (some ⟨fb, 0, none⟩)) ∧ Boxed W (w1.heap.size + 1 + 1 + 1) 69 (.pointer (some ⟨fb, 0, none⟩)))) ∧ Below w1.heap.size w1 W)
    (fun _ _ _ => False)
    (OwnFrom.and (OwnFrom.and (OwnFrom.and (Own.from (obj2_own _ _ _ _) _) (Own.from (boxed_own _ _ _) _)) (OwnFrom.and (Own.from (boxed_own _ _ _) _) (Own.from (boxed_own _ _ _) _))) (ownFrom_below (Nat.le_refl _) (by omega)))
    (fun _ _ _ _ _ hs _ _ => hs)
    ⟨⟨⟨o1, o2⟩, o0, o3⟩, hB0⟩
    (fun x a' W => ∃ Bx, w1.heap.size + 1 + 1 < Bx ∧ Obj2 W Bx 89 x.fr x.ti ∧ a' = { tmps := #[.agg #[.int .i64 m, .slice A ps.length c], .pointer (some ⟨w.heap.size, 0, none⟩), .pointer (some ⟨w.heap.size + 1, 0, none⟩), .int .i64 0, .pointer (some ⟨w1.heap.size, 0, none⟩), .int .i64 0, .pointer (some ⟨w1.heap.size + 1, 0, none⟩), .pointer (some ⟨w1.heap.size + 1 + 1, 0, none⟩), .pointer (some ⟨Bx, 0, none⟩), undef, .tuple #[.pointer (some ⟨fb, 0, none⟩), .int .i64 0], .agg #[.int .i64 m, .slice A ps.length c], .tuple #[.pointer (some ⟨fb, 0, none⟩), .int .i64 0], .pointer (some ⟨fb, 0, none⟩), .int .i64 0, .int .i64 0, .bool false, undef, undef, .agg #[.int .i64 0, .int .i64 0], .pointer (some ⟨fb, 0, none⟩), .func (.func 79) #[] #[.pointer (some ⟨w1.heap.size + 1 + 1 + 1, 0, none⟩)], encP x, undef, undef, undef, undef, undef, undef, undef, undef, undef, undef, undef, undef, undef, undef, undef, undef, undef], defers := [] })
    (fun x a' _ X Y row hs hg hr => by obtain ⟨Bx, h1, h2, h3⟩ := hs; exact ⟨Bx, h1, obj2_own Bx 89 (fun (_ : Unit) => x.fr) (fun _ => x.ti) () X Y row h2 hg (fun r e => (hr r e).2), h3⟩)
    ?assign ?body ?done ?stop
  case assign =>
    rintro l pre x W K ⟨⟨⟨b1, b2⟩, b0, b3⟩, hBW⟩ hK
    unfold encP at *
    gi_wp2
    exact hK _ _ ((KeepsOthers.alloc _ _).from _) (Keep2.of_below ((Below.refl _ W).alloc (Nat.le_refl _) _) b3.lt (by have := hBW.size; omega)) ⟨⟨⟨b1.alloc _, b2.alloc _⟩, b0.alloc _, b3.alloc _⟩, hBW.alloc hBW.size _⟩ ⟨W.heap.size, b2.lt, Obj2.new W _ _ _, rfl⟩
  case body =>
    rintro l pre x a' W hll ⟨r, hr⟩ ⟨⟨⟨b1, b2⟩, b0, b3⟩, hBW⟩ ⟨Bx, hBx, bX, rfl⟩ hlt
    have c0 := b0.cell
    have x0 := bX.c0
    have x1 := bX.c1
    have hAW : Ppl W A ps := hA.ext (hbw1.trans (hBW.mono hbw1.size))
    have hFW : Flr W fb m A ps.length c := hF1.ext hBW
    have hxo := x.ok
    have hm1 : 1 ≤ 8 - 1 - 1 := by omega
    have hst := hide (bestS_snoc ps pre x)
    have hsb := hide (show bestStep ps (bestS ps pre) x = if (bestS ps pre).top < boundW x.fr x.ti ps then ⟨x.fr, x.ti, boundW x.fr x.ti ps⟩ else bestS ps pre from rfl)
    generalize bestS ps pre = sp at *
    gi_wp2_with (refine ⟨trivial, ?_⟩; gi_at_call 61; refine (CallsIn.inRound l (callsIn_wide.2 (pbound_any x.fr x.ti m A ps c fb W hAW hl hFW hxo.1 hxo.2.1 (by omega)))).mono ?_; rintro e w3 ⟨rfl, hb3⟩; replace hb3 := ex_below hb3; have d1 := b1.below hb3; have d2 := boxed_below b2 hb3; have d0 := boxed_below b0 hb3; have d3 := boxed_below b3 hb3; have dX := bX.below hb3; have y1 := d2.cell; have y2 := dX.c0; have y3 := dX.c1; have y4 := d1.c0; have y5 := d1.c1; have y6 := d1.fz; have y7 := d2.frozen)
    · have hgt : sp.top < boundW x.fr x.ti ps := by assumption
      refine ⟨(keepsFrom_below hb3).trans ((((KeepsOthers.setCell _ _ _).trans (KeepsOthers.setCell _ _ _)).trans (KeepsOthers.setCell _ _ _)).from _),
        (Keep2.of_below hb3 b3.lt hFW.1).trans (((Keep2.setCell _ (by simp; try omega) (by simp; omega) _).trans (Keep2.setCell _ (by simp; try omega) (by simp; omega) _)).trans (Keep2.setCell _ (by simp; try omega) (by simp; omega) _)), ?_⟩
      show ((Obj2 _ _ _ (bestS ps (pre ++ [x])).fr (bestS ps (pre ++ [x])).ti ∧ Boxed _ _ _ (.int .i64 (bestS ps (pre ++ [x])).top)) ∧ _) ∧ _
      rw [hst.out, hsb.out, if_pos hgt]
      refine ⟨⟨⟨(d1.set _ _).other (by simp; try omega) _, ((boxed_other (boxed_other d2 (by simp; try omega) _) (by simp; try omega) _).set _)⟩, boxed_other (boxed_other (boxed_other d0 (by simp; try omega) _) (by simp; try omega) _) (by simp; try omega) _, boxed_other (boxed_other (boxed_other d3 (by simp; try omega) _) (by simp; try omega) _) (by simp; try omega) _⟩, ?_⟩
      exact (((hBW.trans (hb3.mono hBW.size)).setCell (p := ⟨_, 0, none⟩) (by simp) _).setCell (p := ⟨_, 1, none⟩) (by simp) _).setCell (p := ⟨_, 0, none⟩) (by simp; try omega) _
    · have hle : ¬ sp.top < boundW x.fr x.ti ps := Int.not_lt.2 (by assumption)
      refine ⟨keepsFrom_below hb3, Keep2.of_below hb3 b3.lt hFW.1, ?_⟩
      show ((Obj2 _ _ _ (bestS ps (pre ++ [x])).fr (bestS ps (pre ++ [x])).ti ∧ Boxed _ _ _ (.int .i64 (bestS ps (pre ++ [x])).top)) ∧ _) ∧ _
      rw [hst.out, hsb.out, if_neg hle]
      exact ⟨⟨⟨d1, d2⟩, d0, d3⟩, hBW.trans (hb3.mono hBW.size)⟩
  case done =>
    rintro D xs W hD rfl ⟨⟨⟨b1, b2⟩, b0, b3⟩, hBW⟩ hK
    rw [HSS.out] at b1 b2
    have z0 := b1.c0
    have z1 := b1.c1
    have hRc := hBW.cell (p := ⟨w.heap.size + 1, 0, none⟩) (by show w.heap.size + 1 < _; omega)
    have hRd := hBW.cell (p := ⟨w.heap.size + 1, 1, none⟩) (by show w.heap.size + 1 < _; omega)
    have hR0 : W.cell? ⟨w.heap.size + 1, 0, none⟩ = some (.int .i64 0) := by rw [hRc, ho1]; simp [go_sem]
    have hR1 : W.cell? ⟨w.heap.size + 1, 1, none⟩ = some (.int .i64 0) := by rw [hRd, ho1]; simp [go_sem]
    have hbW : Below w.heap.size w W := hbw1.trans (hBW.mono hbw1.size)
    have hRf : ∀ o, W.frozen? ⟨w.heap.size + 1, o, none⟩ = false := fun o => by
      have e : W.heap[w.heap.size + 1]? = w1.heap[w.heap.size + 1]? := hBW.block _ (by omega)
      have e2 : W.frozen? ⟨w.heap.size + 1, o, none⟩ = w1.frozen? ⟨w.heap.size + 1, o, none⟩ := by unfold World.frozen?; rw [show W.heap[(⟨w.heap.size + 1, o, none⟩ : Addr).block]? = _ from e]
      rw [e2, hq1]; simp [go_sem]
    clear hRc hRd
    by_cases hz : S.fr = 0 ∧ S.ti = 0
    · have her : er = 16 := by rw [HER.out, if_pos hz]
      obtain ⟨g1, g2⟩ := hz
      rw [g1] at z0
      rw [g2] at z1
      gi_wp2
      obtain ⟨W3, hW3⟩ : ∃ W3, ((W.setCell ⟨w.heap.size + 1, 0, none⟩ (.int .i64 0)).setCell ⟨w.heap.size + 1, 1, none⟩ (.int .i64 0)) = W3 := ⟨_, rfl⟩
      have hK2 : W3.heap[D]? = some (.deferred (some [])) := by rw [← hW3]; exact ((KeepsOthers.setCell W ⟨w.heap.size + 1, 0, none⟩ (.int .i64 0)).trans (KeepsOthers.setCell _ ⟨w.heap.size + 1, 1, none⟩ (.int .i64 0))).same D _ hK rfl
      have v0 : W3.cell? ⟨w.heap.size + 1, 0, none⟩ = some (.int .i64 0) := by rw [← hW3]; simp [go_sem, hR0, hR1]
      have v1 : W3.cell? ⟨w.heap.size + 1, 1, none⟩ = some (.int .i64 0) := by rw [← hW3]; simp [go_sem, hR0, hR1]
      have hb3 : Below w.heap.size w W3 := by rw [← hW3]; exact ((hbW.setCell (p := ⟨_, 0, none⟩) (by simp) _).setCell (p := ⟨_, 1, none⟩) (by simp) _)
      rw [hW3]
      clear hW3
      have hDR : D ≠ w.heap.size + 1 := by omega
      have p0 : (W3.putObj D (.deferred none)).cell? ⟨w.heap.size + 1, 0, none⟩ = some (.int .i64 0) := by
        have e : (W3.putObj D (.deferred none)).heap[w.heap.size + 1]? = _ := World.putObj_heap_other (fun h => hDR h.symm)
        unfold World.cell? at v0 ⊢; rw [e]; exact v0
      have p1 : (W3.putObj D (.deferred none)).cell? ⟨w.heap.size + 1, 1, none⟩ = some (.int .i64 0) := by
        have e : (W3.putObj D (.deferred none)).heap[w.heap.size + 1]? = _ := World.putObj_heap_other (fun h => hDR h.symm)
        unfold World.cell? at v1 ⊢; rw [e]; exact v1
      refine ⟨by simp, .inl ⟨_, _, rfl, run_takeDeferred hK2, ?_⟩⟩
      refine ⟨.tuple #[.agg #[.int .i64 0, .int .i64 0], .int .i64 16], by simp [results, Try.results28, go_sem, p0, p1], gives_of (by rw [g1, g2, her]) (hb3.trans (belowK_b (w := w) (Nat.le_refl _) W3 D _ _ (by omega) hK2 rfl rfl))⟩
    · have her : er = 0 := by rw [HER.out, if_neg hz]
      have hzb : (decide (S.fr = 0) && decide (S.ti = 0)) = false := by rw [← Bool.not_eq_true, Bool.and_eq_true, decide_eq_true_eq, decide_eq_true_eq]; exact hz
      gi_wp2
      · skip
        obtain ⟨W3, hW3⟩ : ∃ W3, ((W.setCell ⟨w.heap.size + 1, 0, none⟩ (.int .i64 0)).setCell ⟨w.heap.size + 1, 1, none⟩ (.int .i64 S.ti)) = W3 := ⟨_, rfl⟩
        have hK2 : W3.heap[D]? = some (.deferred (some [])) := by rw [← hW3]; exact ((KeepsOthers.setCell W ⟨w.heap.size + 1, 0, none⟩ (.int .i64 0)).trans (KeepsOthers.setCell _ ⟨w.heap.size + 1, 1, none⟩ (.int .i64 S.ti))).same D _ hK rfl
        have v0 : W3.cell? ⟨w.heap.size + 1, 0, none⟩ = some (.int .i64 0) := by rw [← hW3]; simp [go_sem, hR0, hR1]
        have v1 : W3.cell? ⟨w.heap.size + 1, 1, none⟩ = some (.int .i64 S.ti) := by rw [← hW3]; simp [go_sem, hR0, hR1]
        have hb3 : Below w.heap.size w W3 := by rw [← hW3]; exact ((hbW.setCell (p := ⟨_, 0, none⟩) (by simp) _).setCell (p := ⟨_, 1, none⟩) (by simp) _)
        rw [hW3]
        clear hW3
        have hDR : D ≠ w.heap.size + 1 := by omega
        have p0 : (W3.putObj D (.deferred none)).cell? ⟨w.heap.size + 1, 0, none⟩ = some (.int .i64 0) := by
          have e : (W3.putObj D (.deferred none)).heap[w.heap.size + 1]? = _ := World.putObj_heap_other (fun h => hDR h.symm)
          unfold World.cell? at v0 ⊢; rw [e]; exact v0
        have p1 : (W3.putObj D (.deferred none)).cell? ⟨w.heap.size + 1, 1, none⟩ = some (.int .i64 S.ti) := by
          have e : (W3.putObj D (.deferred none)).heap[w.heap.size + 1]? = _ := World.putObj_heap_other (fun h => hDR h.symm)
          unfold World.cell? at v1 ⊢; rw [e]; exact v1
        refine ⟨by simp, .inl ⟨_, _, rfl, run_takeDeferred hK2, ?_⟩⟩
        refine ⟨.tuple #[.agg #[.int .i64 0, .int .i64 S.ti], .int .i64 0], by simp [results, Try.results28, go_sem, p0, p1], gives_of (by rw [show S.fr = 0 by assumption, her]) (hb3.trans (belowK_b (w := w) (Nat.le_refl _) W3 D _ _ (by omega) hK2 rfl rfl))⟩
      · skip
        obtain ⟨W3, hW3⟩ : ∃ W3, ((W.setCell ⟨w.heap.size + 1, 0, none⟩ (.int .i64 S.fr)).setCell ⟨w.heap.size + 1, 1, none⟩ (.int .i64 S.ti)) = W3 := ⟨_, rfl⟩
        have hK2 : W3.heap[D]? = some (.deferred (some [])) := by rw [← hW3]; exact ((KeepsOthers.setCell W ⟨w.heap.size + 1, 0, none⟩ (.int .i64 S.fr)).trans (KeepsOthers.setCell _ ⟨w.heap.size + 1, 1, none⟩ (.int .i64 S.ti))).same D _ hK rfl
        have v0 : W3.cell? ⟨w.heap.size + 1, 0, none⟩ = some (.int .i64 S.fr) := by rw [← hW3]; simp [go_sem, hR0, hR1]
        have v1 : W3.cell? ⟨w.heap.size + 1, 1, none⟩ = some (.int .i64 S.ti) := by rw [← hW3]; simp [go_sem, hR0, hR1]
        have hb3 : Below w.heap.size w W3 := by rw [← hW3]; exact ((hbW.setCell (p := ⟨_, 0, none⟩) (by simp) _).setCell (p := ⟨_, 1, none⟩) (by simp) _)
        rw [hW3]
        clear hW3
        have hDR : D ≠ w.heap.size + 1 := by omega
        have p0 : (W3.putObj D (.deferred none)).cell? ⟨w.heap.size + 1, 0, none⟩ = some (.int .i64 S.fr) := by
          have e : (W3.putObj D (.deferred none)).heap[w.heap.size + 1]? = _ := World.putObj_heap_other (fun h => hDR h.symm)
          unfold World.cell? at v0 ⊢; rw [e]; exact v0
        have p1 : (W3.putObj D (.deferred none)).cell? ⟨w.heap.size + 1, 1, none⟩ = some (.int .i64 S.ti) := by
          have e : (W3.putObj D (.deferred none)).heap[w.heap.size + 1]? = _ := World.putObj_heap_other (fun h => hDR h.symm)
          unfold World.cell? at v1 ⊢; rw [e]; exact v1
        refine ⟨by simp, .inl ⟨_, _, rfl, run_takeDeferred hK2, ?_⟩⟩
        refine ⟨.tuple #[.agg #[.int .i64 S.fr, .int .i64 S.ti], .int .i64 0], by simp [results, Try.results28, go_sem, p0, p1], gives_of (by rw [her]) (hb3.trans (belowK_b (w := w) (Nat.le_refl _) W3 D _ _ (by omega) hK2 rfl rfl))⟩
  case stop =>
    rintro D c pre W _ _ h _
    exact h.elim
end Go.Proofs.Ytbfhkknpocbeaaa
