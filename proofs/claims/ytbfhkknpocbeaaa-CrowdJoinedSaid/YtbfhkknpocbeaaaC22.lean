/- Proved here: contracts and laws of C22, a part of the proofs about the crowd laws: what some functions of the program and of the reference compute, and plain facts about it. Conditions: those that each theorem names, no others. -/
import Derived.Test.YtbfhkknpocbeaaaC21
import Derived.WalkKit
import Derived.WalkSpells
import Derived.WalkLawsBesides
import Derived.Below
import Derived.Deep.QuietTactic
import Derived.BigQuiet
import Derived.Deep.Light
import Derived.RangeFuncNested
import Derived.RangeFuncBound
import Derived.RangeFuncCalls
import Derived.RangeFuncLeaves
import Derived.Shelf.Abstract
import Derived.OwnWalkIn
import Derived.TacticsInMore
import Derived.LoopNIn
import Derived.LoopIn
import Derived.RangeFuncOne
import Derived.RangeFuncStops
import Derived.WalkMore

set_option linter.unusedSimpArgs false
set_option linter.unusedVariables false
namespace Go.Proofs.Ytbfhkknpocbeaaa
open Go.RowKit Go.Maps Go.Shelf
attribute [local go_sem] Oper.semAt_some
/-- a span -/
structure SpanV where
  fr : Int
  ti : Int
  ok : 1 ≤ fr ∧ fr ≤ ti ∧ ti ≤ 60
def mkS (a b : Int) : SpanV := if h : 1 ≤ a ∧ a ≤ b ∧ b ≤ 60 then ⟨a, b, h⟩ else ⟨1, 1, by omega⟩
theorem mkS_eq {a b : Int} (h : 1 ≤ a ∧ a ≤ b ∧ b ≤ 60) : mkS a b = ⟨a, b, h⟩ := by unfold mkS; rw [dif_pos h]
/-- the spans that begin with minute i + 1, the first d of them -/
def rowS (i d : Nat) : List SpanV := (List.range d).map (fun (e : Nat) => mkS ((i : Int) + 1) ((i : Int) + 1 + (e : Int)))
/-- the spans that begin among the first a minutes of m -/
def upS (m a : Nat) : List SpanV := (List.range a).flatMap (fun i => rowS i (m - i))
def spansL (m : Nat) : List SpanV := upS m m
theorem rowS_succ (i d : Nat) : rowS i (d + 1) = rowS i d ++ [mkS ((i : Int) + 1) ((i : Int) + 1 + d)] := by simp [rowS, List.range_succ]
theorem upS_succ (m a : Nat) : upS m (a + 1) = upS m a ++ rowS a (m - a) := by simp [upS, List.range_succ]
theorem upS_pre (m a : Nat) (h : a ≤ m) : upS m a <+: spansL m := by
  have key : ∀ (M k : Nat), upS M a <+: upS M (a + k) := fun M k => by
    induction k with
    | zero => exact List.prefix_refl _
    | succ k ih => rw [← Nat.add_assoc, upS_succ]; exact ih.trans (List.prefix_append _ _)
  have := key m (m - a)
  rw [Nat.add_sub_cancel' h] at this
  exact this
theorem rowS_pre (i d e : Nat) (h : d ≤ e) : rowS i d <+: rowS i e := by
  obtain ⟨k, rfl⟩ : ∃ k, e = d + k := ⟨e - d, by omega⟩
  induction k with
  | zero => exact List.prefix_refl _
  | succ k ih => rw [← Nat.add_assoc, rowS_succ]; exact (ih (by omega)).trans (List.prefix_append _ _)
theorem part_pre (m a d : Nat) (ha : a < m) (hd : a + d ≤ m) : upS m a ++ rowS a d <+: spansL m := by
  have h1 := upS_pre m (a + 1) (by omega)
  rw [upS_succ] at h1
  exact ((List.prefix_append_right_inj _).2 (rowS_pre a d (m - a) (by omega))).trans h1
/-- two blocks lie as they lay -/
structure Keep2 (b1 b2 : Nat) (A B : World) : Prop where
  k1 : B.heap[b1]? = A.heap[b1]?
  k2 : B.heap[b2]? = A.heap[b2]?
theorem Keep2.refl (b1 b2 : Nat) (A : World) : Keep2 b1 b2 A A := ⟨rfl, rfl⟩
theorem Keep2.trans {b1 b2 : Nat} {A B C : World} (h : Keep2 b1 b2 A B) (k : Keep2 b1 b2 B C) : Keep2 b1 b2 A C := ⟨k.k1.trans h.k1, k.k2.trans h.k2⟩
theorem Keep2.cell1 {b1 b2 : Nat} {A B : World} (h : Keep2 b1 b2 A B) (o : Nat) : B.cell? ⟨b1, o, none⟩ = A.cell? ⟨b1, o, none⟩ := by unfold World.cell?; rw [show B.heap[(⟨b1, o, none⟩ : Addr).block]? = _ from h.k1]
theorem Keep2.cell2 {b1 b2 : Nat} {A B : World} (h : Keep2 b1 b2 A B) (o : Nat) : B.cell? ⟨b2, o, none⟩ = A.cell? ⟨b2, o, none⟩ := by unfold World.cell?; rw [show B.heap[(⟨b2, o, none⟩ : Addr).block]? = _ from h.k2]
theorem Keep2.of_below {b1 b2 : Nat} {A B : World} {n : Nat} (h : Below n A B) (h1 : b1 < n) (h2 : b2 < n) : Keep2 b1 b2 A B := ⟨h.block b1 h1, h.block b2 h2⟩
theorem Keep2.setCell {b1 b2 : Nat} (A : World) {a : Addr} (h1 : b1 ≠ a.block) (h2 : b2 ≠ a.block) (v : Value) : Keep2 b1 b2 A (A.setCell a v) := ⟨Below.heap_setCell _ _ _ _ h1, Below.heap_setCell _ _ _ _ h2⟩
theorem keep2_b {w : World} {b1 b2 : Nat} (h1 : b1 < w.heap.size) (h2 : b2 < w.heap.size) (W : World) (l : Nat) (o o' : Obj) (hl : w.heap.size ≤ l) (_ : W.heap[l]? = some o) (_ : o.isCells = false) (_ : o.isWalk = false) : Keep2 b1 b2 W (W.putObj l o') :=
  ⟨World.putObj_heap_other (by omega), World.putObj_heap_other (by omega)⟩
def encP (x : SpanV) : Value := .agg #[.int .i64 x.fr, .int .i64 x.ti]
set_option maxRecDepth 100000 in
set_option maxHeartbeats 1000000 in
theorem spans1_in (n : Nat) (hn : 1 ≤ n) (l Bm fb m : Nat) (hm : m ≤ 60) (J Jx : List SpanV → World → Prop)
    (hY : ∀ pre x W, J pre W → pre.length < (spansL m).length → YieldAt Fence.wide (n - 1) Try.prog l #[encP x] W fun e W' =>
      (e = .returned (.bool true) ∧ J (pre ++ [x]) W' ∧ Keep2 Bm fb W W') ∨ (e = .returned (.bool false) ∧ Jx (pre ++ [x]) W'))
    (W : World) (hB : W.cell? ⟨Bm, 0, none⟩ = some (.pointer (some ⟨fb, 0, none⟩))) (hF : W.cell? ⟨fb, 0, none⟩ = some (.int .i64 m)) (h0 : J [] W) :
    CallsIn Fence.wide n Try.prog 79 #[.func (.yield l) #[] #[], .pointer (some ⟨Bm, 0, none⟩)] W fun e W' => (∃ v, e = .returned v) ∧
      ((∃ ys, ys = spansL m ∧ J ys W') ∨ (∃ pre, pre <+: spansL m ∧ Jx pre W')) := by
  refine callsIn_of_wp Try.func79 rfl trivial ?_ rfl
  simp only [Try.ntmps79, List.size_toArray, List.length_cons, List.length_nil, Nat.reduceAdd, Nat.reduceSub, Array.replicate_succ, Array.replicate_zero, List.push_toArray, List.append_toArray, List.nil_append, List.cons_append]
  gi_wp2
  refine wpIn_wide.2 (wp_scope_straight (wpIn_wide (n := n).1 ?_))
  refine wpIn_seq_k (fun K hK => ?_)
  refine wpIn_label ?_
  refine hK _ _ ?_
  clear hK K
  gi_wp2
  gi_loopw [3] (fun p wr => ∃ a : Nat, a ≤ m ∧ p = .int .i64 ((a : Int) + 1) ∧ J (upS m a) wr ∧ Keep2 Bm fb W wr) (fun p _ => m + 1 - (intOf p).toNat)
  case atStart => exact ⟨0, Nat.zero_le _, rfl, h0, Keep2.refl _ _ _⟩
  case round =>
    obtain ⟨a, ha, rfl, hJa, hb⟩ := hrel
    have c0 : wr.cell? ⟨Bm, 0, none⟩ = some (.pointer (some ⟨fb, 0, none⟩)) := (hb.cell1 0).trans hB
    have c1 : wr.cell? ⟨fb, 0, none⟩ = some (.int .i64 m) := (hb.cell2 0).trans hF
    by_cases hlt : a < m
    · have hdt : decide ((a : Int) + 1 ≤ (m : Int)) = true := decide_eq_true (by omega)
      gi_wp2
      obtain ⟨wo, rfl⟩ : ∃ wo : World, wo = wr := ⟨_, rfl⟩
      gi_loopw [4] (fun p wr => ∃ d : Nat, a + d ≤ m ∧ p = .int .i64 ((a : Int) + 1 + d) ∧ J (upS m a ++ rowS a d) wr ∧ Keep2 Bm fb W wr) (fun p _ => m + 1 - (intOf p).toNat)
      case atStart => exact ⟨0, by omega, by simp, by simpa [rowS] using hJa, hb⟩
      case round =>
        obtain ⟨d, hd, rfl, hJd, hb2⟩ := hrel
        have e0 : wr.cell? ⟨Bm, 0, none⟩ = some (.pointer (some ⟨fb, 0, none⟩)) := (hb2.cell1 0).trans hB
        have e1 : wr.cell? ⟨fb, 0, none⟩ = some (.int .i64 m) := (hb2.cell2 0).trans hF
        by_cases hld : a + d < m
        · have hpre := part_pre m a (d + 1) (by omega) (by omega)
          rw [rowS_succ, ← List.append_assoc] at hpre
          have hlen : (upS m a ++ rowS a d).length < (spansL m).length := by
            have := hpre.length_le
            simp only [List.length_append, List.length_cons, List.length_nil] at this ⊢
            omega
          have hnot : ¬ (m : Int) < (a : Int) + 1 + d := by omega
          obtain ⟨fn, tmps, assign, body, hy, hR⟩ := hY _ (mkS ((a : Int) + 1) ((a : Int) + 1 + d)) wr hJd hlen
          rw [encP, mkS_eq ⟨by omega, by omega, by omega⟩] at hy
          gi_wp2
          refine hR.mono ?_
          rintro e W3 (⟨rfl, hJ4, hk3⟩ | ⟨rfl, hJx3⟩)
          · gi_wp2
            go_roundw
            case measure => simp [intOf]; omega
            refine ⟨d + 1, by omega, by go_num, ?_, hb2.trans hk3⟩
            rw [rowS_succ, ← List.append_assoc]; exact hJ4
          · gi_wp2
            rw [Exit.noGoto_ret]
            refine bodyPost_ret (results_none rfl _ _ _) rfl ?_
            exact ⟨⟨_, rfl⟩, .inr ⟨_, hpre, hJx3⟩⟩
        · have hdm : d = m - a := by omega
          subst hdm
          gi_wp2
          refine ⟨⟨a + 1, by omega, by go_num, ?_, hb2⟩, by simp [intOf]; omega⟩
          rw [upS_succ]; exact hJd
    · have ham : a = m := by omega
      subst ham
      gi_wp2
      rw [Exit.noGoto_normal]
      gi_wp2
      go_end0
      exact ⟨⟨_, rfl⟩, .inl ⟨_, rfl, hJa⟩⟩
theorem spans_in (w : World) (p : Option Addr) : Calls Try.prog 62 #[.pointer p] w fun e w' => e = .returned (.func (.func 79) #[] #[.pointer (some ⟨w.heap.size, 0, none⟩)]) ∧ w' = w.alloc (.cells #[.pointer p] 69) := by
  go_enter Try.func62, Try.ntmps62
  go_wp2
  go_ret
  exact ⟨rfl, rfl⟩
theorem spans_stops (n : Nat) (hn : 1 ≤ n) (Bm fb m : Nat) (hm : m ≤ 60) (w : World) (h1n : Bm < w.heap.size) (h2n : fb < w.heap.size)
    (hB : w.cell? ⟨Bm, 0, none⟩ = some (.pointer (some ⟨fb, 0, none⟩))) (hF : w.cell? ⟨fb, 0, none⟩ = some (.int .i64 m)) :
    SeqStopsK Fence.wide n Try.prog 79 #[.pointer (some ⟨Bm, 0, none⟩)] (fun x : SpanV => #[encP x]) (Keep2 Bm fb) (fun ys => ys = spansL m) (fun pre => pre <+: spansL m) (spansL m).length w := fun l J Jx W hW _ _ hY h0 =>
  spans1_in n hn l Bm fb m hm J Jx hY W ((hW.cell (p := ⟨Bm, 0, none⟩) h1n).trans hB) ((hW.cell (p := ⟨fb, 0, none⟩) h2n).trans hF) h0
end Go.Proofs.Ytbfhkknpocbeaaa
