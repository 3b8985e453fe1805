/- Proved here: contracts and laws of C12, a part of the proofs about the crowd laws: what some functions of the program and of the reference compute, and plain facts about it. Conditions: those that each theorem names, no others. -/
import Derived.Test.YtbfhkknpocbeaaaC11
import Derived.RangeFuncNested
import Derived.RangeFuncBound
import Derived.RangeFuncCalls
import Derived.RangeFuncLeaves
import Derived.Shelf.Abstract
import Derived.WalkKit
import Derived.OwnWalkIn
import Derived.TacticsInMore
import Derived.LoopNIn
import Derived.LoopIn
import Derived.Maps.OwnIn
import Derived.Sort.KeysCollected
import Derived.RangeFuncGives
import Derived.RangeFuncOne
import Derived.RangeFuncStops
import Derived.Maps.AppendAt
set_option linter.unusedSimpArgs false
set_option linter.unusedVariables false
namespace Go.Proofs.Ytbfhkknpocbeaaa
open Go.RowKit Go.Maps Go.Shelf
attribute [local go_sem] Oper.semAt_some
def CollS {H : Type} (D0 : DataW H) (left : Lit → Bool) (ss : List P2) : Prop := ss.Nodup ∧ ∀ x, x ∈ ss ↔ (okS x ∧ has D0 (litS x) = true ∧ left (litS x) = false)
theorem sameKey_same (p : P2) : (litS p).sameKey (litS p) = true := by simp [litS, Lit.sameKey]
theorem CollS.start {H : Type} (D0 : DataW H) : CollS D0 (has D0) [] := ⟨List.nodup_nil, fun x => by cases has D0 (litS x) <;> simp⟩
theorem CollS.step {H : Type} {D0 : DataW H} {left : Lit → Bool} {ss : List P2} (h : CollS D0 left ss) {x : P2} {y : DataW H} (hx : okS x) (hlk : left (litS x) = true) (hat : ∀ zd, D0.atKey (litS x) zd = y) : CollS D0 (fun z => left z && !z.sameKey (litS x)) (ss ++ [x]) := by
  have hhas : has D0 (litS x) = true := has_true_of_atKey hat
  have hnew : x ∉ ss := fun hx => by have := ((h.2 x).1 hx).2.2; rw [hlk] at this; cases this
  refine ⟨List.nodup_append.2 ⟨h.1, by simp, fun a ha b hb => by simp at hb; subst hb; exact fun e => hnew (e ▸ ha)⟩, fun y => ?_⟩
  by_cases hy : y = x
  · subst hy; simp [hhas, sameKey_same, hx]
  · rw [List.mem_append, h.2 y]
    simp [hy]
    intro ho _
    have : litS x ≠ litS y := fun e => hy (litS_inj hx ho e).symm
    rw [sameKey_ne (Ne.symm this)]; simp
theorem strike_grown {W w2 w3 : World} {row : Option Nat} (h : W.grownBy w2 row) (h2 : w2.grownBy w3 none) : W.grownBy w3 row :=
  ⟨h2.os.trans h.os, h2.tape.trans h.tape, h2.output.trans h.output, Nat.le_trans h.size h2.size, fun k hk hr => (h2.block k (Nat.lt_of_lt_of_le hk h.size) (by simp)).trans (h.block k hk hr)⟩
set_option maxRecDepth 100000 in
set_option maxHeartbeats 1000000 in
theorem keys1_in {H : Type} (F : Fence) (n : Nat) (h10 : F.fn 82) (hro : F.round = none) (hn : 1 ≤ n) (l Bm b nn : Nat) (D0 : DataW H) (J Jx : List P2 → World → Prop)
    (hY : ∀ pre x W, J pre W → pre.length < Maps.size D0 → YieldAt F (n - 1) Try.prog l #[encS x] W fun e W' => (e = .returned (.bool true) ∧ J (pre ++ [x]) W' ∧ KeepsWalks W W') ∨ (e = .returned (.bool false) ∧ Jx (pre ++ [x]) W'))
    (W : World) (hJ : AbidesFrom W.heap.size J) (hm : W.cell? ⟨Bm, 0, none⟩ = some (.map (some b))) (hBm : Bm < W.heap.size) (hown : W.ownsMap Try.prog 100 (plainElem Try.prog 3) b nn D0) (h0 : J [] W) :
    CallsIn F n Try.prog 82 #[.func (.yield l) #[] #[], .pointer (some ⟨Bm, 0, none⟩)] W fun e W' => (∃ v, e = .returned v) ∧ ((∃ ss : List P2, (ss.Nodup ∧ ∀ x, x ∈ ss ↔ (okS x ∧ has D0 (litS x) = true)) ∧ J ss W') ∨ (∃ pre, True ∧ Jx pre W')) := by
  refine callsIn_of_wp Try.func82 rfl h10 ?_ hro
  simp only [Try.ntmps82, List.size_toArray, List.length_cons, List.length_nil, Nat.reduceAdd, Nat.reduceSub, Array.replicate_succ, Array.replicate_zero, List.push_toArray, List.append_toArray, List.nil_append, List.cons_append]
  gi_wp2_with (first
    | (gi_at_range; refine wpListIn_range_own _ rfl _ 96 rfl 100 3 lawS Try.underlying96 _ b nn _ rfl hown ?_; intro w0 hrg0 hg0 hs0)
    | gi_in)
  go_frame
  gi_loopw [3] (fun _ wr => ∃ (left : Lit → Bool) (cnt : Nat) (ss : List P2), wr.ranges Try.prog 100 (plainElem Try.prog 3) b W.heap.size nn D0 left cnt ∧ ss.length + cnt ≤ Maps.size D0 ∧ CollS D0 left ss ∧ J ss wr)
    (fun _ wr => wr.rangeLeft b W.heap.size)
  case atStart =>
    exact ⟨_, _, [], hrg0, by simp, CollS.start D0, hJ [] W w0 none h0 hg0 (fun r e => by cases e)⟩
  case round =>
    obtain ⟨left, cnt, ss, hrg, hcs, hC, hJs⟩ := hrel
    gi_wp2_with (first
      | (gi_at_next; refine wpListIn_next_ranges _ rfl _ rfl 100 lawS (plainElem Try.prog 3) encS (Value.int .i64) (fun key kl hk => by obtain ⟨x, _, hx, _⟩ := keyS_inv hk; exact ⟨x, hx⟩) (fun v y hv => by obtain ⟨c, rfl, _⟩ := plainElem_int_inv Try.underlying3 hv; exact ⟨c, rfl⟩) b W.heap.size nn _ _ _ rfl hrg ?_ ?_)
      | gi_in)
    · intro hc0 hl0
      gi_wp2
      go_end0
      exact ⟨⟨_, rfl⟩, .inl ⟨ss, ⟨hC.1, fun x => by rw [hC.2 x, hl0]; simp⟩, hJs⟩⟩
    · intro x c kl yd yp w2 cnt2 hkey hlk hv hat hrg2 hlt hg2 hs2 hen
      obtain ⟨x', hok, ex, rfl⟩ := keyS_inv hkey
      obtain rfl : x = x' := encS_inj ex
      clear hs2
      have hJ2 : J ss w2 := hJ ss wr w2 (some W.heap.size) hJs hg2 (fun r e => by cases e; exact ⟨Nat.le_refl _, hrg.iter_walk⟩)
      have hJ3 : J ss (w2.alloc (.cells #[.int .i64 x.un, .int .i64 x.pn] 100)) := hJ ss w2 _ none hJ2 (World.grownBy_alloc _ _ _) (fun r e => by cases e)
      have hrg3 := hrg2.alloc (.cells #[.int .i64 x.un, .int .i64 x.pn] 100)
      obtain ⟨fn, tmps, assign, body, hy, hR⟩ := hY ss x _ hJ3 (by omega)
      simp only [encS] at hen hy
      gi_wp2
      refine hR.mono ?_
      rintro e W3 (⟨rfl, hJ4, hk3⟩ | ⟨rfl, hJx3⟩)
      · gi_wp2
        have hrg4 := hrg3.of_walks hk3
        go_roundw
        case rel => exact ⟨_, cnt2, ss ++ [x], hrg4, by simp; omega, hC.step hok hlk hat, hJ4⟩
        case measure => rw [hrg4.left_eq, hrg.left_eq]; exact hlt
      · gi_wp2
        refine bodyPost_ret (results_none rfl _ _ _) rfl ?_
        exact ⟨⟨_, rfl⟩, .inr ⟨ss ++ [x], trivial, hJx3⟩⟩
set_option maxHeartbeats 1000000 in
theorem keys_in (F : Fence) (n : Nat) (h7 : F.fn 71) (hro : F.round = none) (mb : Option Nat) (w : World) :
    CallsIn F n Try.prog 71 #[.map mb] w fun e w' => e = .returned (.func (.func 82) #[] #[.pointer (some ⟨w.heap.size, 0, none⟩)]) ∧ w' = w.alloc (.cells #[.map mb] 96) := by
  refine callsIn_of_wp Try.func71 rfl h7 ?_ hro
  simp only [Try.ntmps71, List.size_toArray, List.length_cons, List.length_nil, Nat.reduceAdd, Nat.reduceSub, Array.replicate_succ, Array.replicate_zero, List.push_toArray, List.append_toArray, List.nil_append, List.cons_append]
  gi_wp2
  go_ret
  exact ⟨rfl, rfl⟩
def GotS {H : Type} (D0 : DataW H) (ss : List P2) : Prop := ss.Nodup ∧ ∀ x, x ∈ ss ↔ (okS x ∧ has D0 (litS x) = true)
theorem keys_stops {H : Type} (F : Fence) (n : Nat) (h10 : F.fn 82) (hro : F.round = none) (hn : 1 ≤ n) (Bm b nn : Nat) (D0 : DataW H) (w : World) (hBm : Bm < w.heap.size)
    (hm : w.cell? ⟨Bm, 0, none⟩ = some (.map (some b))) (hown : w.ownsMap Try.prog 100 (plainElem Try.prog 3) b nn D0) :
    SeqStops F n Try.prog 82 #[.pointer (some ⟨Bm, 0, none⟩)] encS (GotS D0) (fun _ => True) (Maps.size D0) w := fun l J Jx W hW hJ _ hY h0 => by
  have hown' : W.ownsMap Try.prog 100 (plainElem Try.prog 3) b nn D0 := by
    have hbl := hown.lt
    obtain ⟨es, clock, hb, Ft, hs, hD⟩ := hown
    exact ⟨es, clock, (hW.block b hbl).trans hb, Ft, hs, hD⟩
  exact keys1_in F n h10 hro hn l Bm b nn D0 J Jx hY W hJ ((hW.cell (p := ⟨Bm, 0, none⟩) hBm).trans hm) (by have := hW.size; omega) hown' h0

theorem infoS2 : (Try.prog.info? 100).map (fun i => (i.zero, i.size, i.bytes)) = some (some (.agg #[.int .i64 0, .int .i64 0]), 2, 16) := by kernel_rfl
def flatS (ss : List P2) : List Value := ss.flatMap fun p => [.int .i64 p.un, .int .i64 p.pn]
theorem flatS_snoc (ss : List P2) (x : P2) : flatS (ss ++ [x]) = flatS ss ++ [.int .i64 x.un, .int .i64 x.pn] := by simp [flatS]
def Box2 (W : World) (B : Nat) (x : P2) : Prop := W.heap[B]? = some (.cells #[.int .i64 x.un, .int .i64 x.pn] 100 (0, 0))
theorem box2_new (W : World) (x : P2) : Box2 (W.alloc (.cells #[.int .i64 x.un, .int .i64 x.pn] 100)) W.heap.size x := World.alloc_heap_new W _
theorem Box2.cell0 {W : World} {B : Nat} {x : P2} (h : Box2 W B x) : W.cell? ⟨B, 0, none⟩ = some (.int .i64 x.un) := by simp [World.cell?, show W.heap[B]? = _ from h]
theorem Box2.cell1 {W : World} {B : Nat} {x : P2} (h : Box2 W B x) : W.cell? ⟨B, 1, none⟩ = some (.int .i64 x.pn) := by simp [World.cell?, show W.heap[B]? = _ from h]
theorem box2_own (B : Nat) (x : P2) : Own (fun (_ : Unit) W => Box2 W B x) := fun s X Y row hs hg hrow => by
  refine (hg.block B (Array.getElem?_eq_some_iff.1 (show X.heap[B]? = _ from hs)).1 (fun e' => ?_)).trans hs
  obtain ⟨o, ho, hc⟩ := hrow B e'.symm; rw [show X.heap[B]? = _ from hs] at ho; cases ho; cases hc
theorem cell_two_new (W : World) (x : P2) (t : TypeId) : ∀ j u, [Value.int .i64 x.un, Value.int .i64 x.pn][j]? = some u → (W.alloc (.cells #[.int .i64 x.un, .int .i64 x.pn] t)).cell? ((⟨W.heap.size, 0, none⟩ : Addr).add j) = some u := by
  intro j u hj
  match j, hj with
  | 0, hj => simp at hj; subst hj; have := World.alloc_heap_new W (.cells #[.int .i64 x.un, .int .i64 x.pn] t); simp [World.cell?, Addr.add] at this ⊢; rw [this]; rfl
  | 1, hj => simp at hj; subst hj; have := World.alloc_heap_new W (.cells #[.int .i64 x.un, .int .i64 x.pn] t); simp [World.cell?, Addr.add] at this ⊢; rw [this]; rfl

set_option maxRecDepth 100000 in
set_option maxHeartbeats 2000000 in
theorem appendSeq_in (F : Fence) (n : Nat) (h3 : F.fn 81) (hro : F.round = none) (hn : 3 ≤ n) (gf : Nat) (lb : Array Value) (h5 : F.fn gf) (eg : ∀ args w, (callFunc gf args).run Try.prog w = .ok (.enter gf args) w)
    (S : List P2 → Prop) (N : Nat) (hN : N ≤ 1000) (w : World) (hseq : SeqStops F (n - 1) Try.prog gf lb encS S (fun _ => True) N w) :
    CallsIn F n Try.prog 81 #[.slice none 0 0, .func (.func gf) #[] lb] w fun e W' => ∃ v ss, e = .returned v ∧ S ss ∧ ss.length ≤ N ∧ W'.ownsRow w.heap.size 100 2 v ss.length (flatS ss) ∧ Below w.heap.size w W' := by
  have h1 : 1 ≤ n := by omega
  obtain ⟨i0, hi, hz0, hz1, hz2⟩ := info_parts infoS2
  refine callsIn_of_wp_marks Try.func81 rfl h3 ?_ hro
  simp only [Try.ntmps81, List.size_toArray, List.length_cons, List.length_nil, Nat.reduceAdd, Nat.reduceSub, Array.replicate_succ, Array.replicate_zero, List.push_toArray, List.append_toArray, List.nil_append, List.cons_append]
  gi_wp2
  have bO := Boxed.new w 102 (.slice none 0 0)
  have hB0 : Below w.heap.size w (w.alloc (.cells #[.slice none 0 0] 102)) := (Below.refl _ w).alloc (Nat.le_refl _) _
  have hsz : (w.alloc (.cells #[.slice none 0 0] 102)).heap.size = w.heap.size + 1 := by simp
  have hseq' := (hseq.later hB0)
  obtain ⟨W0, hW0⟩ : ∃ W0, w.alloc (.cells #[.slice none 0 0] 102) = W0 := ⟨_, rfl⟩
  rw [hW0] at bO hB0 hsz hseq' ⊢
  clear hW0
  refine wpIn_rangeFunc_ownH hro h1 (gf := gf) (lb := lb) rfl h5 eg (encs := fun x => #[encS x]) (Kp := KeepsWalks) (S := S) (Sp := fun _ => True) (N := N) (w0 := W0) hseq'
    walksK_t walksK_b (Below.refl _ _) (fun _ => rfl)
    (fun pre W => (∃ v, Boxed W w.heap.size 102 v ∧ W.ownsRow w.heap.size 100 2 v pre.length (flatS pre) ∧ pre.length ≤ N) ∧ Below w.heap.size w W)
    (fun _ _ _ => False)
    (OwnFrom.and (Own.from (holdsRow_own w.heap.size w.heap.size 102 100 2 (fun pre : List P2 => pre.length) flatS (fun pre _ => pre.length ≤ N)) _) (ownFrom_below (Nat.le_refl _) (by omega)))
    (fun _ _ _ _ _ hs _ _ => hs)
    ⟨⟨_, bO, World.ownsRow_nil _ _ _ _, Nat.zero_le _⟩, hB0⟩
    (fun x a' W => ∃ Bx, w.heap.size < Bx ∧ Box2 W Bx x ∧ a' = { tmps := #[.slice none 0 0, .func (.func gf) #[] lb, .pointer (some ⟨w.heap.size, 0, none⟩), undef, .slice none 0 0, .pointer (some ⟨Bx, 0, none⟩), .func (.func gf) #[] lb, encS x, undef, undef, undef, undef, undef], defers := [] })
    (fun x a' _ X Y row hs hg hr => by obtain ⟨Bx, h1, h2, h3⟩ := hs; exact ⟨Bx, h1, box2_own Bx x () X Y row h2 hg (fun r e => (hr r e).2), h3⟩)
    ?assign ?body ?done ?stop
  case assign =>
    rintro l pre x W K ⟨⟨v, hv, hrow, hpl⟩, hB1⟩ hK
    unfold encS at *
    gi_wp2
    exact hK _ _ ((KeepsOthers.alloc _ _).from _) (KeepsWalks.alloc _ _) ⟨⟨v, hv.alloc _, hrow.alloc _, hpl⟩, hB1.alloc hB1.size _⟩ ⟨W.heap.size, hv.lt, box2_new W x, rfl⟩
  case body =>
    rintro l pre x a' W hl ⟨r, hr⟩ ⟨⟨v, hv, hrow, _⟩, hB1⟩ ⟨Bx, hBx, bX, rfl⟩ hlt
    have hc := hv.cell
    have hx0 := bX.cell0
    have hx1 := bX.cell1
    gi_wp2_with (gi_at_builtin; refine wpListIn_append_own _ rfl _ _ 102 rfl w.heap.size 100 i0 (.agg #[.int .i64 0, .int .i64 0]) 2 16 Try.underlying102 hi hz0 hz1 hz2 rfl (by decide) _ _ _ rfl (hrow.alloc _) ⟨W.heap.size, 0, none⟩ 1 1 [.int .i64 x.un, .int .i64 x.pn] rfl rfl (cell_two_new _ _ _) (by simp [Value.oneCell']) (by unfold maxLen; omega) (by omega) (by have := hB1.size; simp; omega) ?_; intro v' w1 hown' hgrow _; obtain ⟨g', cap', rfl⟩ := ownsRow_succ hown'; obtain ⟨hv1, hv2, hr2, hk2, hb2⟩ := hv.appended (by decide) hrow hB1.size (Nat.le_refl _) hown' hgrow; have hc1 := hv1.cell; have hf1 := hv1.frozen)
    exact ⟨hk2.from _, ⟨hk2.size, fun k o ho hw => hk2.same k o ho (Obj.not_cells_of_walk hw)⟩, ⟨⟨_, hv2, by rw [flatS_snoc]; simpa using hr2, by simp; omega⟩, hB1.trans hb2⟩⟩
  case done =>
    rintro D zs W hD hS ⟨⟨v, hv, hrow, hzl⟩, hB1⟩ hK
    have cS := hv.cell
    gi_wp2
    refine ⟨by simp, .inl ⟨_, _, rfl, run_takeDeferred hK, ?_⟩⟩
    exact ⟨_, results_tmp rfl _ _ _, v, zs, rfl, hS, hzl, ownsRow_putObj hrow _ hK rfl, hB1.trans (belowK_b (w := w) (Nat.le_refl _) W D _ _ (by omega) hK rfl rfl)⟩
  case stop =>
    rintro D c pre W _ _ h _
    exact h.elim

theorem flatS_at (ss : List P2) (k : Nat) (p : P2) (h : ss[k]? = some p) : (flatS ss)[k * 2]? = some (.int .i64 p.un) ∧ (flatS ss)[k * 2 + 1]? = some (.int .i64 p.pn) := by
  induction ss generalizing k with
  | nil => simp at h
  | cons q l ih =>
    cases k with
    | zero => simp at h; subst h; simp [flatS, List.flatMap_cons]
    | succ k =>
      have := ih k (by simpa using h)
      rw [show (k + 1) * 2 = k * 2 + 2 by omega]
      simpa [flatS, List.flatMap_cons] using this
theorem own_slp {w : World} {B : Nat} {e : TypeId} {A : Option Addr} {c : Nat} {ps : List P2} (h : w.ownsRow B e 2 (.slice A ps.length c) ps.length (flatS ps)) : Slp w A ps := by
  intro k p hk
  have hl : k < ps.length := (List.getElem?_eq_some_iff.1 hk).1
  obtain ⟨g, cap, cur, hv, hB, hh, _⟩ := h.2.resolve_left (by rintro ⟨_, h0⟩; omega)
  injection hv with hA _ _
  subst hA
  have hlt : g < w.heap.size := by
    rcases Nat.lt_or_ge g w.heap.size with h1 | h1
    · exact h1
    · rw [Array.getElem?_eq_none h1] at hh; cases hh
  obtain ⟨f0, f1⟩ := flatS_at ps k p hk
  have hc := h.cells (g := g) rfl
  refine ⟨g, 0, rfl, hlt, by omega, ?_, ?_⟩
  · have := hc _ _ f0; unfold Addr.add at this; split at this <;> simp_all
  · have := hc _ _ f1; unfold Addr.add at this; simpa [Nat.zero_add] using this
def GivesS {H : Type} (w : World) (D0 : DataW H) (e : Ending) (w' : World) : Prop := ∃ A ss c, e = .returned (.slice A ss.length c) ∧ (∃ g, w' = w.grow g) ∧ GotS D0 ss ∧ ss.length ≤ 1000 ∧ Slp w' A ss
set_option maxHeartbeats 1000000 in
theorem collect_any {H : Type} (Bm b nn : Nat) (D0 : DataW H) (w : World) (hBm : Bm < w.heap.size) (hm : w.cell? ⟨Bm, 0, none⟩ = some (.map (some b))) (hown : w.ownsMap Try.prog 100 (plainElem Try.prog 3) b nn D0) (hN : Maps.size D0 ≤ 1000) :
    Calls Try.prog 70 #[.func (.func 82) #[] #[.pointer (some ⟨Bm, 0, none⟩)]] w (GivesS w D0) := by
  refine (callsIn_wide (n := 6)).1 ?_
  refine callsIn_of_wp Try.func70 rfl trivial ?_ rfl
  simp only [Try.ntmps70, List.size_toArray, List.length_cons, List.length_nil, Nat.reduceAdd, Nat.reduceSub, Array.replicate_succ, Array.replicate_zero, List.push_toArray, List.append_toArray, List.nil_append, List.cons_append]
  have h1 : 1 ≤ 6 := by omega
  gi_wp2_with (refine ⟨trivial, ?_⟩; gi_at_call 81; refine (appendSeq_in Fence.wide 5 trivial rfl (by omega) 82 _ trivial (enters_of Try.func82 (by kernel_rfl) rfl) _ _ hN _ (keys_stops Fence.wide 4 trivial rfl (by omega) Bm b nn D0 w hBm hm hown)).mono ?_; rintro e w' ⟨v, ss, rfl, hS, hsl, hrow, hb⟩)
  go_ret
  have hv : ∃ A c, v = .slice A ss.length c := by
    rcases hrow.2 with ⟨rfl, h0⟩ | ⟨g, cap, cur, rfl, _⟩
    · exact ⟨none, 0, by rw [h0]⟩
    · exact ⟨_, _, rfl⟩
  obtain ⟨A, c, rfl⟩ := hv
  exact ⟨A, ss, c, rfl, below_grow hb, hS, Nat.le_trans hsl hN, own_slp hrow⟩
theorem keys_any (mb : Option Nat) (w : World) : Calls Try.prog 71 #[.map mb] w fun e w' => e = .returned (.func (.func 82) #[] #[.pointer (some ⟨w.heap.size, 0, none⟩)]) ∧ w' = w.alloc (.cells #[.map mb] 96) :=
  (callsIn_wide (n := 3)).1 (keys_in Fence.wide 3 trivial rfl mb w)
end Go.Proofs.Ytbfhkknpocbeaaa
