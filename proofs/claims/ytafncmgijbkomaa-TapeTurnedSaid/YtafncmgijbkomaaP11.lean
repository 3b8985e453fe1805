/- Proved here: which tables are not right; the walk over all places, with remainders, a part of the proofs about the tape laws. Conditions: those that each theorem names, no others. -/
import Derived.Test.YtafncmgijbkomaaP10
import Derived.WalkKit
import Derived.WalkSpells
import Derived.WalkLawsBesides
import Derived.Below
import Derived.Deep.QuietTactic
import Derived.BigQuiet
import Derived.Deep.Light
import Derived.RangeFuncNested
import Derived.RangeFuncBound
import Derived.RangeFuncCalls
import Derived.RangeFuncLeaves
import Derived.Shelf.Abstract
import Derived.OwnWalkIn
import Derived.TacticsInMore
import Derived.LoopNIn
import Derived.LoopIn
import Derived.RangeFuncOne
import Derived.RangeFuncStops
import Derived.WalkMore
set_option linter.unusedSimpArgs false
set_option linter.unusedVariables false
namespace Go.Proofs.Ytafncmgijbkomaa
open Go.RowKit Go.Maps Go.Shelf
/-! a table, place by place -/
def tabOk (W : Nat) (ts : List (List Int)) (xs : List Int) (n : Nat) : Bool := (List.range W).all fun c => decide (xs.getD n 0 ≤ xs.getD (Tm.idxP ts (Tm.nextP ts (Tm.placeP ts n) (c : Nat)) 0) 0 + 1)
def tabAll (W : Nat) (ts : List (List Int)) (xs : List Int) : Bool := (List.range (Tm.prodP ts)).all (tabOk W ts xs)
def tabE (W : Int) (ts : List ByteArray) (xs : List Int) : Int := if chkSet W ts ≠ 0 then chkSet W ts else if xs.length ≠ Tm.prodP (lts ts) then 15 else if withinB 0 24 xs = false then 3 else if xs.getD (xs.length - 1) 0 ≠ 0 then 14 else 0
/-- the first number of a right table, or the error -/
def tabR (W : Int) (ts : List ByteArray) (xs : List Int) : Int × Int := if tabE W ts xs ≠ 0 then (0, tabE W ts xs) else if tabAll W.toNat (lts ts) xs = true then (xs.getD 0 0, 0) else (0, 14)
attribute [local go_sem] Oper.semAt_some
set_option maxRecDepth 100000 in
set_option maxHeartbeats 1000000 in
theorem placesM_in (n : Nat) (hn : 1 ≤ n) (l Bm R : Nat) (W : Int) (A : Option Addr) (ts : List ByteArray) (cap : Nat) (base : World) (hR : ReelAt base R W A ts cap) (hA : Strs base A ts) (h3 : ts.length ≤ 3) (hf : Fine ts) (hs : Small ts)
    (M : Nat) (hM : Tm.prodP (lts ts) = M) (B0 : Nat) (J Jx : List Nat → World → Prop) (hJ : AbidesFrom B0 J)
    (hY : ∀ pre x Wr, J pre Wr → pre.length < M → YieldAt Fence.wide (n - 1) Try.prog l (encN ts (x % M)) Wr fun e W' =>
      (e = .returned (.bool true) ∧ J (pre ++ [x]) W' ∧ Kp base.heap.size Bm Wr W') ∨ (e = .returned (.bool false) ∧ Jx (pre ++ [x]) W'))
    (Wl : World) (hK : ∀ b, b < base.heap.size → Wl.heap[b]? = base.heap[b]?) (hB : Wl.cell? ⟨Bm, 0, none⟩ = some (.pointer (some ⟨R, 0, none⟩))) (hBl : Bm < Wl.heap.size) (hnl : base.heap.size ≤ Wl.heap.size) (h0 : J [] Wl) :
    CallsIn Fence.wide n Try.prog 94 #[.func (.yield l) #[] #[], .pointer (some ⟨Bm, 0, none⟩)] Wl fun e W' => (∃ v, e = .returned v) ∧
      ((∃ ys, ys = downL M ∧ J ys W') ∨ (∃ pre, pre <+: downL M ∧ Jx pre W')) := by
  have HMA := hide (fun (w' : World) (hR : ReelAt w' R W A ts cap) (hA : Strs w' A ts) => many_any R W A ts cap w' hR hA h3 hf hs)
  have HPL := hide (fun (w' : World) (N : Nat) (hR : ReelAt w' R W A ts cap) (hA : Strs w' A ts) (hN : N < M) => place_any R W A ts cap N w' hR hA h3 hs (by rw [hM]; exact hN))
  have hM9 := prodP_small ts hs h3
  rw [hM] at HMA hM9
  have hMp : 0 < M := by rw [← hM]; exact Tm.prod_pos _
  clear hM hf hs
  refine callsIn_of_wp Try.func94 rfl trivial ?_ rfl
  simp only [Try.ntmps94, List.size_toArray, List.length_cons, List.length_nil, Nat.reduceAdd, Nat.reduceSub, Array.replicate_succ, Array.replicate_zero, List.push_toArray, List.append_toArray, List.nil_append, List.cons_append]
  gi_wp2_with (first
    | (refine ⟨trivial, ?_⟩; gi_at_call 68; refine (callsIn_wide.2 (HMA.out _ (hR.old hK) (hA.old hK))).mono ?_; rintro e w1 ⟨rfl, hb1⟩; replace hb1 := ex_below hb1))
  have hk1 : Kp base.heap.size Bm Wl w1 := Kp.below hb1 hnl hBl
  have hJ1 := hJ [] Wl w1 none h0 (below_grown hb1) (fun _ h => by cases h)
  have hz1 := hb1.size
  clear hb1 h0
  gi_loopw [3] (fun p wr => ∃ k : Nat, k ≤ M ∧ p = .int .i64 ((k : Int) - 1) ∧ J ((downL M).take (M - k)) wr ∧ Kp base.heap.size Bm Wl wr) (fun p _ => (intOf p + 1).toNat)
  case atStart => exact ⟨M, Nat.le_refl _, rfl, by rw [Nat.sub_self]; exact hJ1, hk1⟩
  case round =>
    obtain ⟨k, hk, rfl, hJa, hb⟩ := hrel
    have hko : ∀ b, b < base.heap.size → wr.heap[b]? = base.heap[b]? := fun b h => (hb.old b h).trans (hK b h)
    have c0 : wr.cell? ⟨Bm, 0, none⟩ = some (.pointer (some ⟨R, 0, none⟩)) := (World.cell?_of_block (a := ⟨Bm, 0, none⟩) hb.own).trans hB
    have hbl : Bm < wr.heap.size := old_lt hBl hb.own
    have hnl2 : base.heap.size ≤ wr.heap.size := by
      rcases Nat.eq_zero_or_pos base.heap.size with h | h
      · omega
      · have := old_lt (b := base.heap.size - 1) (X := base) (by omega) (hko _ (by omega)); omega
    cases k with
    | succ k =>
      have hkM : k < M := hk
      rw [show (((k + 1 : Nat) : Int) - 1) = (k : Int) by omega]
      have hpre := downL_take M k hkM
      have hlen : ((downL M).take (M - (k + 1))).length < M := by rw [List.length_take, downL_len]; omega
      have hpp : (downL M).take (M - k) <+: downL M := List.take_prefix _ _
      gi_wp2_with (refine ⟨trivial, ?_⟩; gi_at_call 95; refine (callsIn_wide.2 (HPL.out _ k (hR.old hko) (hA.old hko) hkM)).mono ?_; rintro e w2 ⟨rfl, hb2⟩; replace hb2 := ex_below hb2)
      have hJ2 := hJ _ wr w2 none hJa (below_grown hb2) (fun _ h => by cases h)
      obtain ⟨fn, tmps, assign, body, hy, hRR⟩ := hY _ k w2 hJ2 hlen
      rw [Nat.mod_eq_of_lt hkM] at hy
      unfold encN at hy
      gi_wp2
      rw [hy]
      gi_wp2
      refine hRR.mono ?_
      rintro e W3 (⟨rfl, hJ4, hk3⟩ | ⟨rfl, hJx3⟩)
      · gi_wp2
        go_roundw
        case measure => simp [intOf]; try omega
        refine ⟨k, by omega, by go_num, ?_, (hb.trans (Kp.below hb2 hnl2 hbl)).trans hk3⟩
        rw [hpre]; exact hJ4
      · gi_wp2
        refine bodyPost_ret (results_none rfl _ _ _) rfl ?_
        exact ⟨⟨_, rfl⟩, .inr ⟨_, hpp, by rw [hpre]; exact hJx3⟩⟩
    | zero =>
      rw [Nat.sub_zero, List.take_of_length_le (by rw [downL_len]; exact Nat.le_refl _)] at hJa
      gi_wp2
      go_end0
      exact ⟨⟨_, rfl⟩, .inl ⟨_, rfl, hJa⟩⟩
theorem placesM_stops (n : Nat) (hn : 1 ≤ n) (Bm R : Nat) (W : Int) (A : Option Addr) (ts : List ByteArray) (cap : Nat) (base : World) (hR : ReelAt base R W A ts cap) (hA : Strs base A ts) (h3 : ts.length ≤ 3) (hf : Fine ts) (hs : Small ts)
    (M : Nat) (hM : Tm.prodP (lts ts) = M) (w : World) (h1 : Bm < w.heap.size) (h2 : base.heap.size ≤ w.heap.size) (hK : ∀ b, b < base.heap.size → w.heap[b]? = base.heap[b]?)
    (hB : w.cell? ⟨Bm, 0, none⟩ = some (.pointer (some ⟨R, 0, none⟩))) :
    SeqStopsK Fence.wide n Try.prog 94 #[.pointer (some ⟨Bm, 0, none⟩)] (fun x => encN ts (x % M)) (Kp base.heap.size Bm) (fun ys => ys = downL M) (fun pre => pre <+: downL M) M w := fun l J Jx W' hW hJ _ hY h0 =>
  placesM_in n hn l Bm R W A ts cap base hR hA h3 hf hs M hM _ J Jx hJ hY W' (fun b hb => (hW.block b (by omega)).trans (hK b hb)) ((hW.cell (p := ⟨Bm, 0, none⟩) h1).trans hB) (by have := hW.size; omega) (by have := hW.size; omega) h0
theorem ownFrom_cell {β : Type} {B b o : Nat} {v : Value} (h : b < B) : OwnFrom B (fun (_ : β) W => W.cell? ⟨b, o, none⟩ = some v) := fun s X Y row hs hg hr => by
  have hb : b < X.heap.size := by
    refine Nat.lt_of_not_le (fun e => ?_)
    simp only [World.cell?, Array.getElem?_eq_none (xs := X.heap) (i := b) e] at hs
    cases hs
  exact (World.cell?_of_block (a := ⟨b, o, none⟩) (hg.block b hb (fun e => by have := (hr b e.symm).1; omega))).trans hs
set_option maxRecDepth 100000 in
set_option maxHeartbeats 1000000 in
theorem tab_bad (W : Int) (A : Option Addr) (ts : List ByteArray) (c : Nat) (w : World) (hA : Strs w A ts) (hl : ts.length ≤ 1000) (hsz : ∀ k, (h : k < ts.length) → ts[k].size ≤ 1000000) (T : Option Addr) (xs : List Int) (d : Nat) (hT : I64 w T xs) (hx : xs.length ≤ 1000) (h0 : tabE W ts xs ≠ 0) : Calls Try.prog 27 #[.agg #[.int .i64 W, .slice A ts.length c], .slice T xs.length d] w (Gives w (tup2V (0, tabE W ts xs))) := by
  by_cases hc : chkSet W ts = 0
  · have h1 : (chkSet W ts != 0) = false := by simp [hc]
    obtain ⟨hW1, hW2, hp0, h3, hs, hf, _, hlo⟩ := chk_val hc
    have HMA := hide (fun (R : Nat) (w' : World) (hR : ReelAt w' R W A ts c) (hA : Strs w' A ts) => many_any R W A ts c w' hR hA h3 hf hs)
    have hpp := Tm.prod_pos (lts ts)
    have HE := hide (show tabE W ts xs = if xs.length ≠ Tm.prodP (lts ts) then 15 else if withinB 0 24 xs = false then 3 else if xs.getD (xs.length - 1) 0 ≠ 0 then 14 else 0 by simp [tabE, hc])
    have HN := hide h0
    clear hs hf hlo h0
    generalize Tm.prodP (lts ts) = M at *
    by_cases hM : xs.length = M
    · have hMi : (((xs.length : Nat) : Int) != ((M : Nat) : Int)) = false := by simp [hM]
      have hxp : 0 < xs.length := by omega
      have HWI := hide (fun (w' : World) (h : I64 w' T xs) => within_any 0 24 T xs d w' h hx)
      obtain ⟨tb, tf, rfl, tl⟩ := hT.form hxp
      cases hw : withinB 0 24 xs with
      | false =>
        rw [show tabE W ts xs = 3 by rw [HE.out, if_neg (by simp [hM]), if_pos hw]]
        rw [hw] at HWI
        replace hw := hide hw
        clear hM
        unfold tup2V
        go_enter Try.func27, Try.ntmps27
        go_wp2_with (first
    | (go_at_call 21; refine (checkSet_any W A ts c _ (hA.ext (by (repeat (first | exact Below.refl _ _ | assumption | refine below_drewN ?_ _ | refine below_drew ?_ | refine below_gr ?_ ?_ _ | refine below_alloc ?_ ?_ _ | refine Below.setCell ?_ ?_ _ | refine below_step ?_ (by assumption) ?_ | omega | (simp only [zz] at *; omega))))) hl hsz).mono ?_; rintro e w1 ⟨rfl, hb1⟩; replace hb1 := ex_below hb1; have hz1 := hb1.size; (try simp only [zz] at hz1); have hlt1 : ∀ b, b < w.heap.size → b < w1.heap.size := fun b hb => (by (first | omega | (simp only [zz] at *; omega))); have hc1 : ∀ b o, b < w.heap.size → w1.cell? ⟨b, o, none⟩ = w.cell? ⟨b, o, none⟩ := old_cell (by (repeat (first | exact Below.refl _ _ | assumption | refine below_drewN ?_ _ | refine below_drew ?_ | refine below_gr ?_ ?_ _ | refine below_alloc ?_ ?_ _ | refine Below.setCell ?_ ?_ _ | refine below_step ?_ (by assumption) ?_ | omega | (simp only [zz] at *; omega)))); have hs1a : w.heap.size < w1.heap.size := (by (first | omega | (simp only [zz] at *; omega))); have ho1a := own_cell hb1 (b := w.heap.size) (by (first | omega | (simp only [zz] at *; omega))); have hq1a := own_frozen hb1 (b := w.heap.size) (by (first | omega | (simp only [zz] at *; omega))); have hs1b : w.heap.size + 1 < w1.heap.size := (by (first | omega | (simp only [zz] at *; omega))); have ho1b := own_cell hb1 (b := w.heap.size + 1) (by (first | omega | (simp only [zz] at *; omega))); have hq1b := own_frozen hb1 (b := w.heap.size + 1) (by (first | omega | (simp only [zz] at *; omega))); have hs1c : w.heap.size + 1 + 1 < w1.heap.size := (by (first | omega | (simp only [zz] at *; omega))); have ho1c := own_cell hb1 (b := w.heap.size + 1 + 1) (by (first | omega | (simp only [zz] at *; omega))); have hq1c := own_frozen hb1 (b := w.heap.size + 1 + 1) (by (first | omega | (simp only [zz] at *; omega))); have hs1d : w.heap.size + 1 + 1 + 1 < w1.heap.size := (by (first | omega | (simp only [zz] at *; omega))); have ho1d := own_cell hb1 (b := w.heap.size + 1 + 1 + 1) (by (first | omega | (simp only [zz] at *; omega))); have hq1d := own_frozen hb1 (b := w.heap.size + 1 + 1 + 1) (by (first | omega | (simp only [zz] at *; omega))))
    | (go_at_call 55; refine (newReel_any W A ts c _ (hA.ext (by (repeat (first | exact Below.refl _ _ | assumption | refine below_drewN ?_ _ | refine below_drew ?_ | refine below_gr ?_ ?_ _ | refine below_alloc ?_ ?_ _ | refine Below.setCell ?_ ?_ _ | refine below_step ?_ (by assumption) ?_ | omega | (simp only [zz] at *; omega)))))).mono ?_; rintro e w4 ⟨R, M, rfl, hb4, hR0, hM0, hR4⟩; have hz1 := hb4.size; (try simp only [zz] at hz1); have hlt1 : ∀ b, b < w.heap.size → b < w4.heap.size := fun b hb => (by (first | omega | (simp only [zz] at *; omega))); have hc1 : ∀ b o, b < w.heap.size → w4.cell? ⟨b, o, none⟩ = w.cell? ⟨b, o, none⟩ := old_cell (by (repeat (first | exact Below.refl _ _ | assumption | refine below_drewN ?_ _ | refine below_drew ?_ | refine below_gr ?_ ?_ _ | refine below_alloc ?_ ?_ _ | refine Below.setCell ?_ ?_ _ | refine below_step ?_ (by assumption) ?_ | omega | (simp only [zz] at *; omega)))); have hs1a : w.heap.size < w4.heap.size := (by (first | omega | (simp only [zz] at *; omega))); have ho1a := own_cell hb4 (b := w.heap.size) (by (first | omega | (simp only [zz] at *; omega))); have hq1a := own_frozen hb4 (b := w.heap.size) (by (first | omega | (simp only [zz] at *; omega))); have hs1b : w.heap.size + 1 < w4.heap.size := (by (first | omega | (simp only [zz] at *; omega))); have ho1b := own_cell hb4 (b := w.heap.size + 1) (by (first | omega | (simp only [zz] at *; omega))); have hq1b := own_frozen hb4 (b := w.heap.size + 1) (by (first | omega | (simp only [zz] at *; omega))); have hs1c : w.heap.size + 1 + 1 < w4.heap.size := (by (first | omega | (simp only [zz] at *; omega))); have ho1c := own_cell hb4 (b := w.heap.size + 1 + 1) (by (first | omega | (simp only [zz] at *; omega))); have hq1c := own_frozen hb4 (b := w.heap.size + 1 + 1) (by (first | omega | (simp only [zz] at *; omega))); have hs1d : w.heap.size + 1 + 1 + 1 < w4.heap.size := (by (first | omega | (simp only [zz] at *; omega))); have ho1d := own_cell hb4 (b := w.heap.size + 1 + 1 + 1) (by (first | omega | (simp only [zz] at *; omega))); have hq1d := own_frozen hb4 (b := w.heap.size + 1 + 1 + 1) (by (first | omega | (simp only [zz] at *; omega)))))

        refine wp_region_grow (by kernel_rfl) (by kernel_rfl) ?_
        repeat (go_big_quiet_step ((go_at_call 68; exact Gives.quiet (HMA.out _ _ (hR4.rat.ext (by (repeat (first | exact Below.refl _ _ | assumption | refine below_drewN ?_ _ | refine below_drew ?_ | refine below_gr ?_ ?_ _ | refine below_alloc ?_ ?_ _ | refine Below.setCell ?_ ?_ _ | refine below_step ?_ (by assumption) ?_ | omega | (simp only [zz] at *; omega))))) (hA.ext (by (repeat (first | exact Below.refl _ _ | assumption | refine below_drewN ?_ _ | refine below_drew ?_ | refine below_gr ?_ ?_ _ | refine below_alloc ?_ ?_ _ | refine Below.setCell ?_ ?_ _ | refine below_step ?_ (by assumption) ?_ | omega | (simp only [zz] at *; omega)))))))))
        refine wpQuiet_nil ?_
        intro w5 hb1
        replace hb1 := ex_below hb1
        have hz1 := hb1.size
        (try simp only [zz] at hz1)
        have hlt1 : ∀ b, b < w.heap.size → b < w5.heap.size := fun b hb => (by (first | omega | (simp only [zz] at *; omega)))
        have hc1 : ∀ b o, b < w.heap.size → w5.cell? ⟨b, o, none⟩ = w.cell? ⟨b, o, none⟩ := old_cell (by (repeat (first | exact Below.refl _ _ | assumption | refine below_drewN ?_ _ | refine below_drew ?_ | refine below_gr ?_ ?_ _ | refine below_alloc ?_ ?_ _ | refine Below.setCell ?_ ?_ _ | refine below_step ?_ (by assumption) ?_ | omega | (simp only [zz] at *; omega))))
        have hs1a : w.heap.size < w5.heap.size := (by (first | omega | (simp only [zz] at *; omega)))
        have ho1a := own_cell hb1 (b := w.heap.size) (by (first | omega | (simp only [zz] at *; omega)))
        have hq1a := own_frozen hb1 (b := w.heap.size) (by (first | omega | (simp only [zz] at *; omega)))
        have hs1b : w.heap.size + 1 < w5.heap.size := (by (first | omega | (simp only [zz] at *; omega)))
        have ho1b := own_cell hb1 (b := w.heap.size + 1) (by (first | omega | (simp only [zz] at *; omega)))
        have hq1b := own_frozen hb1 (b := w.heap.size + 1) (by (first | omega | (simp only [zz] at *; omega)))
        have hs1c : w.heap.size + 1 + 1 < w5.heap.size := (by (first | omega | (simp only [zz] at *; omega)))
        have ho1c := own_cell hb1 (b := w.heap.size + 1 + 1) (by (first | omega | (simp only [zz] at *; omega)))
        have hq1c := own_frozen hb1 (b := w.heap.size + 1 + 1) (by (first | omega | (simp only [zz] at *; omega)))
        have hs1d : w.heap.size + 1 + 1 + 1 < w5.heap.size := (by (first | omega | (simp only [zz] at *; omega)))
        have ho1d := own_cell hb1 (b := w.heap.size + 1 + 1 + 1) (by (first | omega | (simp only [zz] at *; omega)))
        have hq1d := own_frozen hb1 (b := w.heap.size + 1 + 1 + 1) (by (first | omega | (simp only [zz] at *; omega)))
        go_wp2_with (first
    | (go_at_call 61; refine (HWI.out _ (hT.ext (by (repeat (first | exact Below.refl _ _ | assumption | refine below_drewN ?_ _ | refine below_drew ?_ | refine below_gr ?_ ?_ _ | refine below_alloc ?_ ?_ _ | refine Below.setCell ?_ ?_ _ | refine below_step ?_ (by assumption) ?_ | omega | (simp only [zz] at *; omega)))))).mono ?_; rintro e w6 ⟨rfl, hb6⟩; replace hb6 := ex_below hb6; have hz1 := hb6.size; (try simp only [zz] at hz1); have hlt1 : ∀ b, b < w.heap.size → b < w6.heap.size := fun b hb => (by (first | omega | (simp only [zz] at *; omega))); have hc1 : ∀ b o, b < w.heap.size → w6.cell? ⟨b, o, none⟩ = w.cell? ⟨b, o, none⟩ := old_cell (by (repeat (first | exact Below.refl _ _ | assumption | refine below_drewN ?_ _ | refine below_drew ?_ | refine below_gr ?_ ?_ _ | refine below_alloc ?_ ?_ _ | refine Below.setCell ?_ ?_ _ | refine below_step ?_ (by assumption) ?_ | omega | (simp only [zz] at *; omega)))); have hs1a : w.heap.size < w6.heap.size := (by (first | omega | (simp only [zz] at *; omega))); have ho1a := own_cell hb6 (b := w.heap.size) (by (first | omega | (simp only [zz] at *; omega))); have hq1a := own_frozen hb6 (b := w.heap.size) (by (first | omega | (simp only [zz] at *; omega))); have hs1b : w.heap.size + 1 < w6.heap.size := (by (first | omega | (simp only [zz] at *; omega))); have ho1b := own_cell hb6 (b := w.heap.size + 1) (by (first | omega | (simp only [zz] at *; omega))); have hq1b := own_frozen hb6 (b := w.heap.size + 1) (by (first | omega | (simp only [zz] at *; omega))); have hs1c : w.heap.size + 1 + 1 < w6.heap.size := (by (first | omega | (simp only [zz] at *; omega))); have ho1c := own_cell hb6 (b := w.heap.size + 1 + 1) (by (first | omega | (simp only [zz] at *; omega))); have hq1c := own_frozen hb6 (b := w.heap.size + 1 + 1) (by (first | omega | (simp only [zz] at *; omega))); have hs1d : w.heap.size + 1 + 1 + 1 < w6.heap.size := (by (first | omega | (simp only [zz] at *; omega))); have ho1d := own_cell hb6 (b := w.heap.size + 1 + 1 + 1) (by (first | omega | (simp only [zz] at *; omega))); have hq1d := own_frozen hb6 (b := w.heap.size + 1 + 1 + 1) (by (first | omega | (simp only [zz] at *; omega)))))

        refine bodyPost_ret (v := .tuple #[.int .i64 0, .int .i64 3]) (by simp [results, Try.results27, go_sem, *]) rfl (gives_of rfl (by (repeat (first | exact Below.refl _ _ | assumption | refine below_drewN ?_ _ | refine below_drew ?_ | refine below_gr ?_ ?_ _ | refine below_alloc ?_ ?_ _ | refine Below.setCell ?_ ?_ _ | refine below_step ?_ (by assumption) ?_ | omega | (simp only [zz] at *; omega)))))
      | true =>
        have hl : xs.getD (xs.length - 1) 0 ≠ 0 := fun e => HN.out (by rw [HE.out, if_neg (by simp [hM]), if_neg (by simp [hw]), if_neg (fun h => h e)])
        rw [show tabE W ts xs = 14 by rw [HE.out, if_neg (by simp [hM]), if_neg (by simp [hw]), if_pos hl]]
        rw [hw] at HWI
        replace hw := hide hw
        have cl := hT.at (k := xs.length - 1) (by omega)
        rw [show xs.getD (xs.length - 1) 0 = xs[xs.length - 1]'(by omega) by simp [List.getD_eq_getElem?_getD, List.getElem?_eq_getElem (show xs.length - 1 < xs.length by omega)]] at hl
        generalize xs[xs.length - 1]'(by omega) = lastx at *
        have hlb : (lastx != (0 : Int)) = true := by simp [hl]
        have hnum : ((xs.length : Nat) : Int) - 1 = ((xs.length - 1 : Nat) : Int) := by omega
        have hlz : xs.length - 1 < xs.length := by omega
        clear hM hl
        unfold tup2V
        go_enter Try.func27, Try.ntmps27
        go_wp2_with (first
    | (go_at_call 21; refine (checkSet_any W A ts c _ (hA.ext (by (repeat (first | exact Below.refl _ _ | assumption | refine below_drewN ?_ _ | refine below_drew ?_ | refine below_gr ?_ ?_ _ | refine below_alloc ?_ ?_ _ | refine Below.setCell ?_ ?_ _ | refine below_step ?_ (by assumption) ?_ | omega | (simp only [zz] at *; omega))))) hl hsz).mono ?_; rintro e w1 ⟨rfl, hb1⟩; replace hb1 := ex_below hb1; have hz1 := hb1.size; (try simp only [zz] at hz1); have hlt1 : ∀ b, b < w.heap.size → b < w1.heap.size := fun b hb => (by (first | omega | (simp only [zz] at *; omega))); have hc1 : ∀ b o, b < w.heap.size → w1.cell? ⟨b, o, none⟩ = w.cell? ⟨b, o, none⟩ := old_cell (by (repeat (first | exact Below.refl _ _ | assumption | refine below_drewN ?_ _ | refine below_drew ?_ | refine below_gr ?_ ?_ _ | refine below_alloc ?_ ?_ _ | refine Below.setCell ?_ ?_ _ | refine below_step ?_ (by assumption) ?_ | omega | (simp only [zz] at *; omega)))); have hs1a : w.heap.size < w1.heap.size := (by (first | omega | (simp only [zz] at *; omega))); have ho1a := own_cell hb1 (b := w.heap.size) (by (first | omega | (simp only [zz] at *; omega))); have hq1a := own_frozen hb1 (b := w.heap.size) (by (first | omega | (simp only [zz] at *; omega))); have hs1b : w.heap.size + 1 < w1.heap.size := (by (first | omega | (simp only [zz] at *; omega))); have ho1b := own_cell hb1 (b := w.heap.size + 1) (by (first | omega | (simp only [zz] at *; omega))); have hq1b := own_frozen hb1 (b := w.heap.size + 1) (by (first | omega | (simp only [zz] at *; omega))); have hs1c : w.heap.size + 1 + 1 < w1.heap.size := (by (first | omega | (simp only [zz] at *; omega))); have ho1c := own_cell hb1 (b := w.heap.size + 1 + 1) (by (first | omega | (simp only [zz] at *; omega))); have hq1c := own_frozen hb1 (b := w.heap.size + 1 + 1) (by (first | omega | (simp only [zz] at *; omega))); have hs1d : w.heap.size + 1 + 1 + 1 < w1.heap.size := (by (first | omega | (simp only [zz] at *; omega))); have ho1d := own_cell hb1 (b := w.heap.size + 1 + 1 + 1) (by (first | omega | (simp only [zz] at *; omega))); have hq1d := own_frozen hb1 (b := w.heap.size + 1 + 1 + 1) (by (first | omega | (simp only [zz] at *; omega))))
    | (go_at_call 55; refine (newReel_any W A ts c _ (hA.ext (by (repeat (first | exact Below.refl _ _ | assumption | refine below_drewN ?_ _ | refine below_drew ?_ | refine below_gr ?_ ?_ _ | refine below_alloc ?_ ?_ _ | refine Below.setCell ?_ ?_ _ | refine below_step ?_ (by assumption) ?_ | omega | (simp only [zz] at *; omega)))))).mono ?_; rintro e w4 ⟨R, M, rfl, hb4, hR0, hM0, hR4⟩; have hz1 := hb4.size; (try simp only [zz] at hz1); have hlt1 : ∀ b, b < w.heap.size → b < w4.heap.size := fun b hb => (by (first | omega | (simp only [zz] at *; omega))); have hc1 : ∀ b o, b < w.heap.size → w4.cell? ⟨b, o, none⟩ = w.cell? ⟨b, o, none⟩ := old_cell (by (repeat (first | exact Below.refl _ _ | assumption | refine below_drewN ?_ _ | refine below_drew ?_ | refine below_gr ?_ ?_ _ | refine below_alloc ?_ ?_ _ | refine Below.setCell ?_ ?_ _ | refine below_step ?_ (by assumption) ?_ | omega | (simp only [zz] at *; omega)))); have hs1a : w.heap.size < w4.heap.size := (by (first | omega | (simp only [zz] at *; omega))); have ho1a := own_cell hb4 (b := w.heap.size) (by (first | omega | (simp only [zz] at *; omega))); have hq1a := own_frozen hb4 (b := w.heap.size) (by (first | omega | (simp only [zz] at *; omega))); have hs1b : w.heap.size + 1 < w4.heap.size := (by (first | omega | (simp only [zz] at *; omega))); have ho1b := own_cell hb4 (b := w.heap.size + 1) (by (first | omega | (simp only [zz] at *; omega))); have hq1b := own_frozen hb4 (b := w.heap.size + 1) (by (first | omega | (simp only [zz] at *; omega))); have hs1c : w.heap.size + 1 + 1 < w4.heap.size := (by (first | omega | (simp only [zz] at *; omega))); have ho1c := own_cell hb4 (b := w.heap.size + 1 + 1) (by (first | omega | (simp only [zz] at *; omega))); have hq1c := own_frozen hb4 (b := w.heap.size + 1 + 1) (by (first | omega | (simp only [zz] at *; omega))); have hs1d : w.heap.size + 1 + 1 + 1 < w4.heap.size := (by (first | omega | (simp only [zz] at *; omega))); have ho1d := own_cell hb4 (b := w.heap.size + 1 + 1 + 1) (by (first | omega | (simp only [zz] at *; omega))); have hq1d := own_frozen hb4 (b := w.heap.size + 1 + 1 + 1) (by (first | omega | (simp only [zz] at *; omega)))))

        refine wp_region_grow (by kernel_rfl) (by kernel_rfl) ?_
        repeat (go_big_quiet_step ((go_at_call 68; exact Gives.quiet (HMA.out _ _ (hR4.rat.ext (by (repeat (first | exact Below.refl _ _ | assumption | refine below_drewN ?_ _ | refine below_drew ?_ | refine below_gr ?_ ?_ _ | refine below_alloc ?_ ?_ _ | refine Below.setCell ?_ ?_ _ | refine below_step ?_ (by assumption) ?_ | omega | (simp only [zz] at *; omega))))) (hA.ext (by (repeat (first | exact Below.refl _ _ | assumption | refine below_drewN ?_ _ | refine below_drew ?_ | refine below_gr ?_ ?_ _ | refine below_alloc ?_ ?_ _ | refine Below.setCell ?_ ?_ _ | refine below_step ?_ (by assumption) ?_ | omega | (simp only [zz] at *; omega)))))))))
        refine wpQuiet_nil ?_
        intro w5 hb1
        replace hb1 := ex_below hb1
        have hz1 := hb1.size
        (try simp only [zz] at hz1)
        have hlt1 : ∀ b, b < w.heap.size → b < w5.heap.size := fun b hb => (by (first | omega | (simp only [zz] at *; omega)))
        have hc1 : ∀ b o, b < w.heap.size → w5.cell? ⟨b, o, none⟩ = w.cell? ⟨b, o, none⟩ := old_cell (by (repeat (first | exact Below.refl _ _ | assumption | refine below_drewN ?_ _ | refine below_drew ?_ | refine below_gr ?_ ?_ _ | refine below_alloc ?_ ?_ _ | refine Below.setCell ?_ ?_ _ | refine below_step ?_ (by assumption) ?_ | omega | (simp only [zz] at *; omega))))
        have hs1a : w.heap.size < w5.heap.size := (by (first | omega | (simp only [zz] at *; omega)))
        have ho1a := own_cell hb1 (b := w.heap.size) (by (first | omega | (simp only [zz] at *; omega)))
        have hq1a := own_frozen hb1 (b := w.heap.size) (by (first | omega | (simp only [zz] at *; omega)))
        have hs1b : w.heap.size + 1 < w5.heap.size := (by (first | omega | (simp only [zz] at *; omega)))
        have ho1b := own_cell hb1 (b := w.heap.size + 1) (by (first | omega | (simp only [zz] at *; omega)))
        have hq1b := own_frozen hb1 (b := w.heap.size + 1) (by (first | omega | (simp only [zz] at *; omega)))
        have hs1c : w.heap.size + 1 + 1 < w5.heap.size := (by (first | omega | (simp only [zz] at *; omega)))
        have ho1c := own_cell hb1 (b := w.heap.size + 1 + 1) (by (first | omega | (simp only [zz] at *; omega)))
        have hq1c := own_frozen hb1 (b := w.heap.size + 1 + 1) (by (first | omega | (simp only [zz] at *; omega)))
        have hs1d : w.heap.size + 1 + 1 + 1 < w5.heap.size := (by (first | omega | (simp only [zz] at *; omega)))
        have ho1d := own_cell hb1 (b := w.heap.size + 1 + 1 + 1) (by (first | omega | (simp only [zz] at *; omega)))
        have hq1d := own_frozen hb1 (b := w.heap.size + 1 + 1 + 1) (by (first | omega | (simp only [zz] at *; omega)))
        go_wp2_with (first
    | (go_at_call 61; refine (HWI.out _ (hT.ext (by (repeat (first | exact Below.refl _ _ | assumption | refine below_drewN ?_ _ | refine below_drew ?_ | refine below_gr ?_ ?_ _ | refine below_alloc ?_ ?_ _ | refine Below.setCell ?_ ?_ _ | refine below_step ?_ (by assumption) ?_ | omega | (simp only [zz] at *; omega)))))).mono ?_; rintro e w6 ⟨rfl, hb6⟩; replace hb6 := ex_below hb6; have hz1 := hb6.size; (try simp only [zz] at hz1); have hlt1 : ∀ b, b < w.heap.size → b < w6.heap.size := fun b hb => (by (first | omega | (simp only [zz] at *; omega))); have hc1 : ∀ b o, b < w.heap.size → w6.cell? ⟨b, o, none⟩ = w.cell? ⟨b, o, none⟩ := old_cell (by (repeat (first | exact Below.refl _ _ | assumption | refine below_drewN ?_ _ | refine below_drew ?_ | refine below_gr ?_ ?_ _ | refine below_alloc ?_ ?_ _ | refine Below.setCell ?_ ?_ _ | refine below_step ?_ (by assumption) ?_ | omega | (simp only [zz] at *; omega)))); have hs1a : w.heap.size < w6.heap.size := (by (first | omega | (simp only [zz] at *; omega))); have ho1a := own_cell hb6 (b := w.heap.size) (by (first | omega | (simp only [zz] at *; omega))); have hq1a := own_frozen hb6 (b := w.heap.size) (by (first | omega | (simp only [zz] at *; omega))); have hs1b : w.heap.size + 1 < w6.heap.size := (by (first | omega | (simp only [zz] at *; omega))); have ho1b := own_cell hb6 (b := w.heap.size + 1) (by (first | omega | (simp only [zz] at *; omega))); have hq1b := own_frozen hb6 (b := w.heap.size + 1) (by (first | omega | (simp only [zz] at *; omega))); have hs1c : w.heap.size + 1 + 1 < w6.heap.size := (by (first | omega | (simp only [zz] at *; omega))); have ho1c := own_cell hb6 (b := w.heap.size + 1 + 1) (by (first | omega | (simp only [zz] at *; omega))); have hq1c := own_frozen hb6 (b := w.heap.size + 1 + 1) (by (first | omega | (simp only [zz] at *; omega))); have hs1d : w.heap.size + 1 + 1 + 1 < w6.heap.size := (by (first | omega | (simp only [zz] at *; omega))); have ho1d := own_cell hb6 (b := w.heap.size + 1 + 1 + 1) (by (first | omega | (simp only [zz] at *; omega))); have hq1d := own_frozen hb6 (b := w.heap.size + 1 + 1 + 1) (by (first | omega | (simp only [zz] at *; omega)))))

        refine bodyPost_ret (v := .tuple #[.int .i64 0, .int .i64 14]) (by simp [results, Try.results27, go_sem, *]) rfl (gives_of rfl (by (repeat (first | exact Below.refl _ _ | assumption | refine below_drewN ?_ _ | refine below_drew ?_ | refine below_gr ?_ ?_ _ | refine below_alloc ?_ ?_ _ | refine Below.setCell ?_ ?_ _ | refine below_step ?_ (by assumption) ?_ | omega | (simp only [zz] at *; omega)))))
    · have hMi : (((xs.length : Nat) : Int) != ((M : Nat) : Int)) = true := by simp; omega
      rw [show tabE W ts xs = 15 by rw [HE.out, if_pos hM]]
      clear hM
      unfold tup2V
      go_enter Try.func27, Try.ntmps27
      go_wp2_with (first
    | (go_at_call 21; refine (checkSet_any W A ts c _ (hA.ext (by (repeat (first | exact Below.refl _ _ | assumption | refine below_drewN ?_ _ | refine below_drew ?_ | refine below_gr ?_ ?_ _ | refine below_alloc ?_ ?_ _ | refine Below.setCell ?_ ?_ _ | refine below_step ?_ (by assumption) ?_ | omega | (simp only [zz] at *; omega))))) hl hsz).mono ?_; rintro e w1 ⟨rfl, hb1⟩; replace hb1 := ex_below hb1; have hz1 := hb1.size; (try simp only [zz] at hz1); have hlt1 : ∀ b, b < w.heap.size → b < w1.heap.size := fun b hb => (by (first | omega | (simp only [zz] at *; omega))); have hc1 : ∀ b o, b < w.heap.size → w1.cell? ⟨b, o, none⟩ = w.cell? ⟨b, o, none⟩ := old_cell (by (repeat (first | exact Below.refl _ _ | assumption | refine below_drewN ?_ _ | refine below_drew ?_ | refine below_gr ?_ ?_ _ | refine below_alloc ?_ ?_ _ | refine Below.setCell ?_ ?_ _ | refine below_step ?_ (by assumption) ?_ | omega | (simp only [zz] at *; omega)))); have hs1a : w.heap.size < w1.heap.size := (by (first | omega | (simp only [zz] at *; omega))); have ho1a := own_cell hb1 (b := w.heap.size) (by (first | omega | (simp only [zz] at *; omega))); have hq1a := own_frozen hb1 (b := w.heap.size) (by (first | omega | (simp only [zz] at *; omega))); have hs1b : w.heap.size + 1 < w1.heap.size := (by (first | omega | (simp only [zz] at *; omega))); have ho1b := own_cell hb1 (b := w.heap.size + 1) (by (first | omega | (simp only [zz] at *; omega))); have hq1b := own_frozen hb1 (b := w.heap.size + 1) (by (first | omega | (simp only [zz] at *; omega))); have hs1c : w.heap.size + 1 + 1 < w1.heap.size := (by (first | omega | (simp only [zz] at *; omega))); have ho1c := own_cell hb1 (b := w.heap.size + 1 + 1) (by (first | omega | (simp only [zz] at *; omega))); have hq1c := own_frozen hb1 (b := w.heap.size + 1 + 1) (by (first | omega | (simp only [zz] at *; omega))); have hs1d : w.heap.size + 1 + 1 + 1 < w1.heap.size := (by (first | omega | (simp only [zz] at *; omega))); have ho1d := own_cell hb1 (b := w.heap.size + 1 + 1 + 1) (by (first | omega | (simp only [zz] at *; omega))); have hq1d := own_frozen hb1 (b := w.heap.size + 1 + 1 + 1) (by (first | omega | (simp only [zz] at *; omega))))
    | (go_at_call 55; refine (newReel_any W A ts c _ (hA.ext (by (repeat (first | exact Below.refl _ _ | assumption | refine below_drewN ?_ _ | refine below_drew ?_ | refine below_gr ?_ ?_ _ | refine below_alloc ?_ ?_ _ | refine Below.setCell ?_ ?_ _ | refine below_step ?_ (by assumption) ?_ | omega | (simp only [zz] at *; omega)))))).mono ?_; rintro e w4 ⟨R, M, rfl, hb4, hR0, hM0, hR4⟩; have hz1 := hb4.size; (try simp only [zz] at hz1); have hlt1 : ∀ b, b < w.heap.size → b < w4.heap.size := fun b hb => (by (first | omega | (simp only [zz] at *; omega))); have hc1 : ∀ b o, b < w.heap.size → w4.cell? ⟨b, o, none⟩ = w.cell? ⟨b, o, none⟩ := old_cell (by (repeat (first | exact Below.refl _ _ | assumption | refine below_drewN ?_ _ | refine below_drew ?_ | refine below_gr ?_ ?_ _ | refine below_alloc ?_ ?_ _ | refine Below.setCell ?_ ?_ _ | refine below_step ?_ (by assumption) ?_ | omega | (simp only [zz] at *; omega)))); have hs1a : w.heap.size < w4.heap.size := (by (first | omega | (simp only [zz] at *; omega))); have ho1a := own_cell hb4 (b := w.heap.size) (by (first | omega | (simp only [zz] at *; omega))); have hq1a := own_frozen hb4 (b := w.heap.size) (by (first | omega | (simp only [zz] at *; omega))); have hs1b : w.heap.size + 1 < w4.heap.size := (by (first | omega | (simp only [zz] at *; omega))); have ho1b := own_cell hb4 (b := w.heap.size + 1) (by (first | omega | (simp only [zz] at *; omega))); have hq1b := own_frozen hb4 (b := w.heap.size + 1) (by (first | omega | (simp only [zz] at *; omega))); have hs1c : w.heap.size + 1 + 1 < w4.heap.size := (by (first | omega | (simp only [zz] at *; omega))); have ho1c := own_cell hb4 (b := w.heap.size + 1 + 1) (by (first | omega | (simp only [zz] at *; omega))); have hq1c := own_frozen hb4 (b := w.heap.size + 1 + 1) (by (first | omega | (simp only [zz] at *; omega))); have hs1d : w.heap.size + 1 + 1 + 1 < w4.heap.size := (by (first | omega | (simp only [zz] at *; omega))); have ho1d := own_cell hb4 (b := w.heap.size + 1 + 1 + 1) (by (first | omega | (simp only [zz] at *; omega))); have hq1d := own_frozen hb4 (b := w.heap.size + 1 + 1 + 1) (by (first | omega | (simp only [zz] at *; omega)))))

      refine wp_region_grow (by kernel_rfl) (by kernel_rfl) ?_
      repeat (go_big_quiet_step ((go_at_call 68; exact Gives.quiet (HMA.out _ _ (hR4.rat.ext (by (repeat (first | exact Below.refl _ _ | assumption | refine below_drewN ?_ _ | refine below_drew ?_ | refine below_gr ?_ ?_ _ | refine below_alloc ?_ ?_ _ | refine Below.setCell ?_ ?_ _ | refine below_step ?_ (by assumption) ?_ | omega | (simp only [zz] at *; omega))))) (hA.ext (by (repeat (first | exact Below.refl _ _ | assumption | refine below_drewN ?_ _ | refine below_drew ?_ | refine below_gr ?_ ?_ _ | refine below_alloc ?_ ?_ _ | refine Below.setCell ?_ ?_ _ | refine below_step ?_ (by assumption) ?_ | omega | (simp only [zz] at *; omega)))))))))
      refine wpQuiet_nil ?_
      intro w5 hb1
      replace hb1 := ex_below hb1
      have hz1 := hb1.size
      (try simp only [zz] at hz1)
      have hlt1 : ∀ b, b < w.heap.size → b < w5.heap.size := fun b hb => (by (first | omega | (simp only [zz] at *; omega)))
      have hc1 : ∀ b o, b < w.heap.size → w5.cell? ⟨b, o, none⟩ = w.cell? ⟨b, o, none⟩ := old_cell (by (repeat (first | exact Below.refl _ _ | assumption | refine below_drewN ?_ _ | refine below_drew ?_ | refine below_gr ?_ ?_ _ | refine below_alloc ?_ ?_ _ | refine Below.setCell ?_ ?_ _ | refine below_step ?_ (by assumption) ?_ | omega | (simp only [zz] at *; omega))))
      have hs1a : w.heap.size < w5.heap.size := (by (first | omega | (simp only [zz] at *; omega)))
      have ho1a := own_cell hb1 (b := w.heap.size) (by (first | omega | (simp only [zz] at *; omega)))
      have hq1a := own_frozen hb1 (b := w.heap.size) (by (first | omega | (simp only [zz] at *; omega)))
      have hs1b : w.heap.size + 1 < w5.heap.size := (by (first | omega | (simp only [zz] at *; omega)))
      have ho1b := own_cell hb1 (b := w.heap.size + 1) (by (first | omega | (simp only [zz] at *; omega)))
      have hq1b := own_frozen hb1 (b := w.heap.size + 1) (by (first | omega | (simp only [zz] at *; omega)))
      have hs1c : w.heap.size + 1 + 1 < w5.heap.size := (by (first | omega | (simp only [zz] at *; omega)))
      have ho1c := own_cell hb1 (b := w.heap.size + 1 + 1) (by (first | omega | (simp only [zz] at *; omega)))
      have hq1c := own_frozen hb1 (b := w.heap.size + 1 + 1) (by (first | omega | (simp only [zz] at *; omega)))
      have hs1d : w.heap.size + 1 + 1 + 1 < w5.heap.size := (by (first | omega | (simp only [zz] at *; omega)))
      have ho1d := own_cell hb1 (b := w.heap.size + 1 + 1 + 1) (by (first | omega | (simp only [zz] at *; omega)))
      have hq1d := own_frozen hb1 (b := w.heap.size + 1 + 1 + 1) (by (first | omega | (simp only [zz] at *; omega)))
      go_wp2
      refine bodyPost_ret (v := .tuple #[.int .i64 0, .int .i64 15]) (by simp [results, Try.results27, go_sem, *]) rfl (gives_of rfl (by (repeat (first | exact Below.refl _ _ | assumption | refine below_drewN ?_ _ | refine below_drew ?_ | refine below_gr ?_ ?_ _ | refine below_alloc ?_ ?_ _ | refine Below.setCell ?_ ?_ _ | refine below_step ?_ (by assumption) ?_ | omega | (simp only [zz] at *; omega)))))
  · have h1 : (chkSet W ts != 0) = true := by simp [hc]
    have HE := hide (show tabE W ts xs = chkSet W ts by simp [tabE, hc])
    rw [HE.out]
    clear h0
    unfold tup2V
    go_enter Try.func27, Try.ntmps27
    go_wp2_with (first
    | (go_at_call 21; refine (checkSet_any W A ts c _ (hA.ext (by (repeat (first | exact Below.refl _ _ | assumption | refine below_drewN ?_ _ | refine below_drew ?_ | refine below_gr ?_ ?_ _ | refine below_alloc ?_ ?_ _ | refine Below.setCell ?_ ?_ _ | refine below_step ?_ (by assumption) ?_ | omega | (simp only [zz] at *; omega))))) hl hsz).mono ?_; rintro e w1 ⟨rfl, hb1⟩; replace hb1 := ex_below hb1; have hz1 := hb1.size; (try simp only [zz] at hz1); have hlt1 : ∀ b, b < w.heap.size → b < w1.heap.size := fun b hb => (by (first | omega | (simp only [zz] at *; omega))); have hc1 : ∀ b o, b < w.heap.size → w1.cell? ⟨b, o, none⟩ = w.cell? ⟨b, o, none⟩ := old_cell (by (repeat (first | exact Below.refl _ _ | assumption | refine below_drewN ?_ _ | refine below_drew ?_ | refine below_gr ?_ ?_ _ | refine below_alloc ?_ ?_ _ | refine Below.setCell ?_ ?_ _ | refine below_step ?_ (by assumption) ?_ | omega | (simp only [zz] at *; omega)))); have hs1a : w.heap.size < w1.heap.size := (by (first | omega | (simp only [zz] at *; omega))); have ho1a := own_cell hb1 (b := w.heap.size) (by (first | omega | (simp only [zz] at *; omega))); have hq1a := own_frozen hb1 (b := w.heap.size) (by (first | omega | (simp only [zz] at *; omega))); have hs1b : w.heap.size + 1 < w1.heap.size := (by (first | omega | (simp only [zz] at *; omega))); have ho1b := own_cell hb1 (b := w.heap.size + 1) (by (first | omega | (simp only [zz] at *; omega))); have hq1b := own_frozen hb1 (b := w.heap.size + 1) (by (first | omega | (simp only [zz] at *; omega))); have hs1c : w.heap.size + 1 + 1 < w1.heap.size := (by (first | omega | (simp only [zz] at *; omega))); have ho1c := own_cell hb1 (b := w.heap.size + 1 + 1) (by (first | omega | (simp only [zz] at *; omega))); have hq1c := own_frozen hb1 (b := w.heap.size + 1 + 1) (by (first | omega | (simp only [zz] at *; omega))); have hs1d : w.heap.size + 1 + 1 + 1 < w1.heap.size := (by (first | omega | (simp only [zz] at *; omega))); have ho1d := own_cell hb1 (b := w.heap.size + 1 + 1 + 1) (by (first | omega | (simp only [zz] at *; omega))); have hq1d := own_frozen hb1 (b := w.heap.size + 1 + 1 + 1) (by (first | omega | (simp only [zz] at *; omega)))))

    refine bodyPost_ret (v := .tuple #[.int .i64 0, .int .i64 (chkSet W ts)]) (by simp [results, Try.results27, go_sem, *]) rfl (gives_of rfl (by (repeat (first | exact Below.refl _ _ | assumption | refine below_drewN ?_ _ | refine below_drew ?_ | refine below_gr ?_ ?_ _ | refine below_alloc ?_ ?_ _ | refine Below.setCell ?_ ?_ _ | refine below_step ?_ (by assumption) ?_ | omega | (simp only [zz] at *; omega)))))
end Go.Proofs.Ytafncmgijbkomaa
