/- Proved here: small functions of the laws; the examples of the chapter, reckoned; the contracts at the tapes of the examples, a part of the proofs about the tape laws. Conditions: those that each theorem names, no others. -/
import Derived.Test.YtafncmgijbkomaaP22
import Derived.WalkKit
import Derived.WalkSpells
import Derived.WalkLawsBesides
import Derived.Below
import Derived.Deep.QuietTactic
import Derived.BigQuiet
import Derived.Deep.Light
import Derived.Test.YtafncmgijbkomaaP27
import Derived.Test.YtafncmgijbkomaaP10
import Derived.Test.YtafncmgijbkomaaP08
set_option linter.unusedSimpArgs false
set_option linter.unusedVariables false
namespace Go.Proofs.Ytafncmgijbkomaa
open Go.RowKit Go.Maps Go.Lib
/-- an object of two cells -/
def ObjV (W : World) (B : Nat) (t : TypeId) (a b : Value) : Prop := W.heap[B]? = some (.cells #[a, b] t (0, 0))
theorem ObjV.lt {W : World} {B : Nat} {t : TypeId} {a b : Value} (h : ObjV W B t a b) : B < W.heap.size := (Array.getElem?_eq_some_iff.1 (show W.heap[B]? = _ from h)).1
theorem ObjV.c0 {W : World} {B : Nat} {t : TypeId} {a b : Value} (h : ObjV W B t a b) : W.cell? ⟨B, 0, none⟩ = some a := by simp [World.cell?, show W.heap[B]? = _ from h]
theorem ObjV.c1 {W : World} {B : Nat} {t : TypeId} {a b : Value} (h : ObjV W B t a b) : W.cell? ⟨B, 1, none⟩ = some b := by simp [World.cell?, show W.heap[B]? = _ from h]
theorem ObjV.below {W W' : World} {B : Nat} {t : TypeId} {a b : Value} (h : ObjV W B t a b) (hb : Below W.heap.size W W') : ObjV W' B t a b := (hb.block B h.lt).trans h
theorem ObjV.new (W : World) (t : TypeId) (a b : Value) : ObjV (W.alloc (.cells #[a, b] t)) W.heap.size t a b := heap_alloc_new W _
/-- too many tapes, or one that is too long -/
def greatB (ts : List ByteArray) : Bool := decide (6 < ts.length) || ts.any (fun s => decide (20 < s.size))
theorem great_no {ts : List ByteArray} (h : greatB ts = false) : ts.length ≤ 1000 ∧ ∀ k, (hk : k < ts.length) → ts[k].size ≤ 1000000 := by
  unfold greatB at h
  rw [Bool.or_eq_false_iff, decide_eq_false_iff_not, List.any_eq_false] at h
  refine ⟨by omega, fun k hk => ?_⟩
  have := h.2 ts[k] (List.getElem_mem hk)
  simp only [decide_eq_true_eq] at this
  omega
theorem chk_great {W : Int} {ts : List ByteArray} (h : chkSet W ts = 0) : greatB ts = false := by
  obtain ⟨_, _, _, h3, hs, _, _, _⟩ := chk_val h
  unfold greatB
  rw [Bool.or_eq_false_iff, decide_eq_false_iff_not, List.any_eq_false]
  refine ⟨by omega, fun s hs' => ?_⟩
  obtain ⟨k, hk, rfl⟩ := List.getElem_of_mem hs'
  have := hs k hk
  simp only [decide_eq_true_eq]
  omega
set_option maxRecDepth 100000 in
set_option maxHeartbeats 1000000 in
theorem great_any (W : Int) (A : Option Addr) (ts : List ByteArray) (c : Nat) (w : World) (hA : Strs w A ts) (hl9 : ts.length ≤ 9223372036854775807) (hs9 : ∀ s, s ∈ ts → s.size ≤ 9223372036854775807) : Calls Try.prog 17 #[.agg #[.int .i64 W, .slice A ts.length c]] w (Gives w (.bool (greatB ts))) := by
  have HG := hide (show greatB ts = (decide (6 < ts.length) || ts.any (fun s => decide (20 < s.size))) from rfl)
  by_cases h6 : 6 < ts.length
  · have h6i : (6 : Int) < (ts.length : Nat) := by omega
    have HV : Hid (greatB ts = true) := hide (by rw [HG.out, decide_eq_true h6]; rfl)
    rw [HV.out]
    go_enter Try.func17, Try.ntmps17
    go_wp2
    go_ret
    exact gives_of (rfl) (by (repeat (first | exact Below.refl _ _ | assumption | refine below_drewN ?_ _ | refine below_drew ?_ | refine below_gr ?_ ?_ _ | refine below_alloc ?_ ?_ _ | refine Below.setCell ?_ ?_ _ | refine below_step ?_ (by assumption) ?_ | omega | (simp only [zz] at *; omega))))
  · have h6i : ¬ ((6 : Int) < (ts.length : Nat)) := by omega
    have HV : Hid (greatB ts = ts.any (fun s => decide (20 < s.size))) := hide (by rw [HG.out, decide_eq_false h6]; rfl)
    rw [HV.out]
    clear HG HV
    go_enter Try.func17, Try.ntmps17
    go_wp2
    go_loopw [3] (fun i wr => ∃ k : Nat, k ≤ ts.length ∧ i = .int .i64 (k : Nat) ∧ Hid ((ts.take k).any (fun s => decide (20 < s.size)) = false) ∧ Grew (w.alloc (.cells #[.int .i64 W, .slice A ts.length c] 24)) wr) (fun i _ => ts.length - (intOf i).toNat)
    case atStart => exact ⟨0, Nat.zero_le _, rfl, hide rfl, grew_refl _⟩
    case round =>
      obtain ⟨k, hk, rfl, hall, hb⟩ := hrel
      replace hb := hb.below
      have hzr := hb.size
      (try simp only [zz] at hzr)
      have hsr : w.heap.size < wr.heap.size := (by (first | omega | (simp only [zz] at *; omega)))
      have hor := own_cell hb (b := w.heap.size) (by (first | omega | (simp only [zz] at *; omega)))
      have hqr := own_frozen hb (b := w.heap.size) (by (first | omega | (simp only [zz] at *; omega)))
      have hltr : ∀ b, b < w.heap.size → b < wr.heap.size := fun b hb => (by (first | omega | (simp only [zz] at *; omega)))
      have hcr : ∀ b o, b < w.heap.size → wr.cell? ⟨b, o, none⟩ = w.cell? ⟨b, o, none⟩ := old_cell (by (repeat (first | exact Below.refl _ _ | assumption | refine below_drewN ?_ _ | refine below_drew ?_ | refine below_gr ?_ ?_ _ | refine below_alloc ?_ ?_ _ | refine Below.setCell ?_ ?_ _ | refine below_step ?_ (by assumption) ?_ | omega | (simp only [zz] at *; omega))))
      by_cases hlt : k < ts.length
      · obtain ⟨tb, toff, rfl, htl, htl2, ht0⟩ := hA k ts[k] (by simp [hlt])
        have HAN := hide (show (ts.take (k + 1)).any (fun s => decide (20 < s.size)) = ((ts.take k).any (fun s => decide (20 < s.size)) || decide (20 < ts[k].size)) by rw [take_snoc _ _ hlt, List.any_append]; simp)
        have HF : Hid (20 < ts[k].size → ts.any (fun s => decide (20 < s.size)) = true) := hide (fun h => by rw [List.any_eq_true]; exact ⟨ts[k], List.getElem_mem hlt, by simpa using h⟩)
        have hs1 := hs9 ts[k] (List.getElem_mem hlt)
        generalize ts[k] = x at *
        by_cases hx : (20 : Int) < x.size
        · go_wp2
          go_ret
          exact gives_of (v_bool (HF.out (by omega)).symm) (by (repeat (first | exact Below.refl _ _ | assumption | refine below_drewN ?_ _ | refine below_drew ?_ | refine below_gr ?_ ?_ _ | refine below_alloc ?_ ?_ _ | refine Below.setCell ?_ ?_ _ | refine below_step ?_ (by assumption) ?_ | omega | (simp only [zz] at *; omega))))
        · go_wp2
          exact ⟨⟨k + 1, by omega, by go_num, hide (by rw [HAN.out, hall.out, decide_eq_false (by omega)]; rfl), grew_of hb⟩, by simp [intOf]; omega⟩
      · have hkl : k = ts.length := by omega
        have HE : Hid (ts.any (fun s => decide (20 < s.size)) = false) := hide (by have h := hall.out; rw [hkl, List.take_length] at h; exact h)
        go_wp2
        go_ret
        exact gives_of (v_bool HE.out.symm) (by (repeat (first | exact Below.refl _ _ | assumption | refine below_drewN ?_ _ | refine below_drew ?_ | refine below_gr ?_ ?_ _ | refine below_alloc ?_ ?_ _ | refine Below.setCell ?_ ?_ _ | refine below_step ?_ (by assumption) ?_ | omega | (simp only [zz] at *; omega))))
set_option maxRecDepth 100000 in
set_option maxHeartbeats 1000000 in
theorem ints_any (P : Option Addr) (p : List Int) (c : Nat) (Q : Option Addr) (q : List Int) (d : Nat) (w : World) (hP : I64 w P p) (hQ : I64 w Q q) (hp : p.length ≤ 1000) (hq : q.length ≤ 1000) : Calls Try.prog 39 #[.slice P p.length c, .slice Q q.length d] w (Gives w (.bool (decide (p = q)))) := by
  by_cases hl : p.length = q.length
  · have hli : ((p.length : Int) != (q.length : Nat)) = false := by simp; omega
    have hli2 : (p.length != q.length) = false := by simp; omega
    have HL := hide hl
    have hq2 : q.length ≤ p.length := by omega
    have HPQ := hide (fun k (h1 : k < p.length) (h2 : k < q.length) (h3 : p[k] ≠ q[k]) => (show decide (p = q) = false from decide_eq_false (fun e => h3 (by subst e; rfl))))
    have HPE := hide (fun (h : ∀ k (h1 : k < p.length) (h2 : k < q.length), p[k] = q[k]) => (show decide (p = q) = true from decide_eq_true (List.ext_getElem hl (fun k h1 h2 => h k h1 h2))))
    clear hl
    go_enter Try.func39, Try.ntmps39
    go_wp2
    go_loopw [5] (fun i wr => ∃ k : Nat, k ≤ p.length ∧ i = .int .i64 (k : Nat) ∧ Hid (∀ j (h1 : j < p.length) (h2 : j < q.length), j < k → p[j] = q[j]) ∧ Grew w wr) (fun i _ => p.length - (intOf i).toNat)
    case atStart => exact ⟨0, Nat.zero_le _, rfl, hide (fun j _ _ h => absurd h (Nat.not_lt_zero _)), grew_refl _⟩
    case round =>
      obtain ⟨k, hk, rfl, hall, hb⟩ := hrel
      replace hb := hb.below
      have hzr := hb.size
      (try simp only [zz] at hzr)
      have hltr : ∀ b, b < w.heap.size → b < wr.heap.size := fun b hb => (by (first | omega | (simp only [zz] at *; omega)))
      have hcr : ∀ b o, b < w.heap.size → wr.cell? ⟨b, o, none⟩ = w.cell? ⟨b, o, none⟩ := old_cell (by (repeat (first | exact Below.refl _ _ | assumption | refine below_drewN ?_ _ | refine below_drew ?_ | refine below_gr ?_ ?_ _ | refine below_alloc ?_ ?_ _ | refine Below.setCell ?_ ?_ _ | refine below_step ?_ (by assumption) ?_ | omega | (simp only [zz] at *; omega))))
      by_cases hlt : k < p.length
      · have hlq : k < q.length := by rw [← HL.out]; exact hlt
        obtain ⟨pb, po, rfl, hpb⟩ := (hP.ext hb).form (by omega)
        obtain ⟨qb, qo, rfl, hqb⟩ := (hQ.ext hb).form (by omega)
        have cp := (hP.ext hb).at hlt
        have cq := (hQ.ext hb).at hlq
        have HNE := hide (HPQ.out k hlt hlq)
        have HAL : Hid (p[k] = q[k] → ∀ j (h1 : j < p.length) (h2 : j < q.length), j < k + 1 → p[j] = q[j]) := hide (fun e j h1 h2 h => by
          rcases Nat.lt_or_ge j k with g | g
          · exact hall.out j h1 h2 g
          · obtain rfl : j = k := by omega
            exact e)
        generalize p[k] = x at *
        generalize q[k] = y at *
        have hki : (k : Int) < (p.length : Nat) := by omega
        have hkq : (k : Int) < (q.length : Nat) := by omega
        have hk0 : (0 : Int) ≤ (k : Int) := by omega
        by_cases e : x = y
        · have eb : (x != y) = false := by simpa using e
          replace e := hide e
          go_wp2
          refine wp_region_grow (by kernel_rfl) (by kernel_rfl) ?_
          repeat (go_big_quiet_step (fail))
          refine wpQuiet_nil ?_
          intro w4 hb4
          replace hb4 := ex_below hb4
          have hz4 := hb4.size
          (try simp only [zz] at hz4)
          have hlt4 : ∀ b, b < wr.heap.size → b < w4.heap.size := fun b hb => (by (first | omega | (simp only [zz] at *; omega)))
          have hc4 : ∀ b o, b < wr.heap.size → w4.cell? ⟨b, o, none⟩ = wr.cell? ⟨b, o, none⟩ := old_cell (by (repeat (first | exact Below.refl _ _ | assumption | refine below_drewN ?_ _ | refine below_drew ?_ | refine below_gr ?_ ?_ _ | refine below_alloc ?_ ?_ _ | refine Below.setCell ?_ ?_ _ | refine below_step ?_ (by assumption) ?_ | omega | (simp only [zz] at *; omega))))
          go_wp2
          exact ⟨⟨k + 1, by omega, by go_num, hide (HAL.out e.out), grew_of (by (repeat (first | exact Below.refl _ _ | assumption | refine below_drewN ?_ _ | refine below_drew ?_ | refine below_gr ?_ ?_ _ | refine below_alloc ?_ ?_ _ | refine Below.setCell ?_ ?_ _ | refine below_step ?_ (by assumption) ?_ | omega | (simp only [zz] at *; omega))))⟩, by simp [intOf]; omega⟩
        · have eb : (x != y) = true := by simpa using e
          go_wp2
          refine wp_region_grow (by kernel_rfl) (by kernel_rfl) ?_
          repeat (go_big_quiet_step (fail))
          refine wpQuiet_nil ?_
          intro w4 hb4
          replace hb4 := ex_below hb4
          have hz4 := hb4.size
          (try simp only [zz] at hz4)
          have hlt4 : ∀ b, b < wr.heap.size → b < w4.heap.size := fun b hb => (by (first | omega | (simp only [zz] at *; omega)))
          have hc4 : ∀ b o, b < wr.heap.size → w4.cell? ⟨b, o, none⟩ = wr.cell? ⟨b, o, none⟩ := old_cell (by (repeat (first | exact Below.refl _ _ | assumption | refine below_drewN ?_ _ | refine below_drew ?_ | refine below_gr ?_ ?_ _ | refine below_alloc ?_ ?_ _ | refine Below.setCell ?_ ?_ _ | refine below_step ?_ (by assumption) ?_ | omega | (simp only [zz] at *; omega))))
          go_wp2
          go_ret
          exact gives_of (v_bool (HNE.out e).symm) (by (repeat (first | exact Below.refl _ _ | assumption | refine below_drewN ?_ _ | refine below_drew ?_ | refine below_gr ?_ ?_ _ | refine below_alloc ?_ ?_ _ | refine Below.setCell ?_ ?_ _ | refine below_step ?_ (by assumption) ?_ | omega | (simp only [zz] at *; omega))))
      · have hkl : k = p.length := by omega
        have HE := hide (HPE.out (fun j h1 h2 => hall.out j h1 h2 (by omega)))
        go_wp2
        go_ret
        exact gives_of (v_bool HE.out.symm) (by (repeat (first | exact Below.refl _ _ | assumption | refine below_drewN ?_ _ | refine below_drew ?_ | refine below_gr ?_ ?_ _ | refine below_alloc ?_ ?_ _ | refine Below.setCell ?_ ?_ _ | refine below_step ?_ (by assumption) ?_ | omega | (simp only [zz] at *; omega))))
  · have hli : ((p.length : Int) != (q.length : Nat)) = true := by simp; omega
    have hli2 : (p.length != q.length) = true := by simp; omega
    have HE := hide (show decide (p = q) = false from decide_eq_false (fun e => hl (by rw [e])))
    go_enter Try.func39, Try.ntmps39
    go_wp2
    go_ret
    exact gives_of (v_bool HE.out.symm) (by (repeat (first | exact Below.refl _ _ | assumption | refine below_drewN ?_ _ | refine below_drew ?_ | refine below_gr ?_ ?_ _ | refine below_alloc ?_ ?_ _ | refine Below.setCell ?_ ?_ _ | refine below_step ?_ (by assumption) ?_ | omega | (simp only [zz] at *; omega))))
set_option maxRecDepth 100000 in
set_option maxHeartbeats 1000000 in
theorem nth_any (b : Nat) (n : Int) (w : World) : Calls Try.prog 48 #[.int .u8 (b : Nat), .int .i64 n] w (Gives w (.agg #[.int .u8 (b : Nat), .int .i64 n])) := by
  go_enter Try.func48, Try.ntmps48
  go_wp2
  refine bodyPost_ret (v := .agg #[.int .u8 (b : Nat), .int .i64 n]) (by simp [results, Try.results48, go_sem]) rfl ?_
  exact gives_of (rfl) (by (repeat (first | exact Below.refl _ _ | assumption | refine below_drewN ?_ _ | refine below_drew ?_ | refine below_gr ?_ ?_ _ | refine below_alloc ?_ ?_ _ | refine Below.setCell ?_ ?_ _ | refine below_step ?_ (by assumption) ?_ | omega | (simp only [zz] at *; omega))))
/-- the tapes of the examples -/
def setL : List ByteArray := [⟨#[97, 98, 99]⟩, ⟨#[97, 99, 98]⟩]
def tableL : List Int := [4, 4, 3, 3, 4, 3, 2, 2, 3, 2, 2, 1, 3, 2, 1, 0]
theorem strs_block {w : World} {b : Nat} {t : TypeId} {xs : List ByteArray} (h : w.heap[b]? = some (.cells (xs.map Value.string).toArray t (0, 0))) : Strs w (some ⟨b, 0, none⟩) xs := fun k x hk => by
  have hl := (Array.getElem?_eq_some_iff.1 h).1
  refine ⟨b, 0, rfl, hl, by omega, ?_⟩
  rw [Nat.zero_add]
  exact obj_at h k _ (by simp [hk])
def GivesSet (w : World) (e : Ending) (w' : World) : Prop := ∃ b, e = .returned (.agg #[.int .i64 3, .slice (some ⟨b, 0, none⟩) 2 2]) ∧ Grew w w' ∧ Strs w' (some ⟨b, 0, none⟩) setL
set_option maxRecDepth 100000 in
set_option maxHeartbeats 1000000 in
theorem set_any (w : World) : Calls Try.prog 52 #[] w (GivesSet w) := by
  go_enter Try.func52, Try.ntmps52
  go_wp2
  refine bodyPost_ret (v := .agg #[.int .i64 3, .slice (some ⟨w.heap.size + 1, 0, none⟩) 2 2]) (by simp [results, Try.results52, go_sem]) rfl ?_
  exact ⟨w.heap.size + 1, rfl, grew_of (by (repeat (first | exact Below.refl _ _ | assumption | refine below_drewN ?_ _ | refine below_drew ?_ | refine below_gr ?_ ?_ _ | refine below_alloc ?_ ?_ _ | refine Below.setCell ?_ ?_ _ | refine below_step ?_ (by assumption) ?_ | omega | (simp only [zz] at *; omega)))), strs_block (xs := setL) (heap_b w _ _)⟩
set_option maxRecDepth 100000 in
set_option maxHeartbeats 1000000 in
theorem table_any (w : World) : Calls Try.prog 53 #[] w (GivesInts w tableL) := by
  go_enter Try.func53, Try.ntmps53
  go_wp2
  go_ret
  exact ⟨_, 16, rfl, grew_of (by (repeat (first | exact Below.refl _ _ | assumption | refine below_drewN ?_ _ | refine below_drew ?_ | refine below_gr ?_ ?_ _ | refine below_alloc ?_ ?_ _ | refine Below.setCell ?_ ?_ _ | refine below_step ?_ (by assumption) ?_ | omega | (simp only [zz] at *; omega)))), i64_new w tableL 3 _ rfl⟩
end Go.Proofs.Ytafncmgijbkomaa
namespace Go.Proofs.Ytafncmgijbkomaa
open Go.RowKit Go.Maps Go.Lib
set_option maxRecDepth 100000
theorem v_has1 : hasR 3 setL ⟨#[97, 98, 99, 98]⟩ = (true, 0) := by decide +kernel
theorem v_has2 : hasR 3 setL ⟨#[97, 98, 100]⟩ = (false, 8) := by decide +kernel
theorem v_few : fewR 3 setL = (4, 0) := by decide +kernel
theorem v_com : comR 3 setL = (⟨#[97, 98]⟩, 0) := by decide +kernel
theorem v_tab : tabR 3 setL tableL = (4, 0) := by decide +kernel
theorem v_tbl : tblR 3 setL = (bdsL 3 (lts setL), 0) := by decide +kernel
theorem v_tab2 : tabR 3 setL (bdsL 3 (lts setL)) = (4, 0) := by decide +kernel
theorem v_cnt : countR 3 setL 4 = (2, 0) := by decide +kernel
theorem v_ng1 : nightR 3 setL 4 1 = (⟨#[97, 99, 98, 99]⟩, 0) := by decide +kernel
theorem v_ng2 : nightR 3 setL 4 2 = (⟨#[]⟩, 3) := by decide +kernel
theorem v_pl1 : pullsA 3 setL 4 98 = ((1, 2), 0) := by decide +kernel
theorem v_pl2 : pullsA 3 setL 3 97 = ((0, 0), 24) := by decide +kernel
theorem v_kind : kindA 3 setL 4 98 1 99 1 = (1, 0) := by decide +kernel
theorem v_wrg : wrgR 3 setL 3 = ([0], 0) := by decide +kernel
end Go.Proofs.Ytafncmgijbkomaa
namespace Go.Proofs.Ytafncmgijbkomaa
open Go.RowKit Go.Maps Go.Lib
theorem set_sz : ∀ k, (h : k < setL.length) → setL[k].size ≤ 1000000 := by decide
set_option maxRecDepth 100000 in
set_option maxHeartbeats 1000000 in
theorem rCheckTable_any (W : Int) (A : Option Addr) (ts : List ByteArray) (c : Nat) (w : World) (hA : Strs w A ts) (hl : ts.length ≤ 1000) (hsz : ∀ k, (h : k < ts.length) → ts[k].size ≤ 1000000) (T : Option Addr) (xs : List Int) (d : Nat) (hT : I64 w T xs) (hx : xs.length ≤ 1000) : Calls Try.prog 28 #[.agg #[.int .i64 W, .slice A ts.length c], .slice T xs.length d] w (Gives w (tup2V (tabR W ts xs))) := by
  by_cases hc : chkSet W ts = 0
  · by_cases hl2 : xs.length = Tm.prodP (lts ts)
    · obtain ⟨hW1, _⟩ := chk_val hc
      obtain ⟨Wn, rfl⟩ : ∃ Wn : Nat, W = (Wn : Nat) := ⟨W.toNat, by omega⟩
      exact rtab_all Wn A ts c w hA hl hsz T xs d hT hx hc hl2
    · exact rtab_len W A ts c w hA hl hsz T xs d hT hx hc hl2
  · exact rtab_chk W A ts c w hA hl hsz T xs d hT hx hc
theorem bds16 : (bdsL 3 (lts setL)).length = 16 := by decide +kernel
theorem w_has1 (A : Option Addr) (c : Nat) (w : World) (hA : Strs w A setL) : Calls Try.prog 19 #[.agg #[.int .i64 3, .slice A 2 c], .string ⟨#[97, 98, 99, 98]⟩] w (Gives w (.tuple #[.bool true, .int .i64 0])) := by
  have h := Has_any 3 A setL c w hA (by decide) set_sz ⟨#[97, 98, 99, 98]⟩ (by decide)
  rw [v_has1] at h
  exact h
theorem w_has2 (A : Option Addr) (c : Nat) (w : World) (hA : Strs w A setL) : Calls Try.prog 19 #[.agg #[.int .i64 3, .slice A 2 c], .string ⟨#[97, 98, 100]⟩] w (Gives w (.tuple #[.bool false, .int .i64 8])) := by
  have h := Has_any 3 A setL c w hA (by decide) set_sz ⟨#[97, 98, 100]⟩ (by decide)
  rw [v_has2] at h
  exact h
theorem w_few (A : Option Addr) (c : Nat) (w : World) (hA : Strs w A setL) : Calls Try.prog 23 #[.agg #[.int .i64 3, .slice A 2 c]] w (Gives w (.tuple #[.int .i64 4, .int .i64 0])) := by
  have h := Fewest_any 3 A setL c w hA (by decide) set_sz 
  rw [v_few] at h
  exact h
theorem w_com (A : Option Addr) (c : Nat) (w : World) (hA : Strs w A setL) : Calls Try.prog 25 #[.agg #[.int .i64 3, .slice A 2 c]] w (Gives w (.tuple #[.string ⟨#[97, 98]⟩, .int .i64 0])) := by
  have h := Common_any 3 A setL c w hA (by decide) set_sz 
  rw [v_com] at h
  exact h
theorem w_tab (A : Option Addr) (c : Nat) (w : World) (hA : Strs w A setL) (T : Option Addr) (d : Nat) (hT : I64 w T tableL) : Calls Try.prog 27 #[.agg #[.int .i64 3, .slice A 2 c], .slice T 16 d] w (Gives w (.tuple #[.int .i64 4, .int .i64 0])) := by
  have h := CheckTable_any 3 A setL c w hA (by decide) set_sz T tableL d hT (by decide)
  rw [v_tab] at h
  exact h
theorem w_tbl (A : Option Addr) (c : Nat) (w : World) (hA : Strs w A setL) : Calls Try.prog 29 #[.agg #[.int .i64 3, .slice A 2 c]] w (GivesIntsE w (bdsL 3 (lts setL), 0)) := by
  have h := Table_any 3 A setL c w hA (by decide) set_sz 
  rw [v_tbl] at h
  exact h
theorem w_rtab (A : Option Addr) (c : Nat) (w : World) (hA : Strs w A setL) (T : Option Addr) (d : Nat) (hT : I64 w T (bdsL 3 (lts setL))) : Calls Try.prog 28 #[.agg #[.int .i64 3, .slice A 2 c], .slice T (bdsL 3 (lts setL)).length d] w (Gives w (.tuple #[.int .i64 4, .int .i64 0])) := by
  have h := rCheckTable_any 3 A setL c w hA (by decide) set_sz T (bdsL 3 (lts setL)) d hT (by rw [bds16]; decide)
  rw [v_tab2] at h
  exact h
theorem w_cnt (A : Option Addr) (c : Nat) (w : World) (hA : Strs w A setL) : Calls Try.prog 30 #[.agg #[.int .i64 3, .slice A 2 c], .int .i64 4] w (Gives w (.tuple #[.int .i64 2, .int .i64 0])) := by
  have h := Count_any 3 A setL c w hA (by decide) set_sz 4
  rw [v_cnt] at h
  exact h
theorem w_ng1 (A : Option Addr) (c : Nat) (w : World) (hA : Strs w A setL) : Calls Try.prog 32 #[.agg #[.int .i64 3, .slice A 2 c], .int .i64 4, .int .i64 1] w (Gives w (.tuple #[.string ⟨#[97, 99, 98, 99]⟩, .int .i64 0])) := by
  have h := Night_any 3 A setL c w hA (by decide) set_sz 4 1
  rw [v_ng1] at h
  exact h
theorem w_ng2 (A : Option Addr) (c : Nat) (w : World) (hA : Strs w A setL) : Calls Try.prog 32 #[.agg #[.int .i64 3, .slice A 2 c], .int .i64 4, .int .i64 2] w (Gives w (.tuple #[.string ⟨#[]⟩, .int .i64 3])) := by
  have h := Night_any 3 A setL c w hA (by decide) set_sz 4 2
  rw [v_ng2] at h
  exact h
theorem w_pl1 (A : Option Addr) (c : Nat) (w : World) (hA : Strs w A setL) : Calls Try.prog 35 #[.agg #[.int .i64 3, .slice A 2 c], .int .i64 4, .int .u8 98] w (Gives w (.tuple #[.agg #[.int .i64 1, .int .i64 2], .int .i64 0])) := by
  have h := Pulls_any 3 A setL c w hA (by decide) set_sz 98 (by decide) 4
  rw [v_pl1] at h
  exact h
theorem w_pl2 (A : Option Addr) (c : Nat) (w : World) (hA : Strs w A setL) : Calls Try.prog 35 #[.agg #[.int .i64 3, .slice A 2 c], .int .i64 3, .int .u8 97] w (Gives w (.tuple #[.agg #[.int .i64 0, .int .i64 0], .int .i64 24])) := by
  have h := Pulls_any 3 A setL c w hA (by decide) set_sz 97 (by decide) 3
  rw [v_pl2] at h
  exact h
theorem w_kind (A : Option Addr) (c : Nat) (w : World) (hA : Strs w A setL) : Calls Try.prog 40 #[.agg #[.int .i64 3, .slice A 2 c], .int .i64 4, .agg #[.int .u8 98, .int .i64 1], .agg #[.int .u8 99, .int .i64 1]] w (Gives w (.tuple #[.int .i64 1, .int .i64 0])) := by
  have h := Kind_any 3 A setL c w hA (by decide) set_sz 98 1 99 1 (by decide) (by decide) 4
  rw [v_kind] at h
  exact h
theorem w_wrg (A : Option Addr) (c : Nat) (w : World) (hA : Strs w A setL) : Calls Try.prog 37 #[.agg #[.int .i64 3, .slice A 2 c], .int .i64 3] w (GivesIntsL w ([0], 0)) := by
  have h := Wrong_any 3 A setL c w hA (by decide) set_sz 3
  rw [v_wrg] at h
  exact h
end Go.Proofs.Ytafncmgijbkomaa
