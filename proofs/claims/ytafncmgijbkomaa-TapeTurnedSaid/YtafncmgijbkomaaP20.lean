/- Proved here: the reference: the fewest impulses; the reference: which tables are right; the reference: the tapes that are not in a list; the reference: whether tapes can be wrong, a part of the proofs about the tape laws. Conditions: those that each theorem names, no others. -/
import Derived.Test.YtafncmgijbkomaaP19
import Derived.WalkKit
import Derived.WalkSpells
import Derived.WalkLawsBesides
import Derived.Below
import Derived.Deep.QuietTactic
import Derived.BigQuiet
import Derived.Deep.Light
import Derived.Deep.RegionHeld3
import Derived.IntWalk
import Derived.Test.YtafncmgijbkomaaP12
import Derived.Test.YtafncmgijbkomaaP07
set_option linter.unusedSimpArgs false
set_option linter.unusedVariables false
namespace Go.Proofs.Ytafncmgijbkomaa
open Go.RowKit Go.Maps Go.Lib
theorem rBounds_val {W : Int} {ts : List ByteArray} (hc : chkSet W ts = 0) (A : Option Addr) (c : Nat) : ∀ (w : World), Strs w A ts → Calls Try.prog 65 #[.int .i64 W, .slice A ts.length c] w (GivesInts w (bdsL W.toNat (lts ts))) := fun w hA => by
  obtain ⟨hW1, hW2, h0, h3, hs, hf, _, hlo⟩ := chk_val hc
  obtain ⟨Wn, rfl⟩ : ∃ Wn : Nat, W = (Wn : Nat) := ⟨W.toNat, by omega⟩
  rw [Int.toNat_natCast] at hlo ⊢
  exact rBounds_any Wn A ts c w hA (by omega) (by omega) h3 hf hs hlo
set_option maxRecDepth 100000 in
set_option maxHeartbeats 1000000 in
theorem rFewest_any (W : Int) (A : Option Addr) (ts : List ByteArray) (c : Nat) (w : World) (hA : Strs w A ts) (hl : ts.length ≤ 1000) (hsz : ∀ k, (h : k < ts.length) → ts[k].size ≤ 1000000) : Calls Try.prog 24 #[.agg #[.int .i64 W, .slice A ts.length c]] w (Gives w (tup2V (fewR W ts))) := by
  by_cases hc : chkSet W ts = 0
  · have h1 : (chkSet W ts != 0) = false := by simp [hc]
    have HBD := hide (rBounds_val hc A c)
    rw [show fewR W ts = (((Tm.fewN W.toNat (lts ts) : Nat) : Int), 0) by simp [fewR, hc]]
    unfold tup2V
    obtain ⟨hl0, hv0⟩ := bdsL_zero (W := W.toNat) (ts := lts ts)
    have HV0 := hide hv0
    clear hv0
    generalize bdsL W.toNat (lts ts) = L at *
    replace hc := hide hc
    go_enter Try.func24, Try.ntmps24
    go_wp2_with (first
    | (go_at_call 22; refine (rCheckSet_any W A ts c _ (hA.ext (by (repeat (first | exact Below.refl _ _ | assumption | refine below_drewN ?_ _ | refine below_drew ?_ | refine below_gr ?_ ?_ _ | refine below_alloc ?_ ?_ _ | refine Below.setCell ?_ ?_ _ | refine below_step ?_ (by assumption) ?_ | omega | (simp only [zz] at *; omega))))) hl hsz).mono ?_; rintro e w1 ⟨rfl, hb1⟩; replace hb1 := ex_below hb1; have hz1 := hb1.size; (try simp only [zz] at hz1); have hs1 : w.heap.size < w1.heap.size := (by (first | omega | (simp only [zz] at *; omega))); have ho1 := own_cell hb1 (b := w.heap.size) (by (first | omega | (simp only [zz] at *; omega))); have hq1 := own_frozen hb1 (b := w.heap.size) (by (first | omega | (simp only [zz] at *; omega))); have hlt1 : ∀ b, b < w.heap.size → b < w1.heap.size := fun b hb => (by (first | omega | (simp only [zz] at *; omega))); have hc1 : ∀ b o, b < w.heap.size → w1.cell? ⟨b, o, none⟩ = w.cell? ⟨b, o, none⟩ := old_cell (by (repeat (first | exact Below.refl _ _ | assumption | refine below_drewN ?_ _ | refine below_drew ?_ | refine below_gr ?_ ?_ _ | refine below_alloc ?_ ?_ _ | refine Below.setCell ?_ ?_ _ | refine below_step ?_ (by assumption) ?_ | omega | (simp only [zz] at *; omega)))))
    | (go_at_call 65; refine (HBD.out _ (hA.ext (by (repeat (first | exact Below.refl _ _ | assumption | refine below_drewN ?_ _ | refine below_drew ?_ | refine below_gr ?_ ?_ _ | refine below_alloc ?_ ?_ _ | refine Below.setCell ?_ ?_ _ | refine below_step ?_ (by assumption) ?_ | omega | (simp only [zz] at *; omega)))))).mono ?_; rintro e w5 ⟨A5, c5, rfl, hb5, hI5⟩; replace hb5 := hb5.below; have hz5 := hb5.size; obtain ⟨lb, lo5, rfl, hlb⟩ := hI5.form hl0; have c0 := hI5.at hl0; rw [HV0.out, Nat.add_zero] at c0))

    go_ret2
    exact gives_of (rfl) (by (repeat (first | exact Below.refl _ _ | assumption | refine below_drewN ?_ _ | refine below_drew ?_ | refine below_gr ?_ ?_ _ | refine below_alloc ?_ ?_ _ | refine Below.setCell ?_ ?_ _ | refine below_step ?_ (by assumption) ?_ | omega | (simp only [zz] at *; omega))))
  · have h1 : (chkSet W ts != 0) = true := by simp [hc]
    rw [show fewR W ts = (0, chkSet W ts) by simp [fewR, hc]]
    unfold tup2V
    replace hc := hide hc
    go_enter Try.func24, Try.ntmps24
    go_wp2_with (first
    | (go_at_call 22; refine (rCheckSet_any W A ts c _ (hA.ext (by (repeat (first | exact Below.refl _ _ | assumption | refine below_drewN ?_ _ | refine below_drew ?_ | refine below_gr ?_ ?_ _ | refine below_alloc ?_ ?_ _ | refine Below.setCell ?_ ?_ _ | refine below_step ?_ (by assumption) ?_ | omega | (simp only [zz] at *; omega))))) hl hsz).mono ?_; rintro e w1 ⟨rfl, hb1⟩; replace hb1 := ex_below hb1; have hz1 := hb1.size; (try simp only [zz] at hz1); have hs1 : w.heap.size < w1.heap.size := (by (first | omega | (simp only [zz] at *; omega))); have ho1 := own_cell hb1 (b := w.heap.size) (by (first | omega | (simp only [zz] at *; omega))); have hq1 := own_frozen hb1 (b := w.heap.size) (by (first | omega | (simp only [zz] at *; omega))); have hlt1 : ∀ b, b < w.heap.size → b < w1.heap.size := fun b hb => (by (first | omega | (simp only [zz] at *; omega))); have hc1 : ∀ b o, b < w.heap.size → w1.cell? ⟨b, o, none⟩ = w.cell? ⟨b, o, none⟩ := old_cell (by (repeat (first | exact Below.refl _ _ | assumption | refine below_drewN ?_ _ | refine below_drew ?_ | refine below_gr ?_ ?_ _ | refine below_alloc ?_ ?_ _ | refine Below.setCell ?_ ?_ _ | refine below_step ?_ (by assumption) ?_ | omega | (simp only [zz] at *; omega))))))

    go_ret2
    exact gives_of (rfl) (by (repeat (first | exact Below.refl _ _ | assumption | refine below_drewN ?_ _ | refine below_drew ?_ | refine below_gr ?_ ?_ _ | refine below_alloc ?_ ?_ _ | refine Below.setCell ?_ ?_ _ | refine below_step ?_ (by assumption) ?_ | omega | (simp only [zz] at *; omega))))
end Go.Proofs.Ytafncmgijbkomaa
namespace Go.Proofs.Ytafncmgijbkomaa
open Go.RowKit Go.Maps Go.Lib
theorem within_at {lo hi : Int} {xs : List Int} {k : Nat} (hk : k < xs.length) (h : xs[k] < lo ∨ hi < xs[k]) : withinB lo hi xs = false := by
  unfold withinB
  rw [Bool.not_eq_false', List.any_eq_true]
  exact ⟨xs[k], List.getElem_mem hk, by simp [outB, h]⟩
theorem tup_of {a b c d : Int} (h : (a, b) = (c, d)) : Value.tuple #[.int .i64 c, .int .i64 d] = .tuple #[.int .i64 a, .int .i64 b] := by injection h with h1 h2; rw [h1, h2]
theorem within_all {lo hi : Int} {xs : List Int} (h : xs.all (fun x => decide (lo ≤ x) && decide (x ≤ hi)) = true) : withinB lo hi xs = true := by
  unfold withinB
  rw [Bool.not_eq_true', List.any_eq_false]
  intro x hx
  rw [List.all_eq_true] at h
  have := h x hx
  simp only [Bool.and_eq_true, decide_eq_true_eq] at this
  simp [outB]
  omega
set_option maxRecDepth 100000 in
set_option maxHeartbeats 1000000 in
theorem rtab_chk (W : Int) (A : Option Addr) (ts : List ByteArray) (c : Nat) (w : World) (hA : Strs w A ts) (hl : ts.length ≤ 1000) (hsz : ∀ k, (h : k < ts.length) → ts[k].size ≤ 1000000) (T : Option Addr) (xs : List Int) (d : Nat) (hT : I64 w T xs) (hx : xs.length ≤ 1000) (hc : chkSet W ts ≠ 0) : Calls Try.prog 28 #[.agg #[.int .i64 W, .slice A ts.length c], .slice T xs.length d] w (Gives w (tup2V (tabR W ts xs))) := by
  have h1 : (chkSet W ts != 0) = true := by simp [hc]
  rw [show tabR W ts xs = (0, chkSet W ts) by simp [tabR, tabE, hc]]
  unfold tup2V
  replace hc := hide hc
  go_enter Try.func28, Try.ntmps28
  go_wp2_with (first
    | (go_at_call 22; refine (rCheckSet_any W A ts c _ (hA.ext (by (repeat (first | exact Below.refl _ _ | assumption | refine below_drewN ?_ _ | refine below_drew ?_ | refine below_gr ?_ ?_ _ | refine below_alloc ?_ ?_ _ | refine Below.setCell ?_ ?_ _ | refine below_step ?_ (by assumption) ?_ | omega | (simp only [zz] at *; omega))))) hl hsz).mono ?_; rintro e w1 ⟨rfl, hb1⟩; replace hb1 := ex_below hb1; have hz1 := hb1.size; (try simp only [zz] at hz1); have hs1 : w.heap.size < w1.heap.size := (by (first | omega | (simp only [zz] at *; omega))); have ho1 := own_cell hb1 (b := w.heap.size) (by (first | omega | (simp only [zz] at *; omega))); have hq1 := own_frozen hb1 (b := w.heap.size) (by (first | omega | (simp only [zz] at *; omega))); have hlt1 : ∀ b, b < w.heap.size → b < w1.heap.size := fun b hb => (by (first | omega | (simp only [zz] at *; omega))); have hc1 : ∀ b o, b < w.heap.size → w1.cell? ⟨b, o, none⟩ = w.cell? ⟨b, o, none⟩ := old_cell (by (repeat (first | exact Below.refl _ _ | assumption | refine below_drewN ?_ _ | refine below_drew ?_ | refine below_gr ?_ ?_ _ | refine below_alloc ?_ ?_ _ | refine Below.setCell ?_ ?_ _ | refine below_step ?_ (by assumption) ?_ | omega | (simp only [zz] at *; omega))))))

  go_ret2
  exact gives_of (rfl) (by (repeat (first | exact Below.refl _ _ | assumption | refine below_drewN ?_ _ | refine below_drew ?_ | refine below_gr ?_ ?_ _ | refine below_alloc ?_ ?_ _ | refine Below.setCell ?_ ?_ _ | refine below_step ?_ (by assumption) ?_ | omega | (simp only [zz] at *; omega))))
set_option maxRecDepth 100000 in
set_option maxHeartbeats 1000000 in
theorem rtab_len (W : Int) (A : Option Addr) (ts : List ByteArray) (c : Nat) (w : World) (hA : Strs w A ts) (hl : ts.length ≤ 1000) (hsz : ∀ k, (h : k < ts.length) → ts[k].size ≤ 1000000) (T : Option Addr) (xs : List Int) (d : Nat) (hT : I64 w T xs) (hx : xs.length ≤ 1000) (hc : chkSet W ts = 0) (hl2 : xs.length ≠ Tm.prodP (lts ts)) : Calls Try.prog 28 #[.agg #[.int .i64 W, .slice A ts.length c], .slice T xs.length d] w (Gives w (tup2V (tabR W ts xs))) := by
  obtain ⟨hW1, hW2, h0, h3, hs, hf, _, hlo⟩ := chk_val hc
  have h1 : (chkSet W ts != 0) = false := by simp [hc]
  rw [show tabR W ts xs = (0, 15) by simp [tabR, tabE, hc, hl2]]
  have HPLM := hide (fun w' (h : Strs w' A ts) => Places_m A ts c w' h h3 hs)
  generalize Tm.prodP (lts ts) = M at *
  have hli : ((xs.length : Int) != (M : Nat)) = true := by simp; omega
  have hli2 : (xs.length != M) = true := by simp; omega
  unfold tup2V
  replace hc := hide hc
  clear hl2 h3
  go_enter Try.func28, Try.ntmps28
  go_wp2_with (first
    | (go_at_call 22; refine (rCheckSet_any W A ts c _ (hA.ext (by (repeat (first | exact Below.refl _ _ | assumption | refine below_drewN ?_ _ | refine below_drew ?_ | refine below_gr ?_ ?_ _ | refine below_alloc ?_ ?_ _ | refine Below.setCell ?_ ?_ _ | refine below_step ?_ (by assumption) ?_ | omega | (simp only [zz] at *; omega))))) hl hsz).mono ?_; rintro e w1 ⟨rfl, hb1⟩; replace hb1 := ex_below hb1; have hz1 := hb1.size; (try simp only [zz] at hz1); have hs1 : w.heap.size < w1.heap.size := (by (first | omega | (simp only [zz] at *; omega))); have ho1 := own_cell hb1 (b := w.heap.size) (by (first | omega | (simp only [zz] at *; omega))); have hq1 := own_frozen hb1 (b := w.heap.size) (by (first | omega | (simp only [zz] at *; omega))); have hlt1 : ∀ b, b < w.heap.size → b < w1.heap.size := fun b hb => (by (first | omega | (simp only [zz] at *; omega))); have hc1 : ∀ b o, b < w.heap.size → w1.cell? ⟨b, o, none⟩ = w.cell? ⟨b, o, none⟩ := old_cell (by (repeat (first | exact Below.refl _ _ | assumption | refine below_drewN ?_ _ | refine below_drew ?_ | refine below_gr ?_ ?_ _ | refine below_alloc ?_ ?_ _ | refine Below.setCell ?_ ?_ _ | refine below_step ?_ (by assumption) ?_ | omega | (simp only [zz] at *; omega)))))
    | (go_at_call 71; refine (HPLM.out _ (hA.ext (by (repeat (first | exact Below.refl _ _ | assumption | refine below_drewN ?_ _ | refine below_drew ?_ | refine below_gr ?_ ?_ _ | refine below_alloc ?_ ?_ _ | refine Below.setCell ?_ ?_ _ | refine below_step ?_ (by assumption) ?_ | omega | (simp only [zz] at *; omega)))))).mono ?_; rintro e w2 ⟨AO, cO, rfl, hb2, hR2⟩; have hz2 := hb2.size; (try simp only [zz] at hz2); have hs2 : w.heap.size < w2.heap.size := (by (first | omega | (simp only [zz] at *; omega))); have ho2 := own_cell hb2 (b := w.heap.size) (by (first | omega | (simp only [zz] at *; omega))); have hq2 := own_frozen hb2 (b := w.heap.size) (by (first | omega | (simp only [zz] at *; omega))); have hlt2 : ∀ b, b < w.heap.size → b < w2.heap.size := fun b hb => (by (first | omega | (simp only [zz] at *; omega))); have hc2 : ∀ b o, b < w.heap.size → w2.cell? ⟨b, o, none⟩ = w.cell? ⟨b, o, none⟩ := old_cell (by (repeat (first | exact Below.refl _ _ | assumption | refine below_drewN ?_ _ | refine below_drew ?_ | refine below_gr ?_ ?_ _ | refine below_alloc ?_ ?_ _ | refine Below.setCell ?_ ?_ _ | refine below_step ?_ (by assumption) ?_ | omega | (simp only [zz] at *; omega))))))

  go_ret2
  exact gives_of (rfl) (by (repeat (first | exact Below.refl _ _ | assumption | refine below_drewN ?_ _ | refine below_drew ?_ | refine below_gr ?_ ?_ _ | refine below_alloc ?_ ?_ _ | refine Below.setCell ?_ ?_ _ | refine below_step ?_ (by assumption) ?_ | omega | (simp only [zz] at *; omega))))
set_option maxRecDepth 100000 in
set_option maxHeartbeats 4000000 in
theorem rtab_all (Wn : Nat) (A : Option Addr) (ts : List ByteArray) (c : Nat) (w : World) (hA : Strs w A ts) (hl : ts.length ≤ 1000) (hsz : ∀ k, (h : k < ts.length) → ts[k].size ≤ 1000000) (T : Option Addr) (xs : List Int) (d : Nat) (hT : I64 w T xs) (hx : xs.length ≤ 1000) (hc : chkSet (Wn : Nat) ts = 0) (hM : xs.length = Tm.prodP (lts ts)) : Calls Try.prog 28 #[.agg #[.int .i64 (Wn : Nat), .slice A ts.length c], .slice T xs.length d] w (Gives w (tup2V (tabR (Wn : Nat) ts xs))) := by
  obtain ⟨hW1, hW2, h0, h3, hs, hf, _, hlo⟩ := chk_val hc
  have h1 : (chkSet (Wn : Nat) ts != 0) = false := by simp [hc]
  have hpp := Tm.prod_pos (lts ts)
  have HV := hide (show tabR (Wn : Nat) ts xs = if withinB 0 24 xs = false then (0, 3) else if xs.getD (xs.length - 1) 0 ≠ 0 then (0, 14) else if tabAll Wn (lts ts) xs = true then (xs.getD 0 0, 0) else (0, 14) by
    unfold tabR tabE
    simp only [hc, hM, ne_eq, not_true_eq_false, if_false, Int.toNat_natCast]
    split
    · rfl
    · split <;> rfl)
  have HPLM := hide (fun w' (h : Strs w' A ts) => Places_m A ts c w' h h3 hs)
  have HROW := hide (fun (w' : World) (AO : Option Addr) (h : RowsA w' AO (natR (Tm.placesP (lts ts)))) => places_row h)
  have HPI := hide (fun k h => (Tm.place_is (ts := lts ts) (n := k) h).1)
  have HIL := hide (fun p (hp : Tm.IsPl (lts ts) p) (x : Int) => (Tm.idx_lin (Tm.next_is hp x) 0).2)
  have HTA := hide (show tabAll Wn (lts ts) xs = (List.range (Tm.prodP (lts ts))).all (tabOk Wn (lts ts) xs) from rfl)
  have HTO := hide (fun n => (show tabOk Wn (lts ts) xs n = (List.range Wn).all fun c => decide (xs.getD n 0 ≤ xs.getD (Tm.idxP (lts ts) (Tm.nextP (lts ts) (Tm.placeP (lts ts) n) (c : Nat)) 0) 0 + 1) from rfl))
  generalize natR (Tm.placesP (lts ts)) = rows at *
  generalize Tm.prodP (lts ts) = M at *
  subst hM
  obtain ⟨tb, toff, rfl, htl⟩ := hT.form hpp
  generalize tabR (Wn : Nat) ts xs = V at *
  generalize tabAll Wn (lts ts) xs = TA at *
  obtain ⟨q1, q2, hq⟩ : ∃ q1 q2, V = (q1, q2) := ⟨_, _, rfl⟩
  subst hq
  unfold tup2V
  replace hc := hide hc
  have hW2i : (Wn : Int) ≤ 5 := by omega
  go_enter Try.func28, Try.ntmps28
  go_wp2_with (first
    | (go_at_call 22; refine (rCheckSet_any (Wn : Nat) A ts c _ (hA.ext (by (repeat (first | exact Below.refl _ _ | assumption | refine below_drewN ?_ _ | refine below_drew ?_ | refine below_gr ?_ ?_ _ | refine below_alloc ?_ ?_ _ | refine Below.setCell ?_ ?_ _ | refine below_step ?_ (by assumption) ?_ | omega | (simp only [zz] at *; omega))))) hl hsz).mono ?_; rintro e w1 ⟨rfl, hb1⟩; replace hb1 := ex_below hb1; have hz1 := hb1.size; (try simp only [zz] at hz1); have hs1 : w.heap.size < w1.heap.size := (by (first | omega | (simp only [zz] at *; omega))); have ho1 := own_cell hb1 (b := w.heap.size) (by (first | omega | (simp only [zz] at *; omega))); have hq1 := own_frozen hb1 (b := w.heap.size) (by (first | omega | (simp only [zz] at *; omega))); have hlt1 : ∀ b, b < w.heap.size → b < w1.heap.size := fun b hb => (by (first | omega | (simp only [zz] at *; omega))); have hc1 : ∀ b o, b < w.heap.size → w1.cell? ⟨b, o, none⟩ = w.cell? ⟨b, o, none⟩ := old_cell (by (repeat (first | exact Below.refl _ _ | assumption | refine below_drewN ?_ _ | refine below_drew ?_ | refine below_gr ?_ ?_ _ | refine below_alloc ?_ ?_ _ | refine Below.setCell ?_ ?_ _ | refine below_step ?_ (by assumption) ?_ | omega | (simp only [zz] at *; omega)))))
    | (go_at_call 71; refine (HPLM.out _ (hA.ext (by (repeat (first | exact Below.refl _ _ | assumption | refine below_drewN ?_ _ | refine below_drew ?_ | refine below_gr ?_ ?_ _ | refine below_alloc ?_ ?_ _ | refine Below.setCell ?_ ?_ _ | refine below_step ?_ (by assumption) ?_ | omega | (simp only [zz] at *; omega)))))).mono ?_; rintro e w2 ⟨AO, cO, rfl, hb2, hR2⟩; have hz2 := hb2.size; (try simp only [zz] at hz2); have hs2 : w.heap.size < w2.heap.size := (by (first | omega | (simp only [zz] at *; omega))); have ho2 := own_cell hb2 (b := w.heap.size) (by (first | omega | (simp only [zz] at *; omega))); have hq2 := own_frozen hb2 (b := w.heap.size) (by (first | omega | (simp only [zz] at *; omega))); have hlt2 : ∀ b, b < w.heap.size → b < w2.heap.size := fun b hb => (by (first | omega | (simp only [zz] at *; omega))); have hc2 : ∀ b o, b < w.heap.size → w2.cell? ⟨b, o, none⟩ = w.cell? ⟨b, o, none⟩ := old_cell (by (repeat (first | exact Below.refl _ _ | assumption | refine below_drewN ?_ _ | refine below_drew ?_ | refine below_gr ?_ ?_ _ | refine below_alloc ?_ ?_ _ | refine Below.setCell ?_ ?_ _ | refine below_step ?_ (by assumption) ?_ | omega | (simp only [zz] at *; omega))))))

  have hb2w : Below w.heap.size w w2 := by (repeat (first | exact Below.refl _ _ | assumption | (refine below_gr ?_ (by (first | omega | (simp only [zz] at *; omega))) _) | (refine below_alloc ?_ (by (first | omega | (simp only [zz] at *; omega))) _) | (refine Below.setCell ?_ (by (first | omega | (simp only [zz] at *; omega))) _) | refine below_drewN ?_ _ | refine below_drew ?_ | (refine below_step ?_ (by assumption) (by (first | omega | (simp only [zz] at *; omega))))))
  have x20 : w2.cell? ⟨w.heap.size, 0, none⟩ = some (.int .i64 (Wn : Nat)) := by rw [ho2]; simp [go_sem, *]
  have x21 : w2.cell? ⟨w.heap.size, 1, none⟩ = some (.slice A ts.length c) := by rw [ho2]; simp [go_sem, *]
  clear ho2 hq2 hlt2 hc2
  go_loopw [7] (fun i wr => ∃ k : Nat, k ≤ xs.length ∧ i = .int .i64 (k : Nat) ∧ Hid ((xs.take k).all (fun x => decide (0 ≤ x) && decide (x ≤ 24)) = true) ∧ Below w2.heap.size w2 wr) (fun i _ => xs.length - (intOf i).toNat)
  case atStart => exact ⟨0, Nat.zero_le _, rfl, hide rfl, Below.refl _ _⟩
  case round =>
    obtain ⟨k, hk, rfl, hall, hb⟩ := hrel
    have hbw : Below w.heap.size w wr := below_step hb2w hb (by omega)
    have hzr := hb.size
    by_cases hlt : k < xs.length
    · have ck := (hT.ext hbw).at hlt
      have HWI := hide (fun h => within_at (lo := 0) (hi := 24) (k := k) (xs := xs) hlt h)
      have HAG := hide (fun h => all_good (f := fun x : Int => decide (0 ≤ x) && decide (x ≤ 24)) hlt hall.out h)
      have hki : (k : Int) < (xs.length : Nat) := by omega
      generalize xs[k] = x at *
      by_cases g1 : x < 0
      · have HQ : Hid ((q1, q2) = ((0 : Int), (3 : Int))) := hide (by rw [HV.out, if_pos (HWI.out (.inl g1))])
        go_wp2
        go_ret2
        exact gives_of (tup_of HQ.out) (by (repeat (first | exact Below.refl _ _ | assumption | refine below_drewN ?_ _ | refine below_drew ?_ | refine below_gr ?_ ?_ _ | refine below_alloc ?_ ?_ _ | refine Below.setCell ?_ ?_ _ | refine below_step ?_ (by assumption) ?_ | omega | (simp only [zz] at *; omega))))
      · by_cases g2 : 24 < x
        · have HQ : Hid ((q1, q2) = ((0 : Int), (3 : Int))) := hide (by rw [HV.out, if_pos (HWI.out (.inr g2))])
          go_wp2
          go_ret2
          exact gives_of (tup_of HQ.out) (by (repeat (first | exact Below.refl _ _ | assumption | refine below_drewN ?_ _ | refine below_drew ?_ | refine below_gr ?_ ?_ _ | refine below_alloc ?_ ?_ _ | refine Below.setCell ?_ ?_ _ | refine below_step ?_ (by assumption) ?_ | omega | (simp only [zz] at *; omega))))
        · go_wp2
          exact ⟨⟨k + 1, by omega, by go_num, hide (HAG.out (by simp; omega)), hb⟩, by simp [intOf]; omega⟩
    · have hke : k = xs.length := by omega
      have HWA : Hid ((q1, q2) = if xs.getD (xs.length - 1) 0 ≠ 0 then ((0 : Int), (14 : Int)) else if TA = true then (xs.getD 0 0, 0) else (0, 14)) := hide (by
        have := within_all (by have h := hall.out; rw [hke, List.take_length] at h; exact h)
        rw [HV.out, this]
        rfl)
      have hki : ¬ ((k : Int) < (xs.length : Nat)) := by omega
      have HRG : Hid (∀ j : Nat, 0 ≤ xs.getD j 0 ∧ xs.getD j 0 ≤ 24) := hide (fun j => by
        have h := hall.out
        rw [hke, List.take_length, List.all_eq_true] at h
        rw [List.getD_eq_getElem?_getD]
        cases hj : xs[j]? with
        | none => simp
        | some v => have := h v (List.mem_of_getElem? hj); simp only [Bool.and_eq_true, decide_eq_true_eq] at this; exact this)
      clear hall HV hke
      have hll := (hT.ext hbw).at (k := xs.length - 1) (by omega)
      have HGL : Hid (xs.getD (xs.length - 1) 0 = xs[xs.length - 1]'(by omega)) := hide (by rw [List.getD_eq_getElem?_getD, List.getElem?_eq_getElem (by omega)]; rfl)
      generalize xs[xs.length - 1]'(by omega) = xl at *
      obtain ⟨last, hlast⟩ : ∃ l : Nat, xs.length - 1 = l := ⟨_, rfl⟩
      rw [hlast] at hll HGL HWA
      have hli : (xs.length : Int) - 1 = (last : Nat) := by omega
      have hlm : last < xs.length := by omega
      have hlmi : (last : Int) < (xs.length : Nat) := by omega
      clear hlast
      by_cases g3 : xl = 0
      · have HWB : Hid ((q1, q2) = if TA = true then (xs.getD 0 0, (0 : Int)) else (0, 14)) := hide (by rw [HWA.out, HGL.out, if_neg (by simp [g3])])
        have g3b : (xl != 0) = false := by simpa using g3
        clear HWA HGL g3
        go_wp2
        obtain ⟨wx, rfl⟩ : ∃ wx : World, wx = wr := ⟨_, rfl⟩
        go_loopw [8] (fun i wr => ∃ k : Nat, k ≤ xs.length ∧ i = .int .i64 (k : Nat) ∧ Hid (((List.range xs.length).take k).all (tabOk Wn (lts ts) xs) = true) ∧ Below w2.heap.size w2 wr) (fun i _ => xs.length - (intOf i).toNat)
        case atStart => exact ⟨0, Nat.zero_le _, rfl, hide rfl, hb⟩
        case round =>
          clear hbw hzr hll
          obtain ⟨k, hk, rfl, hall, hb⟩ := hrel
          have hbw : Below w.heap.size w wr := below_step hb2w hb (by omega)
          have hzr := hb.size
          by_cases hlt : k < xs.length
          · have hlk : k < (List.range xs.length).length := by rw [List.length_range]; exact hlt
            have HAG := hide (fun h => all_good (f := tabOk Wn (lts ts) xs) hlk hall.out h)
            have HBAD : Hid (tabOk Wn (lts ts) xs k = false → TA = false) := hide (fun h => by rw [HTA.out]; exact all_bad hlk (by rw [List.getElem_range]; exact h))
            rw [List.getElem_range] at HAG
            have HTOK := hide (HTO.out k)
            have hki : (k : Int) < (xs.length : Nat) := by omega
            have hkr := HRG.out k
            have ck := (hT.ext hbw).at hlt
            have hgk : xs[k] = xs.getD k 0 := by rw [List.getD_eq_getElem?_getD, List.getElem?_eq_getElem hlt]; rfl
            rw [hgk] at ck
            have HGK := hide hgk
            clear hgk
            generalize xs.getD k 0 = xk at *
            have hp := HPI.out k hlt
            have HRK := hide (fun w' AO (h : RowsA w' AO rows) => HROW.out w' AO h k hlt)
            generalize tabOk Wn (lts ts) xs k = okk at *
            generalize Tm.placeP (lts ts) k = p at *
            go_wp2
            obtain ⟨wo, rfl⟩ : ∃ wo : World, wo = wr := ⟨_, rfl⟩
            go_loopw [9] (fun i wr => ∃ cn : Nat, cn ≤ Wn ∧ i = .int .i64 (cn : Nat) ∧ Hid (((List.range Wn).take cn).all (fun c => decide (xk ≤ xs.getD (Tm.idxP (lts ts) (Tm.nextP (lts ts) p (c : Nat)) 0) 0 + 1)) = true) ∧ Below w2.heap.size w2 wr) (fun i _ => Wn - (intOf i).toNat)
            case atStart => exact ⟨0, Nat.zero_le _, rfl, hide rfl, hb⟩
            case round =>
              clear hbw hzr ck hb
              obtain ⟨cn, hcn, rfl, hall2, hb⟩ := hrel
              have hbw : Below w.heap.size w wr := below_step hb2w hb (by omega)
              have hzr := hb.size
              have hwx : w.heap.size < wr.heap.size := by omega
              have b0 := (hb.cell (p := ⟨w.heap.size, 0, none⟩) (by show w.heap.size < _; omega)).trans x20
              have b1 := (hb.cell (p := ⟨w.heap.size, 1, none⟩) (by show w.heap.size < _; omega)).trans x21
              by_cases hcl : cn < Wn
              · have hlc : cn < (List.range Wn).length := by rw [List.length_range]; exact hcl
                have HCG := hide (fun h => all_good (f := fun c : Nat => decide (xk ≤ xs.getD (Tm.idxP (lts ts) (Tm.nextP (lts ts) p (c : Nat)) 0) 0 + 1)) hlc hall2.out h)
                have HCB : Hid (decide (xk ≤ xs.getD (Tm.idxP (lts ts) (Tm.nextP (lts ts) p (cn : Nat)) 0) 0 + 1) = false → okk = false) := hide (fun h => by rw [HTOK.out]; exact all_bad hlc (by rw [List.getElem_range]; exact h))
                rw [List.getElem_range] at HCG
                have hcli : (cn : Int) < (Wn : Nat) := by omega
                obtain ⟨ob, oo, rfl, hob, P, dd, hcP, hIP⟩ := HRK.out wr AO (hR2.ext hb)
                have HNX := hide (fun w' (hA : Strs w' A ts) (hI : I64 w' P (natI p)) => next_m A ts c P p dd (cn : Int) w' hA hI h3 hp hf)
                have hn2 := HIL.out p hp (cn : Int)
                have hq := Tm.next_is hp (cn : Int)
                generalize Tm.nextP (lts ts) p (cn : Int) = q at *
                have HIX := hide (fun w' (hA : Strs w' A ts) A2 c2 (hI : I64 w' A2 (natI q)) => rindex_any A ts c A2 q c2 w' hA hI h3 hq hs)
                generalize Tm.idxP (lts ts) q 0 = n at *
                have htr := HRG.out n
                have cT := (hT.ext hbw).at hn2
                have ck := (hT.ext hbw).at hlt
                rw [HGK.out] at ck
                have hgn : xs.getD n 0 = xs[n] := by rw [List.getD_eq_getElem?_getD, List.getElem?_eq_getElem hn2]; rfl
                rw [hgn] at htr HCG HCB
                clear hgn
                generalize xs[n] = tn at *
                have hwr1 : IntKind.i64.wrap (tn + 1) = tn + 1 := IntWalk.i64_in _ (by omega)
                have htb : tb < wr.heap.size := by omega
                have hni : (n : Int) < (xs.length : Nat) := by omega
                have hn0 : (0 : Int) ≤ (n : Int) := by omega
                have hk0 : (0 : Int) ≤ (k : Int) := by omega
                clear hb2 hR2 x20 x21
                by_cases hgt : tn + 1 < xk
                · have HQ : Hid ((q1, q2) = ((0 : Int), (14 : Int))) := hide (by rw [HWB.out, HBAD.out (HCB.out (by simp; omega))]; rfl)
                  go_wp2
                  go_region_held3 (fun w' => w'.cell? ⟨w.heap.size, 1, none⟩ = some (.slice A ts.length c) ∧ w'.cell? ⟨tb, toff + k, none⟩ = some (.int .i64 xk) ∧ w'.cell? ⟨ob, oo + k, none⟩ = some (.slice P p.length dd) ∧ w'.cell? ⟨tb, toff + n, none⟩ = some (.int .i64 tn)) (go_keep) (first | (go_at_call 73; refine (HNX.out _ (hA.ext (by (repeat (first | exact Below.refl _ _ | assumption | refine below_drewN ?_ _ | refine below_drew ?_ | refine below_gr ?_ ?_ _ | refine below_alloc ?_ ?_ _ | refine Below.setCell ?_ ?_ _ | refine below_step ?_ (by assumption) ?_ | omega | (simp only [zz] at *; omega))))) (hIP.ext (by (repeat (first | exact Below.refl _ _ | assumption | refine below_drewN ?_ _ | refine below_drew ?_ | refine below_gr ?_ ?_ _ | refine below_alloc ?_ ?_ _ | refine Below.setCell ?_ ?_ _ | refine below_step ?_ (by assumption) ?_ | omega | (simp only [zz] at *; omega)))))).mono ?_; rintro e w8 ⟨A2, c2, rfl, hb8, hI2⟩; have hz8 := hb8.size; (try simp only [zz] at hz8); have hs8 : w.heap.size < w8.heap.size := (by (first | omega | (simp only [zz] at *; omega))); have ho8 := own_cell hb8 (b := w.heap.size) (by (first | omega | (simp only [zz] at *; omega))); have hq8 := own_frozen hb8 (b := w.heap.size) (by (first | omega | (simp only [zz] at *; omega))); have hs8 : tb < w8.heap.size := (by (first | omega | (simp only [zz] at *; omega))); have ho8 := own_cell hb8 (b := tb) (by (first | omega | (simp only [zz] at *; omega))); have hq8 := own_frozen hb8 (b := tb) (by (first | omega | (simp only [zz] at *; omega))); have hs8 : ob < w8.heap.size := (by (first | omega | (simp only [zz] at *; omega))); have ho8 := own_cell hb8 (b := ob) (by (first | omega | (simp only [zz] at *; omega))); have hq8 := own_frozen hb8 (b := ob) (by (first | omega | (simp only [zz] at *; omega))); have hlt8 : ∀ b, b < wr.heap.size → b < w8.heap.size := fun b hb => (by (first | omega | (simp only [zz] at *; omega))); have hc8 : ∀ b o, b < wr.heap.size → w8.cell? ⟨b, o, none⟩ = wr.cell? ⟨b, o, none⟩ := old_cell (by (repeat (first | exact Below.refl _ _ | assumption | refine below_drewN ?_ _ | refine below_drew ?_ | refine below_gr ?_ ?_ _ | refine below_alloc ?_ ?_ _ | refine Below.setCell ?_ ?_ _ | refine below_step ?_ (by assumption) ?_ | omega | (simp only [zz] at *; omega))))) | (go_at_call 72; refine (HIX.out _ (hA.ext (by (repeat (first | exact Below.refl _ _ | assumption | refine below_drewN ?_ _ | refine below_drew ?_ | refine below_gr ?_ ?_ _ | refine below_alloc ?_ ?_ _ | refine Below.setCell ?_ ?_ _ | refine below_step ?_ (by assumption) ?_ | omega | (simp only [zz] at *; omega))))) _ _ hI2).mono ?_; rintro e w9 ⟨rfl, hb9⟩; replace hb9 := ex_below hb9; have hz9 := hb9.size; (try simp only [zz] at hz9); have hs9 : w.heap.size < w9.heap.size := (by (first | omega | (simp only [zz] at *; omega))); have ho9 := own_cell hb9 (b := w.heap.size) (by (first | omega | (simp only [zz] at *; omega))); have hq9 := own_frozen hb9 (b := w.heap.size) (by (first | omega | (simp only [zz] at *; omega))); have hs9 : tb < w9.heap.size := (by (first | omega | (simp only [zz] at *; omega))); have ho9 := own_cell hb9 (b := tb) (by (first | omega | (simp only [zz] at *; omega))); have hq9 := own_frozen hb9 (b := tb) (by (first | omega | (simp only [zz] at *; omega))); have hs9 : ob < w9.heap.size := (by (first | omega | (simp only [zz] at *; omega))); have ho9 := own_cell hb9 (b := ob) (by (first | omega | (simp only [zz] at *; omega))); have hq9 := own_frozen hb9 (b := ob) (by (first | omega | (simp only [zz] at *; omega))); have hlt9 : ∀ b, b < wr.heap.size → b < w9.heap.size := fun b hb => (by (first | omega | (simp only [zz] at *; omega))); have hc9 : ∀ b o, b < wr.heap.size → w9.cell? ⟨b, o, none⟩ = wr.cell? ⟨b, o, none⟩ := old_cell (by (repeat (first | exact Below.refl _ _ | assumption | refine below_drewN ?_ _ | refine below_drew ?_ | refine below_gr ?_ ?_ _ | refine below_alloc ?_ ?_ _ | refine Below.setCell ?_ ?_ _ | refine below_step ?_ (by assumption) ?_ | omega | (simp only [zz] at *; omega))))))
                  go_wp2
                  go_ret2
                  exact gives_of (tup_of HQ.out) (by (repeat (first | exact Below.refl _ _ | assumption | refine below_drewN ?_ _ | refine below_drew ?_ | refine below_gr ?_ ?_ _ | refine below_alloc ?_ ?_ _ | refine Below.setCell ?_ ?_ _ | refine below_step ?_ (by assumption) ?_ | omega | (simp only [zz] at *; omega))))
                · go_wp2
                  go_region_held3 (fun w' => w'.cell? ⟨w.heap.size, 1, none⟩ = some (.slice A ts.length c) ∧ w'.cell? ⟨tb, toff + k, none⟩ = some (.int .i64 xk) ∧ w'.cell? ⟨ob, oo + k, none⟩ = some (.slice P p.length dd) ∧ w'.cell? ⟨tb, toff + n, none⟩ = some (.int .i64 tn)) (go_keep) (first | (go_at_call 73; refine (HNX.out _ (hA.ext (by (repeat (first | exact Below.refl _ _ | assumption | refine below_drewN ?_ _ | refine below_drew ?_ | refine below_gr ?_ ?_ _ | refine below_alloc ?_ ?_ _ | refine Below.setCell ?_ ?_ _ | refine below_step ?_ (by assumption) ?_ | omega | (simp only [zz] at *; omega))))) (hIP.ext (by (repeat (first | exact Below.refl _ _ | assumption | refine below_drewN ?_ _ | refine below_drew ?_ | refine below_gr ?_ ?_ _ | refine below_alloc ?_ ?_ _ | refine Below.setCell ?_ ?_ _ | refine below_step ?_ (by assumption) ?_ | omega | (simp only [zz] at *; omega)))))).mono ?_; rintro e w8 ⟨A2, c2, rfl, hb8, hI2⟩; have hz8 := hb8.size; (try simp only [zz] at hz8); have hs8 : w.heap.size < w8.heap.size := (by (first | omega | (simp only [zz] at *; omega))); have ho8 := own_cell hb8 (b := w.heap.size) (by (first | omega | (simp only [zz] at *; omega))); have hq8 := own_frozen hb8 (b := w.heap.size) (by (first | omega | (simp only [zz] at *; omega))); have hs8 : tb < w8.heap.size := (by (first | omega | (simp only [zz] at *; omega))); have ho8 := own_cell hb8 (b := tb) (by (first | omega | (simp only [zz] at *; omega))); have hq8 := own_frozen hb8 (b := tb) (by (first | omega | (simp only [zz] at *; omega))); have hs8 : ob < w8.heap.size := (by (first | omega | (simp only [zz] at *; omega))); have ho8 := own_cell hb8 (b := ob) (by (first | omega | (simp only [zz] at *; omega))); have hq8 := own_frozen hb8 (b := ob) (by (first | omega | (simp only [zz] at *; omega))); have hlt8 : ∀ b, b < wr.heap.size → b < w8.heap.size := fun b hb => (by (first | omega | (simp only [zz] at *; omega))); have hc8 : ∀ b o, b < wr.heap.size → w8.cell? ⟨b, o, none⟩ = wr.cell? ⟨b, o, none⟩ := old_cell (by (repeat (first | exact Below.refl _ _ | assumption | refine below_drewN ?_ _ | refine below_drew ?_ | refine below_gr ?_ ?_ _ | refine below_alloc ?_ ?_ _ | refine Below.setCell ?_ ?_ _ | refine below_step ?_ (by assumption) ?_ | omega | (simp only [zz] at *; omega))))) | (go_at_call 72; refine (HIX.out _ (hA.ext (by (repeat (first | exact Below.refl _ _ | assumption | refine below_drewN ?_ _ | refine below_drew ?_ | refine below_gr ?_ ?_ _ | refine below_alloc ?_ ?_ _ | refine Below.setCell ?_ ?_ _ | refine below_step ?_ (by assumption) ?_ | omega | (simp only [zz] at *; omega))))) _ _ hI2).mono ?_; rintro e w9 ⟨rfl, hb9⟩; replace hb9 := ex_below hb9; have hz9 := hb9.size; (try simp only [zz] at hz9); have hs9 : w.heap.size < w9.heap.size := (by (first | omega | (simp only [zz] at *; omega))); have ho9 := own_cell hb9 (b := w.heap.size) (by (first | omega | (simp only [zz] at *; omega))); have hq9 := own_frozen hb9 (b := w.heap.size) (by (first | omega | (simp only [zz] at *; omega))); have hs9 : tb < w9.heap.size := (by (first | omega | (simp only [zz] at *; omega))); have ho9 := own_cell hb9 (b := tb) (by (first | omega | (simp only [zz] at *; omega))); have hq9 := own_frozen hb9 (b := tb) (by (first | omega | (simp only [zz] at *; omega))); have hs9 : ob < w9.heap.size := (by (first | omega | (simp only [zz] at *; omega))); have ho9 := own_cell hb9 (b := ob) (by (first | omega | (simp only [zz] at *; omega))); have hq9 := own_frozen hb9 (b := ob) (by (first | omega | (simp only [zz] at *; omega))); have hlt9 : ∀ b, b < wr.heap.size → b < w9.heap.size := fun b hb => (by (first | omega | (simp only [zz] at *; omega))); have hc9 : ∀ b o, b < wr.heap.size → w9.cell? ⟨b, o, none⟩ = wr.cell? ⟨b, o, none⟩ := old_cell (by (repeat (first | exact Below.refl _ _ | assumption | refine below_drewN ?_ _ | refine below_drew ?_ | refine below_gr ?_ ?_ _ | refine below_alloc ?_ ?_ _ | refine Below.setCell ?_ ?_ _ | refine below_step ?_ (by assumption) ?_ | omega | (simp only [zz] at *; omega))))))
                  go_wp2
                  exact ⟨⟨cn + 1, by omega, by go_num, hide (HCG.out (by simp; omega)), below_step hb (by (repeat (first | exact Below.refl _ _ | assumption | refine below_drewN ?_ _ | refine below_drew ?_ | refine below_gr ?_ ?_ _ | refine below_alloc ?_ ?_ _ | refine Below.setCell ?_ ?_ _ | refine below_step ?_ (by assumption) ?_ | omega | (simp only [zz] at *; omega)))) hzr⟩, by simp [intOf]; omega⟩
              · have hce : cn = Wn := by omega
                have HOK : Hid (okk = true) := hide (by have h := hall2.out; rw [hce, List.take_of_length_le (by rw [List.length_range]; exact Nat.le_refl _)] at h; rw [HTOK.out]; exact h)
                have hcli : ¬ ((cn : Int) < (Wn : Nat)) := by omega
                go_wp2
                exact ⟨⟨k + 1, by omega, by go_num, hide (HAG.out HOK.out), hb⟩, by simp [intOf]; omega⟩
          · have hke : k = xs.length := by omega
            have HTT : Hid (TA = true) := hide (by have h := hall.out; rw [hke, List.take_of_length_le (by rw [List.length_range]; exact Nat.le_refl _)] at h; rw [HTA.out]; exact h)
            have HQ : Hid ((q1, q2) = (xs.getD 0 0, (0 : Int))) := hide (by rw [HWB.out, if_pos HTT.out])
            have c0 := (hT.ext hbw).at hpp
            have hg0 : xs[0] = xs.getD 0 0 := by rw [List.getD_eq_getElem?_getD, List.getElem?_eq_getElem hpp]; rfl
            rw [hg0, Nat.add_zero] at c0
            clear hg0
            generalize xs.getD 0 0 = v0 at *
            have hki : ¬ ((k : Int) < (xs.length : Nat)) := by omega
            have hp0 : (0 : Int) < (xs.length : Nat) := by omega
            go_wp2
            go_ret2
            exact gives_of (tup_of HQ.out) (by (repeat (first | exact Below.refl _ _ | assumption | refine below_drewN ?_ _ | refine below_drew ?_ | refine below_gr ?_ ?_ _ | refine below_alloc ?_ ?_ _ | refine Below.setCell ?_ ?_ _ | refine below_step ?_ (by assumption) ?_ | omega | (simp only [zz] at *; omega))))
      · have HQ : Hid ((q1, q2) = ((0 : Int), (14 : Int))) := hide (by rw [HWA.out, HGL.out, if_pos g3])
        have g3b : (xl != 0) = true := by simpa using g3
        go_wp2
        go_ret2
        exact gives_of (tup_of HQ.out) (by (repeat (first | exact Below.refl _ _ | assumption | refine below_drewN ?_ _ | refine below_drew ?_ | refine below_gr ?_ ?_ _ | refine below_alloc ?_ ?_ _ | refine Below.setCell ?_ ?_ _ | refine below_step ?_ (by assumption) ?_ | omega | (simp only [zz] at *; omega))))
end Go.Proofs.Ytafncmgijbkomaa
namespace Go.Proofs.Ytafncmgijbkomaa
open Go.RowKit Go.Maps Go.Lib
/-- the tapes that are not in a list -/
def othB (ts : List ByteArray) (l : List Int) (k : Nat) : List ByteArray := ((List.range k).filter (fun (i : Nat) => !(l.any (fun x => decide (x = (i : Nat)))))).map (fun i => ts.getD i ⟨#[]⟩)
theorem othB_succ (ts : List ByteArray) (l : List Int) (k : Nat) (h : k < ts.length) : othB ts l (k + 1) = if l.any (fun x => decide (x = (k : Nat))) = true then othB ts l k else othB ts l k ++ [ts[k]] := by
  have hg : ts.getD k ⟨#[]⟩ = ts[k] := by rw [List.getD_eq_getElem?_getD, List.getElem?_eq_getElem h]; rfl
  unfold othB
  rw [List.range_succ, List.filter_append, List.map_append]
  split <;> rename_i g <;> simp [List.filter_cons, g, List.getElem?_eq_getElem h]
theorem othB_len (ts : List ByteArray) (l : List Int) (k : Nat) : (othB ts l k).length ≤ k := by
  unfold othB
  rw [List.length_map]
  exact Nat.le_trans (List.length_filter_le _ _) (by simp)
theorem othB_mem {ts : List ByteArray} {l : List Int} {k : Nat} (h : k ≤ ts.length) : ∀ s, s ∈ othB ts l k → s ∈ ts := fun s hs => by
  unfold othB at hs
  obtain ⟨i, hi, rfl⟩ := List.mem_map.1 hs
  have := List.mem_range.1 (List.mem_filter.1 hi).1
  rw [List.getD_eq_getElem?_getD, List.getElem?_eq_getElem (by omega)]
  exact List.getElem_mem _
theorem any_good {f : Int → Bool} {l : List Int} {k : Nat} (h : k < l.length) : (l.take (k + 1)).any f = ((l.take k).any f || f l[k]) := by rw [take_snoc l k h, List.any_append]; simp
set_option maxRecDepth 100000 in
set_option maxHeartbeats 1000000 in
theorem rOthers_any (A : Option Addr) (ts : List ByteArray) (c : Nat) (L : Option Addr) (l : List Int) (d : Nat) (w : World) (hA : Strs w A ts) (hL : I64 w L l) (h3 : ts.length ≤ 1000) (hl : l.length ≤ 1000) :
    Calls Try.prog 51 #[.slice A ts.length c, .slice L l.length d] w (GivesStrs w (othB ts l ts.length)) := by
  obtain ⟨i0, ih, iz, is, ib⟩ := info_parts infoS
  have HOS := hide (fun k h => othB_succ ts l k h)
  have HOL := hide (fun k => othB_len ts l k)
  have HO0 := hide (show othB ts l 0 = [] from rfl)
  generalize othB ts l = ob at *
  unfold GivesStrs
  go_enter Try.func51, Try.ntmps51
  go_wp2
  go_loopw [5, 6] (fun o i wr => ∃ (k : Nat) (A' : Option Addr) (ol c' : Nat), k ≤ ts.length ∧ i = .int .i64 (k : Nat) ∧ o = .slice A' ol c' ∧ Hid (ol = (ob k).length) ∧ wr.ownsRow w.heap.size 9 1 (.slice A' ol c') ol ((ob k).map Value.string) ∧ Below w.heap.size w wr) (fun _ i _ => ts.length - (intOf i).toNat)
  case atStart => exact ⟨0, none, 0, 0, Nat.zero_le _, rfl, rfl, hide (by rw [HO0.out]; rfl), by rw [HO0.out]; exact World.ownsRow_nil _ _ _ _, Below.refl _ _⟩
  case round =>
    obtain ⟨k, A', ol, c', hk, rfl, rfl, HLN, hown, hb⟩ := hrel
    obtain ⟨wo, rfl⟩ : ∃ wo : World, wo = wr := ⟨_, rfl⟩
    have hz := hb.size
    by_cases hlt : k < ts.length
    · obtain ⟨tb, toff, rfl, tl, tl2, hs0⟩ := hA k ts[k] (by simp [hlt])
      have HOS1 := hide (HOS.out k hlt)
      have hol : ol ≤ 1000 := by have := HOL.out k; have := HLN.out; omega
      have hki : (k : Int) < (ts.length : Nat) := by omega
      generalize ts[k] = s at *
      go_wp2
      go_loopw [7, 8] (fun iv jv wr => ∃ j : Nat, j ≤ l.length ∧ jv = .int .i64 (j : Nat) ∧ iv = .bool ((l.take j).any (fun x => decide (x = (k : Nat)))) ∧ Below wo.heap.size wo wr) (fun _ jv _ => l.length - (intOf jv).toNat)
      case atStart => exact ⟨0, Nat.zero_le _, rfl, rfl, Below.refl _ _⟩
      case round =>
        obtain ⟨j, hj, rfl, rfl, hb2⟩ := hrel
        have hz2 := hb2.size
        have hbw := hb.trans (hb2.mono hz)
        by_cases hjl : j < l.length
        · obtain ⟨lb, lo, rfl, ll⟩ := (hL.ext hbw).form (by omega)
          have cl := (hL.ext hbw).at hjl
          have HG := hide (any_good (f := fun x : Int => decide (x = (k : Nat))) hjl)
          have hjli : (j : Int) < (l.length : Nat) := by omega
          generalize l[j] = x at *
          generalize (l.take j).any (fun x => decide (x = (k : Nat))) = ba at *
          cases ba with
          | true =>
            go_wp2
            exact ⟨⟨j + 1, by omega, by go_num, by rw [HG.out]; rfl, hb2⟩, by simp [intOf]; omega⟩
          | false =>
            by_cases hx : x = (k : Int)
            · have hxb : (x == (k : Int)) = true := by simpa using hx
              have HX := hide (show decide (x = (k : Int)) = true by simpa using hx)
              clear hx
              go_wp2
              exact ⟨⟨j + 1, by omega, by go_num, by rw [HG.out, HX.out]; rfl, hb2⟩, by simp [intOf]; omega⟩
            · have hxb : (x == (k : Int)) = false := by simpa using hx
              have HX := hide (show decide (x = (k : Int)) = false by simpa using hx)
              clear hx
              go_wp2
              exact ⟨⟨j + 1, by omega, by go_num, by rw [HG.out, HX.out]; rfl, hb2⟩, by simp [intOf]; omega⟩
        · have hje : j = l.length := by omega
          have HTK : Hid (l.take j = l) := hide (by rw [hje, List.take_length])
          have hjli : ¬ ((j : Int) < (l.length : Nat)) := by omega
          rw [HTK.out]
          have hs1 := (hbw.cell (p := ⟨tb, toff + k, none⟩) tl).trans hs0
          have htb : tb < wr.heap.size := by omega
          generalize l.any (fun x => decide (x = (k : Nat))) = ba at *
          have hown2 := own_below hown hb2
          cases ba with
          | true =>
            have HOK : Hid (ob (k + 1) = ob k) := hide (by rw [HOS1.out]; rfl)
            go_wp2
            exact ⟨⟨k + 1, A', ol, c', by omega, by go_num, rfl, hide (by rw [HOK.out]; exact HLN.out), by rw [HOK.out]; exact hown2, hbw⟩, by simp [intOf]; omega⟩
          | false =>
            have HOK : Hid (ob (k + 1) = ob k ++ [s]) := hide (by rw [HOS1.out]; rfl)
            have hgb := own_base hown2
            go_wp2_with (at_builtin; refine wpList_app _ rfl (.tmp 32) (.tmp 37) 22 rfl w.heap.size 9 i0 _ 1 16 und22 ih iz is ib rfl (by decide) _ ol ((ob k).map Value.string) rfl (hown2.alloc _) (some ⟨wr.heap.size, 0, none⟩) 1 1 [_] rfl (rd_new1 _ _ _) (by simp [Value.oneCell']) (by unfold maxLen; omega) (by omega) (by simp; omega) ?_; intro A5 c5 w5 hown5 hgr5)
            refine ⟨⟨k + 1, A5, ol + 1, c5, by omega, by go_num, rfl, hide (by rw [HOK.out, List.length_append, HLN.out]; rfl), by rw [HOK.out, List.map_append]; exact hown5, gb_below (below_alloc hbw (by omega) _) hgr5 (by simp; omega) (fun g hg => hgb g hg)⟩, by simp [intOf]; omega⟩
    · have hkn : k = ts.length := by omega
      subst hkn
      have hI := own_strs hown
      have HL2 := HLN.out
      go_wp2
      go_ret
      exact ⟨A', c', by rw [← HL2]; rfl, grew_of hb, hI⟩
end Go.Proofs.Ytafncmgijbkomaa
namespace Go.Proofs.Ytafncmgijbkomaa
open Go.RowKit Go.Maps Go.Lib
theorem sub_small {ts us : List ByteArray} (h : ∀ s, s ∈ us → s ∈ ts) (hs : Small ts) : Small us := fun k hk => by
  obtain ⟨j, hj, e⟩ := List.getElem_of_mem (h _ (List.getElem_mem hk))
  rw [← e]; exact hs j hj
theorem sub_fine {ts us : List ByteArray} (h : ∀ s, s ∈ us → s ∈ ts) (hs : Fine ts) : Fine us := fun k hk => by
  obtain ⟨j, hj, e⟩ := List.getElem_of_mem (h _ (List.getElem_mem hk))
  rw [← e]; exact hs j hj
theorem sub_ok {W : Nat} {ts us : List ByteArray} (h : ∀ s, s ∈ us → s ∈ ts) (hs : Tm.lettersOk W (lts ts)) : Tm.lettersOk W (lts us) := fun t ht => by
  obtain ⟨s, hs1, rfl⟩ := List.mem_map.1 ht
  exact hs _ (List.mem_map.2 ⟨s, h s hs1, rfl⟩)
theorem othB_lts (ts : List ByteArray) (l : List Nat) : lts (othB ts (natI l) ts.length) = Tm.othersL (lts ts) l := by
  unfold othB Tm.othersL lts
  rw [List.map_map, List.length_map]
  have e : (fun (i : Nat) => !((natI l).any fun x => decide (x = (i : Nat)))) = (fun i => !l.contains i) := by
    funext i
    congr 1
    unfold natI
    rw [List.any_map, Bool.eq_iff_iff, List.any_eq_true, List.contains_iff_mem]
    constructor
    · rintro ⟨x, hx, hd⟩
      simp at hd
      have : x = i := by omega
      subst this; exact hx
    · intro h
      exact ⟨i, h, by simp⟩
  rw [e]
  apply List.map_congr_left
  intro i hi
  have := List.mem_range.1 (List.mem_filter.1 hi).1
  show lt (ts.getD i ⟨#[]⟩) = (ts.map lt).getD i []
  rw [List.getD_eq_getElem?_getD, List.getD_eq_getElem?_getD, List.getElem?_map, List.getElem?_eq_getElem this]
  rfl
/-- can these tapes be wrong -/
def canB (W : Nat) (ts : List (List Int)) (long : Int) (l : List Nat) : Bool := decide (((Tm.fewN W (Tm.othersL ts l) : Nat) : Int) ≤ long)
theorem few_bd {W : Nat} (hW : 0 < W) {ts : List ByteArray} (h3 : ts.length ≤ 3) (hs : Small ts) (hlo : Tm.lettersOk W (lts ts)) : Tm.fewN W (lts ts) ≤ 24 := Nat.le_trans (Tm.fewN_total hW hlo) (small_total hs h3)
set_option maxRecDepth 100000 in
set_option maxHeartbeats 1000000 in
theorem rCanBe_any (W : Int) (A : Option Addr) (ts : List ByteArray) (c : Nat) (w : World) (hA : Strs w A ts) (hl : ts.length ≤ 1000) (hsz : ∀ k, (h : k < ts.length) → ts[k].size ≤ 1000000) (hc : chkSet W ts = 0) (long : Int) (L : Option Addr) (l : List Nat) (d : Nat) (hL : I64 w L (natI l)) (hl3 : l.length ≤ 3) :
    Calls Try.prog 85 #[.agg #[.int .i64 W, .slice A ts.length c], .int .i64 long, .slice L l.length d] w (Gives w (.bool (canB W.toNat (lts ts) long l))) := by
  obtain ⟨hW1, hW2, h0, h3, hs, hf, _, hlo⟩ := chk_val hc
  obtain ⟨Wn, rfl⟩ : ∃ Wn : Nat, W = (Wn : Nat) := ⟨W.toNat, by omega⟩
  rw [Int.toNat_natCast] at hlo ⊢
  have hmem := othB_mem (ts := ts) (l := natI l) (Nat.le_refl _)
  have hol := othB_len ts (natI l) ts.length
  have hlo2 := sub_ok hmem hlo
  have hs2 := sub_small hmem hs
  have hfw := few_bd (W := Wn) (by omega) (by omega) hs2 hlo2
  have HOT := hide (fun w' (hA : Strs w' A ts) (hL : I64 w' L (natI l)) => (by have := rOthers_any A ts c L (natI l) d w' hA hL (by omega) (by rw [natI_len]; omega); rw [natI_len] at this; exact this : Calls Try.prog 51 #[.slice A ts.length c, .slice L l.length d] w' (GivesStrs w' (othB ts (natI l) ts.length))))
  have HBD := hide (fun A' c' w' (hA : Strs w' A' (othB ts (natI l) ts.length)) => rBounds_any Wn A' (othB ts (natI l) ts.length) c' w' hA (by omega) (by omega) (by omega) (sub_fine hmem hf) hs2 hlo2)
  obtain ⟨hl0, hv0⟩ := bdsL_zero (W := Wn) (ts := lts (othB ts (natI l) ts.length))
  have HV0 := hide hv0
  have HCB := hide (show canB Wn (lts ts) long l = decide (((Tm.fewN Wn (lts (othB ts (natI l) ts.length)) : Nat) : Int) ≤ long) by rw [othB_lts]; rfl)
  rw [HCB.out]
  clear hv0 hmem hol hlo2 hs2 hlo
  generalize bdsL Wn (lts (othB ts (natI l) ts.length)) = B at *
  generalize Tm.fewN Wn (lts (othB ts (natI l) ts.length)) = f at *
  generalize othB ts (natI l) ts.length = os at *
  replace hc := hide hc
  clear HCB
  go_enter Try.func85, Try.ntmps85
  go_wp2
  refine wp_region_noPanic ?_
  refine wp_region_F [] (DuoIs w.heap.size (.int .i64 (Wn : Nat)) (.slice A ts.length c)) (fun _ => True) (by kernel_rfl) ?_
  have e0d : DuoIs w.heap.size (.int .i64 (Wn : Nat)) (.slice A ts.length c) (w.alloc (.cells #[.int .i64 (Wn : Nat), .slice A ts.length c] 24)).drew := ⟨obj_at (heap_alloc_new w (.cells #[.int .i64 (Wn : Nat), .slice A ts.length c] 24)) 0 _ rfl, obj_at (heap_alloc_new w (.cells #[.int .i64 (Wn : Nat), .slice A ts.length c] 24)) 1 _ rfl⟩
  refine wpAnyF_take0 (i := 0) (v := ?_) rfl rfl (by kernel_rfl) (by kernel_rfl) (by kernel_rfl) (fun _ _ _ h => h) (Or.inl ⟨by rfl, ?_⟩) (by assumption) (fun _ => trivial) ?_
  rotate_left
  · (intro w hSw; obtain ⟨g0, g1⟩ := hSw; go_simp; try with_reducible rfl)
  (try simp only [Act.put, List.getElem_toArray, List.getElem_cons_zero, List.getElem_cons_succ, List.setIfInBounds_toArray, List.set_cons_zero, List.set_cons_succ])
  refine wpAnyF_take0 (i := 1) (v := ?_) rfl rfl (by kernel_rfl) (by kernel_rfl) (by kernel_rfl) (fun _ _ _ h => h) (Or.inl ⟨by rfl, ?_⟩) (by assumption) (fun _ => trivial) ?_
  rotate_left
  · (intro w hSw; obtain ⟨g0, g1⟩ := hSw; go_simp; try with_reducible rfl)
  (try simp only [Act.put, List.getElem_toArray, List.getElem_cons_zero, List.getElem_cons_succ, List.setIfInBounds_toArray, List.set_cons_zero, List.set_cons_succ])
  refine wpAnyF_take0 (i := 2) (v := ?_) rfl rfl (by kernel_rfl) (by kernel_rfl) (by kernel_rfl) (fun _ _ _ h => h) (Or.inl ⟨by rfl, ?_⟩) (by assumption) (fun _ => trivial) ?_
  rotate_left
  · (intro w hSw; obtain ⟨g0, g1⟩ := hSw; go_simp; try with_reducible rfl)
  (try simp only [Act.put, List.getElem_toArray, List.getElem_cons_zero, List.getElem_cons_succ, List.setIfInBounds_toArray, List.set_cons_zero, List.set_cons_succ])
  refine wpAnyF_take0 (i := 3) (v := ?_) rfl rfl (by kernel_rfl) (by kernel_rfl) (by kernel_rfl) (fun _ _ _ h => h) (Or.inl ⟨by rfl, ?_⟩) (by assumption) (fun _ => trivial) ?_
  rotate_left
  · (intro w hSw; obtain ⟨g0, g1⟩ := hSw; go_simp; try with_reducible rfl)
  (try simp only [Act.put, List.getElem_toArray, List.getElem_cons_zero, List.getElem_cons_succ, List.setIfInBounds_toArray, List.set_cons_zero, List.set_cons_succ])
  refine wpAnyF_take0 (i := 4) (v := ?_) rfl rfl (by kernel_rfl) (by kernel_rfl) (by kernel_rfl) (fun _ _ _ h => h) (Or.inl ⟨by rfl, ?_⟩) (by assumption) (fun _ => trivial) ?_
  rotate_left
  · (intro w hSw; obtain ⟨g0, g1⟩ := hSw; go_simp; try with_reducible rfl)
  (try simp only [Act.put, List.getElem_toArray, List.getElem_cons_zero, List.getElem_cons_succ, List.setIfInBounds_toArray, List.set_cons_zero, List.set_cons_succ])
  refine wpAnyF_take0 (i := 9) (v := ?_) rfl rfl (by kernel_rfl) (by kernel_rfl) (by kernel_rfl) (fun _ _ _ h => h) (Or.inl ⟨by rfl, ?_⟩) (by assumption) (fun _ => trivial) ?_
  rotate_left
  · (intro w hSw; obtain ⟨g0, g1⟩ := hSw; go_simp; try with_reducible rfl)
  (try simp only [Act.put, List.getElem_toArray, List.getElem_cons_zero, List.getElem_cons_succ, List.setIfInBounds_toArray, List.set_cons_zero, List.set_cons_succ])
  refine wpAnyF_one (i := 5) (by kernel_rfl) rfl (fun K' hK => ?_)
  rw [if_pos (by rfl)]
  go_simp
  refine (HOT.out _ (hA.ext (by (repeat (first | exact Below.refl _ _ | assumption | refine below_drewN ?_ _ | refine below_drew ?_ | refine below_gr ?_ ?_ _ | refine below_alloc ?_ ?_ _ | refine Below.setCell ?_ ?_ _ | refine below_step ?_ (by assumption) ?_ | omega | (simp only [zz] at *; omega))))) (hL.ext (by (repeat (first | exact Below.refl _ _ | assumption | refine below_drewN ?_ _ | refine below_drew ?_ | refine below_gr ?_ ?_ _ | refine below_alloc ?_ ?_ _ | refine Below.setCell ?_ ?_ _ | refine below_step ?_ (by assumption) ?_ | omega | (simp only [zz] at *; omega)))))).mono ?_; rintro e w2 ⟨A2, c2, rfl, hb2, hS2⟩; replace hb2 := hb2.below; have hz2 := hb2.size; (try simp only [zz] at hz2); have hs2 : w.heap.size < w2.heap.size := (by (first | omega | (simp only [zz] at *; omega))); have ho2 := own_cell hb2 (b := w.heap.size) (by (first | omega | (simp only [zz] at *; omega))); have hq2 := own_frozen hb2 (b := w.heap.size) (by (first | omega | (simp only [zz] at *; omega))); have hlt2 : ∀ b, b < w.heap.size → b < w2.heap.size := fun b hb => (by (first | omega | (simp only [zz] at *; omega))); have hc2 : ∀ b o, b < w.heap.size → w2.cell? ⟨b, o, none⟩ = w.cell? ⟨b, o, none⟩ := old_cell (by (repeat (first | exact Below.refl _ _ | assumption | refine below_drewN ?_ _ | refine below_drew ?_ | refine below_gr ?_ ?_ _ | refine below_alloc ?_ ?_ _ | refine Below.setCell ?_ ?_ _ | refine below_step ?_ (by assumption) ?_ | omega | (simp only [zz] at *; omega))))
  have e02 := e0d.ext hb2
  refine hK.out _ _ (e02) (fun _ => trivial) (fun _ => ?_)
  clear hK K'
  (try simp only [Act.put, List.getElem_toArray, List.getElem_cons_zero, List.getElem_cons_succ, List.setIfInBounds_toArray, List.set_cons_zero, List.set_cons_succ])
  refine wpAnyF_one (i := 6) (by kernel_rfl) rfl (fun K' hK => ?_)
  rw [if_pos (by rfl)]
  go_simp
  refine (HBD.out _ _ _ hS2).mono ?_; rintro e w3 ⟨A3, c3, rfl, hb3, hI3⟩; replace hb3 := hb3.below; have hz3 := hb3.size; (try simp only [zz] at hz3); have hs3 : w.heap.size < w3.heap.size := (by (first | omega | (simp only [zz] at *; omega))); have ho3 := own_cell hb3 (b := w.heap.size) (by (first | omega | (simp only [zz] at *; omega))); have hq3 := own_frozen hb3 (b := w.heap.size) (by (first | omega | (simp only [zz] at *; omega))); have hlt3 : ∀ b, b < w.heap.size → b < w3.heap.size := fun b hb => (by (first | omega | (simp only [zz] at *; omega))); have hc3 : ∀ b o, b < w.heap.size → w3.cell? ⟨b, o, none⟩ = w.cell? ⟨b, o, none⟩ := old_cell (by (repeat (first | exact Below.refl _ _ | assumption | refine below_drewN ?_ _ | refine below_drew ?_ | refine below_gr ?_ ?_ _ | refine below_alloc ?_ ?_ _ | refine Below.setCell ?_ ?_ _ | refine below_step ?_ (by assumption) ?_ | omega | (simp only [zz] at *; omega)))); obtain ⟨lb, lo5, rfl, hlb⟩ := hI3.form hl0; have c0 := hI3.at hl0; rw [HV0.out, Nat.add_zero] at c0
  have e03 := e02.ext hb3
  refine hK.out _ _ (e03) (fun _ => trivial) (fun _ => ?_)
  clear hK K'
  (try simp only [Act.put, List.getElem_toArray, List.getElem_cons_zero, List.getElem_cons_succ, List.setIfInBounds_toArray, List.set_cons_zero, List.set_cons_succ])
  refine wpAnyF_take0 (i := 7) (v := ?_) rfl rfl (by kernel_rfl) (by kernel_rfl) (by kernel_rfl) (fun _ _ _ h => h) (Or.inl ⟨by rfl, ?_⟩) (by assumption) (fun _ => trivial) ?_
  rotate_left
  · (intro w hSw; obtain ⟨g0, g1⟩ := hSw; go_simp; try with_reducible rfl)
  (try simp only [Act.put, List.getElem_toArray, List.getElem_cons_zero, List.getElem_cons_succ, List.setIfInBounds_toArray, List.set_cons_zero, List.set_cons_succ])
  refine wpAnyF_one (i := 8) (by kernel_rfl) rfl (fun K' hK => ?_)
  rw [if_pos (by rfl)]
  go_simp
  refine hK.out _ _ (e03) (fun _ => trivial) (fun _ => ?_)
  clear hK K'
  (try simp only [Act.put, List.getElem_toArray, List.getElem_cons_zero, List.getElem_cons_succ, List.setIfInBounds_toArray, List.set_cons_zero, List.set_cons_succ])
  refine wpAnyF_take0 (i := 10) (v := ?_) rfl rfl (by kernel_rfl) (by kernel_rfl) (by kernel_rfl) (fun _ _ _ h => h) (Or.inl ⟨by rfl, ?_⟩) (by assumption) (fun _ => trivial) ?_
  rotate_left
  · (intro w hSw; obtain ⟨g0, g1⟩ := hSw; go_simp; try with_reducible rfl)
  (try simp only [Act.put, List.getElem_toArray, List.getElem_cons_zero, List.getElem_cons_succ, List.setIfInBounds_toArray, List.set_cons_zero, List.set_cons_succ])
  refine wpAnyF_one (i := 11) (by kernel_rfl) rfl (fun K' hK => ?_)
  rw [if_pos (by rfl)]
  go_simp
  refine hK.out _ _ (e03) (fun _ => trivial) (fun _ => ?_)
  clear hK K'
  (try simp only [Act.put, List.getElem_toArray, List.getElem_cons_zero, List.getElem_cons_succ, List.setIfInBounds_toArray, List.set_cons_zero, List.set_cons_succ])
  refine wpAnyF_done (by kernel_rfl) ?_ _
  refine NoPanic.normal ?_
  go_wp2
  go_ret
  exact gives_of (rfl) (by (repeat (first | exact Below.refl _ _ | assumption | refine below_drewN ?_ _ | refine below_drew ?_ | refine below_gr ?_ ?_ _ | refine below_alloc ?_ ?_ _ | refine Below.setCell ?_ ?_ _ | refine below_step ?_ (by assumption) ?_ | omega | (simp only [zz] at *; omega))))
end Go.Proofs.Ytafncmgijbkomaa
