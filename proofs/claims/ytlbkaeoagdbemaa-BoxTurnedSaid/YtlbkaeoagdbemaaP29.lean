/- Proved here: the reference: wrong races and units; the reference: for how many outcomes a ticket is wrong, a part of the proofs about the box laws. Conditions: those that each theorem names, no others. -/
import Derived.Test.YtlbkaeoagdbemaaP28
import Derived.WalkKit
import Derived.WalkSpells
import Derived.WalkLawsBesides
import Derived.Below
import Derived.Deep.QuietTactic
import Derived.BigQuiet
import Derived.Deep.Light
import Derived.Test.YtlbkaeoagdbemaaP04
import Derived.Test.YtlbkaeoagdbemaaP25
set_option linter.unusedSimpArgs false
set_option linter.unusedVariables false
namespace Go.Proofs.Ytlbkaeoagdbemaa
open Go.RowKit Go.Maps
set_option maxRecDepth 100000 in
set_option maxHeartbeats 4000000 in
theorem rWrong_any (X : Option Addr) (S : List Nat) (xc : Nat) (Y : Option Addr) (o : List Nat) (yc : Nat) (w : World) (hX : I64 w X (zs S)) (hY : I64 w Y (zs o)) (hl : o.length ≤ S.length) (hl2 : S.length ≤ 10) (h64 : ∀ s, s ∈ S → s < 64) (ho6 : ∀ i, i ∈ o → i < 6) :
    Calls Try.prog 51 #[.slice X S.length xc, .slice Y o.length yc] w (Gives w (.int .i64 (Bm.wrongN S o : Nat))) := by
  have hol : (o.length : Int) ≤ 10 := by omega
  have hsl : (S.length : Int) ≤ 10 := by omega
  go_enter Try.func51, Try.ntmps51
  go_wp2
  go_loopw [5, 6] (fun n i wr => ∃ k : Nat, k ≤ o.length ∧ i = .int .i64 (k : Nat) ∧ n = .int .i64 (Bm.wrongN S (o.take k) : Nat) ∧ Bm.wrongN S (o.take k) ≤ k ∧ Below w.heap.size w wr) (fun _ i _ => o.length - (intOf i).toNat)
  case atStart => exact ⟨0, Nat.zero_le _, rfl, by cases S <;> rfl, by cases S <;> simp [Bm.wrongN], Below.refl _ _⟩
  case round =>
    obtain ⟨k, hk, rfl, rfl, hle, hb⟩ := hrel
    have hbz := hb.size
    by_cases hlt : k < o.length
    · have hltS : k < S.length := by omega
      have hX1 := hX.ext hb
      have hY1 := hY.ext hb
      obtain ⟨sb, so, rfl, hsb⟩ := zsF hX1 (by omega)
      obtain ⟨ob, oo, rfl, hob⟩ := zsF hY1 (by omega)
      have hs0 := zsI hX1 hltS
      have ho0 := zsI hY1 hlt
      have hs64 := h64 _ (List.getElem_mem hltS)
      have hoi6 := ho6 _ (List.getElem_mem hlt)
      have HW := hide (Bm.wrong_step S o k hlt hl)
      have HBT := hide (bBit S[k] hs64 o[k] hoi6)
      clear hX1 hY1
      generalize Bm.wrongN S (o.take k) = n at *
      generalize S[k] = x at *
      generalize o[k] = y at *
      cases hv : x.testBit y
      all_goals
        rw [hv] at HW HBT
        have hbt := HBT.out
        simp only [Bool.false_eq_true, if_false, if_true] at hbt
        have HW2 := HW.out
        simp only [Bool.false_eq_true, if_false, if_true] at HW2
        replace HW := hide HW2
        clear HW2 hv HBT
        go_wp2
        go_quiet (fail)
        go_wp2
        exact ⟨⟨k + 1, by omega, by go_num, by rw [HW.out]; go_num, by rw [HW.out]; omega, by (repeat (first | exact Below.refl _ _ | assumption | (refine below_gr ?_ (by (first | omega | (simp only [zz] at *; omega))) _) | (refine below_alloc ?_ (by (first | omega | (simp only [zz] at *; omega))) _) | (refine Below.setCell ?_ (by (first | omega | (simp only [zz] at *; omega))) _) | refine below_drewN ?_ _ | refine below_drew ?_ | (refine below_step ?_ (by assumption) (by (first | omega | (simp only [zz] at *; omega))))))⟩, by simp [intOf]; omega⟩
    · have hkl : k = o.length := by omega
      have hv := hide (show Bm.wrongN S (o.take k) = Bm.wrongN S o by rw [hkl, List.take_length])
      clear hkl
      generalize Bm.wrongN S (o.take k) = n at *
      go_wp2
      go_ret
      exact gives_of (by rw [← hv.out]; rfl) (by (repeat (first | exact Below.refl _ _ | assumption | refine below_drewN ?_ _ | refine below_drew ?_ | refine below_gr ?_ ?_ _ | refine below_alloc ?_ ?_ _ | refine Below.setCell ?_ ?_ _ | refine below_step ?_ (by assumption) ?_ | omega | (simp only [zz] at *; omega))))
set_option maxRecDepth 100000 in
set_option maxHeartbeats 4000000 in
theorem rUnits_any (B : Option Addr) (ts : List Bm.Tk) (d : Nat) (Y : Option Addr) (o : List Nat) (yc : Nat) (w : World) (hB : Tks w B (tz ts)) (hY : I64 w Y (zs o)) (hl : ∀ t, t ∈ ts → o.length ≤ t.1.length ∧ t.1.length ≤ 10) (h64 : ∀ t, t ∈ ts → ∀ s, s ∈ t.1 → s < 64) (ho6 : ∀ i, i ∈ o → i < 6) (h10 : ts.length ≤ 10) (hu : ∀ t, t ∈ ts → t.2 ≤ 1000) :
    Calls Try.prog 52 #[.slice B ts.length d, .slice Y o.length yc] w (Gives w (.int .i64 (Bm.uni ts o : Nat))) := by
  have htl : (ts.length : Int) ≤ 10 := by omega
  go_enter Try.func52, Try.ntmps52
  go_wp2
  go_loopw [5, 6] (fun n i wr => ∃ k : Nat, k ≤ ts.length ∧ i = .int .i64 (k : Nat) ∧ n = .int .i64 (Bm.uni (ts.take k) o : Nat) ∧ Bm.uni (ts.take k) o ≤ k * 1000 ∧ Below w.heap.size w wr) (fun _ i _ => ts.length - (intOf i).toNat)
  case atStart => exact ⟨0, Nat.zero_le _, rfl, rfl, by simp [Bm.uni], Below.refl _ _⟩
  case round =>
    obtain ⟨k, hk, rfl, rfl, hle, hb⟩ := hrel
    have hbz := hb.size
    by_cases hlt : k < ts.length
    · have hB1 := hB.ext hb
      obtain ⟨tb, to, rfl, htb⟩ := hB1.form (by rw [tz_len]; omega)
      obtain ⟨T, tc, q0, q1, q2, hT⟩ := hB1.at (k := k) (by rw [tz_len]; exact hlt)
      simp only [tz_at _ _ hlt, zs_len] at q0 q1 q2 hT
      have hmem := List.getElem_mem hlt
      have hl1 := hl _ hmem
      have hu1 := hu _ hmem
      have H64 := hide (h64 _ hmem)
      have HU := hide (Bm.uni_step ts o k hlt)
      have HWW := hide (Bm.win_wrong ts[k].1 o)
      clear hmem hB1
      generalize Bm.uni (ts.take k) o = n at *
      generalize ts[k] = t at *
      obtain ⟨P, u⟩ : Bm.Tk := t
      simp only at q0 q1 q2 hT hl1 hu1 H64 HU HWW
      have HRW := hide (fun w' (h1 : I64 w' T (zs P)) (h2 : I64 w' Y (zs o)) => rWrong_any T P tc Y o yc w' h1 h2 hl1.1 hl1.2 H64.out ho6)
      have hYr := hY.ext hb
      obtain ⟨m, hm⟩ : ∃ m, Bm.wrongN P o = m := ⟨_, rfl⟩
      rw [hm] at HRW HWW
      clear hm
      by_cases hm0 : m = 0
      · subst hm0
        have HU2 := HU.out
        rw [show Bm.win P o = true from HWW.out] at HU2
        simp only [if_true] at HU2
        replace HU := hide HU2
        clear HU2 HWW
        go_wp2_with (go_at_call 51; refine (HRW.out _ (hT.ext (by (repeat (first | exact Below.refl _ _ | assumption | refine below_drewN ?_ _ | refine below_drew ?_ | refine below_gr ?_ ?_ _ | refine below_alloc ?_ ?_ _ | refine Below.setCell ?_ ?_ _ | refine below_step ?_ (by assumption) ?_ | omega | (simp only [zz] at *; omega))))) (hYr.ext (by (repeat (first | exact Below.refl _ _ | assumption | refine below_drewN ?_ _ | refine below_drew ?_ | refine below_gr ?_ ?_ _ | refine below_alloc ?_ ?_ _ | refine Below.setCell ?_ ?_ _ | refine below_step ?_ (by assumption) ?_ | omega | (simp only [zz] at *; omega)))))).mono ?_; rintro e w2 ⟨rfl, hb1⟩; replace hb1 := ex_below hb1; have hz1 := hb1.size; (try simp only [zz] at hz1); have hlt1 : ∀ b, b < wr.heap.size → b < w2.heap.size := fun b hb => (by (first | omega | (simp only [zz] at *; omega))); have hc1 : ∀ b o, b < wr.heap.size → w2.cell? ⟨b, o, none⟩ = wr.cell? ⟨b, o, none⟩ := old_cell (by (repeat (first | exact Below.refl _ _ | assumption | refine below_drewN ?_ _ | refine below_drew ?_ | refine below_gr ?_ ?_ _ | refine below_alloc ?_ ?_ _ | refine Below.setCell ?_ ?_ _ | refine below_step ?_ (by assumption) ?_ | omega | (simp only [zz] at *; omega)))))
        exact ⟨⟨k + 1, by omega, by go_num, by rw [HU.out]; go_num, by rw [HU.out]; omega, by (repeat (first | exact Below.refl _ _ | assumption | (refine below_gr ?_ (by (first | omega | (simp only [zz] at *; omega))) _) | (refine below_alloc ?_ (by (first | omega | (simp only [zz] at *; omega))) _) | (refine Below.setCell ?_ (by (first | omega | (simp only [zz] at *; omega))) _) | refine below_drewN ?_ _ | refine below_drew ?_ | (refine below_step ?_ (by assumption) (by (first | omega | (simp only [zz] at *; omega))))))⟩, by simp [intOf]; omega⟩
      · have HU2 := HU.out
        rw [show Bm.win P o = false from by rw [HWW.out]; simpa using hm0] at HU2
        simp only [Bool.false_eq_true, if_false] at HU2
        replace HU := hide HU2
        have hmb : (((m : Nat) : Int) == 0) = false := by simp; omega
        clear HU2 HWW hm0
        go_wp2_with (go_at_call 51; refine (HRW.out _ (hT.ext (by (repeat (first | exact Below.refl _ _ | assumption | refine below_drewN ?_ _ | refine below_drew ?_ | refine below_gr ?_ ?_ _ | refine below_alloc ?_ ?_ _ | refine Below.setCell ?_ ?_ _ | refine below_step ?_ (by assumption) ?_ | omega | (simp only [zz] at *; omega))))) (hYr.ext (by (repeat (first | exact Below.refl _ _ | assumption | refine below_drewN ?_ _ | refine below_drew ?_ | refine below_gr ?_ ?_ _ | refine below_alloc ?_ ?_ _ | refine Below.setCell ?_ ?_ _ | refine below_step ?_ (by assumption) ?_ | omega | (simp only [zz] at *; omega)))))).mono ?_; rintro e w2 ⟨rfl, hb1⟩; replace hb1 := ex_below hb1; have hz1 := hb1.size; (try simp only [zz] at hz1); have hlt1 : ∀ b, b < wr.heap.size → b < w2.heap.size := fun b hb => (by (first | omega | (simp only [zz] at *; omega))); have hc1 : ∀ b o, b < wr.heap.size → w2.cell? ⟨b, o, none⟩ = wr.cell? ⟨b, o, none⟩ := old_cell (by (repeat (first | exact Below.refl _ _ | assumption | refine below_drewN ?_ _ | refine below_drew ?_ | refine below_gr ?_ ?_ _ | refine below_alloc ?_ ?_ _ | refine Below.setCell ?_ ?_ _ | refine below_step ?_ (by assumption) ?_ | omega | (simp only [zz] at *; omega)))))
        exact ⟨⟨k + 1, by omega, by go_num, by rw [HU.out]; go_num, by rw [HU.out]; omega, by (repeat (first | exact Below.refl _ _ | assumption | (refine below_gr ?_ (by (first | omega | (simp only [zz] at *; omega))) _) | (refine below_alloc ?_ (by (first | omega | (simp only [zz] at *; omega))) _) | (refine Below.setCell ?_ (by (first | omega | (simp only [zz] at *; omega))) _) | refine below_drewN ?_ _ | refine below_drew ?_ | (refine below_step ?_ (by assumption) (by (first | omega | (simp only [zz] at *; omega))))))⟩, by simp [intOf]; omega⟩
    · have hkl : k = ts.length := by omega
      have hv := hide (show Bm.uni (ts.take k) o = Bm.uni ts o by rw [hkl, List.take_length])
      clear hkl
      generalize Bm.uni (ts.take k) o = n at *
      go_wp2
      go_ret
      exact gives_of (by rw [← hv.out]; rfl) (by (repeat (first | exact Below.refl _ _ | assumption | refine below_drewN ?_ _ | refine below_drew ?_ | refine below_gr ?_ ?_ _ | refine below_alloc ?_ ?_ _ | refine Below.setCell ?_ ?_ _ | refine below_step ?_ (by assumption) ?_ | omega | (simp only [zz] at *; omega))))
end Go.Proofs.Ytlbkaeoagdbemaa
namespace Go.Proofs.Ytlbkaeoagdbemaa
open Go.RowKit Go.Maps
set_option maxRecDepth 100000 in
set_option maxHeartbeats 4000000 in
theorem rWithin_bad (A : Option Addr) (R : List Int) (c : Nat) (Y : Option Addr) (S : List Int) (yc : Nat) (u : Int) (v : Int) (w : World) (hA : I64 w A R) (hY : I64 w Y S) (hyc : S.length ≤ yc) (hl : R.length ≤ 1000000) (hS : S.length ≤ 1000000) (h0 : chkT R [(S, u)] ≠ 0) :
    Calls Try.prog 28 #[.agg #[.slice A R.length c], .agg #[.slice Y S.length yc, .int .i64 u], .int .i64 v] w (Gives w (.tuple #[.int .i64 0, .int .i64 (chkT R [(S, u)])])) := by
  have tok0 : True := trivial
  have HCT := hide (fun b w' (h1 : I64 w' A R) (h2 : Tks w' (some ⟨b, 0, none⟩) [(S, u)]) => rCheckTickets_any A R c (some ⟨b, 0, none⟩) [(S, u)] 1 w' h1 h2 hl (by simp) (fun t ht => by rw [List.mem_singleton.1 ht]; exact hS))
  have hne : (chkT R [(S, u)] != 0) = true := by simpa using h0
  generalize chkT R [(S, u)] = ec at *
  clear h0
  go_enter Try.func28, Try.ntmps28
  go_wp2_with (first
    | (clear tok0; go_at_call 24; refine (HCT.out _ _ (hA.ext (by (repeat (first | exact Below.refl _ _ | assumption | refine below_drewN ?_ _ | refine below_drew ?_ | refine below_gr ?_ ?_ _ | refine below_alloc ?_ ?_ _ | refine Below.setCell ?_ ?_ _ | refine below_step ?_ (by assumption) ?_ | omega | (simp only [zz] at *; omega))))) (tks_one (heap_c3 _ _ _ _) (hY.ext (by (repeat (first | exact Below.refl _ _ | assumption | refine below_drewN ?_ _ | refine below_drew ?_ | refine below_gr ?_ ?_ _ | refine below_alloc ?_ ?_ _ | refine Below.setCell ?_ ?_ _ | refine below_step ?_ (by assumption) ?_ | omega | (simp only [zz] at *; omega))))) hyc)).mono ?_; rintro e w1 ⟨rfl, hb1⟩; replace hb1 := ex_below hb1; have hz1 := hb1.size; (try simp only [zz] at hz1); have hs1 : w.heap.size < w1.heap.size := (by (first | omega | (simp only [zz] at *; omega))); have ho1 := own_cell hb1 (b := w.heap.size) (by (first | omega | (simp only [zz] at *; omega))); have hq1 := own_frozen hb1 (b := w.heap.size) (by (first | omega | (simp only [zz] at *; omega))); have hs1 : w.heap.size + 1 < w1.heap.size := (by (first | omega | (simp only [zz] at *; omega))); have ho1 := own_cell hb1 (b := w.heap.size + 1) (by (first | omega | (simp only [zz] at *; omega))); have hq1 := own_frozen hb1 (b := w.heap.size + 1) (by (first | omega | (simp only [zz] at *; omega))); have hlt1 : ∀ b, b < w.heap.size → b < w1.heap.size := fun b hb => (by (first | omega | (simp only [zz] at *; omega))); have hc1 : ∀ b o, b < w.heap.size → w1.cell? ⟨b, o, none⟩ = w.cell? ⟨b, o, none⟩ := old_cell (by (repeat (first | exact Below.refl _ _ | assumption | refine below_drewN ?_ _ | refine below_drew ?_ | refine below_gr ?_ ?_ _ | refine below_alloc ?_ ?_ _ | refine Below.setCell ?_ ?_ _ | refine below_step ?_ (by assumption) ?_ | omega | (simp only [zz] at *; omega)))); have tok1 : True := trivial)
    | (clear tok1; go_at_call 24; refine (HCT.out _ _ (hA.ext (by (repeat (first | exact Below.refl _ _ | assumption | refine below_drewN ?_ _ | refine below_drew ?_ | refine below_gr ?_ ?_ _ | refine below_alloc ?_ ?_ _ | refine Below.setCell ?_ ?_ _ | refine below_step ?_ (by assumption) ?_ | omega | (simp only [zz] at *; omega))))) (tks_one (heap_alloc_new _ _) (hY.ext (by (repeat (first | exact Below.refl _ _ | assumption | refine below_drewN ?_ _ | refine below_drew ?_ | refine below_gr ?_ ?_ _ | refine below_alloc ?_ ?_ _ | refine Below.setCell ?_ ?_ _ | refine below_step ?_ (by assumption) ?_ | omega | (simp only [zz] at *; omega))))) hyc)).mono ?_; rintro e w2 ⟨rfl, hb2⟩; replace hb2 := ex_below hb2; have hz2 := hb2.size; (try simp only [zz] at hz2); have hs2 : w.heap.size < w2.heap.size := (by (first | omega | (simp only [zz] at *; omega))); have ho2 := own_cell hb2 (b := w.heap.size) (by (first | omega | (simp only [zz] at *; omega))); have hq2 := own_frozen hb2 (b := w.heap.size) (by (first | omega | (simp only [zz] at *; omega))); have hs2 : w.heap.size + 1 < w2.heap.size := (by (first | omega | (simp only [zz] at *; omega))); have ho2 := own_cell hb2 (b := w.heap.size + 1) (by (first | omega | (simp only [zz] at *; omega))); have hq2 := own_frozen hb2 (b := w.heap.size + 1) (by (first | omega | (simp only [zz] at *; omega))); have hlt2 : ∀ b, b < w.heap.size → b < w2.heap.size := fun b hb => (by (first | omega | (simp only [zz] at *; omega))); have hc2 : ∀ b o, b < w.heap.size → w2.cell? ⟨b, o, none⟩ = w.cell? ⟨b, o, none⟩ := old_cell (by (repeat (first | exact Below.refl _ _ | assumption | refine below_drewN ?_ _ | refine below_drew ?_ | refine below_gr ?_ ?_ _ | refine below_alloc ?_ ?_ _ | refine Below.setCell ?_ ?_ _ | refine below_step ?_ (by assumption) ?_ | omega | (simp only [zz] at *; omega)))); have tok2 : True := trivial))

  go_ret2
  exact gives_of (rfl) (by (repeat (first | exact Below.refl _ _ | assumption | refine below_drewN ?_ _ | refine below_drew ?_ | refine below_gr ?_ ?_ _ | refine below_alloc ?_ ?_ _ | refine Below.setCell ?_ ?_ _ | refine below_step ?_ (by assumption) ?_ | omega | (simp only [zz] at *; omega))))
set_option maxRecDepth 100000 in
set_option maxHeartbeats 4000000 in
theorem rWithin_range (A : Option Addr) (R : List Nat) (c : Nat) (Y : Option Addr) (S : List Nat) (yc : Nat) (u : Nat) (v : Int) (w : World) (hA : I64 w A (zs R)) (hY : I64 w Y (zs S)) (hyc : S.length ≤ yc) (hok : Ok R [(S, u)]) (hv : ¬(0 ≤ v ∧ v ≤ (R.length : Int))) :
    Calls Try.prog 28 #[.agg #[.slice A R.length c], .agg #[.slice Y S.length yc, .int .i64 (u : Nat)], .int .i64 v] w (Gives w (.tuple #[.int .i64 0, .int .i64 3])) := by
  have HCT := hide (fun b w' (h1 : I64 w' A (zs R)) (h2 : Tks w' (some ⟨b, 0, none⟩) [(zs S, (u : Int))]) => by
    have := rCheckTickets_any A (zs R) c (some ⟨b, 0, none⟩) [(zs S, (u : Int))] 1 w' h1 h2 (by rw [zs_len]; have := hok.h5; omega) (by simp) (fun t ht => by rw [List.mem_singleton.1 ht]; simp only [zs_len]; rw [hok.htl (S, u) (by simp)]; have := hok.h5; omega)
    rw [show chkT (zs R) [(zs S, (u : Int))] = 0 from ok_chk hok, zs_len] at this
    exact this)
  have HT1 := hide (fun (w' : World) b t (h : w'.heap[b]? = some (.cells #[.slice Y S.length yc, .int .i64 (u : Int)] t (0, 0))) (h2 : I64 w' Y (zs S)) => (tks_one (S := zs S) (c := yc) (u := (u : Int)) (t := t) (by rw [zs_len]; exact h) h2 (by rw [zs_len]; exact hyc) : Tks w' (some ⟨b, 0, none⟩) [(zs S, (u : Int))]))
  have hR5 := hok.h5
  have hcase : decide (v < 0) = true ∨ (decide (v < 0) = false ∧ decide (v > (R.length : Int)) = true) := by
    simp only [decide_eq_true_eq, decide_eq_false_iff_not]; omega
  clear hv
  rcases hcase with g1 | ⟨g1, g2⟩
  all_goals
    go_enter Try.func28, Try.ntmps28
    go_wp2_with (first
    | (go_at_call 24; refine (HCT.out _ _ (hA.ext (by (repeat (first | exact Below.refl _ _ | assumption | refine below_drewN ?_ _ | refine below_drew ?_ | refine below_gr ?_ ?_ _ | refine below_alloc ?_ ?_ _ | refine Below.setCell ?_ ?_ _ | refine below_step ?_ (by assumption) ?_ | omega | (simp only [zz] at *; omega))))) (HT1.out _ _ _ (heap_c3 _ _ _ _) (hY.ext (by (repeat (first | exact Below.refl _ _ | assumption | refine below_drewN ?_ _ | refine below_drew ?_ | refine below_gr ?_ ?_ _ | refine below_alloc ?_ ?_ _ | refine Below.setCell ?_ ?_ _ | refine below_step ?_ (by assumption) ?_ | omega | (simp only [zz] at *; omega))))))).mono ?_; rintro e w1 ⟨rfl, hb1⟩; replace hb1 := ex_below hb1; have hz1 := hb1.size; (try simp only [zz] at hz1); have hs1 : w.heap.size < w1.heap.size := (by (first | omega | (simp only [zz] at *; omega))); have ho1 := own_cell hb1 (b := w.heap.size) (by (first | omega | (simp only [zz] at *; omega))); have hq1 := own_frozen hb1 (b := w.heap.size) (by (first | omega | (simp only [zz] at *; omega))); have hs1 : w.heap.size + 1 < w1.heap.size := (by (first | omega | (simp only [zz] at *; omega))); have ho1 := own_cell hb1 (b := w.heap.size + 1) (by (first | omega | (simp only [zz] at *; omega))); have hq1 := own_frozen hb1 (b := w.heap.size + 1) (by (first | omega | (simp only [zz] at *; omega))); have hlt1 : ∀ b, b < w.heap.size → b < w1.heap.size := fun b hb => (by (first | omega | (simp only [zz] at *; omega))); have hc1 : ∀ b o, b < w.heap.size → w1.cell? ⟨b, o, none⟩ = w.cell? ⟨b, o, none⟩ := old_cell (by (repeat (first | exact Below.refl _ _ | assumption | refine below_drewN ?_ _ | refine below_drew ?_ | refine below_gr ?_ ?_ _ | refine below_alloc ?_ ?_ _ | refine Below.setCell ?_ ?_ _ | refine below_step ?_ (by assumption) ?_ | omega | (simp only [zz] at *; omega))))))

    go_ret2
    exact gives_of (rfl) (by (repeat (first | exact Below.refl _ _ | assumption | refine below_drewN ?_ _ | refine below_drew ?_ | refine below_gr ?_ ?_ _ | refine below_alloc ?_ ?_ _ | refine Below.setCell ?_ ?_ _ | refine below_step ?_ (by assumption) ?_ | omega | (simp only [zz] at *; omega))))
set_option maxRecDepth 100000 in
set_option maxHeartbeats 4000000 in
theorem rWithin_ok (A : Option Addr) (R : List Nat) (c : Nat) (Y : Option Addr) (S : List Nat) (yc : Nat) (u : Nat) (v : Nat) (w : World) (hA : I64 w A (zs R)) (hY : I64 w Y (zs S)) (hyc : S.length ≤ yc) (hok : Ok R [(S, u)]) (hv : v ≤ R.length) :
    Calls Try.prog 28 #[.agg #[.slice A R.length c], .agg #[.slice Y S.length yc, .int .i64 (u : Nat)], .int .i64 (v : Nat)] w (Gives w (.tuple #[.int .i64 ((Bm.outs R).countP (fun o => decide (Bm.wrongN S o ≤ v)) : Nat), .int .i64 0])) := by
  have HCT := hide (fun b w' (h1 : I64 w' A (zs R)) (h2 : Tks w' (some ⟨b, 0, none⟩) [(zs S, (u : Int))]) => by
    have := rCheckTickets_any A (zs R) c (some ⟨b, 0, none⟩) [(zs S, (u : Int))] 1 w' h1 h2 (by rw [zs_len]; have := hok.h5; omega) (by simp) (fun t ht => by rw [List.mem_singleton.1 ht]; simp only [zs_len]; rw [hok.htl (S, u) (by simp)]; have := hok.h5; omega)
    rw [show chkT (zs R) [(zs S, (u : Int))] = 0 from ok_chk hok, zs_len] at this
    exact this)
  have HT1 := hide (fun (w' : World) b t (h : w'.heap[b]? = some (.cells #[.slice Y S.length yc, .int .i64 (u : Int)] t (0, 0))) (h2 : I64 w' Y (zs S)) => (tks_one (S := zs S) (c := yc) (u := (u : Int)) (t := t) (by rw [zs_len]; exact h) h2 (by rw [zs_len]; exact hyc) : Tks w' (some ⟨b, 0, none⟩) [(zs S, (u : Int))]))
  have hR5 := hok.h5
  have hSl : S.length = R.length := hok.htl (S, u) (by simp)
  have g1 : decide ((v : Int) < 0) = false := by simp
  have g2 : decide ((v : Int) > (R.length : Int)) = false := by simp; omega
  have hv5 : (v : Int) ≤ 5 := by omega
  have HO := hide (fun w' (h : I64 w' A (zs R)) => Outcomes_any A R c w' h hok.h5 hok.r6)
  have HLE := hide (show (Bm.outs R).length ≤ 7776 by
    have h1 := Bm.outs_len_le hok.r6
    have h2 : 6 ^ R.length ≤ 6 ^ 5 := Nat.pow_le_pow_right (by omega) hR5
    omega)
  have HME := hide (fun o (ho : o ∈ Bm.outs R) => (show o.length = R.length ∧ ∀ i, i ∈ o → i < 6 from ⟨Bm.outs_len ho, outs_lt hok.r6 ho⟩))
  have HRW := hide (fun X xc Z zc o w' (ho : o ∈ Bm.outs R) (h1 : I64 w' X (zs S)) (h2 : I64 w' Z (zs o)) => rWrong_any X S xc Z o zc w' h1 h2 (by rw [(HME.out o ho).1, hSl]; exact Nat.le_refl _) (by omega) (hok.ht6 (S, u) (by simp)) (HME.out o ho).2)
  have HWL := hide (fun o (ho : o ∈ Bm.outs R) => (show Bm.wrongN S o ≤ 5 by have := Bm.wrong_le S o (by rw [(HME.out o ho).1, hSl]; exact Nat.le_refl _); have := (HME.out o ho).1; omega))
  have HSL := hide hSl
  clear hok hSl HME
  generalize Bm.outs R = L at *
  go_enter Try.func28, Try.ntmps28
  go_wp2_with (first
    | (go_at_call 24; refine (HCT.out _ _ (hA.ext (by (repeat (first | exact Below.refl _ _ | assumption | refine below_drewN ?_ _ | refine below_drew ?_ | refine below_gr ?_ ?_ _ | refine below_alloc ?_ ?_ _ | refine Below.setCell ?_ ?_ _ | refine below_step ?_ (by assumption) ?_ | omega | (simp only [zz] at *; omega))))) (HT1.out _ _ _ (heap_c3 _ _ _ _) (hY.ext (by (repeat (first | exact Below.refl _ _ | assumption | refine below_drewN ?_ _ | refine below_drew ?_ | refine below_gr ?_ ?_ _ | refine below_alloc ?_ ?_ _ | refine Below.setCell ?_ ?_ _ | refine below_step ?_ (by assumption) ?_ | omega | (simp only [zz] at *; omega))))))).mono ?_; rintro e w1 ⟨rfl, hb1⟩; replace hb1 := ex_below hb1; have hz1 := hb1.size; (try simp only [zz] at hz1); have hs1 : w.heap.size < w1.heap.size := (by (first | omega | (simp only [zz] at *; omega))); have ho1 := own_cell hb1 (b := w.heap.size) (by (first | omega | (simp only [zz] at *; omega))); have hq1 := own_frozen hb1 (b := w.heap.size) (by (first | omega | (simp only [zz] at *; omega))); have hs1 : w.heap.size + 1 < w1.heap.size := (by (first | omega | (simp only [zz] at *; omega))); have ho1 := own_cell hb1 (b := w.heap.size + 1) (by (first | omega | (simp only [zz] at *; omega))); have hq1 := own_frozen hb1 (b := w.heap.size + 1) (by (first | omega | (simp only [zz] at *; omega))); have hlt1 : ∀ b, b < w.heap.size → b < w1.heap.size := fun b hb => (by (first | omega | (simp only [zz] at *; omega))); have hc1 : ∀ b o, b < w.heap.size → w1.cell? ⟨b, o, none⟩ = w.cell? ⟨b, o, none⟩ := old_cell (by (repeat (first | exact Below.refl _ _ | assumption | refine below_drewN ?_ _ | refine below_drew ?_ | refine below_gr ?_ ?_ _ | refine below_alloc ?_ ?_ _ | refine Below.setCell ?_ ?_ _ | refine below_step ?_ (by assumption) ?_ | omega | (simp only [zz] at *; omega)))))
    | (go_at_call 64; refine (HO.out _ (hA.ext (by (repeat (first | exact Below.refl _ _ | assumption | refine below_drewN ?_ _ | refine below_drew ?_ | refine below_gr ?_ ?_ _ | refine below_alloc ?_ ?_ _ | refine Below.setCell ?_ ?_ _ | refine below_step ?_ (by assumption) ?_ | omega | (simp only [zz] at *; omega)))))).mono ?_; rintro e w2 ⟨AO, cO, rfl, hb2, hRA⟩; replace hb2 := ex_below hb2; have hz2 := hb2.size; (try simp only [zz] at hz2); have hs2 : w.heap.size < w2.heap.size := (by (first | omega | (simp only [zz] at *; omega))); have ho2 := own_cell hb2 (b := w.heap.size) (by (first | omega | (simp only [zz] at *; omega))); have hq2 := own_frozen hb2 (b := w.heap.size) (by (first | omega | (simp only [zz] at *; omega))); have hs2 : w.heap.size + 1 < w2.heap.size := (by (first | omega | (simp only [zz] at *; omega))); have ho2 := own_cell hb2 (b := w.heap.size + 1) (by (first | omega | (simp only [zz] at *; omega))); have hq2 := own_frozen hb2 (b := w.heap.size + 1) (by (first | omega | (simp only [zz] at *; omega))); have hlt2 : ∀ b, b < w.heap.size → b < w2.heap.size := fun b hb => (by (first | omega | (simp only [zz] at *; omega))); have hc2 : ∀ b o, b < w.heap.size → w2.cell? ⟨b, o, none⟩ = w.cell? ⟨b, o, none⟩ := old_cell (by (repeat (first | exact Below.refl _ _ | assumption | refine below_drewN ?_ _ | refine below_drew ?_ | refine below_gr ?_ ?_ _ | refine below_alloc ?_ ?_ _ | refine Below.setCell ?_ ?_ _ | refine below_step ?_ (by assumption) ?_ | omega | (simp only [zz] at *; omega))))))

  have hbw : Below w.heap.size w w2 := by (repeat (first | exact Below.refl _ _ | assumption | (refine below_gr ?_ (by (first | omega | (simp only [zz] at *; omega))) _) | (refine below_alloc ?_ (by (first | omega | (simp only [zz] at *; omega))) _) | (refine Below.setCell ?_ (by (first | omega | (simp only [zz] at *; omega))) _) | refine below_drewN ?_ _ | refine below_drew ?_ | (refine below_step ?_ (by assumption) (by (first | omega | (simp only [zz] at *; omega))))))
  have hnb : w.heap.size + 1 < w2.heap.size := by assumption
  have e0 : w2.cell? ⟨w.heap.size + 1, 0, none⟩ = some (.slice Y S.length yc) := by simp [go_sem, *]
  replace hY := hY.ext hbw
  have hlen := HLE.out
  have hlen' : (L.length : Int) ≤ 7776 := by omega
  rw [natR_len]
  clear hb1 hb2 hc1 hc2 hlt1 hlt2 hA
  go_loopw [9, 10] (fun n i wr => ∃ k : Nat, k ≤ L.length ∧ i = .int .i64 (k : Nat) ∧ n = .int .i64 ((L.take k).countP (fun o => decide (Bm.wrongN S o ≤ v)) : Nat) ∧ Below w2.heap.size w2 wr) (fun _ i _ => L.length - (intOf i).toNat)
  case atStart => exact ⟨0, Nat.zero_le _, rfl, rfl, Below.refl _ _⟩
  case round =>
    obtain ⟨k, hk, rfl, rfl, hb⟩ := hrel
    have hbz := hb.size
    have e1 := Below.blk hb hnb e0
    have hnr : w.heap.size + 1 < wr.heap.size := by omega
    by_cases hlt : k < L.length
    · obtain ⟨ob, oo, rfl, hol, P, d, hcP, hIP⟩ := rowsA_at (hRA.ext hb) k hlt
      have hmem := List.getElem_mem hlt
      have hYr := hY.ext hb
      have HCS := hide (Bm.count_step L (fun o => decide (Bm.wrongN S o ≤ v)) k hlt)
      have HRO := hide (fun X xc Z zc w' (h1 : I64 w' X (zs S)) (h2 : I64 w' Z (zs L[k])) => HRW.out X xc Z zc L[k] w' hmem h1 h2)
      have hwl := HWL.out _ hmem
      have hcl := Nat.le_trans (List.countP_le_length (p := fun o => decide (Bm.wrongN S o ≤ v)) (l := L.take k)) (List.length_take_le k L)
      clear hmem
      generalize (L.take k).countP (fun o => decide (Bm.wrongN S o ≤ v)) = n at *
      generalize L[k] = o at *
      generalize Bm.wrongN S o = m at *
      by_cases hmv : m ≤ v
      · have hd : (m : Int) ≤ (v : Int) := by omega
        replace HCS := hide (HCS.out.trans (by rw [decide_eq_true hmv]))
        clear hmv
        go_wp2
        refine wp_region_grow (by kernel_rfl) (by kernel_rfl) ?_
        repeat (go_big_quiet_step ((go_at_call 51; exact Gives.quiet (HRO.out _ _ _ _ _ (hYr.ext (by (repeat (first | exact Below.refl _ _ | assumption | refine below_drewN ?_ _ | refine below_drew ?_ | refine below_gr ?_ ?_ _ | refine below_alloc ?_ ?_ _ | refine Below.setCell ?_ ?_ _ | refine below_step ?_ (by assumption) ?_ | omega | (simp only [zz] at *; omega))))) (hIP.ext (by (repeat (first | exact Below.refl _ _ | assumption | refine below_drewN ?_ _ | refine below_drew ?_ | refine below_gr ?_ ?_ _ | refine below_alloc ?_ ?_ _ | refine Below.setCell ?_ ?_ _ | refine below_step ?_ (by assumption) ?_ | omega | (simp only [zz] at *; omega)))))))))
        refine wpQuiet_nil ?_
        intro w5 hb5
        replace hb5 := ex_below hb5
        have hz5 := hb5.size
        (try simp only [zz] at hz5)
        have hlt5 : ∀ b, b < wr.heap.size → b < w5.heap.size := fun b hb => (by (first | omega | (simp only [zz] at *; omega)))
        have hc5 : ∀ b o, b < wr.heap.size → w5.cell? ⟨b, o, none⟩ = wr.cell? ⟨b, o, none⟩ := old_cell (by (repeat (first | exact Below.refl _ _ | assumption | refine below_drewN ?_ _ | refine below_drew ?_ | refine below_gr ?_ ?_ _ | refine below_alloc ?_ ?_ _ | refine Below.setCell ?_ ?_ _ | refine below_step ?_ (by assumption) ?_ | omega | (simp only [zz] at *; omega))))
        go_wp2
        exact ⟨⟨k + 1, by omega, by go_num, by rw [HCS.out]; rfl, hb.trans (hb5.mono hbz)⟩, by simp [intOf]; omega⟩
      · have hd : ¬ (m : Int) ≤ (v : Int) := by omega
        replace HCS := hide (HCS.out.trans (by rw [decide_eq_false hmv]))
        clear hmv
        go_wp2
        refine wp_region_grow (by kernel_rfl) (by kernel_rfl) ?_
        repeat (go_big_quiet_step ((go_at_call 51; exact Gives.quiet (HRO.out _ _ _ _ _ (hYr.ext (by (repeat (first | exact Below.refl _ _ | assumption | refine below_drewN ?_ _ | refine below_drew ?_ | refine below_gr ?_ ?_ _ | refine below_alloc ?_ ?_ _ | refine Below.setCell ?_ ?_ _ | refine below_step ?_ (by assumption) ?_ | omega | (simp only [zz] at *; omega))))) (hIP.ext (by (repeat (first | exact Below.refl _ _ | assumption | refine below_drewN ?_ _ | refine below_drew ?_ | refine below_gr ?_ ?_ _ | refine below_alloc ?_ ?_ _ | refine Below.setCell ?_ ?_ _ | refine below_step ?_ (by assumption) ?_ | omega | (simp only [zz] at *; omega)))))))))
        refine wpQuiet_nil ?_
        intro w5 hb5
        replace hb5 := ex_below hb5
        have hz5 := hb5.size
        (try simp only [zz] at hz5)
        have hlt5 : ∀ b, b < wr.heap.size → b < w5.heap.size := fun b hb => (by (first | omega | (simp only [zz] at *; omega)))
        have hc5 : ∀ b o, b < wr.heap.size → w5.cell? ⟨b, o, none⟩ = wr.cell? ⟨b, o, none⟩ := old_cell (by (repeat (first | exact Below.refl _ _ | assumption | refine below_drewN ?_ _ | refine below_drew ?_ | refine below_gr ?_ ?_ _ | refine below_alloc ?_ ?_ _ | refine Below.setCell ?_ ?_ _ | refine below_step ?_ (by assumption) ?_ | omega | (simp only [zz] at *; omega))))
        go_wp2
        exact ⟨⟨k + 1, by omega, by go_num, by rw [HCS.out]; rfl, hb.trans (hb5.mono hbz)⟩, by simp [intOf]; omega⟩
    · have hkl : k = L.length := by omega
      have hv := hide (show (L.take k).countP (fun o => decide (Bm.wrongN S o ≤ v)) = L.countP (fun o => decide (Bm.wrongN S o ≤ v)) by rw [hkl, List.take_length])
      clear hkl
      generalize (L.take k).countP (fun o => decide (Bm.wrongN S o ≤ v)) = n at *
      go_wp2
      go_ret2
      exact gives_of (by rw [← hv.out]; rfl) (by (repeat (first | exact Below.refl _ _ | assumption | refine below_drewN ?_ _ | refine below_drew ?_ | refine below_gr ?_ ?_ _ | refine below_alloc ?_ ?_ _ | refine Below.setCell ?_ ?_ _ | refine below_step ?_ (by assumption) ?_ | omega | (simp only [zz] at *; omega))))
end Go.Proofs.Ytlbkaeoagdbemaa
