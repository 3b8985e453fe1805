/- Proved here: the tests of a map; the errors of a map, a part of the proofs about the box laws. Conditions: those that each theorem names, no others. -/
import Derived.Test.YtlbkaeoagdbemaaP22
import Derived.WalkKit
import Derived.WalkSpells
import Derived.WalkLawsBesides
import Derived.Below
import Derived.Deep.QuietTactic
import Derived.BigQuiet
import Derived.Deep.Light
set_option linter.unusedSimpArgs false
set_option linter.unusedVariables false
namespace Go.Proofs.Ytlbkaeoagdbemaa
open Go.RowKit Go.Maps
def negB (t : Tz) : Bool := decide (t.2 < 0)
/-- a ticket of n small sets -/
def boxy (n : Nat) (t : Tz) : Prop := ∃ T : List Nat, t.1 = zs T ∧ T.length = n ∧ ∀ s, s ∈ T → s < 64
def meetN (P : List Nat) (t : Tz) : Bool := meetB P (t.1.map Int.toNat)
def crossN (P : List Nat) (t : Tz) : Bool := meetB (t.1.map Int.toNat) P && !hasB (t.1.map Int.toNat) P
set_option maxRecDepth 100000 in
set_option maxHeartbeats 1000000 in
theorem cm1_any (S : Option Addr) (t : Tz) (c : Nat) (w : World) :
    Calls Try.prog 66 #[.agg #[.slice S t.1.length c, .int .i64 t.2]] w (Gives w (.bool (negB t))) := by
  go_enter Try.func66, Try.ntmps66
  go_wp2
  go_ret
  exact gives_of (v_bool rfl) (by (repeat (first | exact Below.refl _ _ | assumption | refine below_drewN ?_ _ | refine below_drew ?_ | refine below_gr ?_ ?_ _ | refine below_alloc ?_ ?_ _ | refine Below.setCell ?_ ?_ _ | refine below_step ?_ (by assumption) ?_ | omega | (simp only [zz] at *; omega))))

set_option maxRecDepth 100000 in
set_option maxHeartbeats 1000000 in
theorem cm2_any (S : Option Addr) (t : Tz) (c : Nat) (w : World) (hS : I64 w S t.1) (C : Option Addr) (P : List Nat) (pc : Nat) (b : Nat) (hb0 : b < w.heap.size) (hc : w.cell? ⟨b, 0, none⟩ = some (.slice C P.length pc)) (hC : I64 w C (zs P)) (hP5 : P.length ≤ 5) (hP : ∀ s, s ∈ P → s < 64) (hx : boxy P.length t) :
    Calls Try.prog 67 #[.agg #[.slice S t.1.length c, .int .i64 t.2], .pointer (some ⟨b, 0, none⟩)] w (Gives w (.bool (meetN P t))) := by
  obtain ⟨x, u⟩ := t
  obtain ⟨T, hT, hTl, hT6⟩ := hx
  simp only at hT hS
  subst hT
  have HME := hide (fun w' h1 h2 => meet_any C P pc S T c w' h1 h2 (by omega) (by omega) hP hT6)
  rw [show meetN P (zs T, u) = meetB P T by simp only [meetN, zs_nat]]
  simp only [zs_len]
  clear hTl
  go_enter Try.func67, Try.ntmps67
  go_wp2_with (first
    | (go_at_call 68; refine (HME.out _ (hC.ext (by (repeat (first | exact Below.refl _ _ | assumption | refine below_drewN ?_ _ | refine below_drew ?_ | refine below_gr ?_ ?_ _ | refine below_alloc ?_ ?_ _ | refine Below.setCell ?_ ?_ _ | refine below_step ?_ (by assumption) ?_ | omega | (simp only [zz] at *; omega))))) (hS.ext (by (repeat (first | exact Below.refl _ _ | assumption | refine below_drewN ?_ _ | refine below_drew ?_ | refine below_gr ?_ ?_ _ | refine below_alloc ?_ ?_ _ | refine Below.setCell ?_ ?_ _ | refine below_step ?_ (by assumption) ?_ | omega | (simp only [zz] at *; omega)))))).mono ?_; rintro e w1 ⟨rfl, hb1⟩; replace hb1 := ex_below hb1))

  go_ret
  exact gives_of (rfl) (by (repeat (first | exact Below.refl _ _ | assumption | refine below_drewN ?_ _ | refine below_drew ?_ | refine below_gr ?_ ?_ _ | refine below_alloc ?_ ?_ _ | refine Below.setCell ?_ ?_ _ | refine below_step ?_ (by assumption) ?_ | omega | (simp only [zz] at *; omega))))

set_option maxRecDepth 100000 in
set_option maxHeartbeats 1000000 in
theorem cm3_any (S : Option Addr) (t : Tz) (c : Nat) (w : World) (hS : I64 w S t.1) (C : Option Addr) (P : List Nat) (pc : Nat) (b : Nat) (hb0 : b < w.heap.size) (hc : w.cell? ⟨b, 0, none⟩ = some (.slice C P.length pc)) (hC : I64 w C (zs P)) (hP5 : P.length ≤ 5) (hP : ∀ s, s ∈ P → s < 64) (hx : boxy P.length t) :
    Calls Try.prog 69 #[.agg #[.slice S t.1.length c, .int .i64 t.2], .pointer (some ⟨b, 0, none⟩)] w (Gives w (.bool (crossN P t))) := by
  obtain ⟨x, u⟩ := t
  obtain ⟨T, hT, hTl, hT6⟩ := hx
  simp only at hT hS
  subst hT
  have HME := hide (fun w' h1 h2 => meet_any S T c C P pc w' h1 h2 (by omega) (by omega) hT6 hP)
  have HHS := hide (fun w' h1 h2 => has_any S T c C P pc w' h1 h2 (by omega) (by omega) hT6 hP)
  rw [show crossN P (zs T, u) = (meetB T P && !hasB T P) by simp only [crossN, zs_nat]]
  simp only [zs_len]
  clear hTl
  cases hm : meetB T P
  all_goals
    rw [hm] at HME
    go_enter Try.func69, Try.ntmps69
    go_wp2_with (first
    | (go_at_call 68; refine (HME.out _ (hS.ext (by (repeat (first | exact Below.refl _ _ | assumption | refine below_drewN ?_ _ | refine below_drew ?_ | refine below_gr ?_ ?_ _ | refine below_alloc ?_ ?_ _ | refine Below.setCell ?_ ?_ _ | refine below_step ?_ (by assumption) ?_ | omega | (simp only [zz] at *; omega))))) (hC.ext (by (repeat (first | exact Below.refl _ _ | assumption | refine below_drewN ?_ _ | refine below_drew ?_ | refine below_gr ?_ ?_ _ | refine below_alloc ?_ ?_ _ | refine Below.setCell ?_ ?_ _ | refine below_step ?_ (by assumption) ?_ | omega | (simp only [zz] at *; omega)))))).mono ?_; rintro e w1 ⟨rfl, hb1⟩; replace hb1 := ex_below hb1; have hz1 := hb1.size; have hc1 := own_cell hb1 (b := w.heap.size) (by (first | omega | (simp only [zz]; omega) | (simp only [zz] at *; omega) | (simp; done) | (simp; omega))); have bw : Below w.heap.size w w1 := (by (repeat (first | exact Below.refl _ _ | assumption | refine below_drewN ?_ _ | refine below_drew ?_ | refine below_gr ?_ ?_ _ | refine below_alloc ?_ ?_ _ | refine Below.setCell ?_ ?_ _ | refine below_step ?_ (by assumption) ?_ | omega | (simp only [zz] at *; omega)))); have hcb1 := (bw.cell (p := ⟨b, 0, none⟩) hb0).trans hc)
    | (go_at_call 70; refine (HHS.out _ (hS.ext (by (repeat (first | exact Below.refl _ _ | assumption | refine below_drewN ?_ _ | refine below_drew ?_ | refine below_gr ?_ ?_ _ | refine below_alloc ?_ ?_ _ | refine Below.setCell ?_ ?_ _ | refine below_step ?_ (by assumption) ?_ | omega | (simp only [zz] at *; omega))))) (hC.ext (by (repeat (first | exact Below.refl _ _ | assumption | refine below_drewN ?_ _ | refine below_drew ?_ | refine below_gr ?_ ?_ _ | refine below_alloc ?_ ?_ _ | refine Below.setCell ?_ ?_ _ | refine below_step ?_ (by assumption) ?_ | omega | (simp only [zz] at *; omega)))))).mono ?_; rintro e w2 ⟨rfl, hb2⟩; replace hb2 := ex_below hb2))

    go_ret
    exact gives_of (v_bool (by simp)) (by (repeat (first | exact Below.refl _ _ | assumption | refine below_drewN ?_ _ | refine below_drew ?_ | refine below_gr ?_ ?_ _ | refine below_alloc ?_ ?_ _ | refine Below.setCell ?_ ?_ _ | refine below_step ?_ (by assumption) ?_ | omega | (simp only [zz] at *; omega))))
set_option maxRecDepth 100000 in
set_option maxHeartbeats 1000000 in
theorem indexM1_any (B : Option Addr) (ts : List Tz) (d : Nat) (w : World) (hB : Tks w B ts) (hl : ts.length ≤ 1000000) :
    Calls Try.prog 84 #[.slice B ts.length d, .func (.func 66) #[] #[]] w (Gives w (.int .i64 (idxI (negB) ts))) := by
  go_enter Try.func84, Try.ntmps84
  go_wp2
  go_loopw [8] (fun i wr => ∃ k : Nat, k ≤ ts.length ∧ i = .int .i64 k ∧ (ts.take k).all (fun x => !(negB) x) = true ∧ Grew w wr) (fun i _ => ts.length - (intOf i).toNat)
  case atStart => exact ⟨0, Nat.zero_le _, rfl, rfl, grew_refl _⟩
  case round =>
    obtain ⟨k, hk, rfl, hall, hb⟩ := hrel
    replace hb := hb.below
    have hzr := hb.size
    (try simp only [zz] at hzr)
    have hltr : ∀ b, b < w.heap.size → b < wr.heap.size := fun b hb => (by (first | omega | (simp only [zz] at *; omega)))
    have hcr : ∀ b o, b < w.heap.size → wr.cell? ⟨b, o, none⟩ = w.cell? ⟨b, o, none⟩ := old_cell (by (repeat (first | exact Below.refl _ _ | assumption | refine below_drewN ?_ _ | refine below_drew ?_ | refine below_gr ?_ ?_ _ | refine below_alloc ?_ ?_ _ | refine Below.setCell ?_ ?_ _ | refine below_step ?_ (by assumption) ?_ | omega | (simp only [zz] at *; omega))))
    by_cases hlt : k < ts.length
    · obtain ⟨tb, toff, rfl, htl⟩ := hB.form (by omega)
      obtain ⟨S, sc, ht0, ht1, hsc, hSx⟩ := hB.at hlt
      have hSr := hSx.ext hb
      have HG := hide (all_good (f := fun x => !(negB) x) hlt hall)
      have HI := hide (idxI_at (negB) ts k hlt hall)
      have hmem := hide (List.getElem_mem hlt)
      clear hall
      generalize ts[k] = x at *
      go_wp2_with (go_at_call 66; refine (cm1_any S x sc _).mono ?_; rintro e w1 ⟨rfl, hb1⟩; replace hb1 := ex_below hb1; have hz1 := hb1.size; (try simp only [zz] at hz1); have hlt1 : ∀ b, b < w.heap.size → b < w1.heap.size := fun b hb => (by (first | omega | (simp only [zz] at *; omega))); have hc1 : ∀ b o, b < w.heap.size → w1.cell? ⟨b, o, none⟩ = w.cell? ⟨b, o, none⟩ := old_cell (by (repeat (first | exact Below.refl _ _ | assumption | refine below_drewN ?_ _ | refine below_drew ?_ | refine below_gr ?_ ?_ _ | refine below_alloc ?_ ?_ _ | refine Below.setCell ?_ ?_ _ | refine below_step ?_ (by assumption) ?_ | omega | (simp only [zz] at *; omega)))))
      · go_ret
        exact gives_of (v_int (HI.out (by first | assumption | (simp_all; done))).symm) (by (repeat (first | exact Below.refl _ _ | assumption | refine below_drewN ?_ _ | refine below_drew ?_ | refine below_gr ?_ ?_ _ | refine below_alloc ?_ ?_ _ | refine Below.setCell ?_ ?_ _ | refine below_step ?_ (by assumption) ?_ | omega | (simp only [zz] at *; omega))))
      · exact ⟨⟨k + 1, by omega, by go_num, HG.out (by simp_all), grew_of (by (repeat (first | exact Below.refl _ _ | assumption | refine below_drewN ?_ _ | refine below_drew ?_ | refine below_gr ?_ ?_ _ | refine below_alloc ?_ ?_ _ | refine Below.setCell ?_ ?_ _ | refine below_step ?_ (by assumption) ?_ | omega | (simp only [zz] at *; omega))))⟩, by simp [intOf]; omega⟩
    · have hkl : k = ts.length := by omega
      subst hkl
      have H2 := hide (idxI_none (negB) ts (by simpa using hall))
      clear hall
      go_wp2
      go_ret
      exact gives_of (v_int H2.out.symm) (by (repeat (first | exact Below.refl _ _ | assumption | refine below_drewN ?_ _ | refine below_drew ?_ | refine below_gr ?_ ?_ _ | refine below_alloc ?_ ?_ _ | refine Below.setCell ?_ ?_ _ | refine below_step ?_ (by assumption) ?_ | omega | (simp only [zz] at *; omega))))

set_option maxRecDepth 100000 in
set_option maxHeartbeats 1000000 in
theorem indexM2_any (B : Option Addr) (ts : List Tz) (d : Nat) (w : World) (hB : Tks w B ts) (hl : ts.length ≤ 1000000) (C : Option Addr) (P : List Nat) (pc : Nat) (b : Nat) (hb0 : b < w.heap.size) (hc : w.cell? ⟨b, 0, none⟩ = some (.slice C P.length pc)) (hC : I64 w C (zs P)) (hP5 : P.length ≤ 5) (hP : ∀ s, s ∈ P → s < 64) (hxs : ∀ t, t ∈ ts → boxy P.length t) :
    Calls Try.prog 84 #[.slice B ts.length d, .func (.func 67) #[] #[.pointer (some ⟨b, 0, none⟩)]] w (Gives w (.int .i64 (idxI (meetN P) ts))) := by
  go_enter Try.func84, Try.ntmps84
  go_wp2
  go_loopw [8] (fun i wr => ∃ k : Nat, k ≤ ts.length ∧ i = .int .i64 k ∧ (ts.take k).all (fun x => !(meetN P) x) = true ∧ Grew w wr) (fun i _ => ts.length - (intOf i).toNat)
  case atStart => exact ⟨0, Nat.zero_le _, rfl, rfl, grew_refl _⟩
  case round =>
    obtain ⟨k, hk, rfl, hall, hb⟩ := hrel
    replace hb := hb.below
    have hzr := hb.size
    (try simp only [zz] at hzr)
    have hltr : ∀ b, b < w.heap.size → b < wr.heap.size := fun b hb => (by (first | omega | (simp only [zz] at *; omega)))
    have hcr : ∀ b o, b < w.heap.size → wr.cell? ⟨b, o, none⟩ = w.cell? ⟨b, o, none⟩ := old_cell (by (repeat (first | exact Below.refl _ _ | assumption | refine below_drewN ?_ _ | refine below_drew ?_ | refine below_gr ?_ ?_ _ | refine below_alloc ?_ ?_ _ | refine Below.setCell ?_ ?_ _ | refine below_step ?_ (by assumption) ?_ | omega | (simp only [zz] at *; omega))))
    by_cases hlt : k < ts.length
    · obtain ⟨tb, toff, rfl, htl⟩ := hB.form (by omega)
      obtain ⟨S, sc, ht0, ht1, hsc, hSx⟩ := hB.at hlt
      have hSr := hSx.ext hb
      have HG := hide (all_good (f := fun x => !(meetN P) x) hlt hall)
      have HI := hide (idxI_at (meetN P) ts k hlt hall)
      have hmem := hide (List.getElem_mem hlt)
      have hx1 := hide (hxs ts[k] (List.getElem_mem hlt))
      clear hall
      generalize ts[k] = x at *
      go_wp2_with (go_at_call 67; refine (cm2_any S x sc _ hSr C P pc b (by omega) ((hcr _ _ hb0).trans hc) (hC.ext hb) hP5 hP hx1.out).mono ?_; rintro e w1 ⟨rfl, hb1⟩; replace hb1 := ex_below hb1; have hz1 := hb1.size; (try simp only [zz] at hz1); have hlt1 : ∀ b, b < w.heap.size → b < w1.heap.size := fun b hb => (by (first | omega | (simp only [zz] at *; omega))); have hc1 : ∀ b o, b < w.heap.size → w1.cell? ⟨b, o, none⟩ = w.cell? ⟨b, o, none⟩ := old_cell (by (repeat (first | exact Below.refl _ _ | assumption | refine below_drewN ?_ _ | refine below_drew ?_ | refine below_gr ?_ ?_ _ | refine below_alloc ?_ ?_ _ | refine Below.setCell ?_ ?_ _ | refine below_step ?_ (by assumption) ?_ | omega | (simp only [zz] at *; omega)))))
      · go_ret
        exact gives_of (v_int (HI.out (by first | assumption | (simp_all; done))).symm) (by (repeat (first | exact Below.refl _ _ | assumption | refine below_drewN ?_ _ | refine below_drew ?_ | refine below_gr ?_ ?_ _ | refine below_alloc ?_ ?_ _ | refine Below.setCell ?_ ?_ _ | refine below_step ?_ (by assumption) ?_ | omega | (simp only [zz] at *; omega))))
      · exact ⟨⟨k + 1, by omega, by go_num, HG.out (by simp_all), grew_of (by (repeat (first | exact Below.refl _ _ | assumption | refine below_drewN ?_ _ | refine below_drew ?_ | refine below_gr ?_ ?_ _ | refine below_alloc ?_ ?_ _ | refine Below.setCell ?_ ?_ _ | refine below_step ?_ (by assumption) ?_ | omega | (simp only [zz] at *; omega))))⟩, by simp [intOf]; omega⟩
    · have hkl : k = ts.length := by omega
      subst hkl
      have H2 := hide (idxI_none (meetN P) ts (by simpa using hall))
      clear hall
      go_wp2
      go_ret
      exact gives_of (v_int H2.out.symm) (by (repeat (first | exact Below.refl _ _ | assumption | refine below_drewN ?_ _ | refine below_drew ?_ | refine below_gr ?_ ?_ _ | refine below_alloc ?_ ?_ _ | refine Below.setCell ?_ ?_ _ | refine below_step ?_ (by assumption) ?_ | omega | (simp only [zz] at *; omega))))

set_option maxRecDepth 100000 in
set_option maxHeartbeats 1000000 in
theorem indexM3_any (B : Option Addr) (ts : List Tz) (d : Nat) (w : World) (hB : Tks w B ts) (hl : ts.length ≤ 1000000) (C : Option Addr) (P : List Nat) (pc : Nat) (b : Nat) (hb0 : b < w.heap.size) (hc : w.cell? ⟨b, 0, none⟩ = some (.slice C P.length pc)) (hC : I64 w C (zs P)) (hP5 : P.length ≤ 5) (hP : ∀ s, s ∈ P → s < 64) (hxs : ∀ t, t ∈ ts → boxy P.length t) :
    Calls Try.prog 84 #[.slice B ts.length d, .func (.func 69) #[] #[.pointer (some ⟨b, 0, none⟩)]] w (Gives w (.int .i64 (idxI (crossN P) ts))) := by
  go_enter Try.func84, Try.ntmps84
  go_wp2
  go_loopw [8] (fun i wr => ∃ k : Nat, k ≤ ts.length ∧ i = .int .i64 k ∧ (ts.take k).all (fun x => !(crossN P) x) = true ∧ Grew w wr) (fun i _ => ts.length - (intOf i).toNat)
  case atStart => exact ⟨0, Nat.zero_le _, rfl, rfl, grew_refl _⟩
  case round =>
    obtain ⟨k, hk, rfl, hall, hb⟩ := hrel
    replace hb := hb.below
    have hzr := hb.size
    (try simp only [zz] at hzr)
    have hltr : ∀ b, b < w.heap.size → b < wr.heap.size := fun b hb => (by (first | omega | (simp only [zz] at *; omega)))
    have hcr : ∀ b o, b < w.heap.size → wr.cell? ⟨b, o, none⟩ = w.cell? ⟨b, o, none⟩ := old_cell (by (repeat (first | exact Below.refl _ _ | assumption | refine below_drewN ?_ _ | refine below_drew ?_ | refine below_gr ?_ ?_ _ | refine below_alloc ?_ ?_ _ | refine Below.setCell ?_ ?_ _ | refine below_step ?_ (by assumption) ?_ | omega | (simp only [zz] at *; omega))))
    by_cases hlt : k < ts.length
    · obtain ⟨tb, toff, rfl, htl⟩ := hB.form (by omega)
      obtain ⟨S, sc, ht0, ht1, hsc, hSx⟩ := hB.at hlt
      have hSr := hSx.ext hb
      have HG := hide (all_good (f := fun x => !(crossN P) x) hlt hall)
      have HI := hide (idxI_at (crossN P) ts k hlt hall)
      have hmem := hide (List.getElem_mem hlt)
      have hx1 := hide (hxs ts[k] (List.getElem_mem hlt))
      clear hall
      generalize ts[k] = x at *
      go_wp2_with (go_at_call 69; refine (cm3_any S x sc _ hSr C P pc b (by omega) ((hcr _ _ hb0).trans hc) (hC.ext hb) hP5 hP hx1.out).mono ?_; rintro e w1 ⟨rfl, hb1⟩; replace hb1 := ex_below hb1; have hz1 := hb1.size; (try simp only [zz] at hz1); have hlt1 : ∀ b, b < w.heap.size → b < w1.heap.size := fun b hb => (by (first | omega | (simp only [zz] at *; omega))); have hc1 : ∀ b o, b < w.heap.size → w1.cell? ⟨b, o, none⟩ = w.cell? ⟨b, o, none⟩ := old_cell (by (repeat (first | exact Below.refl _ _ | assumption | refine below_drewN ?_ _ | refine below_drew ?_ | refine below_gr ?_ ?_ _ | refine below_alloc ?_ ?_ _ | refine Below.setCell ?_ ?_ _ | refine below_step ?_ (by assumption) ?_ | omega | (simp only [zz] at *; omega)))))
      · go_ret
        exact gives_of (v_int (HI.out (by first | assumption | (simp_all; done))).symm) (by (repeat (first | exact Below.refl _ _ | assumption | refine below_drewN ?_ _ | refine below_drew ?_ | refine below_gr ?_ ?_ _ | refine below_alloc ?_ ?_ _ | refine Below.setCell ?_ ?_ _ | refine below_step ?_ (by assumption) ?_ | omega | (simp only [zz] at *; omega))))
      · exact ⟨⟨k + 1, by omega, by go_num, HG.out (by simp_all), grew_of (by (repeat (first | exact Below.refl _ _ | assumption | refine below_drewN ?_ _ | refine below_drew ?_ | refine below_gr ?_ ?_ _ | refine below_alloc ?_ ?_ _ | refine Below.setCell ?_ ?_ _ | refine below_step ?_ (by assumption) ?_ | omega | (simp only [zz] at *; omega))))⟩, by simp [intOf]; omega⟩
    · have hkl : k = ts.length := by omega
      subst hkl
      have H2 := hide (idxI_none (crossN P) ts (by simpa using hall))
      clear hall
      go_wp2
      go_ret
      exact gives_of (v_int H2.out.symm) (by (repeat (first | exact Below.refl _ _ | assumption | refine below_drewN ?_ _ | refine below_drew ?_ | refine below_gr ?_ ?_ _ | refine below_alloc ?_ ?_ _ | refine Below.setCell ?_ ?_ _ | refine below_step ?_ (by assumption) ?_ | omega | (simp only [zz] at *; omega))))

set_option maxRecDepth 100000 in
set_option maxHeartbeats 1000000 in
theorem containsM1_any (B : Option Addr) (ts : List Tz) (d : Nat) (w : World) (hB : Tks w B ts) (hl : ts.length ≤ 1000000) :
    Calls Try.prog 58 #[.slice B ts.length d, .func (.func 66) #[] #[]] w (Gives w (.bool (ts.any (negB)))) := by
  go_enter Try.func58, Try.ntmps58
  go_wp2_with (go_at_call 84; refine (indexM1_any B ts d _ hB hl).mono ?_; rintro e w1 ⟨rfl, hb1⟩; replace hb1 := ex_below hb1; have hz1 := hb1.size; (try simp only [zz] at hz1); have hlt1 : ∀ b, b < w.heap.size → b < w1.heap.size := fun b hb => (by (first | omega | (simp only [zz] at *; omega))); have hc1 : ∀ b o, b < w.heap.size → w1.cell? ⟨b, o, none⟩ = w.cell? ⟨b, o, none⟩ := old_cell (by (repeat (first | exact Below.refl _ _ | assumption | refine below_drewN ?_ _ | refine below_drew ?_ | refine below_gr ?_ ?_ _ | refine below_alloc ?_ ?_ _ | refine Below.setCell ?_ ?_ _ | refine below_step ?_ (by assumption) ?_ | omega | (simp only [zz] at *; omega)))))
  go_ret
  exact gives_of (v_bool (idxI_ge _ _)) (by (repeat (first | exact Below.refl _ _ | assumption | refine below_drewN ?_ _ | refine below_drew ?_ | refine below_gr ?_ ?_ _ | refine below_alloc ?_ ?_ _ | refine Below.setCell ?_ ?_ _ | refine below_step ?_ (by assumption) ?_ | omega | (simp only [zz] at *; omega))))

set_option maxRecDepth 100000 in
set_option maxHeartbeats 1000000 in
theorem containsM2_any (B : Option Addr) (ts : List Tz) (d : Nat) (w : World) (hB : Tks w B ts) (hl : ts.length ≤ 1000000) (C : Option Addr) (P : List Nat) (pc : Nat) (b : Nat) (hb0 : b < w.heap.size) (hc : w.cell? ⟨b, 0, none⟩ = some (.slice C P.length pc)) (hC : I64 w C (zs P)) (hP5 : P.length ≤ 5) (hP : ∀ s, s ∈ P → s < 64) (hxs : ∀ t, t ∈ ts → boxy P.length t) :
    Calls Try.prog 58 #[.slice B ts.length d, .func (.func 67) #[] #[.pointer (some ⟨b, 0, none⟩)]] w (Gives w (.bool (ts.any (meetN P)))) := by
  go_enter Try.func58, Try.ntmps58
  go_wp2_with (go_at_call 84; refine (indexM2_any B ts d _ hB hl C P pc b hb0 hc hC hP5 hP hxs).mono ?_; rintro e w1 ⟨rfl, hb1⟩; replace hb1 := ex_below hb1; have hz1 := hb1.size; (try simp only [zz] at hz1); have hlt1 : ∀ b, b < w.heap.size → b < w1.heap.size := fun b hb => (by (first | omega | (simp only [zz] at *; omega))); have hc1 : ∀ b o, b < w.heap.size → w1.cell? ⟨b, o, none⟩ = w.cell? ⟨b, o, none⟩ := old_cell (by (repeat (first | exact Below.refl _ _ | assumption | refine below_drewN ?_ _ | refine below_drew ?_ | refine below_gr ?_ ?_ _ | refine below_alloc ?_ ?_ _ | refine Below.setCell ?_ ?_ _ | refine below_step ?_ (by assumption) ?_ | omega | (simp only [zz] at *; omega)))))
  go_ret
  exact gives_of (v_bool (idxI_ge _ _)) (by (repeat (first | exact Below.refl _ _ | assumption | refine below_drewN ?_ _ | refine below_drew ?_ | refine below_gr ?_ ?_ _ | refine below_alloc ?_ ?_ _ | refine Below.setCell ?_ ?_ _ | refine below_step ?_ (by assumption) ?_ | omega | (simp only [zz] at *; omega))))

set_option maxRecDepth 100000 in
set_option maxHeartbeats 1000000 in
theorem containsM3_any (B : Option Addr) (ts : List Tz) (d : Nat) (w : World) (hB : Tks w B ts) (hl : ts.length ≤ 1000000) (C : Option Addr) (P : List Nat) (pc : Nat) (b : Nat) (hb0 : b < w.heap.size) (hc : w.cell? ⟨b, 0, none⟩ = some (.slice C P.length pc)) (hC : I64 w C (zs P)) (hP5 : P.length ≤ 5) (hP : ∀ s, s ∈ P → s < 64) (hxs : ∀ t, t ∈ ts → boxy P.length t) :
    Calls Try.prog 58 #[.slice B ts.length d, .func (.func 69) #[] #[.pointer (some ⟨b, 0, none⟩)]] w (Gives w (.bool (ts.any (crossN P)))) := by
  go_enter Try.func58, Try.ntmps58
  go_wp2_with (go_at_call 84; refine (indexM3_any B ts d _ hB hl C P pc b hb0 hc hC hP5 hP hxs).mono ?_; rintro e w1 ⟨rfl, hb1⟩; replace hb1 := ex_below hb1; have hz1 := hb1.size; (try simp only [zz] at hz1); have hlt1 : ∀ b, b < w.heap.size → b < w1.heap.size := fun b hb => (by (first | omega | (simp only [zz] at *; omega))); have hc1 : ∀ b o, b < w.heap.size → w1.cell? ⟨b, o, none⟩ = w.cell? ⟨b, o, none⟩ := old_cell (by (repeat (first | exact Below.refl _ _ | assumption | refine below_drewN ?_ _ | refine below_drew ?_ | refine below_gr ?_ ?_ _ | refine below_alloc ?_ ?_ _ | refine Below.setCell ?_ ?_ _ | refine below_step ?_ (by assumption) ?_ | omega | (simp only [zz] at *; omega)))))
  go_ret
  exact gives_of (v_bool (idxI_ge _ _)) (by (repeat (first | exact Below.refl _ _ | assumption | refine below_drewN ?_ _ | refine below_drew ?_ | refine below_gr ?_ ?_ _ | refine below_alloc ?_ ?_ _ | refine Below.setCell ?_ ?_ _ | refine below_step ?_ (by assumption) ?_ | omega | (simp only [zz] at *; omega))))


end Go.Proofs.Ytlbkaeoagdbemaa
namespace Go.Proofs.Ytlbkaeoagdbemaa
open Go.RowKit Go.Maps
theorem okR {R : List Nat} {ts : List Bm.Tk} (hok : Ok R ts) : ∀ k, (h : k < (zs R).length) → 1 ≤ (zs R)[k] ∧ (zs R)[k] ≤ 6 := fun k h => by
  have hk : k < R.length := by rwa [zs_len] at h
  have h1 := hok.r1 _ (List.getElem_mem hk)
  have h2 := hok.r6 _ (List.getElem_mem hk)
  rw [show (zs R)[k] = ((R[k] : Nat) : Int) by simp [zs]]
  omega
set_option maxRecDepth 100000 in
set_option maxHeartbeats 1000000 in
theorem cmap_bad (A : Option Addr) (R : List Int) (rc : Nat) (B : Option Addr) (ts : List Tz) (d : Nat) (w : World) (hA : I64 w A R) (hB : Tks w B ts) (hR2 : R.length ≤ 1000000) (hl : ts.length ≤ 1000000) (hts : ∀ t, t ∈ ts → t.1.length ≤ 1000000) (h0 : chkT R ts ≠ 0) (D : Option Addr) (n dd : Nat) :
    Calls Try.prog 30 #[.agg #[.slice A R.length rc], .slice B ts.length d, .slice D n dd] w (Gives w (.int .i64 (chkT R ts))) := by
  have HOP := hide (fun w' (h1 : I64 w' A R) (h2 : Tks w' B ts) => open_bad A R rc B ts d w' h1 h2 hR2 hl hts h0)
  have H0 := hide h0
  clear h0
  generalize chkT R ts = ec at *
  have hne : ec ≠ 0 := H0.out
  have hneb : (ec != 0) = true := by simp [hne]
  go_enter Try.func30, Try.ntmps30
  go_wp2_with (first
    | (go_at_call 61; refine (HOP.out _ (hA.ext (by (repeat (first | exact Below.refl _ _ | assumption | refine below_drewN ?_ _ | refine below_drew ?_ | refine below_gr ?_ ?_ _ | refine below_alloc ?_ ?_ _ | refine Below.setCell ?_ ?_ _ | refine below_step ?_ (by assumption) ?_ | omega | (simp only [zz] at *; omega))))) (hB.ext (by (repeat (first | exact Below.refl _ _ | assumption | refine below_drewN ?_ _ | refine below_drew ?_ | refine below_gr ?_ ?_ _ | refine below_alloc ?_ ?_ _ | refine Below.setCell ?_ ?_ _ | refine below_step ?_ (by assumption) ?_ | omega | (simp only [zz] at *; omega)))))).mono ?_; rintro e w1 ⟨rfl, hb1⟩; replace hb1 := ex_below hb1; have hz1 := hb1.size))

  go_ret
  exact gives_of (rfl) (by (repeat (first | exact Below.refl _ _ | assumption | refine below_drewN ?_ _ | refine below_drew ?_ | refine below_gr ?_ ?_ _ | refine below_alloc ?_ ?_ _ | refine Below.setCell ?_ ?_ _ | refine below_step ?_ (by assumption) ?_ | omega | (simp only [zz] at *; omega))))
set_option maxRecDepth 100000 in
set_option maxHeartbeats 1000000 in
theorem cmap_many (A : Option Addr) (R : List Nat) (rc : Nat) (B : Option Addr) (ts : List Bm.Tk) (d : Nat) (D : Option Addr) (ps : List Tz) (dd : Nat) (w : World) (hA : I64 w A (zs R)) (hB : Tks w B (tz ts)) (hD : Tks w D ps) (hl : ps.length ≤ 1000000) (hps : ∀ t, t ∈ ps → t.1.length ≤ 1000000) (hok : Ok R ts) (h : 7776 < ps.length) :
    Calls Try.prog 30 #[.agg #[.slice A R.length rc], .slice B ts.length d, .slice D ps.length dd] w (Gives w (.int .i64 6)) := by
  have hlb : (7776 : Int) < (ps.length : Int) := by omega
  have HOP := hide (fun w' (h1 : I64 w' A (zs R)) (h2 : Tks w' B (tz ts)) => opens_n A R rc B ts d w' h1 h2 hok)
  go_enter Try.func30, Try.ntmps30
  go_wp2_with (first
    | (go_at_call 61; refine (HOP.out _ (hA.ext (by (repeat (first | exact Below.refl _ _ | assumption | refine below_drewN ?_ _ | refine below_drew ?_ | refine below_gr ?_ ?_ _ | refine below_alloc ?_ ?_ _ | refine Below.setCell ?_ ?_ _ | refine below_step ?_ (by assumption) ?_ | omega | (simp only [zz] at *; omega))))) (hB.ext (by (repeat (first | exact Below.refl _ _ | assumption | refine below_drewN ?_ _ | refine below_drew ?_ | refine below_gr ?_ ?_ _ | refine below_alloc ?_ ?_ _ | refine Below.setCell ?_ ?_ _ | refine below_step ?_ (by assumption) ?_ | omega | (simp only [zz] at *; omega)))))).mono ?_; rintro e w1 ⟨s, rfl, hb1, hs1, hS1⟩; replace hb1 := ex_below hb1; have hz1 := hb1.size; (try simp only [World.size_alloc] at hz1); have hc1 := own_cell hb1 (b := w.heap.size) (by (first | omega | (simp only [zz]; omega) | (simp only [zz] at *; omega) | (simp; done) | (simp; omega)))))

  go_ret
  exact gives_of (rfl) (by (repeat (first | exact Below.refl _ _ | assumption | refine below_drewN ?_ _ | refine below_drew ?_ | refine below_gr ?_ ?_ _ | refine below_alloc ?_ ?_ _ | refine Below.setCell ?_ ?_ _ | refine below_step ?_ (by assumption) ?_ | omega | (simp only [zz] at *; omega))))
set_option maxRecDepth 100000 in
set_option maxHeartbeats 1000000 in
theorem cmap_box (A : Option Addr) (R : List Nat) (rc : Nat) (B : Option Addr) (ts : List Bm.Tk) (d : Nat) (D : Option Addr) (ps : List Tz) (dd : Nat) (w : World) (hA : I64 w A (zs R)) (hB : Tks w B (tz ts)) (hD : Tks w D ps) (hl : ps.length ≤ 1000000) (hps : ∀ t, t ∈ ps → t.1.length ≤ 1000000) (hok : Ok R ts) (h : ps.length ≤ 7776) (h1 : areB (zs R) ps ≠ 0) :
    Calls Try.prog 30 #[.agg #[.slice A R.length rc], .slice B ts.length d, .slice D ps.length dd] w (Gives w (.int .i64 (areB (zs R) ps))) := by
  have hlb : ¬ (7776 : Int) < (ps.length : Int) := by omega
  have HOP := hide (fun w' (h1 : I64 w' A (zs R)) (h2 : Tks w' B (tz ts)) => opens_n A R rc B ts d w' h1 h2 hok)
  have HAB := hide (fun w' (h : Tks w' D ps) (h' : I64 w' A (zs R)) => areBoxes_any D ps dd w' h hl A (zs R) rc h' (by rw [zs_len]; have := hok.h5; omega) hps (okR hok))
  rw [zs_len] at HAB
  generalize areB (zs R) ps = ea at *
  have hneb : (ea != 0) = true := by simpa using h1
  go_enter Try.func30, Try.ntmps30
  go_wp2_with (first
    | (go_at_call 61; refine (HOP.out _ (hA.ext (by (repeat (first | exact Below.refl _ _ | assumption | refine below_drewN ?_ _ | refine below_drew ?_ | refine below_gr ?_ ?_ _ | refine below_alloc ?_ ?_ _ | refine Below.setCell ?_ ?_ _ | refine below_step ?_ (by assumption) ?_ | omega | (simp only [zz] at *; omega))))) (hB.ext (by (repeat (first | exact Below.refl _ _ | assumption | refine below_drewN ?_ _ | refine below_drew ?_ | refine below_gr ?_ ?_ _ | refine below_alloc ?_ ?_ _ | refine Below.setCell ?_ ?_ _ | refine below_step ?_ (by assumption) ?_ | omega | (simp only [zz] at *; omega)))))).mono ?_; rintro e w1 ⟨s, rfl, hb1, hs1, hS1⟩; replace hb1 := ex_below hb1; have hz1 := hb1.size; (try simp only [World.size_alloc] at hz1); have hc1 := own_cell hb1 (b := w.heap.size) (by (first | omega | (simp only [zz]; omega) | (simp only [zz] at *; omega) | (simp; done) | (simp; omega))))
    | (go_at_call 57; refine (HAB.out _ (hD.ext (by (repeat (first | exact Below.refl _ _ | assumption | refine below_drewN ?_ _ | refine below_drew ?_ | refine below_gr ?_ ?_ _ | refine below_alloc ?_ ?_ _ | refine Below.setCell ?_ ?_ _ | refine below_step ?_ (by assumption) ?_ | omega | (simp only [zz] at *; omega))))) (hA.ext (by (repeat (first | exact Below.refl _ _ | assumption | refine below_drewN ?_ _ | refine below_drew ?_ | refine below_gr ?_ ?_ _ | refine below_alloc ?_ ?_ _ | refine Below.setCell ?_ ?_ _ | refine below_step ?_ (by assumption) ?_ | omega | (simp only [zz] at *; omega)))))).mono ?_; rintro e w2 ⟨rfl, hb1⟩; replace hb1 := ex_below hb1; have hz1 := hb1.size; (try simp only [zz] at hz1); have hs1 : w.heap.size < w2.heap.size := (by (first | omega | (simp only [zz] at *; omega))); have ho1 := own_cell hb1 (b := w.heap.size) (by (first | omega | (simp only [zz] at *; omega))); have hq1 := own_frozen hb1 (b := w.heap.size) (by (first | omega | (simp only [zz] at *; omega))); have hlt1 : ∀ b, b < w.heap.size → b < w2.heap.size := fun b hb => (by (first | omega | (simp only [zz] at *; omega))); have hc1 : ∀ b o, b < w.heap.size → w2.cell? ⟨b, o, none⟩ = w.cell? ⟨b, o, none⟩ := old_cell (by (repeat (first | exact Below.refl _ _ | assumption | refine below_drewN ?_ _ | refine below_drew ?_ | refine below_gr ?_ ?_ _ | refine below_alloc ?_ ?_ _ | refine Below.setCell ?_ ?_ _ | refine below_step ?_ (by assumption) ?_ | omega | (simp only [zz] at *; omega))))))

  go_ret
  exact gives_of (rfl) (by (repeat (first | exact Below.refl _ _ | assumption | refine below_drewN ?_ _ | refine below_drew ?_ | refine below_gr ?_ ?_ _ | refine below_alloc ?_ ?_ _ | refine Below.setCell ?_ ?_ _ | refine below_step ?_ (by assumption) ?_ | omega | (simp only [zz] at *; omega))))
set_option maxRecDepth 100000 in
set_option maxHeartbeats 1000000 in
theorem cmap_neg (A : Option Addr) (R : List Nat) (rc : Nat) (B : Option Addr) (ts : List Bm.Tk) (d : Nat) (D : Option Addr) (ps : List Tz) (dd : Nat) (w : World) (hA : I64 w A (zs R)) (hB : Tks w B (tz ts)) (hD : Tks w D ps) (hl : ps.length ≤ 1000000) (hps : ∀ t, t ∈ ps → t.1.length ≤ 1000000) (hok : Ok R ts) (h : ps.length ≤ 7776) (h1 : areB (zs R) ps = 0) (h2 : ps.any negB = true) :
    Calls Try.prog 30 #[.agg #[.slice A R.length rc], .slice B ts.length d, .slice D ps.length dd] w (Gives w (.int .i64 3)) := by
  have hlb : ¬ (7776 : Int) < (ps.length : Int) := by omega
  have HOP := hide (fun w' (h1 : I64 w' A (zs R)) (h2 : Tks w' B (tz ts)) => opens_n A R rc B ts d w' h1 h2 hok)
  have HAB := hide (fun w' (h : Tks w' D ps) (h' : I64 w' A (zs R)) => areBoxes_any D ps dd w' h hl A (zs R) rc h' (by rw [zs_len]; have := hok.h5; omega) hps (okR hok))
  rw [zs_len] at HAB
  have HNG := hide (fun w' (h : Tks w' D ps) => containsM1_any D ps dd w' h hl)
  rw [h1] at HAB
  rw [h2] at HNG
  clear h1 h2
  go_enter Try.func30, Try.ntmps30
  go_wp2_with (first
    | (go_at_call 61; refine (HOP.out _ (hA.ext (by (repeat (first | exact Below.refl _ _ | assumption | refine below_drewN ?_ _ | refine below_drew ?_ | refine below_gr ?_ ?_ _ | refine below_alloc ?_ ?_ _ | refine Below.setCell ?_ ?_ _ | refine below_step ?_ (by assumption) ?_ | omega | (simp only [zz] at *; omega))))) (hB.ext (by (repeat (first | exact Below.refl _ _ | assumption | refine below_drewN ?_ _ | refine below_drew ?_ | refine below_gr ?_ ?_ _ | refine below_alloc ?_ ?_ _ | refine Below.setCell ?_ ?_ _ | refine below_step ?_ (by assumption) ?_ | omega | (simp only [zz] at *; omega)))))).mono ?_; rintro e w1 ⟨s, rfl, hb1, hs1, hS1⟩; replace hb1 := ex_below hb1; have hz1 := hb1.size; (try simp only [World.size_alloc] at hz1); have hc1 := own_cell hb1 (b := w.heap.size) (by (first | omega | (simp only [zz]; omega) | (simp only [zz] at *; omega) | (simp; done) | (simp; omega))))
    | (go_at_call 57; refine (HAB.out _ (hD.ext (by (repeat (first | exact Below.refl _ _ | assumption | refine below_drewN ?_ _ | refine below_drew ?_ | refine below_gr ?_ ?_ _ | refine below_alloc ?_ ?_ _ | refine Below.setCell ?_ ?_ _ | refine below_step ?_ (by assumption) ?_ | omega | (simp only [zz] at *; omega))))) (hA.ext (by (repeat (first | exact Below.refl _ _ | assumption | refine below_drewN ?_ _ | refine below_drew ?_ | refine below_gr ?_ ?_ _ | refine below_alloc ?_ ?_ _ | refine Below.setCell ?_ ?_ _ | refine below_step ?_ (by assumption) ?_ | omega | (simp only [zz] at *; omega)))))).mono ?_; rintro e w2 ⟨rfl, hb1⟩; replace hb1 := ex_below hb1; have hz1 := hb1.size; (try simp only [zz] at hz1); have hs1 : w.heap.size < w2.heap.size := (by (first | omega | (simp only [zz] at *; omega))); have ho1 := own_cell hb1 (b := w.heap.size) (by (first | omega | (simp only [zz] at *; omega))); have hq1 := own_frozen hb1 (b := w.heap.size) (by (first | omega | (simp only [zz] at *; omega))); have hlt1 : ∀ b, b < w.heap.size → b < w2.heap.size := fun b hb => (by (first | omega | (simp only [zz] at *; omega))); have hc1 : ∀ b o, b < w.heap.size → w2.cell? ⟨b, o, none⟩ = w.cell? ⟨b, o, none⟩ := old_cell (by (repeat (first | exact Below.refl _ _ | assumption | refine below_drewN ?_ _ | refine below_drew ?_ | refine below_gr ?_ ?_ _ | refine below_alloc ?_ ?_ _ | refine Below.setCell ?_ ?_ _ | refine below_step ?_ (by assumption) ?_ | omega | (simp only [zz] at *; omega)))))
    | (go_at_call 58; refine (HNG.out _ (hD.ext (by (repeat (first | exact Below.refl _ _ | assumption | refine below_drewN ?_ _ | refine below_drew ?_ | refine below_gr ?_ ?_ _ | refine below_alloc ?_ ?_ _ | refine Below.setCell ?_ ?_ _ | refine below_step ?_ (by assumption) ?_ | omega | (simp only [zz] at *; omega)))))).mono ?_; rintro e w3 ⟨rfl, hb3⟩; replace hb3 := ex_below hb3; have hz3 := hb3.size))

  go_ret
  exact gives_of (rfl) (by (repeat (first | exact Below.refl _ _ | assumption | refine below_drewN ?_ _ | refine below_drew ?_ | refine below_gr ?_ ?_ _ | refine below_alloc ?_ ?_ _ | refine Below.setCell ?_ ?_ _ | refine below_step ?_ (by assumption) ?_ | omega | (simp only [zz] at *; omega))))
end Go.Proofs.Ytlbkaeoagdbemaa
