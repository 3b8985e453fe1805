/- Proved here: the reference: strings and what is left of a night; the reference: which sets are valid, a part of the proofs about the tape laws. Conditions: those that each theorem names, no others. -/
import Derived.Test.YtafncmgijbkomaaP10
import Derived.WalkKit
import Derived.WalkSpells
import Derived.WalkLawsBesides
import Derived.Below
import Derived.Deep.QuietTactic
import Derived.BigQuiet
import Derived.Deep.Light
set_option linter.unusedSimpArgs false
set_option linter.unusedVariables false
namespace Go.Proofs.Ytafncmgijbkomaa
open Go.RowKit Go.Maps
theorem isS_step {W : Int} {s : ByteArray} {k : Nat} (h : k < s.size) (ha : ((lt s).take k).all (fun x => decide (0 ≤ x) && decide (x < W)) = true) : (¬ (0 ≤ (s[k].toNat : Int) - 97 ∧ (s[k].toNat : Int) - 97 < W) → isS W s = false) ∧ ((0 ≤ (s[k].toNat : Int) - 97 ∧ (s[k].toNat : Int) - 97 < W) → ((lt s).take (k + 1)).all (fun x => decide (0 ≤ x) && decide (x < W)) = true) := by
  have hk : k < (lt s).length := by rw [lt_len]; exact h
  constructor
  · intro g
    unfold isS
    rw [List.all_eq_false]
    refine ⟨(lt s)[k], List.getElem_mem hk, ?_⟩
    rw [lt_get s k h]
    simp
    omega
  · intro g
    refine all_good hk ha ?_
    rw [lt_get s k h]
    simp
    omega
set_option maxRecDepth 100000 in
set_option maxHeartbeats 1000000 in
theorem rIsString_any (W : Int) (s : ByteArray) (w : World) (hs : s.size ≤ 1000000) : Calls Try.prog 58 #[.int .i64 W, .string s] w (Gives w (.bool (isS W s))) := by
  have hS := hide (show isS W s = (lt s).all (fun x => decide (0 ≤ x) && decide (x < W)) from rfl)
  go_enter Try.func58, Try.ntmps58
  go_wp2
  go_loopw [5] (fun i wr => ∃ k : Nat, k ≤ s.size ∧ i = .int .i64 (k : Nat) ∧ ((lt s).take k).all (fun x => decide (0 ≤ x) && decide (x < W)) = true ∧ Grew w wr) (fun i _ => s.size - (intOf i).toNat)
  case atStart => exact ⟨0, Nat.zero_le _, rfl, rfl, grew_refl _⟩
  case round =>
    obtain ⟨k, hk, rfl, hall, hb⟩ := hrel
    replace hb := hb.below
    have hzr := hb.size
    (try simp only [zz] at hzr)
    have hltr : ∀ b, b < w.heap.size → b < wr.heap.size := fun b hb => (by (first | omega | (simp only [zz] at *; omega)))
    have hcr : ∀ b o, b < w.heap.size → wr.cell? ⟨b, o, none⟩ = w.cell? ⟨b, o, none⟩ := old_cell (by (repeat (first | exact Below.refl _ _ | assumption | refine below_drewN ?_ _ | refine below_drew ?_ | refine below_gr ?_ ?_ _ | refine below_alloc ?_ ?_ _ | refine Below.setCell ?_ ?_ _ | refine below_step ?_ (by assumption) ?_ | omega | (simp only [zz] at *; omega))))
    by_cases hlt : k < s.size
    · have HST := hide (isS_step hlt hall)
      have hu : (0 : Int) ≤ (s[k].toNat : Int) ∧ (s[k].toNat : Int) ≤ 255 := by have := s[k].toNat_lt; omega
      clear hall
      by_cases h97 : (s[k].toNat : Int) < 97
      · go_wp2
        go_ret
        exact gives_of (v_bool (HST.out.1 (by omega)).symm) (by (repeat (first | exact Below.refl _ _ | assumption | refine below_drewN ?_ _ | refine below_drew ?_ | refine below_gr ?_ ?_ _ | refine below_alloc ?_ ?_ _ | refine Below.setCell ?_ ?_ _ | refine below_step ?_ (by assumption) ?_ | omega | (simp only [zz] at *; omega))))
      · go_wp2
        · go_ret
          exact gives_of (v_bool (HST.out.1 (by omega)).symm) (by (repeat (first | exact Below.refl _ _ | assumption | refine below_drewN ?_ _ | refine below_drew ?_ | refine below_gr ?_ ?_ _ | refine below_alloc ?_ ?_ _ | refine Below.setCell ?_ ?_ _ | refine below_step ?_ (by assumption) ?_ | omega | (simp only [zz] at *; omega))))
        · exact ⟨⟨k + 1, by omega, by go_num, HST.out.2 (by omega), grew_of (by (repeat (first | exact Below.refl _ _ | assumption | refine below_drewN ?_ _ | refine below_drew ?_ | refine below_gr ?_ ?_ _ | refine below_alloc ?_ ?_ _ | refine Below.setCell ?_ ?_ _ | refine below_step ?_ (by assumption) ?_ | omega | (simp only [zz] at *; omega))))⟩, by simp [intOf]; omega⟩
    · have hkl : k = s.size := by omega
      have H2 : isS W s = true := by rw [hS.out]; rw [hkl, ← lt_len, List.take_length] at hall; exact hall
      clear hall
      go_wp2
      go_ret
      exact gives_of (v_bool H2.symm) (by (repeat (first | exact Below.refl _ _ | assumption | refine below_drewN ?_ _ | refine below_drew ?_ | refine below_gr ?_ ?_ _ | refine below_alloc ?_ ?_ _ | refine Below.setCell ?_ ?_ _ | refine below_step ?_ (by assumption) ?_ | omega | (simp only [zz] at *; omega))))
theorem hasT_step {n s : ByteArray} {i at_ : Nat} (hi : i < n.size) (h : ((lt n).take i).foldl (fun t c => Tm.beh c t) (lt s) = (lt s).drop at_) :
    ((lt n).take (i + 1)).foldl (fun t c => Tm.beh c t) (lt s) = (lt s).drop (if (lt s)[at_]? = some ((n[i].toNat : Int) - 97) then at_ + 1 else at_) := by
  rw [List.take_succ_eq_append_getElem (by rw [lt_len]; exact hi), List.foldl_append, h, lt_get n i hi, Tm.drop_next]
  rfl
set_option maxRecDepth 100000 in
set_option maxHeartbeats 1000000 in
theorem rHasTape_any (n s : ByteArray) (w : World) (hn : n.size ≤ 1000000) (hs : s.size ≤ 1000000) : Calls Try.prog 50 #[.string n, .string s] w (Gives w (.bool (Tm.hasT (lt n) (lt s)))) := by
  have HT := hide (show Tm.hasT (lt n) (lt s) = ((lt n).foldl (fun t c => Tm.beh c t) (lt s)).isEmpty from rfl)
  have HSL := hide (lt_len s)
  have HSA := hide (lt_at s)
  go_enter Try.func50, Try.ntmps50
  go_wp2
  go_loopw [5, 6] (fun a i wr => ∃ (k at_ : Nat), k ≤ n.size ∧ at_ ≤ s.size ∧ i = .int .i64 (k : Nat) ∧ a = .int .i64 (at_ : Nat) ∧ ((lt n).take k).foldl (fun t c => Tm.beh c t) (lt s) = (lt s).drop at_ ∧ Grew w wr) (fun _ i _ => n.size - (intOf i).toNat)
  case atStart => exact ⟨0, 0, Nat.zero_le _, Nat.zero_le _, rfl, rfl, rfl, grew_refl _⟩
  case round =>
    obtain ⟨k, a, hk, ha, rfl, rfl, hrem, hb⟩ := hrel
    replace hb := hb.below
    have hzr := hb.size
    (try simp only [zz] at hzr)
    have hltr : ∀ b, b < w.heap.size → b < wr.heap.size := fun b hb => (by (first | omega | (simp only [zz] at *; omega)))
    have hcr : ∀ b o, b < w.heap.size → wr.cell? ⟨b, o, none⟩ = w.cell? ⟨b, o, none⟩ := old_cell (by (repeat (first | exact Below.refl _ _ | assumption | refine below_drewN ?_ _ | refine below_drew ?_ | refine below_gr ?_ ?_ _ | refine below_alloc ?_ ?_ _ | refine Below.setCell ?_ ?_ _ | refine below_step ?_ (by assumption) ?_ | omega | (simp only [zz] at *; omega))))
    by_cases hlt : k < n.size
    · have HST := hide (hasT_step hlt hrem)
      clear hrem
      by_cases hat : a < s.size
      · have hd : decide ((a : Int) < (s.size : Nat)) = true := by simp; omega
        have hd2 : decide (a < s.size) = true := by simp; omega
        have HA := hide (HSA.out a hat)
        have hlti : (k : Int) < (n.size : Nat) := by omega
        have hati : (a : Int) < (s.size : Nat) := by omega
        by_cases he : (n[k].toNat : Int) = (s[a].toNat : Int)
        · have hbq : ((n[k].toNat : Int) == (s[a].toNat : Int)) = true := by simpa using he
          have hbq2 : (n[k].toNat == s[a].toNat) = true := by simp; omega
          replace he := hide he
          go_wp2
          refine wp_region_grow (by kernel_rfl) (by kernel_rfl) ?_
          repeat (go_big_quiet_step (fail))
          refine wpQuiet_nil ?_
          intro w2 hb2
          replace hb2 := ex_below hb2
          have hz2 := hb2.size
          (try simp only [zz] at hz2)
          have hlt2 : ∀ b, b < w.heap.size → b < w2.heap.size := fun b hb => (by (first | omega | (simp only [zz] at *; omega)))
          have hc2 : ∀ b o, b < w.heap.size → w2.cell? ⟨b, o, none⟩ = w.cell? ⟨b, o, none⟩ := old_cell (by (repeat (first | exact Below.refl _ _ | assumption | refine below_drewN ?_ _ | refine below_drew ?_ | refine below_gr ?_ ?_ _ | refine below_alloc ?_ ?_ _ | refine Below.setCell ?_ ?_ _ | refine below_step ?_ (by assumption) ?_ | omega | (simp only [zz] at *; omega))))
          go_wp2
          refine ⟨⟨k + 1, a + 1, by omega, by omega, by go_num, by go_num, ?_, grew_of (by (repeat (first | exact Below.refl _ _ | assumption | refine below_drewN ?_ _ | refine below_drew ?_ | refine below_gr ?_ ?_ _ | refine below_alloc ?_ ?_ _ | refine Below.setCell ?_ ?_ _ | refine below_step ?_ (by assumption) ?_ | omega | (simp only [zz] at *; omega))))⟩, by simp [intOf]; omega⟩
          rw [HST.out, HA.out, if_pos (by rw [he.out])]
        · have hbq : ((n[k].toNat : Int) == (s[a].toNat : Int)) = false := by simpa using he
          have hbq2 : (n[k].toNat == s[a].toNat) = false := by simp; omega
          replace he := hide he
          go_wp2
          refine wp_region_grow (by kernel_rfl) (by kernel_rfl) ?_
          repeat (go_big_quiet_step (fail))
          refine wpQuiet_nil ?_
          intro w2 hb2
          replace hb2 := ex_below hb2
          have hz2 := hb2.size
          (try simp only [zz] at hz2)
          have hlt2 : ∀ b, b < w.heap.size → b < w2.heap.size := fun b hb => (by (first | omega | (simp only [zz] at *; omega)))
          have hc2 : ∀ b o, b < w.heap.size → w2.cell? ⟨b, o, none⟩ = w.cell? ⟨b, o, none⟩ := old_cell (by (repeat (first | exact Below.refl _ _ | assumption | refine below_drewN ?_ _ | refine below_drew ?_ | refine below_gr ?_ ?_ _ | refine below_alloc ?_ ?_ _ | refine Below.setCell ?_ ?_ _ | refine below_step ?_ (by assumption) ?_ | omega | (simp only [zz] at *; omega))))
          go_wp2
          refine ⟨⟨k + 1, a, by omega, by omega, by go_num, by go_num, ?_, grew_of (by (repeat (first | exact Below.refl _ _ | assumption | refine below_drewN ?_ _ | refine below_drew ?_ | refine below_gr ?_ ?_ _ | refine below_alloc ?_ ?_ _ | refine Below.setCell ?_ ?_ _ | refine below_step ?_ (by assumption) ?_ | omega | (simp only [zz] at *; omega))))⟩, by simp [intOf]; omega⟩
          rw [HST.out, HA.out, if_neg (fun g => he.out (by have := Option.some.inj g; omega))]
      · have hd : decide ((a : Int) < (s.size : Nat)) = false := by simp; omega
        have hd2 : decide (a < s.size) = false := by simp; omega
        go_wp2
        refine wp_region_grow (by kernel_rfl) (by kernel_rfl) ?_
        repeat (go_big_quiet_step (fail))
        refine wpQuiet_nil ?_
        intro w2 hb2
        replace hb2 := ex_below hb2
        have hz2 := hb2.size
        (try simp only [zz] at hz2)
        have hlt2 : ∀ b, b < w.heap.size → b < w2.heap.size := fun b hb => (by (first | omega | (simp only [zz] at *; omega)))
        have hc2 : ∀ b o, b < w.heap.size → w2.cell? ⟨b, o, none⟩ = w.cell? ⟨b, o, none⟩ := old_cell (by (repeat (first | exact Below.refl _ _ | assumption | refine below_drewN ?_ _ | refine below_drew ?_ | refine below_gr ?_ ?_ _ | refine below_alloc ?_ ?_ _ | refine Below.setCell ?_ ?_ _ | refine below_step ?_ (by assumption) ?_ | omega | (simp only [zz] at *; omega))))
        go_wp2
        refine ⟨⟨k + 1, a, by omega, by omega, by go_num, by go_num, ?_, grew_of (by (repeat (first | exact Below.refl _ _ | assumption | refine below_drewN ?_ _ | refine below_drew ?_ | refine below_gr ?_ ?_ _ | refine below_alloc ?_ ?_ _ | refine Below.setCell ?_ ?_ _ | refine below_step ?_ (by assumption) ?_ | omega | (simp only [zz] at *; omega))))⟩, by simp [intOf]; omega⟩
        rw [HST.out, List.getElem?_eq_none (by rw [HSL.out]; omega), if_neg (by simp)]
    · have hkl : k = n.size := by omega
      have H2 : Tm.hasT (lt n) (lt s) = decide (a = s.size) := by
        rw [HT.out]
        rw [hkl, ← lt_len, List.take_length] at hrem
        rw [hrem, Bool.eq_iff_iff, List.isEmpty_iff, List.drop_eq_nil_iff, HSL.out, decide_eq_true_eq]
        omega
      clear hrem
      replace H2 := hide H2
      go_wp2
      go_ret
      exact gives_of (v_bool (by rw [H2.out, Bool.eq_iff_iff, decide_eq_true_eq, beq_iff_eq]; omega)) (by (repeat (first | exact Below.refl _ _ | assumption | refine below_drewN ?_ _ | refine below_drew ?_ | refine below_gr ?_ ?_ _ | refine below_alloc ?_ ?_ _ | refine Below.setCell ?_ ?_ _ | refine below_step ?_ (by assumption) ?_ | omega | (simp only [zz] at *; omega))))
set_option maxRecDepth 100000 in
set_option maxHeartbeats 1000000 in
theorem rHasTapes_any (A : Option Addr) (ts : List ByteArray) (c : Nat) (w : World) (hA : Strs w A ts) (hl : ts.length ≤ 1000) (hsz : ∀ k, (h : k < ts.length) → ts[k].size ≤ 1000000) (n : ByteArray) (hn : n.size ≤ 1000000) : Calls Try.prog 59 #[.slice A ts.length c, .string n] w (Gives w (.bool (Tm.hasS (lt n) (lts ts)))) := by
  have HV : Hid (Tm.hasS (lt n) (lts ts) = ts.all (fun s => Tm.hasT (lt n) (lt s))) := hide (by rw [Tm.hasS_all]; unfold lts; rw [List.all_map]; rfl)
  rw [HV.out]
  go_enter Try.func59, Try.ntmps59
  go_wp2
  go_loopw [5] (fun i wr => ∃ k : Nat, k ≤ ts.length ∧ i = .int .i64 (k : Nat) ∧ (ts.take k).all (fun s => Tm.hasT (lt n) (lt s)) = true ∧ Grew w wr) (fun i _ => ts.length - (intOf i).toNat)
  case atStart => exact ⟨0, Nat.zero_le _, rfl, rfl, grew_refl _⟩
  case round =>
    obtain ⟨k, hk, rfl, hall, hb⟩ := hrel
    replace hb := hb.below
    have hzr := hb.size
    (try simp only [zz] at hzr)
    have hltr : ∀ b, b < w.heap.size → b < wr.heap.size := fun b hb => (by (first | omega | (simp only [zz] at *; omega)))
    have hcr : ∀ b o, b < w.heap.size → wr.cell? ⟨b, o, none⟩ = w.cell? ⟨b, o, none⟩ := old_cell (by (repeat (first | exact Below.refl _ _ | assumption | refine below_drewN ?_ _ | refine below_drew ?_ | refine below_gr ?_ ?_ _ | refine below_alloc ?_ ?_ _ | refine Below.setCell ?_ ?_ _ | refine below_step ?_ (by assumption) ?_ | omega | (simp only [zz] at *; omega))))
    by_cases hlt : k < ts.length
    · obtain ⟨tb, toff, rfl, htl, htl2, ht0⟩ := hA k ts[k] (by simp [hlt])
      have HG := hide (all_good (f := fun s => Tm.hasT (lt n) (lt s)) hlt hall)
      have HF : Hid (Tm.hasT (lt n) (lt ts[k]) = false → ts.all (fun s => Tm.hasT (lt n) (lt s)) = false) := hide (fun h => by rw [List.all_eq_false]; exact ⟨ts[k], List.getElem_mem hlt, by rw [h]; simp⟩)
      have hs1 := hsz k hlt
      clear hall
      generalize ts[k] = x at *
      go_wp2_with (go_at_call 50; refine (rHasTape_any n x _ hn hs1).mono ?_; rintro e w1 ⟨rfl, hb1⟩; replace hb1 := ex_below hb1; have hz1 := hb1.size; (try simp only [zz] at hz1); have hlt1 : ∀ b, b < w.heap.size → b < w1.heap.size := fun b hb => (by (first | omega | (simp only [zz] at *; omega))); have hc1 : ∀ b o, b < w.heap.size → w1.cell? ⟨b, o, none⟩ = w.cell? ⟨b, o, none⟩ := old_cell (by (repeat (first | exact Below.refl _ _ | assumption | refine below_drewN ?_ _ | refine below_drew ?_ | refine below_gr ?_ ?_ _ | refine below_alloc ?_ ?_ _ | refine Below.setCell ?_ ?_ _ | refine below_step ?_ (by assumption) ?_ | omega | (simp only [zz] at *; omega)))))
      · go_ret
        exact gives_of (v_bool (HF.out (by first | assumption | (simp_all; done))).symm) (by (repeat (first | exact Below.refl _ _ | assumption | refine below_drewN ?_ _ | refine below_drew ?_ | refine below_gr ?_ ?_ _ | refine below_alloc ?_ ?_ _ | refine Below.setCell ?_ ?_ _ | refine below_step ?_ (by assumption) ?_ | omega | (simp only [zz] at *; omega))))
      · exact ⟨⟨k + 1, by omega, by go_num, HG.out (by simp_all), grew_of (by (repeat (first | exact Below.refl _ _ | assumption | refine below_drewN ?_ _ | refine below_drew ?_ | refine below_gr ?_ ?_ _ | refine below_alloc ?_ ?_ _ | refine Below.setCell ?_ ?_ _ | refine below_step ?_ (by assumption) ?_ | omega | (simp only [zz] at *; omega))))⟩, by simp [intOf]; omega⟩
    · have hkl : k = ts.length := by omega
      rw [hkl, List.take_length] at hall
      replace hall := hide hall
      go_wp2
      go_ret
      exact gives_of (v_bool hall.out.symm) (by (repeat (first | exact Below.refl _ _ | assumption | refine below_drewN ?_ _ | refine below_drew ?_ | refine below_gr ?_ ?_ _ | refine below_alloc ?_ ?_ _ | refine Below.setCell ?_ ?_ _ | refine below_step ?_ (by assumption) ?_ | omega | (simp only [zz] at *; omega))))
theorem chk_at {W : Int} {ts : List ByteArray} : chkSet W ts = if W < 1 ∨ 5 < W then 2 else if ts.length < 1 ∨ 3 < ts.length then 6 else if ts.all (fun s => decide (s.size ≤ 8)) = false then 7 else if ts.all (isS W) = false then 8 else 0 := by
  unfold chkSet
  have e1 : (withinB 1 5 [W] = false) ↔ (W < 1 ∨ 5 < W) := by unfold withinB outB; simp only [List.any_cons, List.any_nil, Bool.or_false, Bool.not_eq_false', Bool.or_eq_true, decide_eq_true_eq]
  have e2 : (withinB 1 3 [(ts.length : Int)] = false) ↔ (ts.length < 1 ∨ 3 < ts.length) := by unfold withinB outB; simp only [List.any_cons, List.any_nil, Bool.or_false, Bool.not_eq_false', Bool.or_eq_true, decide_eq_true_eq]; omega
  have e3 : (ts.any (fun s => decide (8 < s.size)) = true) ↔ (ts.all (fun s => decide (s.size ≤ 8)) = false) := by
    simp [List.any_eq_true, List.all_eq_false]
  have e4 : (ts.any (fun s => !isS W s) = true) ↔ (ts.all (isS W) = false) := by
    simp [List.any_eq_true, List.all_eq_false]
  simp only [e1, e2, e3, e4]
end Go.Proofs.Ytafncmgijbkomaa
namespace Go.Proofs.Ytafncmgijbkomaa
open Go.RowKit Go.Maps
set_option maxRecDepth 100000 in
set_option maxHeartbeats 1000000 in
theorem rCheckSet_any (W : Int) (A : Option Addr) (ts : List ByteArray) (c : Nat) (w : World) (hA : Strs w A ts) (hl : ts.length ≤ 1000) (hsz : ∀ k, (h : k < ts.length) → ts[k].size ≤ 1000000) : Calls Try.prog 22 #[.agg #[.int .i64 W, .slice A ts.length c]] w (Gives w (.int .i64 (chkSet W ts))) := by
  have HX := hide (chk_at (W := W) (ts := ts))
  go_enter Try.func22, Try.ntmps22
  by_cases h1 : W < 1 ∨ 5 < W
  · have HE : chkSet W ts = 2 := by rw [HX.out, if_pos h1]
    rw [HE]
    rcases h1 with h1 | h1
    · go_wp2
      go_ret
      exact gives_of (rfl) (by (repeat (first | exact Below.refl _ _ | assumption | refine below_drewN ?_ _ | refine below_drew ?_ | refine below_gr ?_ ?_ _ | refine below_alloc ?_ ?_ _ | refine Below.setCell ?_ ?_ _ | refine below_step ?_ (by assumption) ?_ | omega | (simp only [zz] at *; omega))))
    · have h1' : ¬ W < 1 := by omega
      go_wp2
      go_ret
      exact gives_of (rfl) (by (repeat (first | exact Below.refl _ _ | assumption | refine below_drewN ?_ _ | refine below_drew ?_ | refine below_gr ?_ ?_ _ | refine below_alloc ?_ ?_ _ | refine Below.setCell ?_ ?_ _ | refine below_step ?_ (by assumption) ?_ | omega | (simp only [zz] at *; omega))))
  · have h1a : ¬ W < 1 := by omega
    have h1b : ¬ 5 < W := by omega
    by_cases h2 : ts.length < 1 ∨ 3 < ts.length
    · have HE : chkSet W ts = 6 := by rw [HX.out, if_neg h1, if_pos h2]
      rw [HE]
      rcases h2 with h2 | h2
      · have h2i : (ts.length : Int) < 1 := by omega
        go_wp2
        go_ret
        exact gives_of (rfl) (by (repeat (first | exact Below.refl _ _ | assumption | refine below_drewN ?_ _ | refine below_drew ?_ | refine below_gr ?_ ?_ _ | refine below_alloc ?_ ?_ _ | refine Below.setCell ?_ ?_ _ | refine below_step ?_ (by assumption) ?_ | omega | (simp only [zz] at *; omega))))
      · have h2i : ¬ (ts.length : Int) < 1 := by omega
        have h2j : (3 : Int) < ts.length := by omega
        go_wp2
        go_ret
        exact gives_of (rfl) (by (repeat (first | exact Below.refl _ _ | assumption | refine below_drewN ?_ _ | refine below_drew ?_ | refine below_gr ?_ ?_ _ | refine below_alloc ?_ ?_ _ | refine Below.setCell ?_ ?_ _ | refine below_step ?_ (by assumption) ?_ | omega | (simp only [zz] at *; omega))))
    · have h2i : ¬ (ts.length : Int) < 1 := by omega
      have h2j : ¬ (3 : Int) < ts.length := by omega
      have HE : Hid (chkSet W ts = if ts.all (fun s => decide (s.size ≤ 8)) = false then 7 else if ts.all (isS W) = false then 8 else 0) := hide (by rw [HX.out, if_neg h1, if_neg h2])
      clear HX h1 h2
      go_wp2
      go_loopw [3] (fun i wr => ∃ k : Nat, k ≤ ts.length ∧ i = .int .i64 (k : Nat) ∧ (ts.take k).all (fun s => decide (s.size ≤ 8)) = true ∧ Grew (w.alloc (.cells #[.int .i64 W, .slice A ts.length c] 24)) wr) (fun i _ => ts.length - (intOf i).toNat)
      case atStart => exact ⟨0, Nat.zero_le _, rfl, rfl, grew_refl _⟩
      case round =>
        obtain ⟨k, hk, rfl, hall, hb⟩ := hrel
        replace hb := hb.below
        have hzr := hb.size
        (try simp only [zz] at hzr)
        have hsr : w.heap.size < wr.heap.size := (by (first | omega | (simp only [zz] at *; omega)))
        have hor := own_cell hb (b := w.heap.size) (by (first | omega | (simp only [zz] at *; omega)))
        have hqr := own_frozen hb (b := w.heap.size) (by (first | omega | (simp only [zz] at *; omega)))
        have hltr : ∀ b, b < w.heap.size → b < wr.heap.size := fun b hb => (by (first | omega | (simp only [zz] at *; omega)))
        have hcr : ∀ b o, b < w.heap.size → wr.cell? ⟨b, o, none⟩ = w.cell? ⟨b, o, none⟩ := old_cell (by (repeat (first | exact Below.refl _ _ | assumption | refine below_drewN ?_ _ | refine below_drew ?_ | refine below_gr ?_ ?_ _ | refine below_alloc ?_ ?_ _ | refine Below.setCell ?_ ?_ _ | refine below_step ?_ (by assumption) ?_ | omega | (simp only [zz] at *; omega))))
        by_cases hlt : k < ts.length
        · obtain ⟨tb, toff, rfl, htl, htl2, ht0⟩ := hA k ts[k] (by simp [hlt])
          have HG := hide (all_good (f := fun s => decide (s.size ≤ 8)) hlt hall)
          have HF : Hid (¬ ts[k].size ≤ 8 → ts.all (fun s => decide (s.size ≤ 8)) = false) := hide (fun h => by rw [List.all_eq_false]; exact ⟨ts[k], List.getElem_mem hlt, by simp; omega⟩)
          have hs1 := hsz k hlt
          clear hall
          generalize ts[k] = x at *
          by_cases hx : (8 : Int) < x.size
          · go_wp2
            go_ret
            exact gives_of (v_int (by rw [HE.out, if_pos (HF.out (by omega))])) (by (repeat (first | exact Below.refl _ _ | assumption | refine below_drewN ?_ _ | refine below_drew ?_ | refine below_gr ?_ ?_ _ | refine below_alloc ?_ ?_ _ | refine Below.setCell ?_ ?_ _ | refine below_step ?_ (by assumption) ?_ | omega | (simp only [zz] at *; omega))))
          · go_wp2
            exact ⟨⟨k + 1, by omega, by go_num, HG.out (by simp; omega), grew_of hb⟩, by simp [intOf]; omega⟩
        · have hkl : k = ts.length := by omega
          rw [hkl, List.take_length] at hall
          have HE2 : Hid (chkSet W ts = if ts.all (isS W) = false then 8 else 0) := hide (by rw [HE.out, if_neg (by rw [hall]; simp)])
          clear hall HE
          go_wp2
          clear hzr hltr hcr
          obtain ⟨wo, rfl⟩ : ∃ wo : World, wo = wr := ⟨_, rfl⟩
          go_loopw [4] (fun i wr => ∃ k : Nat, k ≤ ts.length ∧ i = .int .i64 (k : Nat) ∧ (ts.take k).all (isS W) = true ∧ Grew (w.alloc (.cells #[.int .i64 W, .slice A ts.length c] 24)) wr) (fun i _ => ts.length - (intOf i).toNat)
          case atStart => exact ⟨0, Nat.zero_le _, rfl, rfl, grew_of hb⟩
          case round =>
            clear hb hor hqr hsr
            obtain ⟨k, hk, rfl, hall, hb⟩ := hrel
            replace hb := hb.below
            have hzr := hb.size
            (try simp only [zz] at hzr)
            have hsr : w.heap.size < wr.heap.size := (by (first | omega | (simp only [zz] at *; omega)))
            have hor := own_cell hb (b := w.heap.size) (by (first | omega | (simp only [zz] at *; omega)))
            have hqr := own_frozen hb (b := w.heap.size) (by (first | omega | (simp only [zz] at *; omega)))
            have hltr : ∀ b, b < w.heap.size → b < wr.heap.size := fun b hb => (by (first | omega | (simp only [zz] at *; omega)))
            have hcr : ∀ b o, b < w.heap.size → wr.cell? ⟨b, o, none⟩ = w.cell? ⟨b, o, none⟩ := old_cell (by (repeat (first | exact Below.refl _ _ | assumption | refine below_drewN ?_ _ | refine below_drew ?_ | refine below_gr ?_ ?_ _ | refine below_alloc ?_ ?_ _ | refine Below.setCell ?_ ?_ _ | refine below_step ?_ (by assumption) ?_ | omega | (simp only [zz] at *; omega))))
            by_cases hlt : k < ts.length
            · obtain ⟨tb, toff, rfl, htl, htl2, ht0⟩ := hA k ts[k] (by simp [hlt])
              have HG := hide (all_good (f := isS W) hlt hall)
              have HF : Hid (isS W ts[k] = false → ts.all (isS W) = false) := hide (fun h => by rw [List.all_eq_false]; exact ⟨ts[k], List.getElem_mem hlt, by rw [h]; simp⟩)
              have hs1 := hsz k hlt
              clear hall
              generalize ts[k] = x at *
              have hki : (k : Int) < (ts.length : Nat) := by omega
              cases hx : isS W x with
              | false =>
                go_wp2
                refine wp_region_grow (by kernel_rfl) (by kernel_rfl) ?_
                repeat (go_big_quiet_step ((go_at_call 58; exact Gives.quiet (rIsString_any W x _ hs1))))
                refine wpQuiet_nil ?_
                intro w2 hb2
                replace hb2 := ex_below hb2
                have hz2 := hb2.size
                (try simp only [zz] at hz2)
                have hlt2 : ∀ b, b < w.heap.size → b < w2.heap.size := fun b hb => (by (first | omega | (simp only [zz] at *; omega)))
                have hc2 : ∀ b o, b < w.heap.size → w2.cell? ⟨b, o, none⟩ = w.cell? ⟨b, o, none⟩ := old_cell (by (repeat (first | exact Below.refl _ _ | assumption | refine below_drewN ?_ _ | refine below_drew ?_ | refine below_gr ?_ ?_ _ | refine below_alloc ?_ ?_ _ | refine Below.setCell ?_ ?_ _ | refine below_step ?_ (by assumption) ?_ | omega | (simp only [zz] at *; omega))))
                go_wp2
                go_ret
                exact gives_of (v_int (by rw [HE2.out, if_pos (HF.out (by assumption))])) (by (repeat (first | exact Below.refl _ _ | assumption | refine below_drewN ?_ _ | refine below_drew ?_ | refine below_gr ?_ ?_ _ | refine below_alloc ?_ ?_ _ | refine Below.setCell ?_ ?_ _ | refine below_step ?_ (by assumption) ?_ | omega | (simp only [zz] at *; omega))))
              | true =>
                go_wp2
                refine wp_region_grow (by kernel_rfl) (by kernel_rfl) ?_
                repeat (go_big_quiet_step ((go_at_call 58; exact Gives.quiet (rIsString_any W x _ hs1))))
                refine wpQuiet_nil ?_
                intro w2 hb2
                replace hb2 := ex_below hb2
                have hz2 := hb2.size
                (try simp only [zz] at hz2)
                have hlt2 : ∀ b, b < w.heap.size → b < w2.heap.size := fun b hb => (by (first | omega | (simp only [zz] at *; omega)))
                have hc2 : ∀ b o, b < w.heap.size → w2.cell? ⟨b, o, none⟩ = w.cell? ⟨b, o, none⟩ := old_cell (by (repeat (first | exact Below.refl _ _ | assumption | refine below_drewN ?_ _ | refine below_drew ?_ | refine below_gr ?_ ?_ _ | refine below_alloc ?_ ?_ _ | refine Below.setCell ?_ ?_ _ | refine below_step ?_ (by assumption) ?_ | omega | (simp only [zz] at *; omega))))
                go_wp2
                exact ⟨⟨k + 1, by omega, by go_num, HG.out (by assumption), grew_of (by (repeat (first | exact Below.refl _ _ | assumption | refine below_drewN ?_ _ | refine below_drew ?_ | refine below_gr ?_ ?_ _ | refine below_alloc ?_ ?_ _ | refine Below.setCell ?_ ?_ _ | refine below_step ?_ (by assumption) ?_ | omega | (simp only [zz] at *; omega))))⟩, by simp [intOf]; omega⟩
            · have hkl2 : k = ts.length := by omega
              rw [hkl2, List.take_length] at hall
              replace hall := hide hall
              go_wp2
              go_ret
              exact gives_of (v_int (by rw [HE2.out, if_neg (by rw [hall.out]; simp)])) (by (repeat (first | exact Below.refl _ _ | assumption | refine below_drewN ?_ _ | refine below_drew ?_ | refine below_gr ?_ ?_ _ | refine below_alloc ?_ ?_ _ | refine Below.setCell ?_ ?_ _ | refine below_step ?_ (by assumption) ?_ | omega | (simp only [zz] at *; omega))))
set_option maxRecDepth 100000 in
set_option maxHeartbeats 1000000 in
theorem rLong_any (W : Int) (A : Option Addr) (ts : List ByteArray) (c : Nat) (w : World) (hA : Strs w A ts) (hl : ts.length ≤ 1000) (hsz : ∀ k, (h : k < ts.length) → ts[k].size ≤ 1000000) (long : Int) : Calls Try.prog 76 #[.agg #[.int .i64 W, .slice A ts.length c], .int .i64 long] w (Gives w (.int .i64 (openE W ts long))) := by
  have hw : (withinB 0 20 [long] = false) ↔ (long < 0 ∨ 20 < long) := by
    unfold withinB outB; simp only [List.any_cons, List.any_nil, Bool.or_false, Bool.not_eq_false', Bool.or_eq_true, decide_eq_true_eq]
  by_cases h0 : chkSet W ts = 0
  · have h1 : (chkSet W ts != 0) = false := by simp [h0]
    have HV := hide (show openE W ts long = if long < 0 ∨ 20 < long then 3 else 0 by simp only [openE, h0, hw]; simp)
    replace h0 := hide h0
    replace hw := hide hw
    by_cases hl1 : long < 0
    · rw [HV.out, if_pos (.inl hl1)]
      go_enter Try.func76, Try.ntmps76
      go_wp2_with (first
    | (go_at_call 22; refine (rCheckSet_any W A ts c _ (hA.ext (by (repeat (first | exact Below.refl _ _ | assumption | refine below_drewN ?_ _ | refine below_drew ?_ | refine below_gr ?_ ?_ _ | refine below_alloc ?_ ?_ _ | refine Below.setCell ?_ ?_ _ | refine below_step ?_ (by assumption) ?_ | omega | (simp only [zz] at *; omega))))) hl hsz).mono ?_; rintro e w1 ⟨rfl, hb1⟩; replace hb1 := ex_below hb1; have hz1 := hb1.size; (try simp only [zz] at hz1); have hs1 : w.heap.size < w1.heap.size := (by (first | omega | (simp only [zz] at *; omega))); have ho1 := own_cell hb1 (b := w.heap.size) (by (first | omega | (simp only [zz] at *; omega))); have hq1 := own_frozen hb1 (b := w.heap.size) (by (first | omega | (simp only [zz] at *; omega))); have hlt1 : ∀ b, b < w.heap.size → b < w1.heap.size := fun b hb => (by (first | omega | (simp only [zz] at *; omega))); have hc1 : ∀ b o, b < w.heap.size → w1.cell? ⟨b, o, none⟩ = w.cell? ⟨b, o, none⟩ := old_cell (by (repeat (first | exact Below.refl _ _ | assumption | refine below_drewN ?_ _ | refine below_drew ?_ | refine below_gr ?_ ?_ _ | refine below_alloc ?_ ?_ _ | refine Below.setCell ?_ ?_ _ | refine below_step ?_ (by assumption) ?_ | omega | (simp only [zz] at *; omega))))))

      go_ret
      exact gives_of (rfl) (by (repeat (first | exact Below.refl _ _ | assumption | refine below_drewN ?_ _ | refine below_drew ?_ | refine below_gr ?_ ?_ _ | refine below_alloc ?_ ?_ _ | refine Below.setCell ?_ ?_ _ | refine below_step ?_ (by assumption) ?_ | omega | (simp only [zz] at *; omega))))
    · by_cases hl2 : 20 < long
      · rw [HV.out, if_pos (.inr hl2)]
        go_enter Try.func76, Try.ntmps76
        go_wp2_with (first
    | (go_at_call 22; refine (rCheckSet_any W A ts c _ (hA.ext (by (repeat (first | exact Below.refl _ _ | assumption | refine below_drewN ?_ _ | refine below_drew ?_ | refine below_gr ?_ ?_ _ | refine below_alloc ?_ ?_ _ | refine Below.setCell ?_ ?_ _ | refine below_step ?_ (by assumption) ?_ | omega | (simp only [zz] at *; omega))))) hl hsz).mono ?_; rintro e w1 ⟨rfl, hb1⟩; replace hb1 := ex_below hb1; have hz1 := hb1.size; (try simp only [zz] at hz1); have hs1 : w.heap.size < w1.heap.size := (by (first | omega | (simp only [zz] at *; omega))); have ho1 := own_cell hb1 (b := w.heap.size) (by (first | omega | (simp only [zz] at *; omega))); have hq1 := own_frozen hb1 (b := w.heap.size) (by (first | omega | (simp only [zz] at *; omega))); have hlt1 : ∀ b, b < w.heap.size → b < w1.heap.size := fun b hb => (by (first | omega | (simp only [zz] at *; omega))); have hc1 : ∀ b o, b < w.heap.size → w1.cell? ⟨b, o, none⟩ = w.cell? ⟨b, o, none⟩ := old_cell (by (repeat (first | exact Below.refl _ _ | assumption | refine below_drewN ?_ _ | refine below_drew ?_ | refine below_gr ?_ ?_ _ | refine below_alloc ?_ ?_ _ | refine Below.setCell ?_ ?_ _ | refine below_step ?_ (by assumption) ?_ | omega | (simp only [zz] at *; omega))))))

        go_ret
        exact gives_of (rfl) (by (repeat (first | exact Below.refl _ _ | assumption | refine below_drewN ?_ _ | refine below_drew ?_ | refine below_gr ?_ ?_ _ | refine below_alloc ?_ ?_ _ | refine Below.setCell ?_ ?_ _ | refine below_step ?_ (by assumption) ?_ | omega | (simp only [zz] at *; omega))))
      · rw [HV.out, if_neg (by omega)]
        go_enter Try.func76, Try.ntmps76
        go_wp2_with (first
    | (go_at_call 22; refine (rCheckSet_any W A ts c _ (hA.ext (by (repeat (first | exact Below.refl _ _ | assumption | refine below_drewN ?_ _ | refine below_drew ?_ | refine below_gr ?_ ?_ _ | refine below_alloc ?_ ?_ _ | refine Below.setCell ?_ ?_ _ | refine below_step ?_ (by assumption) ?_ | omega | (simp only [zz] at *; omega))))) hl hsz).mono ?_; rintro e w1 ⟨rfl, hb1⟩; replace hb1 := ex_below hb1; have hz1 := hb1.size; (try simp only [zz] at hz1); have hs1 : w.heap.size < w1.heap.size := (by (first | omega | (simp only [zz] at *; omega))); have ho1 := own_cell hb1 (b := w.heap.size) (by (first | omega | (simp only [zz] at *; omega))); have hq1 := own_frozen hb1 (b := w.heap.size) (by (first | omega | (simp only [zz] at *; omega))); have hlt1 : ∀ b, b < w.heap.size → b < w1.heap.size := fun b hb => (by (first | omega | (simp only [zz] at *; omega))); have hc1 : ∀ b o, b < w.heap.size → w1.cell? ⟨b, o, none⟩ = w.cell? ⟨b, o, none⟩ := old_cell (by (repeat (first | exact Below.refl _ _ | assumption | refine below_drewN ?_ _ | refine below_drew ?_ | refine below_gr ?_ ?_ _ | refine below_alloc ?_ ?_ _ | refine Below.setCell ?_ ?_ _ | refine below_step ?_ (by assumption) ?_ | omega | (simp only [zz] at *; omega))))))

        go_ret
        exact gives_of (rfl) (by (repeat (first | exact Below.refl _ _ | assumption | refine below_drewN ?_ _ | refine below_drew ?_ | refine below_gr ?_ ?_ _ | refine below_alloc ?_ ?_ _ | refine Below.setCell ?_ ?_ _ | refine below_step ?_ (by assumption) ?_ | omega | (simp only [zz] at *; omega))))
  · have h1 : (chkSet W ts != 0) = true := by simp [h0]
    have HV := hide (show openE W ts long = chkSet W ts by simp [openE, h0])
    rw [HV.out]
    replace h0 := hide h0
    replace hw := hide hw
    go_enter Try.func76, Try.ntmps76
    go_wp2_with (first
    | (go_at_call 22; refine (rCheckSet_any W A ts c _ (hA.ext (by (repeat (first | exact Below.refl _ _ | assumption | refine below_drewN ?_ _ | refine below_drew ?_ | refine below_gr ?_ ?_ _ | refine below_alloc ?_ ?_ _ | refine Below.setCell ?_ ?_ _ | refine below_step ?_ (by assumption) ?_ | omega | (simp only [zz] at *; omega))))) hl hsz).mono ?_; rintro e w1 ⟨rfl, hb1⟩; replace hb1 := ex_below hb1; have hz1 := hb1.size; (try simp only [zz] at hz1); have hs1 : w.heap.size < w1.heap.size := (by (first | omega | (simp only [zz] at *; omega))); have ho1 := own_cell hb1 (b := w.heap.size) (by (first | omega | (simp only [zz] at *; omega))); have hq1 := own_frozen hb1 (b := w.heap.size) (by (first | omega | (simp only [zz] at *; omega))); have hlt1 : ∀ b, b < w.heap.size → b < w1.heap.size := fun b hb => (by (first | omega | (simp only [zz] at *; omega))); have hc1 : ∀ b o, b < w.heap.size → w1.cell? ⟨b, o, none⟩ = w.cell? ⟨b, o, none⟩ := old_cell (by (repeat (first | exact Below.refl _ _ | assumption | refine below_drewN ?_ _ | refine below_drew ?_ | refine below_gr ?_ ?_ _ | refine below_alloc ?_ ?_ _ | refine Below.setCell ?_ ?_ _ | refine below_step ?_ (by assumption) ?_ | omega | (simp only [zz] at *; omega))))))

    go_ret
    exact gives_of (rfl) (by (repeat (first | exact Below.refl _ _ | assumption | refine below_drewN ?_ _ | refine below_drew ?_ | refine below_gr ?_ ?_ _ | refine below_alloc ?_ ?_ _ | refine Below.setCell ?_ ?_ _ | refine below_step ?_ (by assumption) ?_ | omega | (simp only [zz] at *; omega))))
set_option maxRecDepth 100000 in
set_option maxHeartbeats 1000000 in
theorem rIsWindow_any (W : Int) (A : Option Addr) (ts : List ByteArray) (c : Nat) (w : World) (b : Nat) (hb : b < 256) : Calls Try.prog 82 #[.agg #[.int .i64 W, .slice A ts.length c], .int .u8 (b : Nat)] w (Gives w (.bool (isWin W b))) := by
  have HV := hide (show isWin W b = (decide (97 ≤ b) && decide ((b : Int) - 97 < W)) from rfl)
  have hbi : (b : Int) < 256 := by omega
  by_cases h1 : (97 : Int) ≤ (b : Int)
  all_goals
    go_enter Try.func82, Try.ntmps82
    go_wp2
    go_ret
    exact gives_of (v_bool (by rw [HV.out, Bool.eq_iff_iff]; simp; omega)) (by (repeat (first | exact Below.refl _ _ | assumption | refine below_drewN ?_ _ | refine below_drew ?_ | refine below_gr ?_ ?_ _ | refine below_alloc ?_ ?_ _ | refine Below.setCell ?_ ?_ _ | refine below_step ?_ (by assumption) ?_ | omega | (simp only [zz] at *; omega))))
end Go.Proofs.Ytafncmgijbkomaa
