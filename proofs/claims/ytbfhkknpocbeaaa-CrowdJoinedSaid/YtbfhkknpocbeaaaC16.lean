/- Proved here: contracts and laws of C16, a part of the proofs about the crowd laws: what some functions of the program and of the reference compute, and plain facts about it. Conditions: those that each theorem names, no others. -/
import Derived.Test.YtbfhkknpocbeaaaC15
import Derived.WalkKit
import Derived.WalkSpells
import Derived.WalkLawsBesides
import Derived.Below
import Derived.Deep.QuietTactic
import Derived.BigQuiet
import Derived.Deep.Light

set_option linter.unusedSimpArgs false
set_option linter.unusedVariables false
namespace Go.Proofs.Ytbfhkknpocbeaaa
open Go.RowKit Go.Maps
theorem check_val {m : Int} {ps : List P3} (h : checkHall m ps = 0) : 1 ≤ m ∧ m ≤ 60 ∧ ps.length ≤ 30 ∧ ∀ p, p ∈ ps → 1 ≤ p.lo ∧ p.lo ≤ p.hi ∧ p.hi ≤ m ∧ 1 ≤ p.un ∧ p.un ≤ m := by
  unfold checkHall at h
  split at h
  · cases h
  · rename_i h1
    split at h
    · cases h
    · rename_i h2
      split at h
      · rename_i h3
        refine ⟨by omega, by omega, by omega, fun p hp => ?_⟩
        rw [List.all_eq_true] at h3
        have := h3 p hp
        simp only [okP, isMin, Bool.and_eq_true, decide_eq_true_eq] at this
        omega
      · cases h
theorem untN_at {ps : List P3} {i : Nat} (hi : i < ps.length) : untN ps i = ps[i].un := by simp [untN, List.getD_eq_getElem?_getD, hi]
theorem atI_at {xs : List Int} {i : Nat} (hi : i < xs.length) : atI xs i = xs[i] := by simp [atI, List.getD_eq_getElem?_getD, hi]
def outS (m : Int) (ps : List P3) (k : Int) (cm : List Int) : List Int := servedT (untN ps) cm ps.length k.toNat m.toNat
def shutS (m : Int) (ps : List P3) (k : Int) (cm : List Int) : Nat := shutN (untN ps) cm (outS m ps k cm) ps.length (m + 1)
theorem shutS_le (m : Int) (ps : List P3) (k : Int) (cm : List Int) : shutS m ps k cm ≤ ps.length := by
  unfold shutS shutN; exact Nat.le_trans List.countP_le_length (by simp)
theorem serve_ok (k m : Int) (A : Option Addr) (ps : List P3) (c fb : Nat) (C : Option Addr) (cm : List Int) (cc : Nat) (w : World) (hA : Ppl w A ps) (hF : Flr w fb m A ps.length c) (hC : I64 w C cm)
    (h0 : checkHall m ps = 0) (hlen : cm.length = ps.length) (hcm : ∀ x, x ∈ cm → 1 ≤ x) (hk : 0 ≤ k) (hk2 : k ≤ 30) :
    Calls Try.prog 49 #[.pointer (some ⟨fb, 0, none⟩), .int .i64 k, .slice C ps.length cc] w (GivesServe w (outS m ps k cm) (shutS m ps k cm)) := by
  obtain ⟨v1, v2, v3, v4⟩ := check_val h0
  obtain ⟨M, rfl⟩ : ∃ M : Nat, m = (M : Int) := ⟨m.toNat, by omega⟩
  obtain ⟨K, rfl⟩ : ∃ K : Nat, k = (K : Int) := ⟨k.toNat, by omega⟩
  have := serve_any M A ps c fb K C cm cc w hA (by omega) hF hC hlen (by omega) (fun i hi => by
    rw [untN_at hi]; have := v4 _ (List.getElem_mem hi); omega) (fun i hi => by
    rw [atI_at (by omega)]; exact hcm _ (List.getElem_mem _)) (by omega)
  unfold shutS outS
  rw [hlen] at this
  simp only [Int.toNat_natCast]
  exact this
def fewP (m : Int) (ps : List P3) (cm : List Int) : Int := (((List.range 30).find? (fun k => decide (shutS m ps (k : Nat) cm = 0))).getD 30 : Nat)
theorem range_bad {f : Nat → Bool} {k : Nat} (h : (List.range k).all (fun j => !f j) = true) (hf : f k = false) : (List.range (k + 1)).all (fun j => !f j) = true := by
  rw [List.range_succ, List.all_append, h]; simp [hf]
theorem range_hit {f : Nat → Bool} {k : Nat} (hk : k < 30) (h : (List.range k).all (fun j => !f j) = true) (hf : f k = true) : ((List.range 30).find? f).getD 30 = k := by
  have : (List.range 30).find? f = some k := by
    rw [List.find?_eq_some_iff_getElem]
    refine ⟨hf, k, by simpa using hk, by simp, fun j hj => ?_⟩
    rw [List.all_eq_true] at h
    simpa using h j (by simpa using hj)
  rw [this]; rfl
theorem range_none {f : Nat → Bool} (h : (List.range 30).all (fun j => !f j) = true) : ((List.range 30).find? f).getD 30 = 30 := by
  rw [List.find?_eq_none.2]
  · rfl
  · intro x hx
    rw [List.all_eq_true] at h
    simpa using h x hx
set_option maxHeartbeats 400000 in
theorem pfewest_any (m : Int) (A : Option Addr) (ps : List P3) (c fb : Nat) (C : Option Addr) (cm : List Int) (cc : Nat) (w : World) (hA : Ppl w A ps) (hF : Flr w fb m A ps.length c) (hC : I64 w C cm)
    (h0 : checkHall m ps = 0) (hlen : cm.length = ps.length) (hcm : ∀ x, x ∈ cm → 1 ≤ x) :
    Calls Try.prog 59 #[.pointer (some ⟨fb, 0, none⟩), .slice C ps.length cc] w (Gives w (.int .i64 (fewP m ps cm))) := by
  have hF' := hF
  obtain ⟨hf, hf0, hf1⟩ := hF'
  go_enter Try.func59, Try.ntmps59
  go_wp2
  go_loopw [11] (fun i wr => ∃ k : Nat, k ≤ 30 ∧ i = .int .i64 k ∧ (List.range k).all (fun j => !decide (shutS m ps (j : Nat) cm = 0)) = true ∧ Grew w wr) (fun i _ => 30 - (intOf i).toNat)
  case atStart => exact ⟨0, Nat.zero_le _, rfl, rfl, grew_refl _⟩
  case round =>
    obtain ⟨k, hk, rfl, hall, hb⟩ := hrel
    replace hb := hb.below
    have hzr := hb.size
    (try simp only [size_grow, World.size_alloc, size_drewN, size_drew, size_setCell] at hzr)
    have hltr : ∀ b, b < w.heap.size → b < wr.heap.size := fun b hb => (by (first | omega | (simp only [size_grow, World.size_alloc, size_drewN, size_drew, size_setCell] at *; omega)))
    have hcr : ∀ b o, b < w.heap.size → wr.cell? ⟨b, o, none⟩ = w.cell? ⟨b, o, none⟩ := old_cell (by (repeat (first | exact Below.refl _ _ | assumption | (refine below_gr ?_ (by (first | omega | (simp only [size_grow, World.size_alloc, size_drewN, size_drew, size_setCell] at *; omega))) _) | (refine below_alloc ?_ (by (first | omega | (simp only [size_grow, World.size_alloc, size_drewN, size_drew, size_setCell] at *; omega))) _) | (refine Below.setCell ?_ (by (first | omega | (simp only [size_grow, World.size_alloc, size_drewN, size_drew, size_setCell] at *; omega))) _) | refine below_drewN ?_ _ | refine below_drew ?_ | (refine below_step ?_ (by assumption) (by (first | omega | (simp only [size_grow, World.size_alloc, size_drewN, size_drew, size_setCell] at *; omega)))))))
    by_cases hlt : k < 30
    · have HB := hide (range_bad (f := fun j => decide (shutS m ps (j : Nat) cm = 0)) hall)
      have HH := hide (range_hit (f := fun j => decide (shutS m ps (j : Nat) cm = 0)) hlt hall)
      have hle := shutS_le m ps (k : Nat) cm
      have hl30 := (check_val h0).2.2.1
      clear hall
      have hs : ∃ sn, sn = shutS m ps (k : Nat) cm := ⟨_, rfl⟩
      obtain ⟨sn, hsn⟩ := hs
      rw [← hsn] at hle
      have HS := hide hsn
      go_wp2_with (go_at_call 49; refine (serve_ok (k : Int) m A ps c fb C cm cc _ (hA.ext (by (repeat (first | exact Below.refl _ _ | assumption | (refine below_gr ?_ (by (first | omega | (simp only [size_grow, World.size_alloc, size_drewN, size_drew, size_setCell] at *; omega))) _) | (refine below_alloc ?_ (by (first | omega | (simp only [size_grow, World.size_alloc, size_drewN, size_drew, size_setCell] at *; omega))) _) | (refine Below.setCell ?_ (by (first | omega | (simp only [size_grow, World.size_alloc, size_drewN, size_drew, size_setCell] at *; omega))) _) | refine below_drewN ?_ _ | refine below_drew ?_ | (refine below_step ?_ (by assumption) (by (first | omega | (simp only [size_grow, World.size_alloc, size_drewN, size_drew, size_setCell] at *; omega)))))))) (hF.ext (by (repeat (first | exact Below.refl _ _ | assumption | (refine below_gr ?_ (by (first | omega | (simp only [size_grow, World.size_alloc, size_drewN, size_drew, size_setCell] at *; omega))) _) | (refine below_alloc ?_ (by (first | omega | (simp only [size_grow, World.size_alloc, size_drewN, size_drew, size_setCell] at *; omega))) _) | (refine Below.setCell ?_ (by (first | omega | (simp only [size_grow, World.size_alloc, size_drewN, size_drew, size_setCell] at *; omega))) _) | refine below_drewN ?_ _ | refine below_drew ?_ | (refine below_step ?_ (by assumption) (by (first | omega | (simp only [size_grow, World.size_alloc, size_drewN, size_drew, size_setCell] at *; omega)))))))) (hC.ext (by (repeat (first | exact Below.refl _ _ | assumption | (refine below_gr ?_ (by (first | omega | (simp only [size_grow, World.size_alloc, size_drewN, size_drew, size_setCell] at *; omega))) _) | (refine below_alloc ?_ (by (first | omega | (simp only [size_grow, World.size_alloc, size_drewN, size_drew, size_setCell] at *; omega))) _) | (refine Below.setCell ?_ (by (first | omega | (simp only [size_grow, World.size_alloc, size_drewN, size_drew, size_setCell] at *; omega))) _) | refine below_drewN ?_ _ | refine below_drew ?_ | (refine below_step ?_ (by assumption) (by (first | omega | (simp only [size_grow, World.size_alloc, size_drewN, size_drew, size_setCell] at *; omega)))))))) h0 hlen hcm (by omega) (by omega)).mono ?_; rw [← hsn]; clear hsn; rintro e w1 ⟨O1, oc1, rfl, hb1, hO1⟩; replace hb1 := ex_below hb1; have hz1 := hb1.size; (try simp only [size_grow, World.size_alloc, size_drewN, size_drew, size_setCell] at hz1); have hlt1 : ∀ b, b < w.heap.size → b < w1.heap.size := fun b hb => (by (first | omega | (simp only [size_grow, World.size_alloc, size_drewN, size_drew, size_setCell] at *; omega))); have hc1 : ∀ b o, b < w.heap.size → w1.cell? ⟨b, o, none⟩ = w.cell? ⟨b, o, none⟩ := old_cell (by (repeat (first | exact Below.refl _ _ | assumption | (refine below_gr ?_ (by (first | omega | (simp only [size_grow, World.size_alloc, size_drewN, size_drew, size_setCell] at *; omega))) _) | (refine below_alloc ?_ (by (first | omega | (simp only [size_grow, World.size_alloc, size_drewN, size_drew, size_setCell] at *; omega))) _) | (refine Below.setCell ?_ (by (first | omega | (simp only [size_grow, World.size_alloc, size_drewN, size_drew, size_setCell] at *; omega))) _) | refine below_drewN ?_ _ | refine below_drew ?_ | (refine below_step ?_ (by assumption) (by (first | omega | (simp only [size_grow, World.size_alloc, size_drewN, size_drew, size_setCell] at *; omega))))))))
      · go_ret
        exact gives_of (v_int (by unfold fewP; rw [HH.out (by rw [← HS.out]; simp_all)])) (by (repeat (first | exact Below.refl _ _ | assumption | (refine below_gr ?_ (by (first | omega | (simp only [size_grow, World.size_alloc, size_drewN, size_drew, size_setCell] at *; omega))) _) | (refine below_alloc ?_ (by (first | omega | (simp only [size_grow, World.size_alloc, size_drewN, size_drew, size_setCell] at *; omega))) _) | (refine Below.setCell ?_ (by (first | omega | (simp only [size_grow, World.size_alloc, size_drewN, size_drew, size_setCell] at *; omega))) _) | refine below_drewN ?_ _ | refine below_drew ?_ | (refine below_step ?_ (by assumption) (by (first | omega | (simp only [size_grow, World.size_alloc, size_drewN, size_drew, size_setCell] at *; omega)))))))
      · go_roundw
        case measure => simp [intOf]; omega
        exact ⟨k + 1, by omega, by go_num, HB.out (by rw [← HS.out]; simp_all), grew_of (by (repeat (first | exact Below.refl _ _ | assumption | (refine below_gr ?_ (by (first | omega | (simp only [size_grow, World.size_alloc, size_drewN, size_drew, size_setCell] at *; omega))) _) | (refine below_alloc ?_ (by (first | omega | (simp only [size_grow, World.size_alloc, size_drewN, size_drew, size_setCell] at *; omega))) _) | (refine Below.setCell ?_ (by (first | omega | (simp only [size_grow, World.size_alloc, size_drewN, size_drew, size_setCell] at *; omega))) _) | refine below_drewN ?_ _ | refine below_drew ?_ | (refine below_step ?_ (by assumption) (by (first | omega | (simp only [size_grow, World.size_alloc, size_drewN, size_drew, size_setCell] at *; omega)))))))⟩
    · have hkl : k = 30 := by omega
      subst hkl
      have HN := hide (range_none hall)
      clear hall
      go_wp2
      go_ret
      exact gives_of (v_int (by unfold fewP; rw [HN.out]; rfl)) (by (repeat (first | exact Below.refl _ _ | assumption | (refine below_gr ?_ (by (first | omega | (simp only [size_grow, World.size_alloc, size_drewN, size_drew, size_setCell] at *; omega))) _) | (refine below_alloc ?_ (by (first | omega | (simp only [size_grow, World.size_alloc, size_drewN, size_drew, size_setCell] at *; omega))) _) | (refine Below.setCell ?_ (by (first | omega | (simp only [size_grow, World.size_alloc, size_drewN, size_drew, size_setCell] at *; omega))) _) | refine below_drewN ?_ _ | refine below_drew ?_ | (refine below_step ?_ (by assumption) (by (first | omega | (simp only [size_grow, World.size_alloc, size_drewN, size_drew, size_setCell] at *; omega)))))))
end Go.Proofs.Ytbfhkknpocbeaaa
