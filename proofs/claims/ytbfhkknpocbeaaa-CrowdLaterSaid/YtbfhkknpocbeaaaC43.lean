/- Proved here: contracts and laws of C43, a part of the proofs about the crowd laws: what some functions of the program and of the reference compute, and plain facts about it. Conditions: those that each theorem names, no others. -/
import Derived.Test.YtbfhkknpocbeaaaC41
import Derived.WalkKit
import Derived.WalkSpells
import Derived.WalkLawsBesides
import Derived.Below
import Derived.Deep.QuietTactic
import Derived.BigQuiet
import Derived.Deep.Light
import Derived.Test.YtbfhkknpocbeaaaC37
set_option linter.unusedSimpArgs false
set_option linter.unusedVariables false
namespace Go.Proofs.Ytbfhkknpocbeaaa
open Go.RowKit
/-! plain facts for the outright laws -/
theorem length_zip_at {ts : List Int} {ps : List P3} (hl : ts.length = ps.length) {f : Int × P3 → Bool} (h : (ts.zip ps).all f = true) (i : Nat) (hi : i < ps.length) : f (atI ts i, ps[i]) = true := by
  rw [List.all_eq_true] at h
  have := h ((ts.zip ps)[i]'(by simp; omega)) (List.getElem_mem _)
  rw [List.getElem_zip] at this
  rw [atI_at (by omega)]; exact this
theorem truth_at {ts : List Int} {ps : List P3} (hl : ts.length = ps.length) (h : isTruth ps ts = true) (i : Nat) (hi : i < ps.length) : ps[i].lo ≤ atI ts i ∧ atI ts i ≤ ps[i].hi := by
  have := length_zip_at hl h i hi
  simpa [truthB] using this
/-- a plan needs no more machines than there are -/
theorem plan_few {m : Int} {ps : List P3} {k : Int} {ts : List Int} (h : Okay m ps) (hk : 0 ≤ k) (hl : ts.length = ps.length) (hp : planR m ps k ts = 0) : fewest m ps ≤ k := by
  unfold planR at hp
  by_cases ha : (ts.zip ps).all inRb = true
  · rw [if_pos ha] at hp
    by_cases hf : fitR m k ts = true
    · obtain ⟨K, rfl⟩ : ∃ K : Nat, k = (K : Int) := ⟨k.toNat, by omega⟩
      rw [fewest_le_iff (by have := h.m1; omega)]
      refine ⟨hk, fun fr ti a b c => ?_⟩
      rw [fallsN_eq (fun p hp => (h.ok p hp).2.2.2.1) (u := untN ps) (fun i hi => untN_at hi) fr ti]
      refine hall_easy (F := atI ts) b a (fun i hi hcu hsc huD => ?_) (fun t t1 t2 => ?_)
      · have hin := length_zip_at hl ha i hi
        rw [atI_map ps lastOr i hi, untN_at hi] at *
        have hok := h.ok _ (List.getElem_mem hi)
        rw [lastOr_ok hok.2.2.2.1] at *
        unfold inRb at hin
        by_cases hc : ps[i].lo ≤ ps[i].un
        · rw [if_pos hc] at *
          rw [if_pos (by simpa [canB] using hc), decide_eq_true_eq] at hin
          exact hin
        · rw [if_neg hc] at hcu; omega
      · unfold fitR at hf
        rw [List.all_eq_true] at hf
        have := hf (t - 1).toNat (List.mem_range.2 (by omega))
        rw [decide_eq_true_eq, show (((t - 1).toNat : Nat) : Int) + 1 = t by omega, cntZ_range, hl] at this
        omega
    · rw [if_neg hf] at hp; cases hp
  · rw [if_neg ha] at hp; cases hp
theorem fallG_mono {c c' u u' : Nat → Int} {n : Nat} {s D s' D' : Int} (h : ∀ i, i < n → s ≤ c i → u i ≤ D → c i ≤ u i → s' ≤ c' i ∧ u' i ≤ D' ∧ c' i ≤ u' i) : fallG c u n s D ≤ fallG c' u' n s' D' :=
  cntP_mono (fun i hi hp => by
    simp only [decide_eq_true_eq] at hp ⊢
    exact h i hi hp.1 hp.2.1 hp.2.2)
/-- nobody is shut out in any truth, if there are machines enough -/
theorem truth_few {m : Int} {ps : List P3} {k : Int} {ts : List Int} (h : Okay m ps) (hk : 0 ≤ k) (hl : ts.length = ps.length) (ht : isTruth ps ts = true) (hf : fewest m ps ≤ k) : shutS m ps k ts = 0 := by
  obtain ⟨M, rfl⟩ : ∃ M : Nat, m = (M : Int) := ⟨m.toNat, by have := h.m1; omega⟩
  obtain ⟨K, rfl⟩ : ∃ K : Nat, k = (K : Int) := ⟨k.toNat, by omega⟩
  unfold shutS outS
  rw [Int.toNat_natCast, Int.toNat_natCast, shut_iff (fun i hi => by have := truth_at hl ht i hi; have := h.ok _ (List.getElem_mem hi); omega) (fun i hi => by rw [untN_at hi]; exact (h.ok _ (List.getElem_mem hi)).2.2.2.2)]
  intro s D a b c
  have h1 := ((fewest_le_iff (by omega)).1 hf).2 s D a b c
  rw [fallsN_eq (fun p hp => (h.ok p hp).2.2.2.1) (u := untN ps) (fun i hi => untN_at hi) s D] at h1
  have h2 : fallG (atI ts) (untN ps) ps.length s D ≤ fallG (atI (ps.map lastOr)) (untN ps) ps.length s D := fallG_mono (fun i hi p1 p2 p3 => by
    have := truth_at hl ht i hi
    have hok := h.ok _ (List.getElem_mem hi)
    rw [untN_at hi] at *
    rw [atI_map ps lastOr i hi, lastOr_ok hok.2.2.2.1, if_pos (by omega)]
    unfold lastP; omega)
  omega
theorem checkPl_few {m k : Int} {ps : List P3} {ts : List Int} (h : asked m ps k = 0) (hp : checkPl m ps k ts = 0) : fewest m ps ≤ k := by
  unfold checkPl at hp
  rw [if_neg (by simp [h])] at hp
  by_cases hl : ts.length = ps.length
  · rw [if_neg (by simp [hl])] at hp
    exact plan_few (okay_of (asked_ok h).1) (asked_ok h).2.1 hl hp
  · rw [if_pos hl] at hp; cases hp
/-- can, of a valid hall and so many machines -/
theorem can_T (k : Int) (m : Int) (A : Option Addr) (ps : List P3) (c : Nat) (w : World) (hA : Ppl w A ps) (hl : ps.length ≤ 100) (ha : asked m ps k = 0) : Calls Try.prog 38 #[.agg #[.int .i64 m, .slice A ps.length c], .int .i64 k] w (Gives w (.tuple #[.bool (decide (fewest m ps ≤ k)), .bool true])) := by
  have hl30 := (check_val (asked_ok ha).1).2.2.1
  by_cases hf : fewest m ps ≤ k
  · have hpe : planError m ps k = 0 := by rw [planError_ok ha, if_neg (by omega)]
    obtain ⟨hpl, hpg⟩ := plan_good hpe
    have hplan := hide (fun W hW => by have := pplan_any k m A ps c W hW hl; rw [hpl, hpe] at this; exact this : ∀ W, Ppl W A ps → Calls Try.prog 18 #[.agg #[.int .i64 m, .slice A ps.length c], .int .i64 k] W (GivesIntsE W (outS m ps k (ps.map lastOr)) 0))
    have hchk := hide (fun W hW P pc hP => by have := rplan_any k P (outS m ps k (ps.map lastOr)) pc m A ps c W hW hl hP (by rw [outS_len]; omega); rw [hpg] at this; exact this : ∀ W, Ppl W A ps → ∀ P pc, I64 W P (outS m ps k (ps.map lastOr)) → Calls Try.prog 23 #[.agg #[.int .i64 m, .slice A ps.length c], .int .i64 k, .slice P (outS m ps k (ps.map lastOr)).length pc] W (Gives W (.int .i64 0)))
    have hlo : (outS m ps k (ps.map lastOr)).length = ps.length := outS_len
    rw [hlo] at hchk
    unfold GivesIntsE at hplan
    rw [hlo] at hplan
    rw [decide_eq_true hf]
    clear hpl hpg hpe
    generalize outS m ps k (ps.map lastOr) = os at *
    go_enter Try.func38, Try.ntmps38
    go_wp2_with (first
      | (go_at_call 18; refine (hplan.out _ (hA.ext (by (repeat (first | exact Below.refl _ _ | assumption | (refine below_gr ?_ (by (first | omega | (simp only [size_grow, World.size_alloc, size_drewN, size_drew, size_setCell] at *; omega))) _) | (refine below_alloc ?_ (by (first | omega | (simp only [size_grow, World.size_alloc, size_drewN, size_drew, size_setCell] at *; omega))) _) | (refine Below.setCell ?_ (by (first | omega | (simp only [size_grow, World.size_alloc, size_drewN, size_drew, size_setCell] at *; omega))) _) | refine below_drewN ?_ _ | refine below_drew ?_ | (refine below_step ?_ (by assumption) (by (first | omega | (simp only [size_grow, World.size_alloc, size_drewN, size_drew, size_setCell] at *; omega))))))))).mono ?_; rintro e w2 ⟨Ap, cp, rfl, hb2, hP2⟩; replace hb2 := ex_below hb2; have hz2 := hb2.size; (try simp only [size_grow, World.size_alloc, size_drewN, size_drew, size_setCell] at hz2); have hs2 : w.heap.size < w2.heap.size := (by (first | omega | (simp only [size_grow, World.size_alloc, size_drewN, size_drew, size_setCell] at *; omega))); have ho2 := own_cell hb2 (b := w.heap.size) (by (first | omega | (simp only [size_grow, World.size_alloc, size_drewN, size_drew, size_setCell] at *; omega))); have hq2 := own_frozen hb2 (b := w.heap.size) (by (first | omega | (simp only [size_grow, World.size_alloc, size_drewN, size_drew, size_setCell] at *; omega))); have hlt2 : ∀ b, b < w.heap.size → b < w2.heap.size := fun b hb => (by (first | omega | (simp only [size_grow, World.size_alloc, size_drewN, size_drew, size_setCell] at *; omega))); have hc2 : ∀ b o, b < w.heap.size → w2.cell? ⟨b, o, none⟩ = w.cell? ⟨b, o, none⟩ := old_cell (by (repeat (first | exact Below.refl _ _ | assumption | (refine below_gr ?_ (by (first | omega | (simp only [size_grow, World.size_alloc, size_drewN, size_drew, size_setCell] at *; omega))) _) | (refine below_alloc ?_ (by (first | omega | (simp only [size_grow, World.size_alloc, size_drewN, size_drew, size_setCell] at *; omega))) _) | (refine Below.setCell ?_ (by (first | omega | (simp only [size_grow, World.size_alloc, size_drewN, size_drew, size_setCell] at *; omega))) _) | refine below_drewN ?_ _ | refine below_drew ?_ | (refine below_step ?_ (by assumption) (by (first | omega | (simp only [size_grow, World.size_alloc, size_drewN, size_drew, size_setCell] at *; omega))))))))
      | (go_at_call 23; refine (hchk.out _ (hA.ext (by (repeat (first | exact Below.refl _ _ | assumption | (refine below_gr ?_ (by (first | omega | (simp only [size_grow, World.size_alloc, size_drewN, size_drew, size_setCell] at *; omega))) _) | (refine below_alloc ?_ (by (first | omega | (simp only [size_grow, World.size_alloc, size_drewN, size_drew, size_setCell] at *; omega))) _) | (refine Below.setCell ?_ (by (first | omega | (simp only [size_grow, World.size_alloc, size_drewN, size_drew, size_setCell] at *; omega))) _) | refine below_drewN ?_ _ | refine below_drew ?_ | (refine below_step ?_ (by assumption) (by (first | omega | (simp only [size_grow, World.size_alloc, size_drewN, size_drew, size_setCell] at *; omega)))))))) _ cp (hP2.ext (by (repeat (first | exact Below.refl _ _ | assumption | (refine below_gr ?_ (by (first | omega | (simp only [size_grow, World.size_alloc, size_drewN, size_drew, size_setCell] at *; omega))) _) | (refine below_alloc ?_ (by (first | omega | (simp only [size_grow, World.size_alloc, size_drewN, size_drew, size_setCell] at *; omega))) _) | (refine Below.setCell ?_ (by (first | omega | (simp only [size_grow, World.size_alloc, size_drewN, size_drew, size_setCell] at *; omega))) _) | refine below_drewN ?_ _ | refine below_drew ?_ | (refine below_step ?_ (by assumption) (by (first | omega | (simp only [size_grow, World.size_alloc, size_drewN, size_drew, size_setCell] at *; omega))))))))).mono ?_; rintro e w5 ⟨rfl, hb5⟩; replace hb5 := ex_below hb5; have hz5 := hb5.size; (try simp only [size_grow, World.size_alloc, size_drewN, size_drew, size_setCell] at hz5); have hs5 : w.heap.size < w5.heap.size := (by (first | omega | (simp only [size_grow, World.size_alloc, size_drewN, size_drew, size_setCell] at *; omega))); have ho5 := own_cell hb5 (b := w.heap.size) (by (first | omega | (simp only [size_grow, World.size_alloc, size_drewN, size_drew, size_setCell] at *; omega))); have hq5 := own_frozen hb5 (b := w.heap.size) (by (first | omega | (simp only [size_grow, World.size_alloc, size_drewN, size_drew, size_setCell] at *; omega))); have hlt5 : ∀ b, b < w.heap.size → b < w5.heap.size := fun b hb => (by (first | omega | (simp only [size_grow, World.size_alloc, size_drewN, size_drew, size_setCell] at *; omega))); have hc5 : ∀ b o, b < w.heap.size → w5.cell? ⟨b, o, none⟩ = w.cell? ⟨b, o, none⟩ := old_cell (by (repeat (first | exact Below.refl _ _ | assumption | (refine below_gr ?_ (by (first | omega | (simp only [size_grow, World.size_alloc, size_drewN, size_drew, size_setCell] at *; omega))) _) | (refine below_alloc ?_ (by (first | omega | (simp only [size_grow, World.size_alloc, size_drewN, size_drew, size_setCell] at *; omega))) _) | (refine Below.setCell ?_ (by (first | omega | (simp only [size_grow, World.size_alloc, size_drewN, size_drew, size_setCell] at *; omega))) _) | refine below_drewN ?_ _ | refine below_drew ?_ | (refine below_step ?_ (by assumption) (by (first | omega | (simp only [size_grow, World.size_alloc, size_drewN, size_drew, size_setCell] at *; omega)))))))))
    go_ret2
    exact gives_of (rfl) (by (repeat (first | exact Below.refl _ _ | assumption | (refine below_gr ?_ (by (first | omega | (simp only [size_grow, World.size_alloc, size_drewN, size_drew, size_setCell] at *; omega))) _) | (refine below_alloc ?_ (by (first | omega | (simp only [size_grow, World.size_alloc, size_drewN, size_drew, size_setCell] at *; omega))) _) | (refine Below.setCell ?_ (by (first | omega | (simp only [size_grow, World.size_alloc, size_drewN, size_drew, size_setCell] at *; omega))) _) | refine below_drewN ?_ _ | refine below_drew ?_ | (refine below_step ?_ (by assumption) (by (first | omega | (simp only [size_grow, World.size_alloc, size_drewN, size_drew, size_setCell] at *; omega)))))))
  · have hpe : planError m ps k = 23 := by rw [planError_ok ha, if_pos (by omega)]
    have hpl : planL m ps k = [] := by unfold planL; rw [if_neg (by rw [hpe]; decide)]
    have hplan := hide (fun W hW => by have := pplan_any k m A ps c W hW hl; rw [hpl, hpe] at this; exact this : ∀ W, Ppl W A ps → Calls Try.prog 18 #[.agg #[.int .i64 m, .slice A ps.length c], .int .i64 k] W (GivesIntsE W [] 23))
    unfold GivesIntsE at hplan
    rw [List.length_nil] at hplan
    rw [decide_eq_false hf]
    clear hpl hpe hf
    go_enter Try.func38, Try.ntmps38
    go_wp2_with (first
      | (go_at_call 18; refine (hplan.out _ (hA.ext (by (repeat (first | exact Below.refl _ _ | assumption | (refine below_gr ?_ (by (first | omega | (simp only [size_grow, World.size_alloc, size_drewN, size_drew, size_setCell] at *; omega))) _) | (refine below_alloc ?_ (by (first | omega | (simp only [size_grow, World.size_alloc, size_drewN, size_drew, size_setCell] at *; omega))) _) | (refine Below.setCell ?_ (by (first | omega | (simp only [size_grow, World.size_alloc, size_drewN, size_drew, size_setCell] at *; omega))) _) | refine below_drewN ?_ _ | refine below_drew ?_ | (refine below_step ?_ (by assumption) (by (first | omega | (simp only [size_grow, World.size_alloc, size_drewN, size_drew, size_setCell] at *; omega))))))))).mono ?_; rintro e w2 ⟨Ap, cp, rfl, hb2, hP2⟩; replace hb2 := ex_below hb2; have hz2 := hb2.size; (try simp only [size_grow, World.size_alloc, size_drewN, size_drew, size_setCell] at hz2); have hs2 : w.heap.size < w2.heap.size := (by (first | omega | (simp only [size_grow, World.size_alloc, size_drewN, size_drew, size_setCell] at *; omega))); have ho2 := own_cell hb2 (b := w.heap.size) (by (first | omega | (simp only [size_grow, World.size_alloc, size_drewN, size_drew, size_setCell] at *; omega))); have hq2 := own_frozen hb2 (b := w.heap.size) (by (first | omega | (simp only [size_grow, World.size_alloc, size_drewN, size_drew, size_setCell] at *; omega))); have hlt2 : ∀ b, b < w.heap.size → b < w2.heap.size := fun b hb => (by (first | omega | (simp only [size_grow, World.size_alloc, size_drewN, size_drew, size_setCell] at *; omega))); have hc2 : ∀ b o, b < w.heap.size → w2.cell? ⟨b, o, none⟩ = w.cell? ⟨b, o, none⟩ := old_cell (by (repeat (first | exact Below.refl _ _ | assumption | (refine below_gr ?_ (by (first | omega | (simp only [size_grow, World.size_alloc, size_drewN, size_drew, size_setCell] at *; omega))) _) | (refine below_alloc ?_ (by (first | omega | (simp only [size_grow, World.size_alloc, size_drewN, size_drew, size_setCell] at *; omega))) _) | (refine Below.setCell ?_ (by (first | omega | (simp only [size_grow, World.size_alloc, size_drewN, size_drew, size_setCell] at *; omega))) _) | refine below_drewN ?_ _ | refine below_drew ?_ | (refine below_step ?_ (by assumption) (by (first | omega | (simp only [size_grow, World.size_alloc, size_drewN, size_drew, size_setCell] at *; omega)))))))))
    go_ret2
    exact gives_of (rfl) (by (repeat (first | exact Below.refl _ _ | assumption | (refine below_gr ?_ (by (first | omega | (simp only [size_grow, World.size_alloc, size_drewN, size_drew, size_setCell] at *; omega))) _) | (refine below_alloc ?_ (by (first | omega | (simp only [size_grow, World.size_alloc, size_drewN, size_drew, size_setCell] at *; omega))) _) | (refine Below.setCell ?_ (by (first | omega | (simp only [size_grow, World.size_alloc, size_drewN, size_drew, size_setCell] at *; omega))) _) | refine below_drewN ?_ _ | refine below_drew ?_ | (refine below_step ?_ (by assumption) (by (first | omega | (simp only [size_grow, World.size_alloc, size_drewN, size_drew, size_setCell] at *; omega)))))))
theorem vbound (fr ti : Int) (m : Int) (A : Option Addr) (ps : List P3) (c : Nat) (w : World) (hA : Ppl w A ps) (hl : ps.length ≤ 100) (h0 : checkHall m ps = 0) (h1 : 1 ≤ fr) (h2 : fr ≤ ti) (h3 : ti ≤ m) : Calls Try.prog 26 #[.agg #[.int .i64 m, .slice A ps.length c], .int .i64 fr, .int .i64 ti] w (Gives w (.tuple #[.int .i64 (boundOf fr ti ps), .int .i64 0])) := by
  have := pboundF_any fr ti m A ps c w hA hl
  have e : boundR m ps fr ti = (boundOf fr ti ps, 0) := by
    unfold boundR; rw [if_neg (by simp [h0]), if_neg (by simp [isMin]; omega)]
  rw [e] at this; exact this
theorem vmach (m : Int) (A : Option Addr) (ps : List P3) (c : Nat) (w : World) (hA : Ppl w A ps) (hl : ps.length ≤ 100) (h0 : checkHall m ps = 0) : Calls Try.prog 24 #[.agg #[.int .i64 m, .slice A ps.length c]] w (Gives w (.tuple #[.agg #[.int .i64 (fewest m (ps.map soonP)), .int .i64 (fewest m ps)], .int .i64 0])) := by
  have := pmach_any m A ps c w hA hl
  have e : machT m ps = (fewest m (ps.map soonP), fewest m ps, 0) := by unfold machT; rw [if_neg (by simp [h0])]
  rw [e] at this; exact this
theorem vcrowd (m : Int) (A : Option Addr) (ps : List P3) (c : Nat) (w : World) (hA : Ppl w A ps) (hl : ps.length ≤ 100) (h0 : checkHall m ps = 0) : Calls Try.prog 28 #[.agg #[.int .i64 m, .slice A ps.length c]] w (fun e w' => (fewest m ps = 0 ∧ Gives w (.tuple #[.agg #[.int .i64 0, .int .i64 0], .int .i64 16]) e w') ∨ (0 < fewest m ps ∧ ∃ fr ti, First m (fewest m ps) ps fr ti ∧ Gives w (.tuple #[.agg #[.int .i64 fr, .int .i64 ti], .int .i64 0]) e w')) := by
  have h := pcrowd_any m A ps c w hA hl
  rcases best_first h0 with ⟨h1, _⟩ | ⟨h1, h2⟩
  · have e : crowdT m ps = (0, 0, 16) := by unfold crowdT; rw [if_neg (by simp [h0]), if_pos h1]
    rw [e] at h
    exact h.mono (fun e w' g => .inl ⟨h1, g⟩)
  · have e : crowdT m ps = ((bestS ps (spansL m.toNat)).fr, (bestS ps (spansL m.toNat)).ti, 0) := by unfold crowdT; rw [if_neg (by simp [h0]), if_neg (by omega)]
    rw [e] at h
    exact h.mono (fun e w' g => .inr ⟨h1, _, _, h2, g⟩)
end Go.Proofs.Ytbfhkknpocbeaaa
