/- Proved here: contracts and laws of K1, a part of the proofs about the crowd laws: what some functions of the program and of the reference compute, and plain facts about it. Conditions: those that each theorem names, no others. -/
import Derived.Test.YtbfhkknpocbeaaaC33
import Derived.WalkKit
import Derived.WalkSpells
import Derived.WalkLawsBesides
import Derived.Below
import Derived.Deep.QuietTactic
import Derived.BigQuiet
import Derived.Deep.Light

set_option linter.unusedSimpArgs false
set_option linter.unusedVariables false
namespace Go.Proofs.Ytbfhkknpocbeaaa
open Go.RowKit
def machT (m : Int) (ps : List P3) : Int × Int × Int := if checkHall m ps ≠ 0 then (0, 0, checkHall m ps) else (fewest m (ps.map soonP), fewest m ps, 0)
def crowdT (m : Int) (ps : List P3) : Int × Int × Int := if checkHall m ps ≠ 0 then (0, 0, checkHall m ps) else if fewest m ps = 0 then (0, 0, 16) else ((bestS ps (spansL m.toNat)).fr, (bestS ps (spansL m.toNat)).ti, 0)
theorem soon_ok {m : Int} {ps : List P3} (h : Okay m ps) : Okay m (ps.map soonP) := by
  refine ⟨h.m1, h.m2, fun p hp => ?_⟩
  obtain ⟨q, hq, rfl⟩ := List.mem_map.1 hp
  have := h.ok q hq
  unfold soonP; simp only; omega
theorem soon_last {m : Int} {ps : List P3} (h : Okay m ps) : (ps.map soonP).map lastOr = ps.map P3.lo := by
  rw [List.map_map]
  refine List.map_congr_left (fun p hp => ?_)
  have := h.ok p hp
  simp only [Function.comp_apply]
  rw [lastOr_ok (by unfold soonP; simp only; omega)]
  unfold soonP lastP; simp only
  split <;> omega
theorem soon_un (ps : List P3) : (ps.map soonP).map P3.un = ps.map P3.un := by
  rw [List.map_map]; rfl
theorem pmach_any (m : Int) (A : Option Addr) (ps : List P3) (c : Nat) (w : World) (hA : Ppl w A ps) (hl : ps.length ≤ 100) : Calls Try.prog 24 #[.agg #[.int .i64 m, .slice A ps.length c]] w (Gives w (.tuple #[.agg #[.int .i64 (machT m ps).1, .int .i64 (machT m ps).2.1], .int .i64 (machT m ps).2.2])) := by
  by_cases h0 : checkHall m ps = 0
  · have hl30 := (check_val h0).2.2.1
    have e : machT m ps = (fewP m ps (ps.map P3.lo), fewP m ps (ps.map lastOr), 0) := by
      unfold machT
      rw [if_neg (by simp [h0]), ← soon_last (okay_of h0), fewP_eq (soon_ok (okay_of h0)) (soon_un ps) (by simpa using hl30), fewP_eq (okay_of h0) rfl hl30]
    rw [e]
    exact machines_ok m A ps c w hA hl h0
  · have e : machT m ps = (0, 0, checkHall m ps) := by unfold machT; rw [if_pos h0]
    rw [e]
    exact machines_bad m A ps c w hA hl h0
theorem pcrowd_any (m : Int) (A : Option Addr) (ps : List P3) (c : Nat) (w : World) (hA : Ppl w A ps) (hl : ps.length ≤ 100) : Calls Try.prog 28 #[.agg #[.int .i64 m, .slice A ps.length c]] w (Gives w (.tuple #[.agg #[.int .i64 (crowdT m ps).1, .int .i64 (crowdT m ps).2.1], .int .i64 (crowdT m ps).2.2])) := by
  by_cases h0 : checkHall m ps = 0
  · obtain ⟨v1, -, -, -⟩ := check_val h0
    obtain ⟨M, rfl⟩ : ∃ M : Nat, m = (M : Int) := ⟨m.toNat, by omega⟩
    have hb := best_first h0
    have e := show crowdT M ps = if fewest M ps = 0 then (0, 0, 16) else ((bestS ps (spansL M)).fr, (bestS ps (spansL M)).ti, 0) by
      unfold crowdT; rw [if_neg (by simp [h0]), Int.toNat_natCast]
    rw [Int.toNat_natCast] at hb
    rcases hb with ⟨h1, h2, h3⟩ | ⟨h1, h2⟩
    · rw [e, if_pos h1]
      have := crowd_ok M A ps c w hA hl h0 (bestS ps (spansL M)) 16 rfl (by rw [if_pos ⟨h2, h3⟩])
      rw [h2, h3] at this
      exact this
    · rw [e, if_neg (by omega)]
      exact crowd_ok M A ps c w hA hl h0 (bestS ps (spansL M)) 0 rfl (by rw [if_neg (by have := h2.a1; omega)])
  · have e : crowdT m ps = (0, 0, checkHall m ps) := by unfold crowdT; rw [if_pos h0]
    rw [e]
    exact crowd_bad m A ps c w hA hl h0
def serveV (m : Int) (ps : List P3) (k : Int) (ts : List Int) : List Int × Int × Int :=
  if asked m ps k ≠ 0 then ([], 0, asked m ps k) else if ts.length ≠ ps.length then ([], 0, 15) else if isTruth ps ts = false then ([], 0, 3) else (outS m ps k ts, (shutS m ps k ts : Int), 0)
theorem serveV_len (m : Int) (ps : List P3) (k : Int) (ts : List Int) : (serveV m ps k ts).1.length ≤ ps.length := by
  unfold serveV
  split
  · exact Nat.zero_le _
  · split
    · exact Nat.zero_le _
    · split
      · exact Nat.zero_le _
      · exact Nat.le_of_eq outS_len
theorem pserve_T (k : Int) (T : Option Addr) (ts : List Int) (tc : Nat) (m : Int) (A : Option Addr) (ps : List P3) (c : Nat) (w : World) (hA : Ppl w A ps) (hl : ps.length ≤ 100) (hT : I64 w T ts) (hts : ts.length ≤ 100) : Calls Try.prog 30 #[.agg #[.int .i64 m, .slice A ps.length c], .int .i64 k, .slice T ts.length tc] w (GivesSrv w (serveV m ps k ts).1 (serveV m ps k ts).2.1 (serveV m ps k ts).2.2) := by
  by_cases h0 : checkHall m ps = 0
  · by_cases hk : k < 0 ∨ 30 < k
    · have ha := asked_many h0 hk
      have e : serveV m ps k ts = ([], 0, 6) := by unfold serveV; rw [if_pos (by rw [ha]; decide), ha]
      rw [e]
      exact pserve_bad2 k T ts tc m A ps c w hA hl hT hts h0 hk
    · have h1 : 0 ≤ k := by omega
      have h2 : k ≤ 30 := by omega
      have ha := asked_zero h0 h1 h2
      by_cases hn : ts.length = ps.length
      · rw [hn]
        refine (pserve_ok k T ts tc m A ps c w hA hl hT hts h0 h1 h2 hn).mono ?_
        rintro e w' (⟨ht, h⟩ | ⟨ht, h⟩)
        · have e : serveV m ps k ts = ([], 0, 3) := by unfold serveV; rw [if_neg (by simp [ha]), if_neg (by simp [hn]), if_pos ht]
          rw [e]; exact h
        · have e : serveV m ps k ts = (outS m ps k ts, (shutS m ps k ts : Int), 0) := by unfold serveV; rw [if_neg (by simp [ha]), if_neg (by simp [hn]), if_neg (by simp [ht])]
          rw [e]; exact h
      · have e : serveV m ps k ts = ([], 0, 15) := by unfold serveV; rw [if_neg (by simp [ha]), if_pos hn]
        rw [e]
        exact pserve_bad3 k T ts tc m A ps c w hA hl hT hts h0 h1 h2 hn
  · have ha : asked m ps k = checkHall m ps := asked_chk h0
    have e : serveV m ps k ts = ([], 0, checkHall m ps) := by unfold serveV; rw [if_pos (by rw [ha]; exact h0), ha]
    rw [e]
    exact pserve_bad1 k T ts tc m A ps c w hA hl hT hts h0
theorem isMin_iff {m t : Int} : isMin m t = true ↔ 1 ≤ t ∧ t ≤ m := by simp [isMin]
theorem length_zip_at {ts : List Int} {ps : List P3} (hl : ts.length = ps.length) {f : Int × P3 → Bool} (h : (ts.zip ps).all f = true) (i : Nat) (hi : i < ps.length) : f (atI ts i, ps[i]) = true := by
  rw [List.all_eq_true] at h
  have := h ((ts.zip ps)[i]'(by simp; omega)) (List.getElem_mem _)
  rw [List.getElem_zip] at this
  rw [atI_at (by omega)]; exact this
theorem truth_at {ts : List Int} {ps : List P3} (hl : ts.length = ps.length) (h : isTruth ps ts = true) (i : Nat) (hi : i < ps.length) : ps[i].lo ≤ atI ts i ∧ atI ts i ≤ ps[i].hi := by
  have := length_zip_at hl h i hi
  simpa [truthB] using this
/-- a plan needs no more machines than there are -/
theorem plan_few {m : Int} {ps : List P3} {k : Int} {ts : List Int} (h : Okay m ps) (hk : 0 ≤ k) (hl : ts.length = ps.length) (hp : planR m ps k ts = 0) : fewest m ps ≤ k := by
  unfold planR at hp
  by_cases ha : (ts.zip ps).all inRb = true
  · rw [if_pos ha] at hp
    by_cases hf : fitR m k ts = true
    · obtain ⟨K, rfl⟩ : ∃ K : Nat, k = (K : Int) := ⟨k.toNat, by omega⟩
      rw [fewest_le_iff (by have := h.m1; omega)]
      refine ⟨hk, fun fr ti a b c => ?_⟩
      rw [fallsN_eq (fun p hp => (h.ok p hp).2.2.2.1) (u := untN ps) (fun i hi => untN_at hi) fr ti]
      refine hall_easy (F := atI ts) b a (fun i hi hcu hsc huD => ?_) (fun t t1 t2 => ?_)
      · have hin := length_zip_at hl ha i hi
        rw [atI_map ps lastOr i hi, untN_at hi] at *
        have hok := h.ok _ (List.getElem_mem hi)
        rw [lastOr_ok hok.2.2.2.1] at *
        unfold inRb at hin
        by_cases hc : ps[i].lo ≤ ps[i].un
        · rw [if_pos hc] at *
          rw [if_pos (by simpa [canB] using hc), decide_eq_true_eq] at hin
          exact hin
        · rw [if_neg hc] at hcu; omega
      · unfold fitR at hf
        rw [List.all_eq_true] at hf
        have := hf (t - 1).toNat (List.mem_range.2 (by omega))
        rw [decide_eq_true_eq, show (((t - 1).toNat : Nat) : Int) + 1 = t by omega, cntZ_range, hl] at this
        omega
    · rw [if_neg hf] at hp; cases hp
  · rw [if_neg ha] at hp; cases hp
theorem fallG_mono {c c' u u' : Nat → Int} {n : Nat} {s D s' D' : Int} (h : ∀ i, i < n → s ≤ c i → u i ≤ D → c i ≤ u i → s' ≤ c' i ∧ u' i ≤ D' ∧ c' i ≤ u' i) : fallG c u n s D ≤ fallG c' u' n s' D' :=
  cntP_mono (fun i hi hp => by
    simp only [decide_eq_true_eq] at hp ⊢
    exact h i hi hp.1 hp.2.1 hp.2.2)
/-- nobody is shut out in any truth, if there are machines enough -/
theorem truth_few {m : Int} {ps : List P3} {k : Int} {ts : List Int} (h : Okay m ps) (hk : 0 ≤ k) (hl : ts.length = ps.length) (ht : isTruth ps ts = true) (hf : fewest m ps ≤ k) : shutS m ps k ts = 0 := by
  obtain ⟨M, rfl⟩ : ∃ M : Nat, m = (M : Int) := ⟨m.toNat, by have := h.m1; omega⟩
  obtain ⟨K, rfl⟩ : ∃ K : Nat, k = (K : Int) := ⟨k.toNat, by omega⟩
  unfold shutS outS
  rw [Int.toNat_natCast, Int.toNat_natCast, shut_iff (fun i hi => by have := truth_at hl ht i hi; have := h.ok _ (List.getElem_mem hi); omega) (fun i hi => by rw [untN_at hi]; exact (h.ok _ (List.getElem_mem hi)).2.2.2.2)]
  intro s D a b c
  have h1 := ((fewest_le_iff (by omega)).1 hf).2 s D a b c
  rw [fallsN_eq (fun p hp => (h.ok p hp).2.2.2.1) (u := untN ps) (fun i hi => untN_at hi) s D] at h1
  have h2 : fallG (atI ts) (untN ps) ps.length s D ≤ fallG (atI (ps.map lastOr)) (untN ps) ps.length s D := fallG_mono (fun i hi p1 p2 p3 => by
    have := truth_at hl ht i hi
    have hok := h.ok _ (List.getElem_mem hi)
    rw [untN_at hi] at *
    rw [atI_map ps lastOr i hi, lastOr_ok hok.2.2.2.1, if_pos (by omega)]
    unfold lastP; omega)
  omega
theorem checkPl_few {m k : Int} {ps : List P3} {ts : List Int} (h : asked m ps k = 0) (hp : checkPl m ps k ts = 0) : fewest m ps ≤ k := by
  unfold checkPl at hp
  rw [if_neg (by simp [h])] at hp
  by_cases hl : ts.length = ps.length
  · rw [if_neg (by simp [hl])] at hp
    exact plan_few (okay_of (asked_ok h).1) (asked_ok h).2.1 hl hp
  · rw [if_pos hl] at hp; cases hp
/-- can, of a valid hall and so many machines -/
theorem can_T (k : Int) (m : Int) (A : Option Addr) (ps : List P3) (c : Nat) (w : World) (hA : Ppl w A ps) (hl : ps.length ≤ 100) (ha : asked m ps k = 0) : Calls Try.prog 38 #[.agg #[.int .i64 m, .slice A ps.length c], .int .i64 k] w (Gives w (.tuple #[.bool (decide (fewest m ps ≤ k)), .bool true])) := by
  have hl30 := (check_val (asked_ok ha).1).2.2.1
  by_cases hf : fewest m ps ≤ k
  · have hpe : planError m ps k = 0 := by rw [planError_ok ha, if_neg (by omega)]
    obtain ⟨hpl, hpg⟩ := plan_good hpe
    have hplan := hide (fun W hW => by have := pplan_any k m A ps c W hW hl; rw [hpl, hpe] at this; exact this : ∀ W, Ppl W A ps → Calls Try.prog 18 #[.agg #[.int .i64 m, .slice A ps.length c], .int .i64 k] W (GivesIntsE W (outS m ps k (ps.map lastOr)) 0))
    have hchk := hide (fun W hW P pc hP => by have := rplan_any k P (outS m ps k (ps.map lastOr)) pc m A ps c W hW hl hP (by rw [outS_len]; omega); rw [hpg] at this; exact this : ∀ W, Ppl W A ps → ∀ P pc, I64 W P (outS m ps k (ps.map lastOr)) → Calls Try.prog 23 #[.agg #[.int .i64 m, .slice A ps.length c], .int .i64 k, .slice P (outS m ps k (ps.map lastOr)).length pc] W (Gives W (.int .i64 0)))
    have hlo : (outS m ps k (ps.map lastOr)).length = ps.length := outS_len
    rw [hlo] at hchk
    unfold GivesIntsE at hplan
    rw [hlo] at hplan
    rw [decide_eq_true hf]
    clear hpl hpg hpe
    generalize outS m ps k (ps.map lastOr) = os at *
    go_enter Try.func38, Try.ntmps38
    go_wp2_with (first
      | (go_at_call 18; refine (hplan.out _ (hA.ext (by (repeat (first | exact Below.refl _ _ | assumption | (refine below_gr ?_ (by (first | omega | (simp only [size_grow, World.size_alloc, size_drewN, size_drew, size_setCell] at *; omega))) _) | (refine below_alloc ?_ (by (first | omega | (simp only [size_grow, World.size_alloc, size_drewN, size_drew, size_setCell] at *; omega))) _) | (refine Below.setCell ?_ (by (first | omega | (simp only [size_grow, World.size_alloc, size_drewN, size_drew, size_setCell] at *; omega))) _) | refine below_drewN ?_ _ | refine below_drew ?_ | (refine below_step ?_ (by assumption) (by (first | omega | (simp only [size_grow, World.size_alloc, size_drewN, size_drew, size_setCell] at *; omega))))))))).mono ?_; rintro e w2 ⟨Ap, cp, rfl, hb2, hP2⟩; replace hb2 := ex_below hb2; have hz2 := hb2.size; (try simp only [size_grow, World.size_alloc, size_drewN, size_drew, size_setCell] at hz2); have hs2 : w.heap.size < w2.heap.size := (by (first | omega | (simp only [size_grow, World.size_alloc, size_drewN, size_drew, size_setCell] at *; omega))); have ho2 := own_cell hb2 (b := w.heap.size) (by (first | omega | (simp only [size_grow, World.size_alloc, size_drewN, size_drew, size_setCell] at *; omega))); have hq2 := own_frozen hb2 (b := w.heap.size) (by (first | omega | (simp only [size_grow, World.size_alloc, size_drewN, size_drew, size_setCell] at *; omega))); have hlt2 : ∀ b, b < w.heap.size → b < w2.heap.size := fun b hb => (by (first | omega | (simp only [size_grow, World.size_alloc, size_drewN, size_drew, size_setCell] at *; omega))); have hc2 : ∀ b o, b < w.heap.size → w2.cell? ⟨b, o, none⟩ = w.cell? ⟨b, o, none⟩ := old_cell (by (repeat (first | exact Below.refl _ _ | assumption | (refine below_gr ?_ (by (first | omega | (simp only [size_grow, World.size_alloc, size_drewN, size_drew, size_setCell] at *; omega))) _) | (refine below_alloc ?_ (by (first | omega | (simp only [size_grow, World.size_alloc, size_drewN, size_drew, size_setCell] at *; omega))) _) | (refine Below.setCell ?_ (by (first | omega | (simp only [size_grow, World.size_alloc, size_drewN, size_drew, size_setCell] at *; omega))) _) | refine below_drewN ?_ _ | refine below_drew ?_ | (refine below_step ?_ (by assumption) (by (first | omega | (simp only [size_grow, World.size_alloc, size_drewN, size_drew, size_setCell] at *; omega))))))))
      | (go_at_call 23; refine (hchk.out _ (hA.ext (by (repeat (first | exact Below.refl _ _ | assumption | (refine below_gr ?_ (by (first | omega | (simp only [size_grow, World.size_alloc, size_drewN, size_drew, size_setCell] at *; omega))) _) | (refine below_alloc ?_ (by (first | omega | (simp only [size_grow, World.size_alloc, size_drewN, size_drew, size_setCell] at *; omega))) _) | (refine Below.setCell ?_ (by (first | omega | (simp only [size_grow, World.size_alloc, size_drewN, size_drew, size_setCell] at *; omega))) _) | refine below_drewN ?_ _ | refine below_drew ?_ | (refine below_step ?_ (by assumption) (by (first | omega | (simp only [size_grow, World.size_alloc, size_drewN, size_drew, size_setCell] at *; omega)))))))) _ cp (hP2.ext (by (repeat (first | exact Below.refl _ _ | assumption | (refine below_gr ?_ (by (first | omega | (simp only [size_grow, World.size_alloc, size_drewN, size_drew, size_setCell] at *; omega))) _) | (refine below_alloc ?_ (by (first | omega | (simp only [size_grow, World.size_alloc, size_drewN, size_drew, size_setCell] at *; omega))) _) | (refine Below.setCell ?_ (by (first | omega | (simp only [size_grow, World.size_alloc, size_drewN, size_drew, size_setCell] at *; omega))) _) | refine below_drewN ?_ _ | refine below_drew ?_ | (refine below_step ?_ (by assumption) (by (first | omega | (simp only [size_grow, World.size_alloc, size_drewN, size_drew, size_setCell] at *; omega))))))))).mono ?_; rintro e w5 ⟨rfl, hb5⟩; replace hb5 := ex_below hb5; have hz5 := hb5.size; (try simp only [size_grow, World.size_alloc, size_drewN, size_drew, size_setCell] at hz5); have hs5 : w.heap.size < w5.heap.size := (by (first | omega | (simp only [size_grow, World.size_alloc, size_drewN, size_drew, size_setCell] at *; omega))); have ho5 := own_cell hb5 (b := w.heap.size) (by (first | omega | (simp only [size_grow, World.size_alloc, size_drewN, size_drew, size_setCell] at *; omega))); have hq5 := own_frozen hb5 (b := w.heap.size) (by (first | omega | (simp only [size_grow, World.size_alloc, size_drewN, size_drew, size_setCell] at *; omega))); have hlt5 : ∀ b, b < w.heap.size → b < w5.heap.size := fun b hb => (by (first | omega | (simp only [size_grow, World.size_alloc, size_drewN, size_drew, size_setCell] at *; omega))); have hc5 : ∀ b o, b < w.heap.size → w5.cell? ⟨b, o, none⟩ = w.cell? ⟨b, o, none⟩ := old_cell (by (repeat (first | exact Below.refl _ _ | assumption | (refine below_gr ?_ (by (first | omega | (simp only [size_grow, World.size_alloc, size_drewN, size_drew, size_setCell] at *; omega))) _) | (refine below_alloc ?_ (by (first | omega | (simp only [size_grow, World.size_alloc, size_drewN, size_drew, size_setCell] at *; omega))) _) | (refine Below.setCell ?_ (by (first | omega | (simp only [size_grow, World.size_alloc, size_drewN, size_drew, size_setCell] at *; omega))) _) | refine below_drewN ?_ _ | refine below_drew ?_ | (refine below_step ?_ (by assumption) (by (first | omega | (simp only [size_grow, World.size_alloc, size_drewN, size_drew, size_setCell] at *; omega)))))))))
    go_ret2
    exact gives_of (rfl) (by (repeat (first | exact Below.refl _ _ | assumption | (refine below_gr ?_ (by (first | omega | (simp only [size_grow, World.size_alloc, size_drewN, size_drew, size_setCell] at *; omega))) _) | (refine below_alloc ?_ (by (first | omega | (simp only [size_grow, World.size_alloc, size_drewN, size_drew, size_setCell] at *; omega))) _) | (refine Below.setCell ?_ (by (first | omega | (simp only [size_grow, World.size_alloc, size_drewN, size_drew, size_setCell] at *; omega))) _) | refine below_drewN ?_ _ | refine below_drew ?_ | (refine below_step ?_ (by assumption) (by (first | omega | (simp only [size_grow, World.size_alloc, size_drewN, size_drew, size_setCell] at *; omega)))))))
  · have hpe : planError m ps k = 23 := by rw [planError_ok ha, if_pos (by omega)]
    have hpl : planL m ps k = [] := by unfold planL; rw [if_neg (by rw [hpe]; decide)]
    have hplan := hide (fun W hW => by have := pplan_any k m A ps c W hW hl; rw [hpl, hpe] at this; exact this : ∀ W, Ppl W A ps → Calls Try.prog 18 #[.agg #[.int .i64 m, .slice A ps.length c], .int .i64 k] W (GivesIntsE W [] 23))
    unfold GivesIntsE at hplan
    rw [List.length_nil] at hplan
    rw [decide_eq_false hf]
    clear hpl hpe hf
    go_enter Try.func38, Try.ntmps38
    go_wp2_with (first
      | (go_at_call 18; refine (hplan.out _ (hA.ext (by (repeat (first | exact Below.refl _ _ | assumption | (refine below_gr ?_ (by (first | omega | (simp only [size_grow, World.size_alloc, size_drewN, size_drew, size_setCell] at *; omega))) _) | (refine below_alloc ?_ (by (first | omega | (simp only [size_grow, World.size_alloc, size_drewN, size_drew, size_setCell] at *; omega))) _) | (refine Below.setCell ?_ (by (first | omega | (simp only [size_grow, World.size_alloc, size_drewN, size_drew, size_setCell] at *; omega))) _) | refine below_drewN ?_ _ | refine below_drew ?_ | (refine below_step ?_ (by assumption) (by (first | omega | (simp only [size_grow, World.size_alloc, size_drewN, size_drew, size_setCell] at *; omega))))))))).mono ?_; rintro e w2 ⟨Ap, cp, rfl, hb2, hP2⟩; replace hb2 := ex_below hb2; have hz2 := hb2.size; (try simp only [size_grow, World.size_alloc, size_drewN, size_drew, size_setCell] at hz2); have hs2 : w.heap.size < w2.heap.size := (by (first | omega | (simp only [size_grow, World.size_alloc, size_drewN, size_drew, size_setCell] at *; omega))); have ho2 := own_cell hb2 (b := w.heap.size) (by (first | omega | (simp only [size_grow, World.size_alloc, size_drewN, size_drew, size_setCell] at *; omega))); have hq2 := own_frozen hb2 (b := w.heap.size) (by (first | omega | (simp only [size_grow, World.size_alloc, size_drewN, size_drew, size_setCell] at *; omega))); have hlt2 : ∀ b, b < w.heap.size → b < w2.heap.size := fun b hb => (by (first | omega | (simp only [size_grow, World.size_alloc, size_drewN, size_drew, size_setCell] at *; omega))); have hc2 : ∀ b o, b < w.heap.size → w2.cell? ⟨b, o, none⟩ = w.cell? ⟨b, o, none⟩ := old_cell (by (repeat (first | exact Below.refl _ _ | assumption | (refine below_gr ?_ (by (first | omega | (simp only [size_grow, World.size_alloc, size_drewN, size_drew, size_setCell] at *; omega))) _) | (refine below_alloc ?_ (by (first | omega | (simp only [size_grow, World.size_alloc, size_drewN, size_drew, size_setCell] at *; omega))) _) | (refine Below.setCell ?_ (by (first | omega | (simp only [size_grow, World.size_alloc, size_drewN, size_drew, size_setCell] at *; omega))) _) | refine below_drewN ?_ _ | refine below_drew ?_ | (refine below_step ?_ (by assumption) (by (first | omega | (simp only [size_grow, World.size_alloc, size_drewN, size_drew, size_setCell] at *; omega)))))))))
    go_ret2
    exact gives_of (rfl) (by (repeat (first | exact Below.refl _ _ | assumption | (refine below_gr ?_ (by (first | omega | (simp only [size_grow, World.size_alloc, size_drewN, size_drew, size_setCell] at *; omega))) _) | (refine below_alloc ?_ (by (first | omega | (simp only [size_grow, World.size_alloc, size_drewN, size_drew, size_setCell] at *; omega))) _) | (refine Below.setCell ?_ (by (first | omega | (simp only [size_grow, World.size_alloc, size_drewN, size_drew, size_setCell] at *; omega))) _) | refine below_drewN ?_ _ | refine below_drew ?_ | (refine below_step ?_ (by assumption) (by (first | omega | (simp only [size_grow, World.size_alloc, size_drewN, size_drew, size_setCell] at *; omega)))))))
theorem vbound (fr ti : Int) (m : Int) (A : Option Addr) (ps : List P3) (c : Nat) (w : World) (hA : Ppl w A ps) (hl : ps.length ≤ 100) (h0 : checkHall m ps = 0) (h1 : 1 ≤ fr) (h2 : fr ≤ ti) (h3 : ti ≤ m) : Calls Try.prog 26 #[.agg #[.int .i64 m, .slice A ps.length c], .int .i64 fr, .int .i64 ti] w (Gives w (.tuple #[.int .i64 (boundOf fr ti ps), .int .i64 0])) := by
  have := pboundF_any fr ti m A ps c w hA hl
  have e : boundR m ps fr ti = (boundOf fr ti ps, 0) := by
    unfold boundR; rw [if_neg (by simp [h0]), if_neg (by simp [isMin]; omega)]
  rw [e] at this; exact this
theorem vmach (m : Int) (A : Option Addr) (ps : List P3) (c : Nat) (w : World) (hA : Ppl w A ps) (hl : ps.length ≤ 100) (h0 : checkHall m ps = 0) : Calls Try.prog 24 #[.agg #[.int .i64 m, .slice A ps.length c]] w (Gives w (.tuple #[.agg #[.int .i64 (fewest m (ps.map soonP)), .int .i64 (fewest m ps)], .int .i64 0])) := by
  have := pmach_any m A ps c w hA hl
  have e : machT m ps = (fewest m (ps.map soonP), fewest m ps, 0) := by unfold machT; rw [if_neg (by simp [h0])]
  rw [e] at this; exact this
theorem vcrowd (m : Int) (A : Option Addr) (ps : List P3) (c : Nat) (w : World) (hA : Ppl w A ps) (hl : ps.length ≤ 100) (h0 : checkHall m ps = 0) : Calls Try.prog 28 #[.agg #[.int .i64 m, .slice A ps.length c]] w (fun e w' => (fewest m ps = 0 ∧ Gives w (.tuple #[.agg #[.int .i64 0, .int .i64 0], .int .i64 16]) e w') ∨ (0 < fewest m ps ∧ ∃ fr ti, First m (fewest m ps) ps fr ti ∧ Gives w (.tuple #[.agg #[.int .i64 fr, .int .i64 ti], .int .i64 0]) e w')) := by
  have h := pcrowd_any m A ps c w hA hl
  rcases best_first h0 with ⟨h1, _⟩ | ⟨h1, h2⟩
  · have e : crowdT m ps = (0, 0, 16) := by unfold crowdT; rw [if_neg (by simp [h0]), if_pos h1]
    rw [e] at h
    exact h.mono (fun e w' g => .inl ⟨h1, g⟩)
  · have e : crowdT m ps = ((bestS ps (spansL m.toNat)).fr, (bestS ps (spansL m.toNat)).ti, 0) := by unfold crowdT; rw [if_neg (by simp [h0]), if_neg (by omega)]
    rw [e] at h
    exact h.mono (fun e w' g => .inr ⟨h1, _, _, h2, g⟩)
set_option maxHeartbeats 400000 in
theorem fine_all (m : Int) (A : Option Addr) (ps : List P3) (c : Nat) (w : World) (hA : Ppl w A ps) : Calls Try.prog 37 #[.agg #[.int .i64 m, .slice A ps.length c]] w (Gives w (.bool (decide (ps.length ≤ 40 ∧ checkHall m ps = 0)))) := by
  by_cases hg : 40 < ps.length
  · have hd : decide (40 < ps.length) = true := by simpa using hg
    rw [decide_eq_false (by omega)]
    go_enter Try.func37, Try.ntmps37
    go_wp2_with (go_at_call 16; refine (great_any _ _ _ _ _).mono ?_; rintro e w1 ⟨rfl, hb1⟩; replace hb1 := ex_below hb1; have hz1 := hb1.size; (try simp only [size_grow, World.size_alloc, size_drewN, size_drew, size_setCell] at hz1); have hs1 : w.heap.size < w1.heap.size := (by (first | omega | (simp only [size_grow, World.size_alloc, size_drewN, size_drew, size_setCell] at *; omega))); have ho1 := own_cell hb1 (b := w.heap.size) (by (first | omega | (simp only [size_grow, World.size_alloc, size_drewN, size_drew, size_setCell] at *; omega))); have hq1 := own_frozen hb1 (b := w.heap.size) (by (first | omega | (simp only [size_grow, World.size_alloc, size_drewN, size_drew, size_setCell] at *; omega))); have hlt1 : ∀ b, b < w.heap.size → b < w1.heap.size := fun b hb => (by (first | omega | (simp only [size_grow, World.size_alloc, size_drewN, size_drew, size_setCell] at *; omega))); have hc1 : ∀ b o, b < w.heap.size → w1.cell? ⟨b, o, none⟩ = w.cell? ⟨b, o, none⟩ := old_cell (by (repeat (first | exact Below.refl _ _ | assumption | (refine below_gr ?_ (by (first | omega | (simp only [size_grow, World.size_alloc, size_drewN, size_drew, size_setCell] at *; omega))) _) | (refine below_alloc ?_ (by (first | omega | (simp only [size_grow, World.size_alloc, size_drewN, size_drew, size_setCell] at *; omega))) _) | (refine Below.setCell ?_ (by (first | omega | (simp only [size_grow, World.size_alloc, size_drewN, size_drew, size_setCell] at *; omega))) _) | refine below_drewN ?_ _ | refine below_drew ?_ | (refine below_step ?_ (by assumption) (by (first | omega | (simp only [size_grow, World.size_alloc, size_drewN, size_drew, size_setCell] at *; omega))))))))
    go_ret
    exact gives_of (rfl) (by (repeat (first | exact Below.refl _ _ | assumption | (refine below_gr ?_ (by (first | omega | (simp only [size_grow, World.size_alloc, size_drewN, size_drew, size_setCell] at *; omega))) _) | (refine below_alloc ?_ (by (first | omega | (simp only [size_grow, World.size_alloc, size_drewN, size_drew, size_setCell] at *; omega))) _) | (refine Below.setCell ?_ (by (first | omega | (simp only [size_grow, World.size_alloc, size_drewN, size_drew, size_setCell] at *; omega))) _) | refine below_drewN ?_ _ | refine below_drew ?_ | (refine below_step ?_ (by assumption) (by (first | omega | (simp only [size_grow, World.size_alloc, size_drewN, size_drew, size_setCell] at *; omega)))))))
  · exact fine_any m A ps c w hA (by omega)
/-- two numbers make two minutes -/
theorem mins (m y z : Int) (h1 : 1 ≤ m) (hy : 0 ≤ y) (hz : 0 ≤ z) : ∃ a b : Int, y % m = a ∧ z % (m - (1 + a) + 1) = b ∧ 0 ≤ a ∧ a < m ∧ 0 ≤ b ∧ 1 + a + b ≤ m := by
  refine ⟨_, _, rfl, rfl, Int.emod_nonneg _ (by omega), Int.emod_lt_of_pos _ (by omega), ?_, ?_⟩
  · have := Int.emod_lt_of_pos y (show 0 < m by omega)
    exact Int.emod_nonneg _ (by omega)
  · have h2 := Int.emod_lt_of_pos y (show 0 < m by omega)
    have := Int.emod_lt_of_pos z (show 0 < m - (1 + y % m) + 1 by omega)
    omega
theorem check_of_okay {m : Int} {ps : List P3} (h : Okay m ps) (hl : ps.length ≤ 30) : checkHall m ps = 0 := by
  have h1 := h.m1
  have h2 := h.m2
  unfold checkHall
  rw [if_neg (by omega), if_neg (by omega), if_pos]
  rw [List.all_eq_true]
  intro p hp
  have := h.ok p hp
  simp only [okP, isMin, Bool.and_eq_true, decide_eq_true_eq]
  omega
/-- three cells in a block -/
def Obj3 (W : World) (B : Nat) (t : TypeId) (a b c : Value) : Prop := W.heap[B]? = some (.cells #[a, b, c] t (0, 0))
theorem Obj3.lt {W : World} {B : Nat} {t : TypeId} {a b c : Value} (h : Obj3 W B t a b c) : B < W.heap.size := (Array.getElem?_eq_some_iff.1 (show W.heap[B]? = _ from h)).1
theorem Obj3.c0 {W : World} {B : Nat} {t : TypeId} {a b c : Value} (h : Obj3 W B t a b c) : W.cell? ⟨B, 0, none⟩ = some a := by simp [World.cell?, show W.heap[B]? = _ from h]
theorem Obj3.c1 {W : World} {B : Nat} {t : TypeId} {a b c : Value} (h : Obj3 W B t a b c) : W.cell? ⟨B, 1, none⟩ = some b := by simp [World.cell?, show W.heap[B]? = _ from h]
theorem Obj3.c2 {W : World} {B : Nat} {t : TypeId} {a b c : Value} (h : Obj3 W B t a b c) : W.cell? ⟨B, 2, none⟩ = some c := by simp [World.cell?, show W.heap[B]? = _ from h]
theorem Obj3.below {W W' : World} {B : Nat} {t : TypeId} {a b c : Value} (h : Obj3 W B t a b c) (hb : Below W.heap.size W W') : Obj3 W' B t a b c := (hb.block B h.lt).trans h
theorem Obj3.new (W : World) (t : TypeId) (a b c : Value) : Obj3 (W.alloc (.cells #[a, b, c] t)) W.heap.size t a b c := World.alloc_heap_new W _
theorem u8b {n : Int} (h : (Lit.int .u8 n).wf = true) : 0 ≤ n ∧ n ≤ 255 := by
  simp only [Lit.wf, Bool.and_eq_true, decide_eq_true_eq] at h
  exact h
def U8L (w : World) (A : Option Addr) (xs : List Int) : Prop :=
  ∀ k x, xs[k]? = some x → (∃ b off, A = some ⟨b, off, none⟩ ∧ b < w.heap.size ∧ b ≤ w.heap.size ∧ w.cell? ⟨b, off + k, none⟩ = some (.int .u8 x)) ∧ (0 ≤ x ∧ x ≤ 255)
theorem U8L.ext {w w' : World} {A : Option Addr} {xs : List Int} (h : U8L w A xs) (hb : Below w.heap.size w w') : U8L w' A xs := fun k p hk => by
  obtain ⟨⟨b, off, h0, h1, h2, h3⟩, hr⟩ := h k p hk
  have hs := hb.size
  exact ⟨⟨b, off, h0, by omega, by omega, (hb.cell (p := ⟨b, _, none⟩) h1).trans h3⟩, hr⟩
end Go.Proofs.Ytbfhkknpocbeaaa
