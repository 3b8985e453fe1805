/- Proved here: contracts and laws of C41, a part of the proofs about the crowd laws: what some functions of the program and of the reference compute, and plain facts about it. Conditions: those that each theorem names, no others. -/
import Derived.Test.YtbfhkknpocbeaaaC40
import Derived.WalkKit
import Derived.WalkSpells
import Derived.WalkLawsBesides
import Derived.Below
import Derived.Deep.QuietTactic
import Derived.BigQuiet
import Derived.Deep.Light

set_option linter.unusedSimpArgs false
set_option linter.unusedVariables false
namespace Go.Proofs.Ytbfhkknpocbeaaa
open Go.RowKit
def lateL (m : Int) (ps : List P3) (k : Int) (j : Nat) : Int := lastP (personAt ps j) + (lateD m ps k j (lastP (personAt ps j)) ((personAt ps j).un - lastP (personAt ps j)).toNat : Nat)
def lateT (m : Int) (ps : List P3) (k i : Int) : Int × Int :=
  if asked m ps k ≠ 0 then (0, asked m ps k) else if i < 0 ∨ (ps.length : Int) ≤ i then (0, 2) else if canB (personAt ps i.toNat) = false then (0, 16) else if k < fewest m ps then (0, 23) else (lateL m ps k i.toNat, 0)
def roomT (m : Int) (ps : List P3) (k t : Int) : Int × Int :=
  if asked m ps k ≠ 0 then (0, asked m ps k) else if isMin m t = false then (0, 3) else if k < fewest m ps then (0, 23) else (roomV k t ps (spansL m.toNat), 0)
theorem isMin_iff {m t : Int} : isMin m t = true ↔ 1 ≤ t ∧ t ≤ m := by simp [isMin]
theorem lateT_asked {m : Int} {ps : List P3} {k i : Int} (h : asked m ps k ≠ 0) : lateT m ps k i = (0, asked m ps k) := by unfold lateT; rw [if_pos h]
theorem lateT_arg {m : Int} {ps : List P3} {k i : Int} (h : asked m ps k = 0) (hi : i < 0 ∨ (ps.length : Int) ≤ i) : lateT m ps k i = (0, 2) := by unfold lateT; rw [if_neg (by simp [h]), if_pos hi]
theorem lateT_rule {m : Int} {ps : List P3} {k : Int} {j : Nat} (h : asked m ps k = 0) (hj : j < ps.length) (hc : canB ps[j] = false) : lateT m ps k j = (0, 16) := by
  unfold lateT; rw [if_neg (by simp [h]), if_neg (by omega), Int.toNat_natCast, personAt_eq hj, if_pos hc]
theorem lateT_shut {m : Int} {ps : List P3} {k : Int} {j : Nat} (h : asked m ps k = 0) (hj : j < ps.length) (hc : canB ps[j] = true) (hf : k < fewest m ps) : lateT m ps k j = (0, 23) := by
  unfold lateT; rw [if_neg (by simp [h]), if_neg (by omega), Int.toNat_natCast, personAt_eq hj, if_neg (by simp [hc]), if_pos hf]
theorem lateT_ok {m : Int} {ps : List P3} {k : Int} {j : Nat} (h : asked m ps k = 0) (hj : j < ps.length) (hc : canB ps[j] = true) (hf : fewest m ps ≤ k) : lateT m ps k j = (lateL m ps k j, 0) := by
  unfold lateT; rw [if_neg (by simp [h]), if_neg (by omega), Int.toNat_natCast, personAt_eq hj, if_neg (by simp [hc]), if_neg (by omega)]
theorem rlate_any (k i : Int) (m : Int) (A : Option Addr) (ps : List P3) (c : Nat) (w : World) (hA : Ppl w A ps) (hl : ps.length ≤ 100) : Calls Try.prog 34 #[.agg #[.int .i64 m, .slice A ps.length c], .int .i64 k, .int .i64 i] w (Gives w (.tuple #[.int .i64 (lateT m ps k i).1, .int .i64 (lateT m ps k i).2])) := by
  by_cases ha : asked m ps k = 0
  · by_cases hi : i < 0 ∨ (ps.length : Int) ≤ i
    · rw [lateT_arg ha hi]; exact rlate_bad2 k i m A ps c w hA hl ha hi
    · obtain ⟨j, rfl⟩ : ∃ j : Nat, i = (j : Int) := ⟨i.toNat, by omega⟩
      have hj : j < ps.length := by omega
      cases hc : canB ps[j] with
      | false => rw [lateT_rule ha hj hc]; exact rlate_bad3 k j m A ps c w hA hl ha hj hc
      | true =>
        by_cases hf : fewest m ps ≤ k
        · rw [lateT_ok ha hj hc hf]
          have hs := late_spec (asked_ok ha).2.1 (okay_of (asked_ok ha).1) hj (by simpa [canB] using hc)
          have e : lateL m ps k j = lastP ps[j] + (lateD m ps k j (lastP ps[j]) (ps[j].un - lastP ps[j]).toNat : Nat) := by unfold lateL; rw [personAt_eq hj]
          rw [e]
          exact rlate_ok k j _ m A ps c w hA hl ha hj hc hf hs
        · rw [lateT_shut ha hj hc (by omega)]; exact rlate_shut k j m A ps c w hA hl ha hj hc (by omega)
  · rw [lateT_asked ha]; exact rlate_bad1 k i m A ps c w hA hl ha
theorem plate_any (k i : Int) (m : Int) (A : Option Addr) (ps : List P3) (c : Nat) (w : World) (hA : Ppl w A ps) (hl : ps.length ≤ 100) : Calls Try.prog 33 #[.agg #[.int .i64 m, .slice A ps.length c], .int .i64 k, .int .i64 i] w (Gives w (.tuple #[.int .i64 (lateT m ps k i).1, .int .i64 (lateT m ps k i).2])) := by
  by_cases h0 : checkHall m ps = 0
  · by_cases hk : k < 0 ∨ 30 < k
    · have ha := asked_many h0 hk
      rw [lateT_asked (by rw [ha]; decide), ha]
      exact late_bad2 k i m A ps c w hA hl h0 hk
    · have h1 : 0 ≤ k := by omega
      have h2 : k ≤ 30 := by omega
      have ha := asked_zero h0 h1 h2
      by_cases hi : i < 0 ∨ (ps.length : Int) ≤ i
      · rw [lateT_arg ha hi]; exact late_bad3 k i m A ps c w hA hl h0 h1 h2 hi
      · obtain ⟨j, rfl⟩ : ∃ j : Nat, i = (j : Int) := ⟨i.toNat, by omega⟩
        have hj : j < ps.length := by omega
        have hun := (okay_of h0).ok _ (List.getElem_mem hj)
        cases hc : canB ps[j] with
        | false =>
          rw [lateT_rule ha hj hc]
          have hlt : ps[j].un < ps[j].lo := by unfold canB at hc; rw [decide_eq_false_iff_not] at hc; omega
          exact late_bad4 k j m A ps c w hA hl h0 h1 h2 hj hlt
        | true =>
          have hle : ps[j].lo ≤ ps[j].un := by simpa [canB] using hc
          have hi2 := shutS_fewest (k := k) h1 (okay_of h0)
          by_cases hf : fewest m ps ≤ k
          · rw [lateT_ok ha hj hc hf]
            have e : lateL m ps k j = lastOr ps[j] + (lateD m ps k j (lastOr ps[j]) (ps[j].un - lastOr ps[j]).toNat : Nat) := by
              unfold lateL; rw [personAt_eq hj, lastOr_ok hun.2.2.2.1, if_pos hle]
            rw [e]
            exact late_ok k j m A ps c w hA hl h0 h1 h2 hj hle (hi2.2 hf)
          · rw [lateT_shut ha hj hc (by omega)]
            exact late_shut k j m A ps c w hA hl h0 h1 h2 hj hle _ rfl (by have := fun g => hf (hi2.1 g); omega)
  · have ha : asked m ps k = checkHall m ps := asked_chk h0
    rw [lateT_asked (by rw [ha]; exact h0), ha]
    exact late_bad1 k i m A ps c w hA hl h0
theorem roomT_asked {m : Int} {ps : List P3} {k t : Int} (h : asked m ps k ≠ 0) : roomT m ps k t = (0, asked m ps k) := by unfold roomT; rw [if_pos h]
theorem roomT_arg {m : Int} {ps : List P3} {k t : Int} (h : asked m ps k = 0) (ht : isMin m t = false) : roomT m ps k t = (0, 3) := by unfold roomT; rw [if_neg (by simp [h]), if_pos ht]
theorem roomT_shut {m : Int} {ps : List P3} {k t : Int} (h : asked m ps k = 0) (ht : isMin m t = true) (hf : k < fewest m ps) : roomT m ps k t = (0, 23) := by unfold roomT; rw [if_neg (by simp [h]), if_neg (by simp [ht]), if_pos hf]
theorem roomT_ok {m : Int} {ps : List P3} {k t : Int} (h : asked m ps k = 0) (ht : isMin m t = true) (hf : fewest m ps ≤ k) : roomT m ps k t = (roomV k t ps (spansL m.toNat), 0) := by unfold roomT; rw [if_neg (by simp [h]), if_neg (by simp [ht]), if_neg (by omega)]
theorem rroom_any (k t : Int) (m : Int) (A : Option Addr) (ps : List P3) (c : Nat) (w : World) (hA : Ppl w A ps) (hl : ps.length ≤ 100) : Calls Try.prog 36 #[.agg #[.int .i64 m, .slice A ps.length c], .int .i64 k, .int .i64 t] w (Gives w (.tuple #[.int .i64 (roomT m ps k t).1, .int .i64 (roomT m ps k t).2])) := by
  by_cases ha : asked m ps k = 0
  · cases ht : isMin m t with
    | false => rw [roomT_arg ha ht]; exact rroom_bad2 k t m A ps c w hA hl ha ht
    | true =>
      have hti := isMin_iff.1 ht
      by_cases hf : fewest m ps ≤ k
      · rw [roomT_ok ha ht hf]
        exact rroom_ok k t _ m A ps c w hA hl ha ht hf (room_spec (asked_ok ha).1 (asked_ok ha).2.1 hti.1 hti.2 hf)
      · rw [roomT_shut ha ht (by omega)]
        exact rroom_shut k t m A ps c w hA hl ha ht (by omega)
  · rw [roomT_asked ha]; exact rroom_bad1 k t m A ps c w hA hl ha
theorem proom_any (k t : Int) (m : Int) (A : Option Addr) (ps : List P3) (c : Nat) (w : World) (hA : Ppl w A ps) (hl : ps.length ≤ 100) : Calls Try.prog 35 #[.agg #[.int .i64 m, .slice A ps.length c], .int .i64 k, .int .i64 t] w (Gives w (.tuple #[.int .i64 (roomT m ps k t).1, .int .i64 (roomT m ps k t).2])) := by
  by_cases h0 : checkHall m ps = 0
  · by_cases hk : k < 0 ∨ 30 < k
    · have ha := asked_many h0 hk
      rw [roomT_asked (by rw [ha]; decide), ha]
      exact room_bad2 k t m A ps c w hA hl h0 hk
    · have h1 : 0 ≤ k := by omega
      have h2 : k ≤ 30 := by omega
      have ha := asked_zero h0 h1 h2
      cases ht : isMin m t with
      | false =>
        rw [roomT_arg ha ht]
        have : ¬ (1 ≤ t ∧ t ≤ m) := fun h => by rw [isMin_iff.2 h] at ht; cases ht
        exact room_bad3 k t m A ps c w hA hl h0 h1 h2 (by omega)
      | true =>
        have hti := isMin_iff.1 ht
        have hlf := left_fewest h0 h1
        obtain ⟨M, rfl⟩ : ∃ M : Nat, m = (M : Int) := ⟨m.toNat, by omega⟩
        obtain ⟨t', rfl⟩ : ∃ t' : Nat, t = (t' : Int) := ⟨t.toNat, by omega⟩
        rw [Int.toNat_natCast] at hlf
        by_cases hf : fewest M ps ≤ k
        · rw [roomT_ok ha ht hf, Int.toNat_natCast]
          refine room_any k M t' A ps c w hA hl h0 h1 h2 (by omega) (by omega) _ _ (fun _ => ⟨rfl, rfl⟩) (fun ⟨x, hx, hlt⟩ => ?_)
          have := hlf.1 hf x hx
          omega
        · rw [roomT_shut ha ht (by omega)]
          refine room_any k M t' A ps c w hA hl h0 h1 h2 (by omega) (by omega) _ _ (fun hall => absurd (hlf.2 hall) hf) (fun _ => ⟨rfl, rfl⟩)
  · have ha : asked m ps k = checkHall m ps := asked_chk h0
    rw [roomT_asked (by rw [ha]; exact h0), ha]
    exact room_bad1 k t m A ps c w hA hl h0
set_option maxRecDepth 100000 in
set_option maxHeartbeats 1000000 in
theorem lates_any (m : Int) (A : Option Addr) (ps : List P3) (c : Nat) (w : World) (hA : Ppl w A ps) (k i t : Int) :
    Calls Try.prog 6 #[.agg #[.int .i64 m, .slice A ps.length c], .int .i64 k, .int .i64 i, .int .i64 t] w (Gives w (.bool true)) := by
  by_cases hg : 40 < ps.length
  · have hd : decide (40 < ps.length) = true := by simpa using hg
    go_enter Try.func6, Try.ntmps6
    go_wp2_with (first
      | (go_at_call 16; refine (great_any _ _ _ _ _).mono ?_; rintro e w1 ⟨rfl, hb1⟩; replace hb1 := ex_below hb1; have hz1 := hb1.size; (try simp only [size_grow, World.size_alloc, size_drewN, size_drew, size_setCell] at hz1); have hs1 : w.heap.size < w1.heap.size := (by (first | omega | (simp only [size_grow, World.size_alloc, size_drewN, size_drew, size_setCell] at *; omega))); have ho1 := own_cell hb1 (b := w.heap.size) (by (first | omega | (simp only [size_grow, World.size_alloc, size_drewN, size_drew, size_setCell] at *; omega))); have hq1 := own_frozen hb1 (b := w.heap.size) (by (first | omega | (simp only [size_grow, World.size_alloc, size_drewN, size_drew, size_setCell] at *; omega))); have hlt1 : ∀ b, b < w.heap.size → b < w1.heap.size := fun b hb => (by (first | omega | (simp only [size_grow, World.size_alloc, size_drewN, size_drew, size_setCell] at *; omega))); have hc1 : ∀ b o, b < w.heap.size → w1.cell? ⟨b, o, none⟩ = w.cell? ⟨b, o, none⟩ := old_cell (by (repeat (first | exact Below.refl _ _ | assumption | (refine below_gr ?_ (by (first | omega | (simp only [size_grow, World.size_alloc, size_drewN, size_drew, size_setCell] at *; omega))) _) | (refine below_alloc ?_ (by (first | omega | (simp only [size_grow, World.size_alloc, size_drewN, size_drew, size_setCell] at *; omega))) _) | (refine Below.setCell ?_ (by (first | omega | (simp only [size_grow, World.size_alloc, size_drewN, size_drew, size_setCell] at *; omega))) _) | refine below_drewN ?_ _ | refine below_drew ?_ | (refine below_step ?_ (by assumption) (by (first | omega | (simp only [size_grow, World.size_alloc, size_drewN, size_drew, size_setCell] at *; omega))))))))
      | (go_at_call 17; refine (works_any _).mono ?_; rintro e w9 ⟨rfl, hb1⟩; replace hb1 := ex_below hb1; have hz1 := hb1.size; (try simp only [size_grow, World.size_alloc, size_drewN, size_drew, size_setCell] at hz1); have hs1 : w.heap.size < w9.heap.size := (by (first | omega | (simp only [size_grow, World.size_alloc, size_drewN, size_drew, size_setCell] at *; omega))); have ho1 := own_cell hb1 (b := w.heap.size) (by (first | omega | (simp only [size_grow, World.size_alloc, size_drewN, size_drew, size_setCell] at *; omega))); have hq1 := own_frozen hb1 (b := w.heap.size) (by (first | omega | (simp only [size_grow, World.size_alloc, size_drewN, size_drew, size_setCell] at *; omega))); have hlt1 : ∀ b, b < w.heap.size → b < w9.heap.size := fun b hb => (by (first | omega | (simp only [size_grow, World.size_alloc, size_drewN, size_drew, size_setCell] at *; omega))); have hc1 : ∀ b o, b < w.heap.size → w9.cell? ⟨b, o, none⟩ = w.cell? ⟨b, o, none⟩ := old_cell (by (repeat (first | exact Below.refl _ _ | assumption | (refine below_gr ?_ (by (first | omega | (simp only [size_grow, World.size_alloc, size_drewN, size_drew, size_setCell] at *; omega))) _) | (refine below_alloc ?_ (by (first | omega | (simp only [size_grow, World.size_alloc, size_drewN, size_drew, size_setCell] at *; omega))) _) | (refine Below.setCell ?_ (by (first | omega | (simp only [size_grow, World.size_alloc, size_drewN, size_drew, size_setCell] at *; omega))) _) | refine below_drewN ?_ _ | refine below_drew ?_ | (refine below_step ?_ (by assumption) (by (first | omega | (simp only [size_grow, World.size_alloc, size_drewN, size_drew, size_setCell] at *; omega)))))))))
    go_ret
    exact gives_of (rfl) (by (repeat (first | exact Below.refl _ _ | assumption | (refine below_gr ?_ (by (first | omega | (simp only [size_grow, World.size_alloc, size_drewN, size_drew, size_setCell] at *; omega))) _) | (refine below_alloc ?_ (by (first | omega | (simp only [size_grow, World.size_alloc, size_drewN, size_drew, size_setCell] at *; omega))) _) | (refine Below.setCell ?_ (by (first | omega | (simp only [size_grow, World.size_alloc, size_drewN, size_drew, size_setCell] at *; omega))) _) | refine below_drewN ?_ _ | refine below_drew ?_ | (refine below_step ?_ (by assumption) (by (first | omega | (simp only [size_grow, World.size_alloc, size_drewN, size_drew, size_setCell] at *; omega)))))))
  · have hd : decide (40 < ps.length) = false := by simpa using hg
    have hl : ps.length ≤ 100 := by omega
    have hl1 := hide (fun W hW => plate_any k i m A ps c W hW hl : ∀ W, Ppl W A ps → Calls Try.prog 33 #[.agg #[.int .i64 m, .slice A ps.length c], .int .i64 k, .int .i64 i] W (Gives W (.tuple #[.int .i64 (lateT m ps k i).1, .int .i64 (lateT m ps k i).2])))
    have hl2 := hide (fun W hW => rlate_any k i m A ps c W hW hl : ∀ W, Ppl W A ps → Calls Try.prog 34 #[.agg #[.int .i64 m, .slice A ps.length c], .int .i64 k, .int .i64 i] W (Gives W (.tuple #[.int .i64 (lateT m ps k i).1, .int .i64 (lateT m ps k i).2])))
    have hr1 := hide (fun W hW => proom_any k t m A ps c W hW hl : ∀ W, Ppl W A ps → Calls Try.prog 35 #[.agg #[.int .i64 m, .slice A ps.length c], .int .i64 k, .int .i64 t] W (Gives W (.tuple #[.int .i64 (roomT m ps k t).1, .int .i64 (roomT m ps k t).2])))
    have hr2 := hide (fun W hW => rroom_any k t m A ps c W hW hl : ∀ W, Ppl W A ps → Calls Try.prog 36 #[.agg #[.int .i64 m, .slice A ps.length c], .int .i64 k, .int .i64 t] W (Gives W (.tuple #[.int .i64 (roomT m ps k t).1, .int .i64 (roomT m ps k t).2])))
    generalize lateT m ps k i = X at *
    generalize roomT m ps k t = Y at *
    obtain ⟨x1, x2⟩ := X
    obtain ⟨y1, y2⟩ := Y
    have tok0 : True := trivial
    go_enter Try.func6, Try.ntmps6
    go_wp2_with (first
    | (clear tok0; go_at_call 16; refine (great_any _ _ _ _ _).mono ?_; rintro e u1 ⟨rfl, hb1⟩; replace hb1 := ex_below hb1; have bob1 : Below (w.alloc (.cells #[.int .i64 m, .slice A ps.length c] 24)).heap.size (w.alloc (.cells #[.int .i64 m, .slice A ps.length c] 24)) u1 := (by (repeat (first | exact Below.refl _ _ | assumption | (refine below_gr ?_ (by (first | omega | (simp only [size_grow, World.size_alloc, size_drewN, size_drew, size_setCell] at *; omega))) _) | (refine below_alloc ?_ (by (first | omega | (simp only [size_grow, World.size_alloc, size_drewN, size_drew, size_setCell] at *; omega))) _) | (refine Below.setCell ?_ (by (first | omega | (simp only [size_grow, World.size_alloc, size_drewN, size_drew, size_setCell] at *; omega))) _) | refine below_drewN ?_ _ | refine below_drew ?_ | (refine below_step ?_ (by assumption) (by (first | omega | (simp only [size_grow, World.size_alloc, size_drewN, size_drew, size_setCell] at *; omega))))))); have hB := (ObjV.new w 24 (.int .i64 m) (.slice A ps.length c)).below bob1; have bel1 : Below w.heap.size w u1 := (by (repeat (first | exact Below.refl _ _ | assumption | (refine below_gr ?_ (by (first | omega | (simp only [size_grow, World.size_alloc, size_drewN, size_drew, size_setCell] at *; omega))) _) | (refine below_alloc ?_ (by (first | omega | (simp only [size_grow, World.size_alloc, size_drewN, size_drew, size_setCell] at *; omega))) _) | (refine Below.setCell ?_ (by (first | omega | (simp only [size_grow, World.size_alloc, size_drewN, size_drew, size_setCell] at *; omega))) _) | refine below_drewN ?_ _ | refine below_drew ?_ | (refine below_step ?_ (by assumption) (by (first | omega | (simp only [size_grow, World.size_alloc, size_drewN, size_drew, size_setCell] at *; omega))))))); clear bob1; clear hb1; have sz1 := bel1.size; replace hA := hA.ext bel1; (try clear hBc0 hBc1 hBlt); have hBc0 := hB.c0; have hBc1 := hB.c1; have hBlt := hB.lt; have hW := bel1; clear bel1; have tok1 : True := trivial)
    | (clear tok1; go_at_call 33; refine (hl1.out _ (hA.ext (by (repeat (first | exact Below.refl _ _ | assumption | (refine below_gr ?_ (by (first | omega | (simp only [size_grow, World.size_alloc, size_drewN, size_drew, size_setCell] at *; omega))) _) | (refine below_alloc ?_ (by (first | omega | (simp only [size_grow, World.size_alloc, size_drewN, size_drew, size_setCell] at *; omega))) _) | (refine Below.setCell ?_ (by (first | omega | (simp only [size_grow, World.size_alloc, size_drewN, size_drew, size_setCell] at *; omega))) _) | refine below_drewN ?_ _ | refine below_drew ?_ | (refine below_step ?_ (by assumption) (by (first | omega | (simp only [size_grow, World.size_alloc, size_drewN, size_drew, size_setCell] at *; omega))))))))).mono ?_; rintro e u2 ⟨rfl, hb2⟩; replace hb2 := ex_below hb2; have bel2 : Below u1.heap.size u1 u2 := (by (repeat (first | exact Below.refl _ _ | assumption | (refine below_gr ?_ (by (first | omega | (simp only [size_grow, World.size_alloc, size_drewN, size_drew, size_setCell] at *; omega))) _) | (refine below_alloc ?_ (by (first | omega | (simp only [size_grow, World.size_alloc, size_drewN, size_drew, size_setCell] at *; omega))) _) | (refine Below.setCell ?_ (by (first | omega | (simp only [size_grow, World.size_alloc, size_drewN, size_drew, size_setCell] at *; omega))) _) | refine below_drewN ?_ _ | refine below_drew ?_ | (refine below_step ?_ (by assumption) (by (first | omega | (simp only [size_grow, World.size_alloc, size_drewN, size_drew, size_setCell] at *; omega))))))); clear hb2; have sz2 := bel2.size; replace hA := hA.ext bel2; replace hB := hB.below bel2; replace hW := below_step hW bel2 (by have := hW.size; omega); (try clear hBc0 hBc1 hBlt); have hBc0 := hB.c0; have hBc1 := hB.c1; have hBlt := hB.lt; clear bel2; have tok2 : True := trivial)
    | (clear tok2; go_at_call 34; refine (hl2.out _ (hA.ext (by (repeat (first | exact Below.refl _ _ | assumption | (refine below_gr ?_ (by (first | omega | (simp only [size_grow, World.size_alloc, size_drewN, size_drew, size_setCell] at *; omega))) _) | (refine below_alloc ?_ (by (first | omega | (simp only [size_grow, World.size_alloc, size_drewN, size_drew, size_setCell] at *; omega))) _) | (refine Below.setCell ?_ (by (first | omega | (simp only [size_grow, World.size_alloc, size_drewN, size_drew, size_setCell] at *; omega))) _) | refine below_drewN ?_ _ | refine below_drew ?_ | (refine below_step ?_ (by assumption) (by (first | omega | (simp only [size_grow, World.size_alloc, size_drewN, size_drew, size_setCell] at *; omega))))))))).mono ?_; rintro e u3 ⟨rfl, hb3⟩; replace hb3 := ex_below hb3; have bel3 : Below u2.heap.size u2 u3 := (by (repeat (first | exact Below.refl _ _ | assumption | (refine below_gr ?_ (by (first | omega | (simp only [size_grow, World.size_alloc, size_drewN, size_drew, size_setCell] at *; omega))) _) | (refine below_alloc ?_ (by (first | omega | (simp only [size_grow, World.size_alloc, size_drewN, size_drew, size_setCell] at *; omega))) _) | (refine Below.setCell ?_ (by (first | omega | (simp only [size_grow, World.size_alloc, size_drewN, size_drew, size_setCell] at *; omega))) _) | refine below_drewN ?_ _ | refine below_drew ?_ | (refine below_step ?_ (by assumption) (by (first | omega | (simp only [size_grow, World.size_alloc, size_drewN, size_drew, size_setCell] at *; omega))))))); clear hb3; have sz3 := bel3.size; replace hA := hA.ext bel3; replace hB := hB.below bel3; replace hW := below_step hW bel3 (by have := hW.size; omega); (try clear hBc0 hBc1 hBlt); have hBc0 := hB.c0; have hBc1 := hB.c1; have hBlt := hB.lt; clear bel3; have tok3 : True := trivial)
    | (clear tok3; go_at_call 35; refine (hr1.out _ (hA.ext (by (repeat (first | exact Below.refl _ _ | assumption | (refine below_gr ?_ (by (first | omega | (simp only [size_grow, World.size_alloc, size_drewN, size_drew, size_setCell] at *; omega))) _) | (refine below_alloc ?_ (by (first | omega | (simp only [size_grow, World.size_alloc, size_drewN, size_drew, size_setCell] at *; omega))) _) | (refine Below.setCell ?_ (by (first | omega | (simp only [size_grow, World.size_alloc, size_drewN, size_drew, size_setCell] at *; omega))) _) | refine below_drewN ?_ _ | refine below_drew ?_ | (refine below_step ?_ (by assumption) (by (first | omega | (simp only [size_grow, World.size_alloc, size_drewN, size_drew, size_setCell] at *; omega))))))))).mono ?_; rintro e u4 ⟨rfl, hb4⟩; replace hb4 := ex_below hb4; have bel4 : Below u3.heap.size u3 u4 := (by (repeat (first | exact Below.refl _ _ | assumption | (refine below_gr ?_ (by (first | omega | (simp only [size_grow, World.size_alloc, size_drewN, size_drew, size_setCell] at *; omega))) _) | (refine below_alloc ?_ (by (first | omega | (simp only [size_grow, World.size_alloc, size_drewN, size_drew, size_setCell] at *; omega))) _) | (refine Below.setCell ?_ (by (first | omega | (simp only [size_grow, World.size_alloc, size_drewN, size_drew, size_setCell] at *; omega))) _) | refine below_drewN ?_ _ | refine below_drew ?_ | (refine below_step ?_ (by assumption) (by (first | omega | (simp only [size_grow, World.size_alloc, size_drewN, size_drew, size_setCell] at *; omega))))))); clear hb4; have sz4 := bel4.size; replace hA := hA.ext bel4; replace hB := hB.below bel4; replace hW := below_step hW bel4 (by have := hW.size; omega); (try clear hBc0 hBc1 hBlt); have hBc0 := hB.c0; have hBc1 := hB.c1; have hBlt := hB.lt; clear bel4; have tok4 : True := trivial)
    | (clear tok4; go_at_call 36; refine (hr2.out _ (hA.ext (by (repeat (first | exact Below.refl _ _ | assumption | (refine below_gr ?_ (by (first | omega | (simp only [size_grow, World.size_alloc, size_drewN, size_drew, size_setCell] at *; omega))) _) | (refine below_alloc ?_ (by (first | omega | (simp only [size_grow, World.size_alloc, size_drewN, size_drew, size_setCell] at *; omega))) _) | (refine Below.setCell ?_ (by (first | omega | (simp only [size_grow, World.size_alloc, size_drewN, size_drew, size_setCell] at *; omega))) _) | refine below_drewN ?_ _ | refine below_drew ?_ | (refine below_step ?_ (by assumption) (by (first | omega | (simp only [size_grow, World.size_alloc, size_drewN, size_drew, size_setCell] at *; omega))))))))).mono ?_; rintro e u5 ⟨rfl, hb5⟩; replace hb5 := ex_below hb5; have bel5 : Below u4.heap.size u4 u5 := (by (repeat (first | exact Below.refl _ _ | assumption | (refine below_gr ?_ (by (first | omega | (simp only [size_grow, World.size_alloc, size_drewN, size_drew, size_setCell] at *; omega))) _) | (refine below_alloc ?_ (by (first | omega | (simp only [size_grow, World.size_alloc, size_drewN, size_drew, size_setCell] at *; omega))) _) | (refine Below.setCell ?_ (by (first | omega | (simp only [size_grow, World.size_alloc, size_drewN, size_drew, size_setCell] at *; omega))) _) | refine below_drewN ?_ _ | refine below_drew ?_ | (refine below_step ?_ (by assumption) (by (first | omega | (simp only [size_grow, World.size_alloc, size_drewN, size_drew, size_setCell] at *; omega))))))); clear hb5; have sz5 := bel5.size; replace hA := hA.ext bel5; replace hB := hB.below bel5; replace hW := below_step hW bel5 (by have := hW.size; omega); (try clear hBc0 hBc1 hBlt); have hBc0 := hB.c0; have hBc1 := hB.c1; have hBlt := hB.lt; clear bel5; have tok5 : True := trivial)
    | (clear tok5; go_at_call 17; refine (works_any _).mono ?_; rintro e u6 ⟨rfl, hb6⟩; replace hb6 := ex_below hb6; have bel6 : Below u5.heap.size u5 u6 := (by (repeat (first | exact Below.refl _ _ | assumption | (refine below_gr ?_ (by (first | omega | (simp only [size_grow, World.size_alloc, size_drewN, size_drew, size_setCell] at *; omega))) _) | (refine below_alloc ?_ (by (first | omega | (simp only [size_grow, World.size_alloc, size_drewN, size_drew, size_setCell] at *; omega))) _) | (refine Below.setCell ?_ (by (first | omega | (simp only [size_grow, World.size_alloc, size_drewN, size_drew, size_setCell] at *; omega))) _) | refine below_drewN ?_ _ | refine below_drew ?_ | (refine below_step ?_ (by assumption) (by (first | omega | (simp only [size_grow, World.size_alloc, size_drewN, size_drew, size_setCell] at *; omega))))))); clear hb6; have sz6 := bel6.size; replace hA := hA.ext bel6; replace hB := hB.below bel6; replace hW := below_step hW bel6 (by have := hW.size; omega); (try clear hBc0 hBc1 hBlt); have hBc0 := hB.c0; have hBc1 := hB.c1; have hBlt := hB.lt; clear bel6; have tok6 : True := trivial))
    go_ret
    exact gives_of (rfl) (by (repeat (first | exact Below.refl _ _ | assumption | (refine below_gr ?_ (by (first | omega | (simp only [size_grow, World.size_alloc, size_drewN, size_drew, size_setCell] at *; omega))) _) | (refine below_alloc ?_ (by (first | omega | (simp only [size_grow, World.size_alloc, size_drewN, size_drew, size_setCell] at *; omega))) _) | (refine Below.setCell ?_ (by (first | omega | (simp only [size_grow, World.size_alloc, size_drewN, size_drew, size_setCell] at *; omega))) _) | refine below_drewN ?_ _ | refine below_drew ?_ | (refine below_step ?_ (by assumption) (by (first | omega | (simp only [size_grow, World.size_alloc, size_drewN, size_drew, size_setCell] at *; omega)))))))
end Go.Proofs.Ytbfhkknpocbeaaa
