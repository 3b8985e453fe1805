/- Proved here: contracts and laws of C50, a part of the proofs about the crowd laws: what some functions of the program and of the reference compute, and plain facts about it. Conditions: those that each theorem names, no others. -/
import Derived.Test.YtbfhkknpocbeaaaC49
import Derived.WalkKit
import Derived.WalkSpells
import Derived.WalkLawsBesides
import Derived.Below
import Derived.Deep.QuietTactic
import Derived.BigQuiet
import Derived.Deep.Light

set_option linter.unusedSimpArgs false
set_option linter.unusedVariables false
namespace Go.Proofs.Ytbfhkknpocbeaaa
open Go.RowKit
theorem u8_nil {w : World} : U8L w none [] := fun k x h => by simp at h
set_option maxRecDepth 100000 in
set_option maxHeartbeats 1000000 in
theorem proved_any (m : Int) (A : Option Addr) (ps : List P3) (c : Nat) (w : World) (hA : Ppl w A ps) (B : Option Addr) (bs : List Int) (d : Nat) (hB8 : U8L w B bs) (y z : Int) (hy : 0 ≤ y ∧ y ≤ 255) (hz : 0 ≤ z ∧ z ≤ 255) :
    Calls Try.prog 9 #[.agg #[.int .i64 m, .slice A ps.length c], .int .u8 y, .int .u8 z, .slice B bs.length d] w (Gives w (.bool true)) := by
  by_cases hfine : ps.length ≤ 40 ∧ checkHall m ps = 0
  · by_cases hbl : 40 < bs.length
    · have hfi := hide (fun W hW => by have := fine_all m A ps c W hW; rw [decide_eq_true hfine] at this; exact this : ∀ W, Ppl W A ps → Calls Try.prog 37 #[.agg #[.int .i64 m, .slice A ps.length c]] W (Gives W (.bool true)))
      have HBL := hide hbl
      go_enter Try.func9, Try.ntmps9
      go_wp2_with (first
        | (go_at_call 37; refine (hfi.out _ (hA.ext (by (repeat (first | exact Below.refl _ _ | assumption | (refine below_gr ?_ (by (first | omega | (simp only [size_grow, World.size_alloc, size_drewN, size_drew, size_setCell] at *; omega))) _) | (refine below_alloc ?_ (by (first | omega | (simp only [size_grow, World.size_alloc, size_drewN, size_drew, size_setCell] at *; omega))) _) | (refine Below.setCell ?_ (by (first | omega | (simp only [size_grow, World.size_alloc, size_drewN, size_drew, size_setCell] at *; omega))) _) | refine below_drewN ?_ _ | refine below_drew ?_ | (refine below_step ?_ (by assumption) (by (first | omega | (simp only [size_grow, World.size_alloc, size_drewN, size_drew, size_setCell] at *; omega))))))))).mono ?_; rintro e w1 ⟨rfl, hb1⟩; replace hb1 := ex_below hb1; have hz1 := hb1.size; (try simp only [size_grow, World.size_alloc, size_drewN, size_drew, size_setCell] at hz1); have hs1 : w.heap.size < w1.heap.size := (by (first | omega | (simp only [size_grow, World.size_alloc, size_drewN, size_drew, size_setCell] at *; omega))); have ho1 := own_cell hb1 (b := w.heap.size) (by (first | omega | (simp only [size_grow, World.size_alloc, size_drewN, size_drew, size_setCell] at *; omega))); have hq1 := own_frozen hb1 (b := w.heap.size) (by (first | omega | (simp only [size_grow, World.size_alloc, size_drewN, size_drew, size_setCell] at *; omega))); have hlt1 : ∀ b, b < w.heap.size → b < w1.heap.size := fun b hb => (by (first | omega | (simp only [size_grow, World.size_alloc, size_drewN, size_drew, size_setCell] at *; omega))); have hc1 : ∀ b o, b < w.heap.size → w1.cell? ⟨b, o, none⟩ = w.cell? ⟨b, o, none⟩ := old_cell (by (repeat (first | exact Below.refl _ _ | assumption | (refine below_gr ?_ (by (first | omega | (simp only [size_grow, World.size_alloc, size_drewN, size_drew, size_setCell] at *; omega))) _) | (refine below_alloc ?_ (by (first | omega | (simp only [size_grow, World.size_alloc, size_drewN, size_drew, size_setCell] at *; omega))) _) | (refine Below.setCell ?_ (by (first | omega | (simp only [size_grow, World.size_alloc, size_drewN, size_drew, size_setCell] at *; omega))) _) | refine below_drewN ?_ _ | refine below_drew ?_ | (refine below_step ?_ (by assumption) (by (first | omega | (simp only [size_grow, World.size_alloc, size_drewN, size_drew, size_setCell] at *; omega))))))))
        | (go_at_call 17; refine (works_any _).mono ?_; rintro e w9 ⟨rfl, hb1⟩; replace hb1 := ex_below hb1; have hz1 := hb1.size; (try simp only [size_grow, World.size_alloc, size_drewN, size_drew, size_setCell] at hz1); have hs1 : w.heap.size < w9.heap.size := (by (first | omega | (simp only [size_grow, World.size_alloc, size_drewN, size_drew, size_setCell] at *; omega))); have ho1 := own_cell hb1 (b := w.heap.size) (by (first | omega | (simp only [size_grow, World.size_alloc, size_drewN, size_drew, size_setCell] at *; omega))); have hq1 := own_frozen hb1 (b := w.heap.size) (by (first | omega | (simp only [size_grow, World.size_alloc, size_drewN, size_drew, size_setCell] at *; omega))); have hlt1 : ∀ b, b < w.heap.size → b < w9.heap.size := fun b hb => (by (first | omega | (simp only [size_grow, World.size_alloc, size_drewN, size_drew, size_setCell] at *; omega))); have hc1 : ∀ b o, b < w.heap.size → w9.cell? ⟨b, o, none⟩ = w.cell? ⟨b, o, none⟩ := old_cell (by (repeat (first | exact Below.refl _ _ | assumption | (refine below_gr ?_ (by (first | omega | (simp only [size_grow, World.size_alloc, size_drewN, size_drew, size_setCell] at *; omega))) _) | (refine below_alloc ?_ (by (first | omega | (simp only [size_grow, World.size_alloc, size_drewN, size_drew, size_setCell] at *; omega))) _) | (refine Below.setCell ?_ (by (first | omega | (simp only [size_grow, World.size_alloc, size_drewN, size_drew, size_setCell] at *; omega))) _) | refine below_drewN ?_ _ | refine below_drew ?_ | (refine below_step ?_ (by assumption) (by (first | omega | (simp only [size_grow, World.size_alloc, size_drewN, size_drew, size_setCell] at *; omega)))))))))
      all_goals first | omega | (go_ret; exact gives_of (rfl) (by (repeat (first | exact Below.refl _ _ | assumption | (refine below_gr ?_ (by (first | omega | (simp only [size_grow, World.size_alloc, size_drewN, size_drew, size_setCell] at *; omega))) _) | (refine below_alloc ?_ (by (first | omega | (simp only [size_grow, World.size_alloc, size_drewN, size_drew, size_setCell] at *; omega))) _) | (refine Below.setCell ?_ (by (first | omega | (simp only [size_grow, World.size_alloc, size_drewN, size_drew, size_setCell] at *; omega))) _) | refine below_drewN ?_ _ | refine below_drew ?_ | (refine below_step ?_ (by assumption) (by (first | omega | (simp only [size_grow, World.size_alloc, size_drewN, size_drew, size_setCell] at *; omega))))))))
    · have h0 := hfine.2
      have hok := okay_of h0
      obtain ⟨v1, v2, v3, v4⟩ := check_val h0
      have hl : ps.length ≤ 100 := by omega
      have hbd := fewest_bd m ps
      have hbs := fewest_bd m (ps.map soonP)
      have hsl := soon_le hok
      obtain ⟨a, b, hya, hzb, a0, am, b0, abm⟩ := mins m y z v1 hy.1 hz.1
      have hbf := bound_fewest (m := m) (ps := ps) (fr := 1 + a) (ti := 1 + a + b) (by omega) (by omega) (by omega) (by omega)
      have hba := fun W hW => vbound (1 + a) (1 + a + b) m A ps c W hW hl h0 (by omega) (by omega) (by omega)
      rcases best_first h0 with ⟨h1, h2, h3⟩ | ⟨h1, h2⟩
      · have hcr : ∀ W, Ppl W A ps → Calls Try.prog 28 #[.agg #[.int .i64 m, .slice A ps.length c]] W (Gives W (.tuple #[.agg #[.int .i64 (bestS ps (spansL m.toNat)).fr, .int .i64 (bestS ps (spansL m.toNat)).ti], .int .i64 16])) := fun W hW => by
          have h := pcrowd_any m A ps c W hW hl
          have e : crowdT m ps = ((bestS ps (spansL m.toNat)).fr, (bestS ps (spansL m.toNat)).ti, 16) := by unfold crowdT; rw [if_neg (by simp [h0]), if_pos h1, h2, h3]
          rw [e] at h
          exact h
        exact proved_zero m A ps c w hA hfine B bs d hB8 (by omega) y z hy hz v1 v2 v3 a b hya hzb a0 am b0 abm _ _ _ _ _ hbs.1 hsl hbf hbd.2 h1 h2 h3 (fun W hW => vmach m A ps c W hW hl h0) hba hcr
      · have hcr : ∀ W, Ppl W A ps → Calls Try.prog 28 #[.agg #[.int .i64 m, .slice A ps.length c]] W (Gives W (.tuple #[.agg #[.int .i64 (bestS ps (spansL m.toNat)).fr, .int .i64 (bestS ps (spansL m.toNat)).ti], .int .i64 0])) := fun W hW => by
          have h := pcrowd_any m A ps c W hW hl
          have e : crowdT m ps = ((bestS ps (spansL m.toNat)).fr, (bestS ps (spansL m.toNat)).ti, 0) := by unfold crowdT; rw [if_neg (by simp [h0]), if_neg (by omega)]
          rw [e] at h
          exact h
        have hbe : boundOf (bestS ps (spansL m.toNat)).fr (bestS ps (spansL m.toNat)).ti ps = fewest m ps := by
          have := bound_fewest (m := m) (ps := ps) (by omega) h2.a1 h2.a2 h2.a3
          have := h2.big
          omega
        have hbc := fun W hW => vbound (bestS ps (spansL m.toNat)).fr (bestS ps (spansL m.toNat)).ti m A ps c W hW hl h0 h2.a1 h2.a2 h2.a3
        rw [hbe] at hbc
        have hf1 : fewest m ps - 1 ≤ 30 := by omega
        have hfa : asked m ps (fewest m ps - 1) = 0 := asked_zero h0 (by omega) hf1
        have hfn := asked_zero (k := ps.length) h0 (by omega) (by omega)
        have hsa : (1 : Int) ≤ shutS m ps (fewest m ps - 1) (ps.map lastOr) := by
          have := (shutS_fewest (m := m) (ps := ps) (k := fewest m ps - 1) (by omega) hok).1
          omega
        have hsb : 0 < fewest m (ps.map soonP) → (1 : Int) ≤ shutS m ps (fewest m (ps.map soonP) - 1) (ps.map P3.lo) := fun hp => by
          have := (shutS_iff (m := m) (ps := ps) (qs := ps.map soonP) (k := fewest m (ps.map soonP) - 1) (by omega) (soon_ok hok) (soon_un ps)).1
          rw [soon_last hok] at this
          omega
        have hsc : (shutS m ps ps.length (truthL bs ps) : Int) = 0 := by rw [truth_few hok (by omega) (truthL_len bs ps) (truthL_ok hok bs) hbd.2]; rfl
        refine proved_walk m A ps c w hA hfine B bs d hB8 (by omega) y z hy hz v1 v2 v3 a b hya hzb a0 am b0 abm (fewest m (ps.map soonP)) (fewest m ps) (boundOf (1 + a) (1 + a + b) ps) _ _ hbs.1 hsl hbf hbd.2 h1 _ _ _ (outS m ps (fewest m ps - 1) (ps.map lastOr)) (outS m ps (fewest m (ps.map soonP) - 1) (ps.map P3.lo)) (outS m ps ps.length (truthL bs ps)) hsa hsb hsc (truthL bs ps) (fun W hW => vmach m A ps c W hW hl h0) hba hcr hbc ?_ ?_ ?_ ?_ ?_ (fun p hp => (hok.ok p hp).2.2.2.1)
        · intro W hW
          refine (truth_any none [] 0 m A ps c W hW hl u8_nil (by simp) (fun p hp => by have := v4 p hp; omega)).mono ?_
          rintro e w' ⟨A', c', rfl, hg, hr⟩
          rw [truthL_nil] at hr ⊢
          rw [List.length_map] at hr ⊢
          exact ⟨A', c', rfl, hg, hr⟩
        · intro W hW hW8
          refine (truth_any B bs d m A ps c W hW hl hW8 (by omega) (fun p hp => by have := v4 p hp; omega)).mono ?_
          rintro e w' ⟨A', c', rfl, hg, hr⟩
          rw [truthL_len]
          exact ⟨A', c', rfl, hg, own_i64 (c := c') hr⟩
        · intro W A1 c1 hW hI
          exact vserve (fewest m ps - 1) m A ps c W hW hl hfa (ps.map lastOr) (by simp) (lasts_truth hok) A1 c1 hI
        · rintro W A1 c1 hW hI hp kk rfl
          exact vserve _ m A ps c W hW hl (asked_zero h0 (by omega) (by omega)) (ps.map P3.lo) (by simp) (los_truth hok) A1 c1 hI
        · intro W A1 c1 hW hI
          exact vserve _ m A ps c W hW hl hfn (truthL bs ps) (truthL_len bs ps) (truthL_ok hok bs) A1 c1 hI
  · have hfi := hide (fun W hW => by have := fine_all m A ps c W hW; rw [decide_eq_false hfine] at this; exact this : ∀ W, Ppl W A ps → Calls Try.prog 37 #[.agg #[.int .i64 m, .slice A ps.length c]] W (Gives W (.bool false)))
    go_enter Try.func9, Try.ntmps9
    go_wp2_with (first
      | (go_at_call 37; refine (hfi.out _ (hA.ext (by (repeat (first | exact Below.refl _ _ | assumption | (refine below_gr ?_ (by (first | omega | (simp only [size_grow, World.size_alloc, size_drewN, size_drew, size_setCell] at *; omega))) _) | (refine below_alloc ?_ (by (first | omega | (simp only [size_grow, World.size_alloc, size_drewN, size_drew, size_setCell] at *; omega))) _) | (refine Below.setCell ?_ (by (first | omega | (simp only [size_grow, World.size_alloc, size_drewN, size_drew, size_setCell] at *; omega))) _) | refine below_drewN ?_ _ | refine below_drew ?_ | (refine below_step ?_ (by assumption) (by (first | omega | (simp only [size_grow, World.size_alloc, size_drewN, size_drew, size_setCell] at *; omega))))))))).mono ?_; rintro e w1 ⟨rfl, hb1⟩; replace hb1 := ex_below hb1; have hz1 := hb1.size; (try simp only [size_grow, World.size_alloc, size_drewN, size_drew, size_setCell] at hz1); have hs1 : w.heap.size < w1.heap.size := (by (first | omega | (simp only [size_grow, World.size_alloc, size_drewN, size_drew, size_setCell] at *; omega))); have ho1 := own_cell hb1 (b := w.heap.size) (by (first | omega | (simp only [size_grow, World.size_alloc, size_drewN, size_drew, size_setCell] at *; omega))); have hq1 := own_frozen hb1 (b := w.heap.size) (by (first | omega | (simp only [size_grow, World.size_alloc, size_drewN, size_drew, size_setCell] at *; omega))); have hlt1 : ∀ b, b < w.heap.size → b < w1.heap.size := fun b hb => (by (first | omega | (simp only [size_grow, World.size_alloc, size_drewN, size_drew, size_setCell] at *; omega))); have hc1 : ∀ b o, b < w.heap.size → w1.cell? ⟨b, o, none⟩ = w.cell? ⟨b, o, none⟩ := old_cell (by (repeat (first | exact Below.refl _ _ | assumption | (refine below_gr ?_ (by (first | omega | (simp only [size_grow, World.size_alloc, size_drewN, size_drew, size_setCell] at *; omega))) _) | (refine below_alloc ?_ (by (first | omega | (simp only [size_grow, World.size_alloc, size_drewN, size_drew, size_setCell] at *; omega))) _) | (refine Below.setCell ?_ (by (first | omega | (simp only [size_grow, World.size_alloc, size_drewN, size_drew, size_setCell] at *; omega))) _) | refine below_drewN ?_ _ | refine below_drew ?_ | (refine below_step ?_ (by assumption) (by (first | omega | (simp only [size_grow, World.size_alloc, size_drewN, size_drew, size_setCell] at *; omega))))))))
      | (go_at_call 17; refine (works_any _).mono ?_; rintro e w9 ⟨rfl, hb1⟩; replace hb1 := ex_below hb1; have hz1 := hb1.size; (try simp only [size_grow, World.size_alloc, size_drewN, size_drew, size_setCell] at hz1); have hs1 : w.heap.size < w9.heap.size := (by (first | omega | (simp only [size_grow, World.size_alloc, size_drewN, size_drew, size_setCell] at *; omega))); have ho1 := own_cell hb1 (b := w.heap.size) (by (first | omega | (simp only [size_grow, World.size_alloc, size_drewN, size_drew, size_setCell] at *; omega))); have hq1 := own_frozen hb1 (b := w.heap.size) (by (first | omega | (simp only [size_grow, World.size_alloc, size_drewN, size_drew, size_setCell] at *; omega))); have hlt1 : ∀ b, b < w.heap.size → b < w9.heap.size := fun b hb => (by (first | omega | (simp only [size_grow, World.size_alloc, size_drewN, size_drew, size_setCell] at *; omega))); have hc1 : ∀ b o, b < w.heap.size → w9.cell? ⟨b, o, none⟩ = w.cell? ⟨b, o, none⟩ := old_cell (by (repeat (first | exact Below.refl _ _ | assumption | (refine below_gr ?_ (by (first | omega | (simp only [size_grow, World.size_alloc, size_drewN, size_drew, size_setCell] at *; omega))) _) | (refine below_alloc ?_ (by (first | omega | (simp only [size_grow, World.size_alloc, size_drewN, size_drew, size_setCell] at *; omega))) _) | (refine Below.setCell ?_ (by (first | omega | (simp only [size_grow, World.size_alloc, size_drewN, size_drew, size_setCell] at *; omega))) _) | refine below_drewN ?_ _ | refine below_drew ?_ | (refine below_step ?_ (by assumption) (by (first | omega | (simp only [size_grow, World.size_alloc, size_drewN, size_drew, size_setCell] at *; omega)))))))))
    go_ret
    exact gives_of (rfl) (by (repeat (first | exact Below.refl _ _ | assumption | (refine below_gr ?_ (by (first | omega | (simp only [size_grow, World.size_alloc, size_drewN, size_drew, size_setCell] at *; omega))) _) | (refine below_alloc ?_ (by (first | omega | (simp only [size_grow, World.size_alloc, size_drewN, size_drew, size_setCell] at *; omega))) _) | (refine Below.setCell ?_ (by (first | omega | (simp only [size_grow, World.size_alloc, size_drewN, size_drew, size_setCell] at *; omega))) _) | refine below_drewN ?_ _ | refine below_drew ?_ | (refine below_step ?_ (by assumption) (by (first | omega | (simp only [size_grow, World.size_alloc, size_drewN, size_drew, size_setCell] at *; omega)))))))
end Go.Proofs.Ytbfhkknpocbeaaa
