/- Proved here: the reference: how many letters of a window, or the error; the reference: how often an impulse comes before another one; the reference: how often an impulse comes before another one, or the error, a part of the proofs about the tape laws. Conditions: those that each theorem names, no others. -/
import Derived.Test.YtafncmgijbkomaaP26
import Derived.WalkKit
import Derived.WalkSpells
import Derived.WalkLawsBesides
import Derived.Below
import Derived.Deep.QuietTactic
import Derived.BigQuiet
import Derived.Deep.Light
import Derived.Test.YtafncmgijbkomaaP27
set_option linter.unusedSimpArgs false
set_option linter.unusedVariables false
namespace Go.Proofs.Ytafncmgijbkomaa
open Go.RowKit Go.Maps Go.Lib
set_option maxRecDepth 100000 in
set_option maxHeartbeats 4000000 in
theorem rPulls_any (W : Int) (A : Option Addr) (ts : List ByteArray) (c : Nat) (w : World) (hA : Strs w A ts) (hl : ts.length ≤ 1000) (hsz : ∀ k, (h : k < ts.length) → ts[k].size ≤ 1000000) (b : Nat) (hb : b < 256) (long : Int) (hcn : ∀ lg : Nat, openE W ts (lg : Nat) = 0 → long = (lg : Nat) → Tm.cntU W.toNat lg (lts ts) ≤ 300) : Calls Try.prog 36 #[.agg #[.int .i64 W, .slice A ts.length c], .int .i64 long, .int .u8 (b : Nat)] w (Gives w (rngE (pullsA W ts long b))) := by
  by_cases h0 : openE W ts long = 0
  · obtain ⟨lg, rfl⟩ : ∃ lg : Nat, long = (lg : Nat) := ⟨long.toNat, by have := (open_val h0).2; simp [withinB, outB] at this; omega⟩
    obtain ⟨Wn, rfl, hlg, hW5, hW1, h3, _, hf, hs⟩ := countE_val h0
    have hlo := (chk_val (open_val h0).1).2.2.2.2.2.2.2
    have hcn := hcn lg h0 rfl
    rw [Int.toNat_natCast] at hlo hcn
    have h1 : (openE (Wn : Nat) ts (lg : Nat) != 0) = false := by simp [h0]
    have HIW := hide (fun w' => rIsWindow_any (Wn : Nat) A ts c w' b hb)
    have HV := hide (show pullsA (Wn : Nat) ts (lg : Nat) b = if isWin (Wn : Nat) b = false then (((0 : Int), (0 : Int)), (2 : Int)) else if Tm.cntC Wn lg (lts ts) = 0 then ((0, 0), 24) else (Tm.pullsP Wn ((b : Int) - 97) lg (lts ts), 0) by simp [pullsA, h0])
    cases hw : isWin (Wn : Nat) b with
    | false =>
      rw [HV.out, if_pos hw]
      rw [hw] at HIW
      unfold rngE
      replace h0 := hide h0
      clear HV
      go_enter Try.func36, Try.ntmps36
      go_wp2_with (first
    | (go_at_call 76; refine (rLong_any (Wn : Nat) A ts c _ (hA.ext (by (repeat (first | exact Below.refl _ _ | assumption | refine below_drewN ?_ _ | refine below_drew ?_ | refine below_gr ?_ ?_ _ | refine below_alloc ?_ ?_ _ | refine Below.setCell ?_ ?_ _ | refine below_step ?_ (by assumption) ?_ | omega | (simp only [zz] at *; omega))))) hl hsz (lg : Nat)).mono ?_; rintro e w1 ⟨rfl, hb1⟩; replace hb1 := ex_below hb1; have hz1 := hb1.size; (try simp only [zz] at hz1); have hs1 : w.heap.size < w1.heap.size := (by (first | omega | (simp only [zz] at *; omega))); have ho1 := own_cell hb1 (b := w.heap.size) (by (first | omega | (simp only [zz] at *; omega))); have hq1 := own_frozen hb1 (b := w.heap.size) (by (first | omega | (simp only [zz] at *; omega))); have hs1 : w.heap.size + 1 < w1.heap.size := (by (first | omega | (simp only [zz] at *; omega))); have ho1 := own_cell hb1 (b := w.heap.size + 1) (by (first | omega | (simp only [zz] at *; omega))); have hq1 := own_frozen hb1 (b := w.heap.size + 1) (by (first | omega | (simp only [zz] at *; omega))); have hlt1 : ∀ b, b < w.heap.size → b < w1.heap.size := fun b hb => (by (first | omega | (simp only [zz] at *; omega))); have hc1 : ∀ b o, b < w.heap.size → w1.cell? ⟨b, o, none⟩ = w.cell? ⟨b, o, none⟩ := old_cell (by (repeat (first | exact Below.refl _ _ | assumption | refine below_drewN ?_ _ | refine below_drew ?_ | refine below_gr ?_ ?_ _ | refine below_alloc ?_ ?_ _ | refine Below.setCell ?_ ?_ _ | refine below_step ?_ (by assumption) ?_ | omega | (simp only [zz] at *; omega)))))
    | (go_at_call 82; refine (HIW.out _).mono ?_; rintro e w2 ⟨rfl, hb2⟩; replace hb2 := ex_below hb2; have hz2 := hb2.size; (try simp only [zz] at hz2); have hs2 : w.heap.size < w2.heap.size := (by (first | omega | (simp only [zz] at *; omega))); have ho2 := own_cell hb2 (b := w.heap.size) (by (first | omega | (simp only [zz] at *; omega))); have hq2 := own_frozen hb2 (b := w.heap.size) (by (first | omega | (simp only [zz] at *; omega))); have hs2 : w.heap.size + 1 < w2.heap.size := (by (first | omega | (simp only [zz] at *; omega))); have ho2 := own_cell hb2 (b := w.heap.size + 1) (by (first | omega | (simp only [zz] at *; omega))); have hq2 := own_frozen hb2 (b := w.heap.size + 1) (by (first | omega | (simp only [zz] at *; omega))); have hlt2 : ∀ b, b < w.heap.size → b < w2.heap.size := fun b hb => (by (first | omega | (simp only [zz] at *; omega))); have hc2 : ∀ b o, b < w.heap.size → w2.cell? ⟨b, o, none⟩ = w.cell? ⟨b, o, none⟩ := old_cell (by (repeat (first | exact Below.refl _ _ | assumption | refine below_drewN ?_ _ | refine below_drew ?_ | refine below_gr ?_ ?_ _ | refine below_alloc ?_ ?_ _ | refine Below.setCell ?_ ?_ _ | refine below_step ?_ (by assumption) ?_ | omega | (simp only [zz] at *; omega))))))
      have hbB : Below ((w.alloc (.cells #[.int .i64 (Wn : Nat), .slice A ts.length c] 24)).alloc (.cells #[.int .i64 0, .int .i64 0] 47)).heap.size ((w.alloc (.cells #[.int .i64 (Wn : Nat), .slice A ts.length c] 24)).alloc (.cells #[.int .i64 0, .int .i64 0] 47)) w2 := by (repeat (first | exact Below.refl _ _ | assumption | (refine below_gr ?_ (by (first | omega | (simp only [zz] at *; omega))) _) | (refine below_alloc ?_ (by (first | omega | (simp only [zz] at *; omega))) _) | (refine Below.setCell ?_ (by (first | omega | (simp only [zz] at *; omega))) _) | refine below_drewN ?_ _ | refine below_drew ?_ | (refine below_step ?_ (by assumption) (by (first | omega | (simp only [zz] at *; omega))))))
      have hOB := (hbB.block (w.heap.size + 1) (by simp)).trans (heap_b w _ _)
      have o0 := obj_at hOB 0 _ rfl
      have o1 := obj_at hOB 1 _ rfl
      have s0 := set_obj hOB 0 (.int .i64 0)
      have s1 := set_obj s0 1 (.int .i64 0)
      have k0 := obj_at s1 0 (.int .i64 0) rfl
      have k1 := obj_at s1 1 (.int .i64 0) rfl
      have hbF : Below w.heap.size w w2 := by (repeat (first | exact Below.refl _ _ | assumption | (refine below_gr ?_ (by (first | omega | (simp only [zz] at *; omega))) _) | (refine below_alloc ?_ (by (first | omega | (simp only [zz] at *; omega))) _) | (refine Below.setCell ?_ (by (first | omega | (simp only [zz] at *; omega))) _) | refine below_drewN ?_ _ | refine below_drew ?_ | (refine below_step ?_ (by assumption) (by (first | omega | (simp only [zz] at *; omega))))))
      refine bodyPost_ret (v := .tuple #[.agg #[.int .i64 0, .int .i64 0], .int .i64 2]) (by simp [results, Try.results36, go_sem, k0, k1]) rfl ⟨rfl, below_grow (Below.setCell (p := ⟨_, 1, none⟩) (Below.setCell (p := ⟨_, 0, none⟩) hbF (by simp) _) (by simp) _)⟩
    | true =>
      rw [HV.out, if_neg (by simp [hw])]
      by_cases hC : Tm.cntU Wn lg (lts ts) = 0
      · have HNI := hide (fun w' (hA : Strs w' A ts) => nights_any Wn hW1 hW5 lg hlg A ts c w' hA h3 hf hs hlo hcn)
        rw [if_pos (cnt_zero.2 hC)]
        have hnb : nightB Wn lg (lts ts) = [] := List.eq_nil_of_length_eq_zero (by rw [nightB_len]; exact hC)
        rw [hnb] at HNI
        rw [hw] at HIW
        unfold rngE
        replace h0 := hide h0
        clear HV hC hnb
        go_enter Try.func36, Try.ntmps36
        go_wp2_with (first
    | (go_at_call 76; refine (rLong_any (Wn : Nat) A ts c _ (hA.ext (by (repeat (first | exact Below.refl _ _ | assumption | refine below_drewN ?_ _ | refine below_drew ?_ | refine below_gr ?_ ?_ _ | refine below_alloc ?_ ?_ _ | refine Below.setCell ?_ ?_ _ | refine below_step ?_ (by assumption) ?_ | omega | (simp only [zz] at *; omega))))) hl hsz (lg : Nat)).mono ?_; rintro e w1 ⟨rfl, hb1⟩; replace hb1 := ex_below hb1; have hz1 := hb1.size; (try simp only [zz] at hz1); have hs1 : w.heap.size < w1.heap.size := (by (first | omega | (simp only [zz] at *; omega))); have ho1 := own_cell hb1 (b := w.heap.size) (by (first | omega | (simp only [zz] at *; omega))); have hq1 := own_frozen hb1 (b := w.heap.size) (by (first | omega | (simp only [zz] at *; omega))); have hs1 : w.heap.size + 1 < w1.heap.size := (by (first | omega | (simp only [zz] at *; omega))); have ho1 := own_cell hb1 (b := w.heap.size + 1) (by (first | omega | (simp only [zz] at *; omega))); have hq1 := own_frozen hb1 (b := w.heap.size + 1) (by (first | omega | (simp only [zz] at *; omega))); have hlt1 : ∀ b, b < w.heap.size → b < w1.heap.size := fun b hb => (by (first | omega | (simp only [zz] at *; omega))); have hc1 : ∀ b o, b < w.heap.size → w1.cell? ⟨b, o, none⟩ = w.cell? ⟨b, o, none⟩ := old_cell (by (repeat (first | exact Below.refl _ _ | assumption | refine below_drewN ?_ _ | refine below_drew ?_ | refine below_gr ?_ ?_ _ | refine below_alloc ?_ ?_ _ | refine Below.setCell ?_ ?_ _ | refine below_step ?_ (by assumption) ?_ | omega | (simp only [zz] at *; omega)))))
    | (go_at_call 82; refine (HIW.out _).mono ?_; rintro e w2 ⟨rfl, hb2⟩; replace hb2 := ex_below hb2; have hz2 := hb2.size; (try simp only [zz] at hz2); have hs2 : w.heap.size < w2.heap.size := (by (first | omega | (simp only [zz] at *; omega))); have ho2 := own_cell hb2 (b := w.heap.size) (by (first | omega | (simp only [zz] at *; omega))); have hq2 := own_frozen hb2 (b := w.heap.size) (by (first | omega | (simp only [zz] at *; omega))); have hs2 : w.heap.size + 1 < w2.heap.size := (by (first | omega | (simp only [zz] at *; omega))); have ho2 := own_cell hb2 (b := w.heap.size + 1) (by (first | omega | (simp only [zz] at *; omega))); have hq2 := own_frozen hb2 (b := w.heap.size + 1) (by (first | omega | (simp only [zz] at *; omega))); have hlt2 : ∀ b, b < w.heap.size → b < w2.heap.size := fun b hb => (by (first | omega | (simp only [zz] at *; omega))); have hc2 : ∀ b o, b < w.heap.size → w2.cell? ⟨b, o, none⟩ = w.cell? ⟨b, o, none⟩ := old_cell (by (repeat (first | exact Below.refl _ _ | assumption | refine below_drewN ?_ _ | refine below_drew ?_ | refine below_gr ?_ ?_ _ | refine below_alloc ?_ ?_ _ | refine Below.setCell ?_ ?_ _ | refine below_step ?_ (by assumption) ?_ | omega | (simp only [zz] at *; omega)))))
    | (go_at_call 83; refine (HNI.out _ (hA.ext (by (repeat (first | exact Below.refl _ _ | assumption | refine below_drewN ?_ _ | refine below_drew ?_ | refine below_gr ?_ ?_ _ | refine below_alloc ?_ ?_ _ | refine Below.setCell ?_ ?_ _ | refine below_step ?_ (by assumption) ?_ | omega | (simp only [zz] at *; omega)))))).mono ?_; rintro e w5 ⟨A5, c5, rfl, hb5, hS5, -⟩; replace hb5 := hb5.below; have hz5 := hb5.size; (try simp only [zz] at hz5); have hs5 : w.heap.size < w5.heap.size := (by (first | omega | (simp only [zz] at *; omega))); have ho5 := own_cell hb5 (b := w.heap.size) (by (first | omega | (simp only [zz] at *; omega))); have hq5 := own_frozen hb5 (b := w.heap.size) (by (first | omega | (simp only [zz] at *; omega))); have hs5 : w.heap.size + 1 < w5.heap.size := (by (first | omega | (simp only [zz] at *; omega))); have ho5 := own_cell hb5 (b := w.heap.size + 1) (by (first | omega | (simp only [zz] at *; omega))); have hq5 := own_frozen hb5 (b := w.heap.size + 1) (by (first | omega | (simp only [zz] at *; omega))); have hlt5 : ∀ b, b < w.heap.size → b < w5.heap.size := fun b hb => (by (first | omega | (simp only [zz] at *; omega))); have hc5 : ∀ b o, b < w.heap.size → w5.cell? ⟨b, o, none⟩ = w.cell? ⟨b, o, none⟩ := old_cell (by (repeat (first | exact Below.refl _ _ | assumption | refine below_drewN ?_ _ | refine below_drew ?_ | refine below_gr ?_ ?_ _ | refine below_alloc ?_ ?_ _ | refine Below.setCell ?_ ?_ _ | refine below_step ?_ (by assumption) ?_ | omega | (simp only [zz] at *; omega))))))
        have hbB : Below ((w.alloc (.cells #[.int .i64 (Wn : Nat), .slice A ts.length c] 24)).alloc (.cells #[.int .i64 0, .int .i64 0] 47)).heap.size ((w.alloc (.cells #[.int .i64 (Wn : Nat), .slice A ts.length c] 24)).alloc (.cells #[.int .i64 0, .int .i64 0] 47)) w5 := by (repeat (first | exact Below.refl _ _ | assumption | (refine below_gr ?_ (by (first | omega | (simp only [zz] at *; omega))) _) | (refine below_alloc ?_ (by (first | omega | (simp only [zz] at *; omega))) _) | (refine Below.setCell ?_ (by (first | omega | (simp only [zz] at *; omega))) _) | refine below_drewN ?_ _ | refine below_drew ?_ | (refine below_step ?_ (by assumption) (by (first | omega | (simp only [zz] at *; omega))))))
        have hOB := (hbB.block (w.heap.size + 1) (by simp)).trans (heap_b w _ _)
        have o0 := obj_at hOB 0 _ rfl
        have o1 := obj_at hOB 1 _ rfl
        have s0 := set_obj hOB 0 (.int .i64 0)
        have s1 := set_obj s0 1 (.int .i64 0)
        have k0 := obj_at s1 0 (.int .i64 0) rfl
        have k1 := obj_at s1 1 (.int .i64 0) rfl
        have hbF : Below w.heap.size w w5 := by (repeat (first | exact Below.refl _ _ | assumption | (refine below_gr ?_ (by (first | omega | (simp only [zz] at *; omega))) _) | (refine below_alloc ?_ (by (first | omega | (simp only [zz] at *; omega))) _) | (refine Below.setCell ?_ (by (first | omega | (simp only [zz] at *; omega))) _) | refine below_drewN ?_ _ | refine below_drew ?_ | (refine below_step ?_ (by assumption) (by (first | omega | (simp only [zz] at *; omega))))))
        refine bodyPost_ret (v := .tuple #[.agg #[.int .i64 0, .int .i64 0], .int .i64 24]) (by simp [results, Try.results36, go_sem, k0, k1]) rfl ⟨rfl, below_grow (Below.setCell (p := ⟨_, 1, none⟩) (Below.setCell (p := ⟨_, 0, none⟩) hbF (by simp) _) (by simp) _)⟩
      · rw [if_neg (fun g => hC (cnt_zero.1 g))]
        have hN : Tm.hasN Wn lg (lts ts) = true := (Tm.cntU_pos Wn lg (lts ts)).1 (by omega)
        rw [Tm.pulls_eq hlg hN, ← pfR_night hW5]
        exact rpulls_loop Wn A ts c w hA hl hsz b hb lg h0 hw hcn hC
  · have HV := hide (show pullsA W ts long b = ((0, 0), openE W ts long) by simp [pullsA, h0])
    have h1 : (openE W ts long != 0) = true := by simp [h0]
    rw [HV.out]
    unfold rngE
    replace h0 := hide h0
    go_enter Try.func36, Try.ntmps36
    go_wp2_with (first
    | (go_at_call 76; refine (rLong_any W A ts c _ (hA.ext (by (repeat (first | exact Below.refl _ _ | assumption | refine below_drewN ?_ _ | refine below_drew ?_ | refine below_gr ?_ ?_ _ | refine below_alloc ?_ ?_ _ | refine Below.setCell ?_ ?_ _ | refine below_step ?_ (by assumption) ?_ | omega | (simp only [zz] at *; omega))))) hl hsz long).mono ?_; rintro e w1 ⟨rfl, hb1⟩; replace hb1 := ex_below hb1; have hz1 := hb1.size; (try simp only [zz] at hz1); have hs1 : w.heap.size < w1.heap.size := (by (first | omega | (simp only [zz] at *; omega))); have ho1 := own_cell hb1 (b := w.heap.size) (by (first | omega | (simp only [zz] at *; omega))); have hq1 := own_frozen hb1 (b := w.heap.size) (by (first | omega | (simp only [zz] at *; omega))); have hs1 : w.heap.size + 1 < w1.heap.size := (by (first | omega | (simp only [zz] at *; omega))); have ho1 := own_cell hb1 (b := w.heap.size + 1) (by (first | omega | (simp only [zz] at *; omega))); have hq1 := own_frozen hb1 (b := w.heap.size + 1) (by (first | omega | (simp only [zz] at *; omega))); have hlt1 : ∀ b, b < w.heap.size → b < w1.heap.size := fun b hb => (by (first | omega | (simp only [zz] at *; omega))); have hc1 : ∀ b o, b < w.heap.size → w1.cell? ⟨b, o, none⟩ = w.cell? ⟨b, o, none⟩ := old_cell (by (repeat (first | exact Below.refl _ _ | assumption | refine below_drewN ?_ _ | refine below_drew ?_ | refine below_gr ?_ ?_ _ | refine below_alloc ?_ ?_ _ | refine Below.setCell ?_ ?_ _ | refine below_step ?_ (by assumption) ?_ | omega | (simp only [zz] at *; omega))))))
    have hbB : Below ((w.alloc (.cells #[.int .i64 W, .slice A ts.length c] 24)).alloc (.cells #[.int .i64 0, .int .i64 0] 47)).heap.size ((w.alloc (.cells #[.int .i64 W, .slice A ts.length c] 24)).alloc (.cells #[.int .i64 0, .int .i64 0] 47)) w1 := by (repeat (first | exact Below.refl _ _ | assumption | (refine below_gr ?_ (by (first | omega | (simp only [zz] at *; omega))) _) | (refine below_alloc ?_ (by (first | omega | (simp only [zz] at *; omega))) _) | (refine Below.setCell ?_ (by (first | omega | (simp only [zz] at *; omega))) _) | refine below_drewN ?_ _ | refine below_drew ?_ | (refine below_step ?_ (by assumption) (by (first | omega | (simp only [zz] at *; omega))))))
    have hOB := (hbB.block (w.heap.size + 1) (by simp)).trans (heap_b w _ _)
    have o0 := obj_at hOB 0 _ rfl
    have o1 := obj_at hOB 1 _ rfl
    have s0 := set_obj hOB 0 (.int .i64 0)
    have s1 := set_obj s0 1 (.int .i64 0)
    have k0 := obj_at s1 0 (.int .i64 0) rfl
    have k1 := obj_at s1 1 (.int .i64 0) rfl
    have hbF : Below w.heap.size w w1 := by (repeat (first | exact Below.refl _ _ | assumption | (refine below_gr ?_ (by (first | omega | (simp only [zz] at *; omega))) _) | (refine below_alloc ?_ (by (first | omega | (simp only [zz] at *; omega))) _) | (refine Below.setCell ?_ (by (first | omega | (simp only [zz] at *; omega))) _) | refine below_drewN ?_ _ | refine below_drew ?_ | (refine below_step ?_ (by assumption) (by (first | omega | (simp only [zz] at *; omega))))))
    refine bodyPost_ret (v := .tuple #[.agg #[.int .i64 0, .int .i64 0], .int .i64 (openE W ts long)]) (by simp [results, Try.results36, go_sem, k0, k1]) rfl ⟨rfl, below_grow (Below.setCell (p := ⟨_, 1, none⟩) (Below.setCell (p := ⟨_, 0, none⟩) hbF (by simp) _) (by simp) _)⟩

end Go.Proofs.Ytafncmgijbkomaa
namespace Go.Proofs.Ytafncmgijbkomaa
open Go.RowKit Go.Maps Go.Lib
theorem befB_bf {a b : Int} {i j : Nat} (hi : 0 < i) (hj : 0 < j) (s : List Int) : befB s a i b j = Tm.bf a b s i j := by
  rw [Tm.bf_before (i := 0) hi hj (by omega)]
  unfold befB
  rw [Bool.eq_iff_iff]
  simp only [Bool.and_eq_true, decide_eq_true_eq]
theorem count_night {W n : Nat} (hW : W ≤ 5) {ts : List (List Int)} (p : List Int → Bool) : (nightB W n ts).countP (fun s => p (lt s)) = (Tm.nights W n ts).countP p := by
  have hL := nights_letters (n := n) hW (ts := ts)
  unfold nightB
  generalize Tm.nights W n ts = L at *
  induction L with
  | nil => rfl
  | cons l L ih =>
    simp only [List.map_cons, List.countP_cons]
    rw [ih (fun l' h' => hL l' (by simp [h'])), lt_unlt (hL l (by simp))]
theorem kind_val {W n : Nat} (hW : W ≤ 5) {ts : List (List Int)} {a b : Int} {i j : Nat} (hi : 0 < i) (hj : 0 < j) (hne : nightB W n ts ≠ []) : Tm.kindN (Tm.endsP W a b n ts i j) = if (nightB W n ts).countP (fun s => befB (lt s) a i b j) = 0 then 0 else if (nightB W n ts).countP (fun s => befB (lt s) a i b j) < (nightB W n ts).length then 1 else 2 := by
  have hn : Tm.nights W n ts ≠ [] := fun g => hne (by unfold nightB; rw [g]; rfl)
  rw [Tm.endsP_eq, Tm.kind_count _ _ hn]
  have h1 := count_night (n := n) hW (ts := ts) (fun s => befB s a i b j)
  have h2 : (fun s => Tm.bf a b s i j) = (fun s => befB s a i b j) := by funext s; exact (befB_bf hi hj s).symm
  have h3 : (nightB W n ts).length = (Tm.nights W n ts).length := by unfold nightB; rw [List.length_map]
  rw [h2, h1, h3]
set_option maxRecDepth 100000 in
set_option maxHeartbeats 8000000 in
theorem rkind_loop (Wn : Nat) (A : Option Addr) (ts : List ByteArray) (c : Nat) (w : World) (hA : Strs w A ts) (hl : ts.length ≤ 1000) (hsz : ∀ k, (h : k < ts.length) → ts[k].size ≤ 1000000) (b1 i1 b2 i2 : Nat) (hb1 : b1 < 256) (hb2 : b2 < 256) (hi1 : 1 ≤ i1 ∧ i1 ≤ 20) (hi2 : 1 ≤ i2 ∧ i2 ≤ 20) (lg : Nat) (h0 : openE (Wn : Nat) ts (lg : Nat) = 0) (hw1 : isWin (Wn : Nat) b1 = true) (hw2 : isWin (Wn : Nat) b2 = true) (hcn : Tm.cntU Wn lg (lts ts) ≤ 300) (hC : Tm.cntU Wn lg (lts ts) ≠ 0) : Calls Try.prog 41 #[.agg #[.int .i64 (Wn : Nat), .slice A ts.length c], .int .i64 (lg : Nat), .agg #[.int .u8 (b1 : Nat), .int .i64 (i1 : Nat)], .agg #[.int .u8 (b2 : Nat), .int .i64 (i2 : Nat)]] w (Gives w (tup2V (((Tm.kindN (Tm.endsP Wn ((b1 : Int) - 97) ((b2 : Int) - 97) lg (lts ts) i1 i2) : Nat) : Int), 0))) := by
  obtain ⟨hW1, hW2, h0', h3, hs, hf, _, hlo⟩ := chk_val (open_val h0).1
  have hlg := open_lg h0
  rw [Int.toNat_natCast] at hlo
  have h1 : (openE (Wn : Nat) ts (lg : Nat) != 0) = false := by simp [h0]
  have HNI := hide (fun w' (hA : Strs w' A ts) => nights_any Wn (by omega) (by omega) lg hlg A ts c w' hA h3 hf hs hlo hcn)
  have HI1 := hide (fun w' => (by have := rIsImpulse_any (Wn : Nat) A ts c w' b1 (i1 : Nat) hb1; rw [hw1, decide_eq_true (show (1 : Int) ≤ (i1 : Nat) by omega), decide_eq_true (show ((i1 : Nat) : Int) ≤ 20 by omega)] at this; exact this : Calls Try.prog 87 #[.agg #[.int .i64 (Wn : Nat), .slice A ts.length c], .agg #[.int .u8 (b1 : Nat), .int .i64 (i1 : Nat)]] w' (Gives w' (.bool true))))
  have HI2 := hide (fun w' => (by have := rIsImpulse_any (Wn : Nat) A ts c w' b2 (i2 : Nat) hb2; rw [hw2, decide_eq_true (show (1 : Int) ≤ (i2 : Nat) by omega), decide_eq_true (show ((i2 : Nat) : Int) ≤ 20 by omega)] at this; exact this : Calls Try.prog 87 #[.agg #[.int .i64 (Wn : Nat), .slice A ts.length c], .agg #[.int .u8 (b2 : Nat), .int .i64 (i2 : Nat)]] w' (Gives w' (.bool true))))
  have hnl := nightB_len Wn lg (lts ts)
  have HSZ := hide (nightB_size Wn lg (lts ts))
  have HKV := hide (kind_val (W := Wn) (n := lg) (by omega) (ts := lts ts) (a := (b1 : Int) - 97) (b := (b2 : Int) - 97) (i := i1) (j := i2) (by omega) (by omega) (fun g => by rw [g] at hnl; exact hC hnl.symm))
  rw [HKV.out]
  generalize nightB Wn lg (lts ts) = nb at *
  have hnzn : nb.length ≠ 0 := by omega
  have hnz : ((nb.length : Int) == 0) = false := beq_eq_false_iff_ne.2 (by omega)
  have hnz2 : (nb.length == 0) = false := beq_eq_false_iff_ne.2 hnzn
  have hn3 : nb.length ≤ 300 := by omega
  replace h0 := hide h0
  clear hnl hcn hC hnzn HKV
  obtain ⟨V, hV⟩ : ∃ V : Int, (((if nb.countP (fun s => befB (lt s) ((b1 : Int) - 97) i1 ((b2 : Int) - 97) i2) = 0 then 0 else if nb.countP (fun s => befB (lt s) ((b1 : Int) - 97) i1 ((b2 : Int) - 97) i2) < nb.length then 1 else 2 : Nat)) : Int) = V := ⟨_, rfl⟩
  rw [hV]
  have HV := hide hV
  unfold tup2V
  have tok1 : True := trivial
  clear hV
  go_enter Try.func41, Try.ntmps41
  go_wp2_with (first
    | (go_at_call 76; refine (rLong_any (Wn : Nat) A ts c _ (hA.ext (by (repeat (first | exact Below.refl _ _ | assumption | refine below_drewN ?_ _ | refine below_drew ?_ | refine below_gr ?_ ?_ _ | refine below_alloc ?_ ?_ _ | refine Below.setCell ?_ ?_ _ | refine below_step ?_ (by assumption) ?_ | omega | (simp only [zz] at *; omega))))) hl hsz (lg : Nat)).mono ?_; rintro e w1 ⟨rfl, hgw1⟩; replace hgw1 := ex_below hgw1; have hzw1 := hgw1.size; (try simp only [zz] at hzw1); have hsw1 : w.heap.size < w1.heap.size := (by (first | omega | (simp only [zz] at *; omega))); have how1 := own_cell hgw1 (b := w.heap.size) (by (first | omega | (simp only [zz] at *; omega))); have hqw1 := own_frozen hgw1 (b := w.heap.size) (by (first | omega | (simp only [zz] at *; omega))); have hsw1 : w.heap.size + 1 < w1.heap.size := (by (first | omega | (simp only [zz] at *; omega))); have how1 := own_cell hgw1 (b := w.heap.size + 1) (by (first | omega | (simp only [zz] at *; omega))); have hqw1 := own_frozen hgw1 (b := w.heap.size + 1) (by (first | omega | (simp only [zz] at *; omega))); have hsw1 : w.heap.size + 1 + 1 < w1.heap.size := (by (first | omega | (simp only [zz] at *; omega))); have how1 := own_cell hgw1 (b := w.heap.size + 1 + 1) (by (first | omega | (simp only [zz] at *; omega))); have hqw1 := own_frozen hgw1 (b := w.heap.size + 1 + 1) (by (first | omega | (simp only [zz] at *; omega))); have hltw1 : ∀ b, b < w.heap.size → b < w1.heap.size := fun b hb => (by (first | omega | (simp only [zz] at *; omega))); have hcw1 : ∀ b o, b < w.heap.size → w1.cell? ⟨b, o, none⟩ = w.cell? ⟨b, o, none⟩ := old_cell (by (repeat (first | exact Below.refl _ _ | assumption | refine below_drewN ?_ _ | refine below_drew ?_ | refine below_gr ?_ ?_ _ | refine below_alloc ?_ ?_ _ | refine Below.setCell ?_ ?_ _ | refine below_step ?_ (by assumption) ?_ | omega | (simp only [zz] at *; omega)))))
    | (clear tok1; go_at_call 87; refine (HI1.out _).mono ?_; rintro e w2 ⟨rfl, hgw2⟩; replace hgw2 := ex_below hgw2; have hzw2 := hgw2.size; (try simp only [zz] at hzw2); have hsw2 : w.heap.size < w2.heap.size := (by (first | omega | (simp only [zz] at *; omega))); have how2 := own_cell hgw2 (b := w.heap.size) (by (first | omega | (simp only [zz] at *; omega))); have hqw2 := own_frozen hgw2 (b := w.heap.size) (by (first | omega | (simp only [zz] at *; omega))); have hsw2 : w.heap.size + 1 < w2.heap.size := (by (first | omega | (simp only [zz] at *; omega))); have how2 := own_cell hgw2 (b := w.heap.size + 1) (by (first | omega | (simp only [zz] at *; omega))); have hqw2 := own_frozen hgw2 (b := w.heap.size + 1) (by (first | omega | (simp only [zz] at *; omega))); have hsw2 : w.heap.size + 1 + 1 < w2.heap.size := (by (first | omega | (simp only [zz] at *; omega))); have how2 := own_cell hgw2 (b := w.heap.size + 1 + 1) (by (first | omega | (simp only [zz] at *; omega))); have hqw2 := own_frozen hgw2 (b := w.heap.size + 1 + 1) (by (first | omega | (simp only [zz] at *; omega))); have hltw2 : ∀ b, b < w.heap.size → b < w2.heap.size := fun b hb => (by (first | omega | (simp only [zz] at *; omega))); have hcw2 : ∀ b o, b < w.heap.size → w2.cell? ⟨b, o, none⟩ = w.cell? ⟨b, o, none⟩ := old_cell (by (repeat (first | exact Below.refl _ _ | assumption | refine below_drewN ?_ _ | refine below_drew ?_ | refine below_gr ?_ ?_ _ | refine below_alloc ?_ ?_ _ | refine Below.setCell ?_ ?_ _ | refine below_step ?_ (by assumption) ?_ | omega | (simp only [zz] at *; omega)))); have tok2 : True := trivial)
    | (clear tok2; go_at_call 87; refine (HI2.out _).mono ?_; rintro e w3 ⟨rfl, hgw3⟩; replace hgw3 := ex_below hgw3; have hzw3 := hgw3.size; (try simp only [zz] at hzw3); have hsw3 : w.heap.size < w3.heap.size := (by (first | omega | (simp only [zz] at *; omega))); have how3 := own_cell hgw3 (b := w.heap.size) (by (first | omega | (simp only [zz] at *; omega))); have hqw3 := own_frozen hgw3 (b := w.heap.size) (by (first | omega | (simp only [zz] at *; omega))); have hsw3 : w.heap.size + 1 < w3.heap.size := (by (first | omega | (simp only [zz] at *; omega))); have how3 := own_cell hgw3 (b := w.heap.size + 1) (by (first | omega | (simp only [zz] at *; omega))); have hqw3 := own_frozen hgw3 (b := w.heap.size + 1) (by (first | omega | (simp only [zz] at *; omega))); have hsw3 : w.heap.size + 1 + 1 < w3.heap.size := (by (first | omega | (simp only [zz] at *; omega))); have how3 := own_cell hgw3 (b := w.heap.size + 1 + 1) (by (first | omega | (simp only [zz] at *; omega))); have hqw3 := own_frozen hgw3 (b := w.heap.size + 1 + 1) (by (first | omega | (simp only [zz] at *; omega))); have hltw3 : ∀ b, b < w.heap.size → b < w3.heap.size := fun b hb => (by (first | omega | (simp only [zz] at *; omega))); have hcw3 : ∀ b o, b < w.heap.size → w3.cell? ⟨b, o, none⟩ = w.cell? ⟨b, o, none⟩ := old_cell (by (repeat (first | exact Below.refl _ _ | assumption | refine below_drewN ?_ _ | refine below_drew ?_ | refine below_gr ?_ ?_ _ | refine below_alloc ?_ ?_ _ | refine Below.setCell ?_ ?_ _ | refine below_step ?_ (by assumption) ?_ | omega | (simp only [zz] at *; omega)))); have tok3 : True := trivial)
    | (go_at_call 83; refine (HNI.out _ (hA.ext (by (repeat (first | exact Below.refl _ _ | assumption | refine below_drewN ?_ _ | refine below_drew ?_ | refine below_gr ?_ ?_ _ | refine below_alloc ?_ ?_ _ | refine Below.setCell ?_ ?_ _ | refine below_step ?_ (by assumption) ?_ | omega | (simp only [zz] at *; omega)))))).mono ?_; rintro e w5 ⟨A5, c5, rfl, hgw5, hS5, -⟩; replace hgw5 := hgw5.below; have hzw5 := hgw5.size; (try simp only [zz] at hzw5); have hsw5 : w.heap.size < w5.heap.size := (by (first | omega | (simp only [zz] at *; omega))); have how5 := own_cell hgw5 (b := w.heap.size) (by (first | omega | (simp only [zz] at *; omega))); have hqw5 := own_frozen hgw5 (b := w.heap.size) (by (first | omega | (simp only [zz] at *; omega))); have hsw5 : w.heap.size + 1 < w5.heap.size := (by (first | omega | (simp only [zz] at *; omega))); have how5 := own_cell hgw5 (b := w.heap.size + 1) (by (first | omega | (simp only [zz] at *; omega))); have hqw5 := own_frozen hgw5 (b := w.heap.size + 1) (by (first | omega | (simp only [zz] at *; omega))); have hsw5 : w.heap.size + 1 + 1 < w5.heap.size := (by (first | omega | (simp only [zz] at *; omega))); have how5 := own_cell hgw5 (b := w.heap.size + 1 + 1) (by (first | omega | (simp only [zz] at *; omega))); have hqw5 := own_frozen hgw5 (b := w.heap.size + 1 + 1) (by (first | omega | (simp only [zz] at *; omega))); have hltw5 : ∀ b, b < w.heap.size → b < w5.heap.size := fun b hb => (by (first | omega | (simp only [zz] at *; omega))); have hcw5 : ∀ b o, b < w.heap.size → w5.cell? ⟨b, o, none⟩ = w.cell? ⟨b, o, none⟩ := old_cell (by (repeat (first | exact Below.refl _ _ | assumption | refine below_drewN ?_ _ | refine below_drew ?_ | refine below_gr ?_ ?_ _ | refine below_alloc ?_ ?_ _ | refine Below.setCell ?_ ?_ _ | refine below_step ?_ (by assumption) ?_ | omega | (simp only [zz] at *; omega))))))

  have hbB : Below (((w.alloc (.cells #[.int .i64 (Wn : Nat), .slice A ts.length c] 24)).alloc (.cells #[.int .u8 (b1 : Nat), .int .i64 (i1 : Nat)] 54)).alloc (.cells #[.int .u8 (b2 : Nat), .int .i64 (i2 : Nat)] 54)).heap.size (((w.alloc (.cells #[.int .i64 (Wn : Nat), .slice A ts.length c] 24)).alloc (.cells #[.int .u8 (b1 : Nat), .int .i64 (i1 : Nat)] 54)).alloc (.cells #[.int .u8 (b2 : Nat), .int .i64 (i2 : Nat)] 54)) w5 := by (repeat (first | exact Below.refl _ _ | assumption | (refine below_gr ?_ (by (first | omega | (simp only [zz] at *; omega))) _) | (refine below_alloc ?_ (by (first | omega | (simp only [zz] at *; omega))) _) | (refine Below.setCell ?_ (by (first | omega | (simp only [zz] at *; omega))) _) | refine below_drewN ?_ _ | refine below_drew ?_ | (refine below_step ?_ (by assumption) (by (first | omega | (simp only [zz] at *; omega))))))
  have hO := (hbB.block (w.heap.size + 1) (by simp)).trans (heap_3b w _ _ _)
  have hT := (hbB.block (w.heap.size + 1 + 1) (by simp)).trans (heap_3c w _ _ _)
  have hb5w : Below w.heap.size w w5 := by (repeat (first | exact Below.refl _ _ | assumption | (refine below_gr ?_ (by (first | omega | (simp only [zz] at *; omega))) _) | (refine below_alloc ?_ (by (first | omega | (simp only [zz] at *; omega))) _) | (refine Below.setCell ?_ (by (first | omega | (simp only [zz] at *; omega))) _) | refine below_drewN ?_ _ | refine below_drew ?_ | (refine below_step ?_ (by assumption) (by (first | omega | (simp only [zz] at *; omega))))))
  have hz5 := hbB.size
  simp only [World.size_alloc] at hz5
  go_loopw [11, 12] (fun nv iv wr => ∃ k : Nat, k ≤ nb.length ∧ iv = .int .i64 (k : Nat) ∧ nv = .int .i64 ((nb.take k).countP (fun s => befB (lt s) ((b1 : Int) - 97) i1 ((b2 : Int) - 97) i2) : Nat) ∧ Below w5.heap.size w5 wr) (fun _ iv _ => nb.length - (intOf iv).toNat)
  case atStart => exact ⟨0, Nat.zero_le _, rfl, rfl, Below.refl _ _⟩
  case round =>
    obtain ⟨k, hk, rfl, rfl, hb⟩ := hrel
    have hz := hb.size
    have hOr := (hb.block (w.heap.size + 1) (by omega)).trans hO
    have hTr := (hb.block (w.heap.size + 1 + 1) (by omega)).trans hT
    have hbw := hb5w.trans (hb.mono hb5w.size)
    have o0 := obj_at hOr 0 _ rfl
    have o1 := obj_at hOr 1 _ rfl
    have t0 := obj_at hTr 0 _ rfl
    have t1 := obj_at hTr 1 _ rfl
    by_cases hkl : k < nb.length
    · obtain ⟨sb, so, rfl, hsb, hsb2, hcs⟩ := (hS5.ext hb) k nb[k] (by simp [hkl])
      have HCN := hide (show (nb.take (k + 1)).countP (fun s => befB (lt s) ((b1 : Int) - 97) i1 ((b2 : Int) - 97) i2) = (nb.take k).countP (fun s => befB (lt s) ((b1 : Int) - 97) i1 ((b2 : Int) - 97) i2) + if befB (lt nb[k]) ((b1 : Int) - 97) i1 ((b2 : Int) - 97) i2 = true then 1 else 0 by rw [take_snoc _ _ hkl, List.countP_append, List.countP_singleton])
      have hvs : nb[k].size ≤ 20 := by have := HSZ.out _ (List.getElem_mem hkl); omega
      have HBF := hide (fun w' => rBefore_any nb[k] b1 i1 b2 i2 w' (by omega) hb1 hb2 hi1.1 (by omega) hi2.1 (by omega))
      have hcl := List.countP_le_length (p := fun s => befB (lt s) ((b1 : Int) - 97) i1 ((b2 : Int) - 97) i2) (l := nb.take k)
      rw [List.length_take] at hcl
      generalize nb[k] = v at *
      generalize (nb.take k).countP (fun s => befB (lt s) ((b1 : Int) - 97) i1 ((b2 : Int) - 97) i2) = cc at *
      have hkli : (k : Int) < (nb.length : Nat) := by omega
      have hk0 : (0 : Int) ≤ (k : Int) := by omega
      have hcc : cc ≤ 300 := by omega
      have hl1 : w.heap.size + 1 < wr.heap.size := by omega
      have hl2 : w.heap.size + 1 + 1 < wr.heap.size := by omega
      clear hcl
      cases hbf : befB (lt v) ((b1 : Int) - 97) i1 ((b2 : Int) - 97) i2 with
      | false =>
        rw [hbf] at HBF HCN
        go_wp2
        refine wp_region_grow (by kernel_rfl) (by kernel_rfl) ?_
        repeat (go_big_quiet_step ((go_at_call 49; exact Gives.quiet (HBF.out _))))
        refine wpQuiet_nil ?_
        intro w8 hb8
        replace hb8 := ex_below hb8
        have hz8 := hb8.size
        (try simp only [zz] at hz8)
        have hlt8 : ∀ b, b < wr.heap.size → b < w8.heap.size := fun b hb => (by (first | omega | (simp only [zz] at *; omega)))
        have hc8 : ∀ b o, b < wr.heap.size → w8.cell? ⟨b, o, none⟩ = wr.cell? ⟨b, o, none⟩ := old_cell (by (repeat (first | exact Below.refl _ _ | assumption | refine below_drewN ?_ _ | refine below_drew ?_ | refine below_gr ?_ ?_ _ | refine below_alloc ?_ ?_ _ | refine Below.setCell ?_ ?_ _ | refine below_step ?_ (by assumption) ?_ | omega | (simp only [zz] at *; omega))))
        go_wp2
        exact ⟨⟨k + 1, by omega, by go_num, by rw [HCN.out]; rfl, hb.trans (hb8.mono hz)⟩, by simp [intOf]; omega⟩
      | true =>
        rw [hbf] at HBF HCN
        go_wp2
        refine wp_region_grow (by kernel_rfl) (by kernel_rfl) ?_
        repeat (go_big_quiet_step ((go_at_call 49; exact Gives.quiet (HBF.out _))))
        refine wpQuiet_nil ?_
        intro w8 hb8
        replace hb8 := ex_below hb8
        have hz8 := hb8.size
        (try simp only [zz] at hz8)
        have hlt8 : ∀ b, b < wr.heap.size → b < w8.heap.size := fun b hb => (by (first | omega | (simp only [zz] at *; omega)))
        have hc8 : ∀ b o, b < wr.heap.size → w8.cell? ⟨b, o, none⟩ = wr.cell? ⟨b, o, none⟩ := old_cell (by (repeat (first | exact Below.refl _ _ | assumption | refine below_drewN ?_ _ | refine below_drew ?_ | refine below_gr ?_ ?_ _ | refine below_alloc ?_ ?_ _ | refine Below.setCell ?_ ?_ _ | refine below_step ?_ (by assumption) ?_ | omega | (simp only [zz] at *; omega))))
        go_wp2
        exact ⟨⟨k + 1, by omega, by go_num, by rw [HCN.out]; push_cast; rfl, hb.trans (hb8.mono hz)⟩, by simp [intOf]; omega⟩
    · have hke : k = nb.length := by omega
      have HFE : Hid ((nb.take k).countP (fun s => befB (lt s) ((b1 : Int) - 97) i1 ((b2 : Int) - 97) i2) = nb.countP (fun s => befB (lt s) ((b1 : Int) - 97) i1 ((b2 : Int) - 97) i2)) := hide (by rw [hke, List.take_length])
      rw [HFE.out]
      have hkli : ¬ ((k : Int) < (nb.length : Nat)) := by omega
      clear hke
      have hcl := List.countP_le_length (p := fun s => befB (lt s) ((b1 : Int) - 97) i1 ((b2 : Int) - 97) i2) (l := nb)
      clear HFE
      generalize nb.countP (fun s => befB (lt s) ((b1 : Int) - 97) i1 ((b2 : Int) - 97) i2) = cc at *
      by_cases g1 : cc = 0
      · have d1 : ((cc : Int) == 0) = true := beq_iff_eq.2 (by omega)
        have HVV := hide (show V = 0 by rw [← HV.out, if_pos g1]; rfl)
        replace g1 := hide g1
        go_wp2
        go_ret2
        exact gives_of (by rw [HVV.out]; rfl) hbw
      · have d1 : ((cc : Int) == 0) = false := beq_eq_false_iff_ne.2 (by omega)
        by_cases g2 : cc < nb.length
        · have d2 : decide ((cc : Int) < (nb.length : Nat)) = true := decide_eq_true (by omega)
          have d3 : decide (cc < nb.length) = true := decide_eq_true g2
          have HVV := hide (show V = 1 by rw [← HV.out, if_neg g1, if_pos g2]; rfl)
          replace g1 := hide g1
          go_wp2
          go_ret2
          exact gives_of (by rw [HVV.out]; rfl) hbw
        · have d2 : decide ((cc : Int) < (nb.length : Nat)) = false := decide_eq_false (by omega)
          have d3 : decide (cc < nb.length) = false := decide_eq_false g2
          have HVV := hide (show V = 2 by rw [← HV.out, if_neg g1, if_neg g2]; rfl)
          replace g1 := hide g1
          go_wp2
          go_ret2
          exact gives_of (by rw [HVV.out]; rfl) hbw
end Go.Proofs.Ytafncmgijbkomaa
namespace Go.Proofs.Ytafncmgijbkomaa
open Go.RowKit Go.Maps Go.Lib
def impB (W : Int) (b : Nat) (n : Int) : Bool := isWin W b && (decide (1 ≤ n) && decide (n ≤ 20))
theorem imp_bad {W : Int} {b1 b2 : Nat} {n1 n2 : Int} : (isWin W b1 = false ∨ isWin W b2 = false ∨ withinB 1 20 [n1, n2] = false) ↔ (impB W b1 n1 = false ∨ impB W b2 n2 = false) := by
  unfold impB withinB outB
  cases isWin W b1 <;> cases isWin W b2 <;> simp <;> omega
set_option maxRecDepth 100000 in
set_option maxHeartbeats 4000000 in
theorem rKind_any (W : Int) (A : Option Addr) (ts : List ByteArray) (c : Nat) (w : World) (hA : Strs w A ts) (hl : ts.length ≤ 1000) (hsz : ∀ k, (h : k < ts.length) → ts[k].size ≤ 1000000) (b1 : Nat) (n1 : Int) (b2 : Nat) (n2 : Int) (hb1 : b1 < 256) (hb2 : b2 < 256) (long : Int) (hcn : ∀ lg : Nat, openE W ts (lg : Nat) = 0 → long = (lg : Nat) → Tm.cntU W.toNat lg (lts ts) ≤ 300) : Calls Try.prog 41 #[.agg #[.int .i64 W, .slice A ts.length c], .int .i64 long, .agg #[.int .u8 (b1 : Nat), .int .i64 n1], .agg #[.int .u8 (b2 : Nat), .int .i64 n2]] w (Gives w (tup2V (kindA W ts long b1 n1 b2 n2))) := by
  by_cases h0 : openE W ts long = 0
  · obtain ⟨lg, rfl⟩ : ∃ lg : Nat, long = (lg : Nat) := ⟨long.toNat, by have := (open_val h0).2; simp [withinB, outB] at this; omega⟩
    obtain ⟨Wn, rfl, hlg, hW5, hW1, h3, _, hf, hs⟩ := countE_val h0
    have hlo := (chk_val (open_val h0).1).2.2.2.2.2.2.2
    have hcn := hcn lg h0 rfl
    rw [Int.toNat_natCast] at hlo hcn
    have h1 : (openE (Wn : Nat) ts (lg : Nat) != 0) = false := by simp [h0]
    have HI1 := hide (fun w' => rIsImpulse_any (Wn : Nat) A ts c w' b1 n1 hb1)
    have HI2 := hide (fun w' => rIsImpulse_any (Wn : Nat) A ts c w' b2 n2 hb2)
    have HV := hide (show kindA (Wn : Nat) ts (lg : Nat) b1 n1 b2 n2 = if isWin (Wn : Nat) b1 = false ∨ isWin (Wn : Nat) b2 = false ∨ withinB 1 20 [n1, n2] = false then ((0 : Int), (2 : Int)) else if Tm.cntC Wn lg (lts ts) = 0 then (0, 24) else (((Tm.kindN (Tm.endsP Wn ((b1 : Int) - 97) ((b2 : Int) - 97) lg (lts ts) n1.toNat n2.toNat) : Nat) : Int), 0) by simp [kindA, h0])
    have tok1 : True := trivial
    cases hi1 : impB (Wn : Nat) b1 n1 with
    | false =>
      rw [HV.out, if_pos (imp_bad.2 (.inl hi1))]
      rw [show (isWin (Wn : Nat) b1 && (decide (1 ≤ n1) && decide (n1 ≤ 20))) = false from hi1] at HI1
      unfold tup2V
      replace h0 := hide h0
      clear HV
      go_enter Try.func41, Try.ntmps41
      go_wp2_with (first
    | (go_at_call 76; refine (rLong_any (Wn : Nat) A ts c _ (hA.ext (by (repeat (first | exact Below.refl _ _ | assumption | refine below_drewN ?_ _ | refine below_drew ?_ | refine below_gr ?_ ?_ _ | refine below_alloc ?_ ?_ _ | refine Below.setCell ?_ ?_ _ | refine below_step ?_ (by assumption) ?_ | omega | (simp only [zz] at *; omega))))) hl hsz (lg : Nat)).mono ?_; rintro e w1 ⟨rfl, hgw1⟩; replace hgw1 := ex_below hgw1; have hzw1 := hgw1.size; (try simp only [zz] at hzw1); have hsw1 : w.heap.size < w1.heap.size := (by (first | omega | (simp only [zz] at *; omega))); have how1 := own_cell hgw1 (b := w.heap.size) (by (first | omega | (simp only [zz] at *; omega))); have hqw1 := own_frozen hgw1 (b := w.heap.size) (by (first | omega | (simp only [zz] at *; omega))); have hsw1 : w.heap.size + 1 < w1.heap.size := (by (first | omega | (simp only [zz] at *; omega))); have how1 := own_cell hgw1 (b := w.heap.size + 1) (by (first | omega | (simp only [zz] at *; omega))); have hqw1 := own_frozen hgw1 (b := w.heap.size + 1) (by (first | omega | (simp only [zz] at *; omega))); have hsw1 : w.heap.size + 1 + 1 < w1.heap.size := (by (first | omega | (simp only [zz] at *; omega))); have how1 := own_cell hgw1 (b := w.heap.size + 1 + 1) (by (first | omega | (simp only [zz] at *; omega))); have hqw1 := own_frozen hgw1 (b := w.heap.size + 1 + 1) (by (first | omega | (simp only [zz] at *; omega))); have hltw1 : ∀ b, b < w.heap.size → b < w1.heap.size := fun b hb => (by (first | omega | (simp only [zz] at *; omega))); have hcw1 : ∀ b o, b < w.heap.size → w1.cell? ⟨b, o, none⟩ = w.cell? ⟨b, o, none⟩ := old_cell (by (repeat (first | exact Below.refl _ _ | assumption | refine below_drewN ?_ _ | refine below_drew ?_ | refine below_gr ?_ ?_ _ | refine below_alloc ?_ ?_ _ | refine Below.setCell ?_ ?_ _ | refine below_step ?_ (by assumption) ?_ | omega | (simp only [zz] at *; omega)))))
    | (clear tok1; go_at_call 87; refine (HI1.out _).mono ?_; rintro e w2 ⟨rfl, hgw2⟩; replace hgw2 := ex_below hgw2; have hzw2 := hgw2.size; (try simp only [zz] at hzw2); have hsw2 : w.heap.size < w2.heap.size := (by (first | omega | (simp only [zz] at *; omega))); have how2 := own_cell hgw2 (b := w.heap.size) (by (first | omega | (simp only [zz] at *; omega))); have hqw2 := own_frozen hgw2 (b := w.heap.size) (by (first | omega | (simp only [zz] at *; omega))); have hsw2 : w.heap.size + 1 < w2.heap.size := (by (first | omega | (simp only [zz] at *; omega))); have how2 := own_cell hgw2 (b := w.heap.size + 1) (by (first | omega | (simp only [zz] at *; omega))); have hqw2 := own_frozen hgw2 (b := w.heap.size + 1) (by (first | omega | (simp only [zz] at *; omega))); have hsw2 : w.heap.size + 1 + 1 < w2.heap.size := (by (first | omega | (simp only [zz] at *; omega))); have how2 := own_cell hgw2 (b := w.heap.size + 1 + 1) (by (first | omega | (simp only [zz] at *; omega))); have hqw2 := own_frozen hgw2 (b := w.heap.size + 1 + 1) (by (first | omega | (simp only [zz] at *; omega))); have hltw2 : ∀ b, b < w.heap.size → b < w2.heap.size := fun b hb => (by (first | omega | (simp only [zz] at *; omega))); have hcw2 : ∀ b o, b < w.heap.size → w2.cell? ⟨b, o, none⟩ = w.cell? ⟨b, o, none⟩ := old_cell (by (repeat (first | exact Below.refl _ _ | assumption | refine below_drewN ?_ _ | refine below_drew ?_ | refine below_gr ?_ ?_ _ | refine below_alloc ?_ ?_ _ | refine Below.setCell ?_ ?_ _ | refine below_step ?_ (by assumption) ?_ | omega | (simp only [zz] at *; omega)))); have tok2 : True := trivial))

      go_ret2
      exact gives_of (rfl) (by (repeat (first | exact Below.refl _ _ | assumption | refine below_drewN ?_ _ | refine below_drew ?_ | refine below_gr ?_ ?_ _ | refine below_alloc ?_ ?_ _ | refine Below.setCell ?_ ?_ _ | refine below_step ?_ (by assumption) ?_ | omega | (simp only [zz] at *; omega))))
    | true =>
      rw [show (isWin (Wn : Nat) b1 && (decide (1 ≤ n1) && decide (n1 ≤ 20))) = true from hi1] at HI1
      cases hi2 : impB (Wn : Nat) b2 n2 with
      | false =>
        rw [HV.out, if_pos (imp_bad.2 (.inr hi2))]
        rw [show (isWin (Wn : Nat) b2 && (decide (1 ≤ n2) && decide (n2 ≤ 20))) = false from hi2] at HI2
        unfold tup2V
        replace h0 := hide h0
        clear HV
        go_enter Try.func41, Try.ntmps41
        go_wp2_with (first
    | (go_at_call 76; refine (rLong_any (Wn : Nat) A ts c _ (hA.ext (by (repeat (first | exact Below.refl _ _ | assumption | refine below_drewN ?_ _ | refine below_drew ?_ | refine below_gr ?_ ?_ _ | refine below_alloc ?_ ?_ _ | refine Below.setCell ?_ ?_ _ | refine below_step ?_ (by assumption) ?_ | omega | (simp only [zz] at *; omega))))) hl hsz (lg : Nat)).mono ?_; rintro e w1 ⟨rfl, hgw1⟩; replace hgw1 := ex_below hgw1; have hzw1 := hgw1.size; (try simp only [zz] at hzw1); have hsw1 : w.heap.size < w1.heap.size := (by (first | omega | (simp only [zz] at *; omega))); have how1 := own_cell hgw1 (b := w.heap.size) (by (first | omega | (simp only [zz] at *; omega))); have hqw1 := own_frozen hgw1 (b := w.heap.size) (by (first | omega | (simp only [zz] at *; omega))); have hsw1 : w.heap.size + 1 < w1.heap.size := (by (first | omega | (simp only [zz] at *; omega))); have how1 := own_cell hgw1 (b := w.heap.size + 1) (by (first | omega | (simp only [zz] at *; omega))); have hqw1 := own_frozen hgw1 (b := w.heap.size + 1) (by (first | omega | (simp only [zz] at *; omega))); have hsw1 : w.heap.size + 1 + 1 < w1.heap.size := (by (first | omega | (simp only [zz] at *; omega))); have how1 := own_cell hgw1 (b := w.heap.size + 1 + 1) (by (first | omega | (simp only [zz] at *; omega))); have hqw1 := own_frozen hgw1 (b := w.heap.size + 1 + 1) (by (first | omega | (simp only [zz] at *; omega))); have hltw1 : ∀ b, b < w.heap.size → b < w1.heap.size := fun b hb => (by (first | omega | (simp only [zz] at *; omega))); have hcw1 : ∀ b o, b < w.heap.size → w1.cell? ⟨b, o, none⟩ = w.cell? ⟨b, o, none⟩ := old_cell (by (repeat (first | exact Below.refl _ _ | assumption | refine below_drewN ?_ _ | refine below_drew ?_ | refine below_gr ?_ ?_ _ | refine below_alloc ?_ ?_ _ | refine Below.setCell ?_ ?_ _ | refine below_step ?_ (by assumption) ?_ | omega | (simp only [zz] at *; omega)))))
    | (clear tok1; go_at_call 87; refine (HI1.out _).mono ?_; rintro e w2 ⟨rfl, hgw2⟩; replace hgw2 := ex_below hgw2; have hzw2 := hgw2.size; (try simp only [zz] at hzw2); have hsw2 : w.heap.size < w2.heap.size := (by (first | omega | (simp only [zz] at *; omega))); have how2 := own_cell hgw2 (b := w.heap.size) (by (first | omega | (simp only [zz] at *; omega))); have hqw2 := own_frozen hgw2 (b := w.heap.size) (by (first | omega | (simp only [zz] at *; omega))); have hsw2 : w.heap.size + 1 < w2.heap.size := (by (first | omega | (simp only [zz] at *; omega))); have how2 := own_cell hgw2 (b := w.heap.size + 1) (by (first | omega | (simp only [zz] at *; omega))); have hqw2 := own_frozen hgw2 (b := w.heap.size + 1) (by (first | omega | (simp only [zz] at *; omega))); have hsw2 : w.heap.size + 1 + 1 < w2.heap.size := (by (first | omega | (simp only [zz] at *; omega))); have how2 := own_cell hgw2 (b := w.heap.size + 1 + 1) (by (first | omega | (simp only [zz] at *; omega))); have hqw2 := own_frozen hgw2 (b := w.heap.size + 1 + 1) (by (first | omega | (simp only [zz] at *; omega))); have hltw2 : ∀ b, b < w.heap.size → b < w2.heap.size := fun b hb => (by (first | omega | (simp only [zz] at *; omega))); have hcw2 : ∀ b o, b < w.heap.size → w2.cell? ⟨b, o, none⟩ = w.cell? ⟨b, o, none⟩ := old_cell (by (repeat (first | exact Below.refl _ _ | assumption | refine below_drewN ?_ _ | refine below_drew ?_ | refine below_gr ?_ ?_ _ | refine below_alloc ?_ ?_ _ | refine Below.setCell ?_ ?_ _ | refine below_step ?_ (by assumption) ?_ | omega | (simp only [zz] at *; omega)))); have tok2 : True := trivial)
    | (clear tok2; go_at_call 87; refine (HI2.out _).mono ?_; rintro e w3 ⟨rfl, hgw3⟩; replace hgw3 := ex_below hgw3; have hzw3 := hgw3.size; (try simp only [zz] at hzw3); have hsw3 : w.heap.size < w3.heap.size := (by (first | omega | (simp only [zz] at *; omega))); have how3 := own_cell hgw3 (b := w.heap.size) (by (first | omega | (simp only [zz] at *; omega))); have hqw3 := own_frozen hgw3 (b := w.heap.size) (by (first | omega | (simp only [zz] at *; omega))); have hsw3 : w.heap.size + 1 < w3.heap.size := (by (first | omega | (simp only [zz] at *; omega))); have how3 := own_cell hgw3 (b := w.heap.size + 1) (by (first | omega | (simp only [zz] at *; omega))); have hqw3 := own_frozen hgw3 (b := w.heap.size + 1) (by (first | omega | (simp only [zz] at *; omega))); have hsw3 : w.heap.size + 1 + 1 < w3.heap.size := (by (first | omega | (simp only [zz] at *; omega))); have how3 := own_cell hgw3 (b := w.heap.size + 1 + 1) (by (first | omega | (simp only [zz] at *; omega))); have hqw3 := own_frozen hgw3 (b := w.heap.size + 1 + 1) (by (first | omega | (simp only [zz] at *; omega))); have hltw3 : ∀ b, b < w.heap.size → b < w3.heap.size := fun b hb => (by (first | omega | (simp only [zz] at *; omega))); have hcw3 : ∀ b o, b < w.heap.size → w3.cell? ⟨b, o, none⟩ = w.cell? ⟨b, o, none⟩ := old_cell (by (repeat (first | exact Below.refl _ _ | assumption | refine below_drewN ?_ _ | refine below_drew ?_ | refine below_gr ?_ ?_ _ | refine below_alloc ?_ ?_ _ | refine Below.setCell ?_ ?_ _ | refine below_step ?_ (by assumption) ?_ | omega | (simp only [zz] at *; omega)))); have tok3 : True := trivial))

        go_ret2
        exact gives_of (rfl) (by (repeat (first | exact Below.refl _ _ | assumption | refine below_drewN ?_ _ | refine below_drew ?_ | refine below_gr ?_ ?_ _ | refine below_alloc ?_ ?_ _ | refine Below.setCell ?_ ?_ _ | refine below_step ?_ (by assumption) ?_ | omega | (simp only [zz] at *; omega))))
      | true =>
        rw [show (isWin (Wn : Nat) b2 && (decide (1 ≤ n2) && decide (n2 ≤ 20))) = true from hi2] at HI2
        rw [HV.out, if_neg (fun g => by rcases imp_bad.1 g with g | g <;> simp_all)]
        have e1 : isWin (Wn : Nat) b1 = true ∧ 1 ≤ n1 ∧ n1 ≤ 20 := by unfold impB at hi1; simpa using hi1
        have e2 : isWin (Wn : Nat) b2 = true ∧ 1 ≤ n2 ∧ n2 ≤ 20 := by unfold impB at hi2; simpa using hi2
        by_cases hC : Tm.cntU Wn lg (lts ts) = 0
        · have HNI := hide (fun w' (hA : Strs w' A ts) => nights_any Wn hW1 hW5 lg hlg A ts c w' hA h3 hf hs hlo hcn)
          rw [if_pos (cnt_zero.2 hC)]
          have hnb : nightB Wn lg (lts ts) = [] := List.eq_nil_of_length_eq_zero (by rw [nightB_len]; exact hC)
          rw [hnb] at HNI
          unfold tup2V
          replace h0 := hide h0
          clear HV hC hnb e1 e2 hi1 hi2
          go_enter Try.func41, Try.ntmps41
          go_wp2_with (first
    | (go_at_call 76; refine (rLong_any (Wn : Nat) A ts c _ (hA.ext (by (repeat (first | exact Below.refl _ _ | assumption | refine below_drewN ?_ _ | refine below_drew ?_ | refine below_gr ?_ ?_ _ | refine below_alloc ?_ ?_ _ | refine Below.setCell ?_ ?_ _ | refine below_step ?_ (by assumption) ?_ | omega | (simp only [zz] at *; omega))))) hl hsz (lg : Nat)).mono ?_; rintro e w1 ⟨rfl, hgw1⟩; replace hgw1 := ex_below hgw1; have hzw1 := hgw1.size; (try simp only [zz] at hzw1); have hsw1 : w.heap.size < w1.heap.size := (by (first | omega | (simp only [zz] at *; omega))); have how1 := own_cell hgw1 (b := w.heap.size) (by (first | omega | (simp only [zz] at *; omega))); have hqw1 := own_frozen hgw1 (b := w.heap.size) (by (first | omega | (simp only [zz] at *; omega))); have hsw1 : w.heap.size + 1 < w1.heap.size := (by (first | omega | (simp only [zz] at *; omega))); have how1 := own_cell hgw1 (b := w.heap.size + 1) (by (first | omega | (simp only [zz] at *; omega))); have hqw1 := own_frozen hgw1 (b := w.heap.size + 1) (by (first | omega | (simp only [zz] at *; omega))); have hsw1 : w.heap.size + 1 + 1 < w1.heap.size := (by (first | omega | (simp only [zz] at *; omega))); have how1 := own_cell hgw1 (b := w.heap.size + 1 + 1) (by (first | omega | (simp only [zz] at *; omega))); have hqw1 := own_frozen hgw1 (b := w.heap.size + 1 + 1) (by (first | omega | (simp only [zz] at *; omega))); have hltw1 : ∀ b, b < w.heap.size → b < w1.heap.size := fun b hb => (by (first | omega | (simp only [zz] at *; omega))); have hcw1 : ∀ b o, b < w.heap.size → w1.cell? ⟨b, o, none⟩ = w.cell? ⟨b, o, none⟩ := old_cell (by (repeat (first | exact Below.refl _ _ | assumption | refine below_drewN ?_ _ | refine below_drew ?_ | refine below_gr ?_ ?_ _ | refine below_alloc ?_ ?_ _ | refine Below.setCell ?_ ?_ _ | refine below_step ?_ (by assumption) ?_ | omega | (simp only [zz] at *; omega)))))
    | (clear tok1; go_at_call 87; refine (HI1.out _).mono ?_; rintro e w2 ⟨rfl, hgw2⟩; replace hgw2 := ex_below hgw2; have hzw2 := hgw2.size; (try simp only [zz] at hzw2); have hsw2 : w.heap.size < w2.heap.size := (by (first | omega | (simp only [zz] at *; omega))); have how2 := own_cell hgw2 (b := w.heap.size) (by (first | omega | (simp only [zz] at *; omega))); have hqw2 := own_frozen hgw2 (b := w.heap.size) (by (first | omega | (simp only [zz] at *; omega))); have hsw2 : w.heap.size + 1 < w2.heap.size := (by (first | omega | (simp only [zz] at *; omega))); have how2 := own_cell hgw2 (b := w.heap.size + 1) (by (first | omega | (simp only [zz] at *; omega))); have hqw2 := own_frozen hgw2 (b := w.heap.size + 1) (by (first | omega | (simp only [zz] at *; omega))); have hsw2 : w.heap.size + 1 + 1 < w2.heap.size := (by (first | omega | (simp only [zz] at *; omega))); have how2 := own_cell hgw2 (b := w.heap.size + 1 + 1) (by (first | omega | (simp only [zz] at *; omega))); have hqw2 := own_frozen hgw2 (b := w.heap.size + 1 + 1) (by (first | omega | (simp only [zz] at *; omega))); have hltw2 : ∀ b, b < w.heap.size → b < w2.heap.size := fun b hb => (by (first | omega | (simp only [zz] at *; omega))); have hcw2 : ∀ b o, b < w.heap.size → w2.cell? ⟨b, o, none⟩ = w.cell? ⟨b, o, none⟩ := old_cell (by (repeat (first | exact Below.refl _ _ | assumption | refine below_drewN ?_ _ | refine below_drew ?_ | refine below_gr ?_ ?_ _ | refine below_alloc ?_ ?_ _ | refine Below.setCell ?_ ?_ _ | refine below_step ?_ (by assumption) ?_ | omega | (simp only [zz] at *; omega)))); have tok2 : True := trivial)
    | (clear tok2; go_at_call 87; refine (HI2.out _).mono ?_; rintro e w3 ⟨rfl, hgw3⟩; replace hgw3 := ex_below hgw3; have hzw3 := hgw3.size; (try simp only [zz] at hzw3); have hsw3 : w.heap.size < w3.heap.size := (by (first | omega | (simp only [zz] at *; omega))); have how3 := own_cell hgw3 (b := w.heap.size) (by (first | omega | (simp only [zz] at *; omega))); have hqw3 := own_frozen hgw3 (b := w.heap.size) (by (first | omega | (simp only [zz] at *; omega))); have hsw3 : w.heap.size + 1 < w3.heap.size := (by (first | omega | (simp only [zz] at *; omega))); have how3 := own_cell hgw3 (b := w.heap.size + 1) (by (first | omega | (simp only [zz] at *; omega))); have hqw3 := own_frozen hgw3 (b := w.heap.size + 1) (by (first | omega | (simp only [zz] at *; omega))); have hsw3 : w.heap.size + 1 + 1 < w3.heap.size := (by (first | omega | (simp only [zz] at *; omega))); have how3 := own_cell hgw3 (b := w.heap.size + 1 + 1) (by (first | omega | (simp only [zz] at *; omega))); have hqw3 := own_frozen hgw3 (b := w.heap.size + 1 + 1) (by (first | omega | (simp only [zz] at *; omega))); have hltw3 : ∀ b, b < w.heap.size → b < w3.heap.size := fun b hb => (by (first | omega | (simp only [zz] at *; omega))); have hcw3 : ∀ b o, b < w.heap.size → w3.cell? ⟨b, o, none⟩ = w.cell? ⟨b, o, none⟩ := old_cell (by (repeat (first | exact Below.refl _ _ | assumption | refine below_drewN ?_ _ | refine below_drew ?_ | refine below_gr ?_ ?_ _ | refine below_alloc ?_ ?_ _ | refine Below.setCell ?_ ?_ _ | refine below_step ?_ (by assumption) ?_ | omega | (simp only [zz] at *; omega)))); have tok3 : True := trivial)
    | (go_at_call 83; refine (HNI.out _ (hA.ext (by (repeat (first | exact Below.refl _ _ | assumption | refine below_drewN ?_ _ | refine below_drew ?_ | refine below_gr ?_ ?_ _ | refine below_alloc ?_ ?_ _ | refine Below.setCell ?_ ?_ _ | refine below_step ?_ (by assumption) ?_ | omega | (simp only [zz] at *; omega)))))).mono ?_; rintro e w5 ⟨A5, c5, rfl, hgw5, hS5, -⟩; replace hgw5 := hgw5.below; have hzw5 := hgw5.size; (try simp only [zz] at hzw5); have hsw5 : w.heap.size < w5.heap.size := (by (first | omega | (simp only [zz] at *; omega))); have how5 := own_cell hgw5 (b := w.heap.size) (by (first | omega | (simp only [zz] at *; omega))); have hqw5 := own_frozen hgw5 (b := w.heap.size) (by (first | omega | (simp only [zz] at *; omega))); have hsw5 : w.heap.size + 1 < w5.heap.size := (by (first | omega | (simp only [zz] at *; omega))); have how5 := own_cell hgw5 (b := w.heap.size + 1) (by (first | omega | (simp only [zz] at *; omega))); have hqw5 := own_frozen hgw5 (b := w.heap.size + 1) (by (first | omega | (simp only [zz] at *; omega))); have hsw5 : w.heap.size + 1 + 1 < w5.heap.size := (by (first | omega | (simp only [zz] at *; omega))); have how5 := own_cell hgw5 (b := w.heap.size + 1 + 1) (by (first | omega | (simp only [zz] at *; omega))); have hqw5 := own_frozen hgw5 (b := w.heap.size + 1 + 1) (by (first | omega | (simp only [zz] at *; omega))); have hltw5 : ∀ b, b < w.heap.size → b < w5.heap.size := fun b hb => (by (first | omega | (simp only [zz] at *; omega))); have hcw5 : ∀ b o, b < w.heap.size → w5.cell? ⟨b, o, none⟩ = w.cell? ⟨b, o, none⟩ := old_cell (by (repeat (first | exact Below.refl _ _ | assumption | refine below_drewN ?_ _ | refine below_drew ?_ | refine below_gr ?_ ?_ _ | refine below_alloc ?_ ?_ _ | refine Below.setCell ?_ ?_ _ | refine below_step ?_ (by assumption) ?_ | omega | (simp only [zz] at *; omega))))))

          go_ret2
          exact gives_of (rfl) (by (repeat (first | exact Below.refl _ _ | assumption | refine below_drewN ?_ _ | refine below_drew ?_ | refine below_gr ?_ ?_ _ | refine below_alloc ?_ ?_ _ | refine Below.setCell ?_ ?_ _ | refine below_step ?_ (by assumption) ?_ | omega | (simp only [zz] at *; omega))))
        · rw [if_neg (fun g => hC (cnt_zero.1 g))]
          obtain ⟨i1, rfl⟩ : ∃ i : Nat, n1 = (i : Nat) := ⟨n1.toNat, by omega⟩
          obtain ⟨i2, rfl⟩ : ∃ i : Nat, n2 = (i : Nat) := ⟨n2.toNat, by omega⟩
          rw [Int.toNat_natCast, Int.toNat_natCast]
          exact rkind_loop Wn A ts c w hA hl hsz b1 i1 b2 i2 hb1 hb2 (by omega) (by omega) lg h0 e1.1 e2.1 hcn hC
  · have HV := hide (show kindA W ts long b1 n1 b2 n2 = (0, openE W ts long) by simp [kindA, h0])
    have h1 : (openE W ts long != 0) = true := by simp [h0]
    rw [HV.out]
    unfold tup2V
    replace h0 := hide h0
    go_enter Try.func41, Try.ntmps41
    go_wp2_with (first
    | (go_at_call 76; refine (rLong_any W A ts c _ (hA.ext (by (repeat (first | exact Below.refl _ _ | assumption | refine below_drewN ?_ _ | refine below_drew ?_ | refine below_gr ?_ ?_ _ | refine below_alloc ?_ ?_ _ | refine Below.setCell ?_ ?_ _ | refine below_step ?_ (by assumption) ?_ | omega | (simp only [zz] at *; omega))))) hl hsz long).mono ?_; rintro e w1 ⟨rfl, hgw1⟩; replace hgw1 := ex_below hgw1; have hzw1 := hgw1.size; (try simp only [zz] at hzw1); have hsw1 : w.heap.size < w1.heap.size := (by (first | omega | (simp only [zz] at *; omega))); have how1 := own_cell hgw1 (b := w.heap.size) (by (first | omega | (simp only [zz] at *; omega))); have hqw1 := own_frozen hgw1 (b := w.heap.size) (by (first | omega | (simp only [zz] at *; omega))); have hsw1 : w.heap.size + 1 < w1.heap.size := (by (first | omega | (simp only [zz] at *; omega))); have how1 := own_cell hgw1 (b := w.heap.size + 1) (by (first | omega | (simp only [zz] at *; omega))); have hqw1 := own_frozen hgw1 (b := w.heap.size + 1) (by (first | omega | (simp only [zz] at *; omega))); have hsw1 : w.heap.size + 1 + 1 < w1.heap.size := (by (first | omega | (simp only [zz] at *; omega))); have how1 := own_cell hgw1 (b := w.heap.size + 1 + 1) (by (first | omega | (simp only [zz] at *; omega))); have hqw1 := own_frozen hgw1 (b := w.heap.size + 1 + 1) (by (first | omega | (simp only [zz] at *; omega))); have hltw1 : ∀ b, b < w.heap.size → b < w1.heap.size := fun b hb => (by (first | omega | (simp only [zz] at *; omega))); have hcw1 : ∀ b o, b < w.heap.size → w1.cell? ⟨b, o, none⟩ = w.cell? ⟨b, o, none⟩ := old_cell (by (repeat (first | exact Below.refl _ _ | assumption | refine below_drewN ?_ _ | refine below_drew ?_ | refine below_gr ?_ ?_ _ | refine below_alloc ?_ ?_ _ | refine Below.setCell ?_ ?_ _ | refine below_step ?_ (by assumption) ?_ | omega | (simp only [zz] at *; omega))))))

    go_ret2
    exact gives_of (rfl) (by (repeat (first | exact Below.refl _ _ | assumption | refine below_drewN ?_ _ | refine below_drew ?_ | refine below_gr ?_ ?_ _ | refine below_alloc ?_ ?_ _ | refine Below.setCell ?_ ?_ _ | refine below_step ?_ (by assumption) ?_ | omega | (simp only [zz] at *; omega))))
end Go.Proofs.Ytafncmgijbkomaa
