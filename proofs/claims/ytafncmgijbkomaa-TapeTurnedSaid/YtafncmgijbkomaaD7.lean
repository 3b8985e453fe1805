/- Proved here: which tapes are valid, a part of the proofs about the tape laws. Conditions: those that each theorem names, no others. -/
import Derived.Test.YtafncmgijbkomaaP30
import Derived.WalkKit
import Derived.WalkSpells
import Derived.WalkLawsBesides
import Derived.Below
import Derived.Deep.QuietTactic
import Derived.BigQuiet
import Derived.Deep.Light

set_option linter.unusedSimpArgs false
set_option linter.unusedVariables false
namespace Go.Proofs.Ytafncmgijbkomaa
open Go.RowKit Go.Maps Go.Lib
/-- valid tapes -/
def fineB (W : Int) (ts : List ByteArray) : Bool := decide (chkSet W ts = 0)
set_option maxRecDepth 100000 in
set_option maxHeartbeats 4000000 in
theorem fine_any (W : Int) (A : Option Addr) (ts : List ByteArray) (c : Nat) (w : World) (hA : Strs w A ts) (hl9 : ts.length ≤ 9223372036854775807) (hs9 : ∀ s, s ∈ ts → s.size ≤ 9223372036854775807) : Calls Try.prog 42 #[.agg #[.int .i64 W, .slice A ts.length c]] w (Gives w (.bool (fineB W ts))) := by
  cases hg : greatB ts with
  | true =>
    have hf : Hid (fineB W ts = false) := hide (decide_eq_false (fun h => by rw [chk_great h] at hg; cases hg))
    rw [hf.out]
    go_enter Try.func42, Try.ntmps42
    go_wp2_with (first
    | (go_at_call 17; refine (great_any W A ts c _ (hA.ext (by (repeat (first | exact Below.refl _ _ | assumption | refine below_drewN ?_ _ | refine below_drew ?_ | refine below_gr ?_ ?_ _ | refine below_alloc ?_ ?_ _ | refine Below.setCell ?_ ?_ _ | refine below_step ?_ (by assumption) ?_ | omega | (simp only [zz] at *; omega))))) hl9 hs9).mono ?_; rintro e w1 ⟨rfl, hb1⟩; replace hb1 := ex_below hb1; have hz1 := hb1.size; (try simp only [zz] at hz1); have hs1 : w.heap.size < w1.heap.size := (by (first | omega | (simp only [zz] at *; omega))); have ho1 := own_cell hb1 (b := w.heap.size) (by (first | omega | (simp only [zz] at *; omega))); have hq1 := own_frozen hb1 (b := w.heap.size) (by (first | omega | (simp only [zz] at *; omega))); have hlt1 : ∀ b, b < w.heap.size → b < w1.heap.size := fun b hb => (by (first | omega | (simp only [zz] at *; omega))); have hc1 : ∀ b o, b < w.heap.size → w1.cell? ⟨b, o, none⟩ = w.cell? ⟨b, o, none⟩ := old_cell (by (repeat (first | exact Below.refl _ _ | assumption | refine below_drewN ?_ _ | refine below_drew ?_ | refine below_gr ?_ ?_ _ | refine below_alloc ?_ ?_ _ | refine Below.setCell ?_ ?_ _ | refine below_step ?_ (by assumption) ?_ | omega | (simp only [zz] at *; omega)))); (try rw [hg])))

    go_ret
    exact gives_of (rfl) (by (repeat (first | exact Below.refl _ _ | assumption | refine below_drewN ?_ _ | refine below_drew ?_ | refine below_gr ?_ ?_ _ | refine below_alloc ?_ ?_ _ | refine Below.setCell ?_ ?_ _ | refine below_step ?_ (by assumption) ?_ | omega | (simp only [zz] at *; omega))))
  | false =>
    obtain ⟨hl, hsz⟩ := great_no hg
    have hf : Hid ((chkSet W ts == 0) = fineB W ts) := hide (by rw [fineB]; by_cases h : chkSet W ts = 0 <;> simp [h])
    go_enter Try.func42, Try.ntmps42
    go_wp2_with (first
    | (go_at_call 17; refine (great_any W A ts c _ (hA.ext (by (repeat (first | exact Below.refl _ _ | assumption | refine below_drewN ?_ _ | refine below_drew ?_ | refine below_gr ?_ ?_ _ | refine below_alloc ?_ ?_ _ | refine Below.setCell ?_ ?_ _ | refine below_step ?_ (by assumption) ?_ | omega | (simp only [zz] at *; omega))))) hl9 hs9).mono ?_; rintro e w1 ⟨rfl, hb1⟩; replace hb1 := ex_below hb1; have hz1 := hb1.size; (try simp only [zz] at hz1); have hs1 : w.heap.size < w1.heap.size := (by (first | omega | (simp only [zz] at *; omega))); have ho1 := own_cell hb1 (b := w.heap.size) (by (first | omega | (simp only [zz] at *; omega))); have hq1 := own_frozen hb1 (b := w.heap.size) (by (first | omega | (simp only [zz] at *; omega))); have hlt1 : ∀ b, b < w.heap.size → b < w1.heap.size := fun b hb => (by (first | omega | (simp only [zz] at *; omega))); have hc1 : ∀ b o, b < w.heap.size → w1.cell? ⟨b, o, none⟩ = w.cell? ⟨b, o, none⟩ := old_cell (by (repeat (first | exact Below.refl _ _ | assumption | refine below_drewN ?_ _ | refine below_drew ?_ | refine below_gr ?_ ?_ _ | refine below_alloc ?_ ?_ _ | refine Below.setCell ?_ ?_ _ | refine below_step ?_ (by assumption) ?_ | omega | (simp only [zz] at *; omega)))); (try rw [hg]))
    | (go_at_call 22; refine (rCheckSet_any W A ts c _ (hA.ext (by (repeat (first | exact Below.refl _ _ | assumption | refine below_drewN ?_ _ | refine below_drew ?_ | refine below_gr ?_ ?_ _ | refine below_alloc ?_ ?_ _ | refine Below.setCell ?_ ?_ _ | refine below_step ?_ (by assumption) ?_ | omega | (simp only [zz] at *; omega))))) hl hsz).mono ?_; rintro e w2 ⟨rfl, hb2⟩; replace hb2 := ex_below hb2; have hz1 := hb2.size; (try simp only [zz] at hz1); have hs1 : w.heap.size < w2.heap.size := (by (first | omega | (simp only [zz] at *; omega))); have ho1 := own_cell hb2 (b := w.heap.size) (by (first | omega | (simp only [zz] at *; omega))); have hq1 := own_frozen hb2 (b := w.heap.size) (by (first | omega | (simp only [zz] at *; omega))); have hlt1 : ∀ b, b < w.heap.size → b < w2.heap.size := fun b hb => (by (first | omega | (simp only [zz] at *; omega))); have hc1 : ∀ b o, b < w.heap.size → w2.cell? ⟨b, o, none⟩ = w.cell? ⟨b, o, none⟩ := old_cell (by (repeat (first | exact Below.refl _ _ | assumption | refine below_drewN ?_ _ | refine below_drew ?_ | refine below_gr ?_ ?_ _ | refine below_alloc ?_ ?_ _ | refine Below.setCell ?_ ?_ _ | refine below_step ?_ (by assumption) ?_ | omega | (simp only [zz] at *; omega))))))

    go_ret
    exact gives_of (v_bool hf.out) (by (repeat (first | exact Below.refl _ _ | assumption | refine below_drewN ?_ _ | refine below_drew ?_ | refine below_gr ?_ ?_ _ | refine below_alloc ?_ ?_ _ | refine Below.setCell ?_ ?_ _ | refine below_step ?_ (by assumption) ?_ | omega | (simp only [zz] at *; omega))))
theorem fine_chk {W : Int} {ts : List ByteArray} (h : fineB W ts = true) : chkSet W ts = 0 := of_decide_eq_true h
theorem fine_len {W : Int} {ts : List ByteArray} (h : fineB W ts = true) : ts.length ≤ 1000 ∧ ∀ k, (hk : k < ts.length) → ts[k].size ≤ 1000000 := great_no (chk_great (fine_chk h))
/-- one of the tapes, in memory -/
theorem strs_cell {w : World} {tb toff : Nat} {ts : List ByteArray} (h : Strs w (some ⟨tb, toff, none⟩) ts) {k : Nat} {s : ByteArray} (hk : ts[k]? = some s) : w.cell? ⟨tb, toff + k, none⟩ = some (.string s) := by
  obtain ⟨b, o, e, _, _, hc⟩ := h k s hk
  injection e with e
  injection e with e1 e2 _
  subst e1
  subst e2
  exact hc
theorem strs_lt {w : World} {tb toff : Nat} {ts : List ByteArray} (h : Strs w (some ⟨tb, toff, none⟩) ts) {k : Nat} {s : ByteArray} (hk : ts[k]? = some s) : tb < w.heap.size := by
  obtain ⟨b, o, e, h1, _, _⟩ := h k s hk
  injection e with e
  injection e with e1 e2 _
  subst e1
  exact h1
theorem strs_form {w : World} {A : Option Addr} {ts : List ByteArray} (h : Strs w A ts) (hl : 0 < ts.length) : ∃ tb toff, A = some ⟨tb, toff, none⟩ ∧ tb < w.heap.size := by
  obtain ⟨b, o, e, h1, _, _⟩ := h 0 ts[0] (by simp [hl])
  exact ⟨b, o, e, h1⟩
end Go.Proofs.Ytafncmgijbkomaa
