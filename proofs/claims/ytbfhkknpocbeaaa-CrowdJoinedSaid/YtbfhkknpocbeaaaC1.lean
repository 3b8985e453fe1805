/- Proved here: contracts and laws of C1, a part of the proofs about the crowd laws: what some functions of the program and of the reference compute, and plain facts about it. Conditions: those that each theorem names, no others. -/
import Derived.Test.YtbfhkknpocbeaaaBase
import Derived.WalkKit
import Derived.WalkSpells
import Derived.WalkLawsBesides
import Derived.Below
import Derived.Deep.QuietTactic
import Derived.BigQuiet
import Derived.Deep.Light

set_option linter.unusedSimpArgs false
set_option linter.unusedVariables false
namespace Go.Proofs.Ytbfhkknpocbeaaa
open Go.RowKit
structure P3 where
  lo : Int
  hi : Int
  un : Int
def Ppl (w : World) (A : Option Addr) (ps : List P3) : Prop :=
  ∀ k p, ps[k]? = some p → ∃ b off, A = some ⟨b, off, none⟩ ∧ b < w.heap.size ∧ b ≤ w.heap.size ∧ w.cell? ⟨b, off + k * 3, none⟩ = some (.int .i64 p.lo) ∧ w.cell? ⟨b, off + k * 3 + 1, none⟩ = some (.int .i64 p.hi) ∧ w.cell? ⟨b, off + k * 3 + 1 + 1, none⟩ = some (.int .i64 p.un)
theorem Ppl.ext {w w' : World} {A : Option Addr} {ps : List P3} (h : Ppl w A ps) (hb : Below w.heap.size w w') : Ppl w' A ps := fun k p hk => by
  obtain ⟨b, off, h0, h1, h2, h3, h4, h5⟩ := h k p hk
  have hs := hb.size
  exact ⟨b, off, h0, by omega, by omega, (hb.cell (p := ⟨b, _, none⟩) h1).trans h3, (hb.cell (p := ⟨b, _, none⟩) h1).trans h4, (hb.cell (p := ⟨b, _, none⟩) h1).trans h5⟩
def canB (p : P3) : Bool := decide (p.lo ≤ p.un)
def lastP (p : P3) : Int := min p.hi p.un
def fallsB (fr to : Int) (p : P3) : Bool := canB p && decide (fr ≤ lastP p) && decide (p.un ≤ to)
def fallsN (fr to : Int) (ps : List P3) : Nat := (ps.filter (fallsB fr to)).length
theorem fallsN_snoc (fr to : Int) (l : List P3) (p : P3) : fallsN fr to (l ++ [p]) = fallsN fr to l + if fallsB fr to p = true then 1 else 0 := by
  unfold fallsN; rw [List.filter_append]; by_cases h : fallsB fr to p = true <;> simp [List.filter_cons, h]
theorem fallsN_le (fr to : Int) (l : List P3) : fallsN fr to l ≤ l.length := List.length_filter_le _ _
def isMin (m n : Int) : Bool := decide (1 ≤ n) && decide (n ≤ m)
def okP (m : Int) (p : P3) : Bool := isMin m p.lo && isMin m p.hi && decide (p.lo ≤ p.hi) && isMin m p.un
def checkHall (m : Int) (ps : List P3) : Int := if m < 1 ∨ 60 < m then 3 else if 30 < ps.length then 6 else if ps.all (okP m) then 0 else 2
def asked (m : Int) (ps : List P3) (k : Int) : Int := if checkHall m ps ≠ 0 then checkHall m ps else if k < 0 ∨ 30 < k then 6 else 0
def boundOf (fr to : Int) (ps : List P3) : Int := ((fallsN fr to ps : Int) + (to - fr + 1) - 1) / (to - fr + 1)
theorem boundOf_le (fr to : Int) (ps : List P3) (h : fr ≤ to) : 0 ≤ boundOf fr to ps ∧ boundOf fr to ps ≤ ps.length := by
  unfold boundOf
  have h1 := fallsN_le fr to ps
  generalize fallsN fr to ps = N at *
  have hp : 0 < to - fr + 1 := by omega
  generalize to - fr + 1 = d at *
  refine ⟨Int.ediv_nonneg (by omega) (by omega), ?_⟩
  apply Int.le_of_lt_add_one
  apply Int.ediv_lt_of_lt_mul hp
  have : (N : Int) * 1 ≤ N * d := Int.mul_le_mul_of_nonneg_left (by omega) (by omega)
  have h2 : ((ps.length : Int) + 1) * d = ps.length * d + d := by rw [Int.add_mul, Int.one_mul]
  have h3 : (N : Int) * d ≤ ps.length * d := Int.mul_le_mul_of_nonneg_right (by omega) (by omega)
  omega
def fewIn (ps : List P3) (fr : Int) : Nat → Int → Int
  | 0, n => n
  | j + 1, n => max (fewIn ps fr j n) (boundOf fr (fr + j) ps)
def fewOut (m : Int) (ps : List P3) : Nat → Int
  | 0 => 0
  | i + 1 => fewIn ps (1 + i) (m - i).toNat (fewOut m ps i)
def fewest (m : Int) (ps : List P3) : Int := fewOut m ps m.toNat
theorem fewIn_bd (ps : List P3) (fr : Int) (j : Nat) (n : Int) (h : 0 ≤ n ∧ n ≤ ps.length) : 0 ≤ fewIn ps fr j n ∧ fewIn ps fr j n ≤ ps.length := by
  induction j with
  | zero => exact h
  | succ j ih => have := boundOf_le fr (fr + j) ps (by omega); simp only [fewIn]; omega
theorem fewOut_bd (m : Int) (ps : List P3) (i : Nat) : 0 ≤ fewOut m ps i ∧ fewOut m ps i ≤ ps.length := by
  induction i with
  | zero => simp [fewOut]
  | succ i ih => exact fewIn_bd _ _ _ _ ih
theorem fewest_bd (m : Int) (ps : List P3) : 0 ≤ fewest m ps ∧ fewest m ps ≤ ps.length := fewOut_bd m ps _

set_option maxHeartbeats 400000 in
theorem can_any (p : P3) (w : World) :
    Calls Try.prog 42 #[.agg #[.int .i64 p.lo, .int .i64 p.hi, .int .i64 p.un]] w (Gives w (.bool (canB p))) := by
  go_enter Try.func42, Try.ntmps42
  go_wp2
  go_ret
  exact gives_of (rfl) (by (repeat (first | exact Below.refl _ _ | assumption | (refine below_gr ?_ (by (first | omega | (simp only [size_grow, World.size_alloc, size_drewN, size_drew, size_setCell] at *; omega))) _) | (refine below_alloc ?_ (by (first | omega | (simp only [size_grow, World.size_alloc, size_drewN, size_drew, size_setCell] at *; omega))) _) | (refine Below.setCell ?_ (by (first | omega | (simp only [size_grow, World.size_alloc, size_drewN, size_drew, size_setCell] at *; omega))) _) | refine below_drewN ?_ _ | refine below_drew ?_ | (refine below_step ?_ (by assumption) (by (first | omega | (simp only [size_grow, World.size_alloc, size_drewN, size_drew, size_setCell] at *; omega)))))))

set_option maxHeartbeats 400000 in
theorem last_any (p : P3) (w : World) :
    Calls Try.prog 43 #[.agg #[.int .i64 p.lo, .int .i64 p.hi, .int .i64 p.un]] w (Gives w (.int .i64 (lastP p))) := by
  go_enter Try.func43, Try.ntmps43
  go_wp2
  all_goals
    go_ret
    exact gives_of (v_int (by unfold lastP; omega)) (by (repeat (first | exact Below.refl _ _ | assumption | (refine below_gr ?_ (by (first | omega | (simp only [size_grow, World.size_alloc, size_drewN, size_drew, size_setCell] at *; omega))) _) | (refine below_alloc ?_ (by (first | omega | (simp only [size_grow, World.size_alloc, size_drewN, size_drew, size_setCell] at *; omega))) _) | (refine Below.setCell ?_ (by (first | omega | (simp only [size_grow, World.size_alloc, size_drewN, size_drew, size_setCell] at *; omega))) _) | refine below_drewN ?_ _ | refine below_drew ?_ | (refine below_step ?_ (by assumption) (by (first | omega | (simp only [size_grow, World.size_alloc, size_drewN, size_drew, size_setCell] at *; omega)))))))

set_option maxHeartbeats 400000 in
theorem falls_any (fr to : Int) (m : Int) (A : Option Addr) (ps : List P3) (c : Nat) (w : World) (hA : Ppl w A ps) (hl : ps.length ≤ 100) :
    Calls Try.prog 68 #[.agg #[.int .i64 m, .slice A ps.length c], .int .i64 fr, .int .i64 to] w (Gives w (.int .i64 (fallsN fr to ps))) := by
  go_enter Try.func68, Try.ntmps68
  go_wp2
  go_loopw [7, 8] (fun n i wr => ∃ k : Nat, k ≤ ps.length ∧ i = .int .i64 k ∧ n = .int .i64 (fallsN fr to (ps.take k)) ∧ Grew (w.alloc (Obj.cells #[Value.int IntKind.i64 m, Value.slice A ps.length c] 24)) wr) (fun _ i _ => ps.length - (intOf i).toNat)
  case atStart => exact ⟨0, Nat.zero_le _, rfl, rfl, grew_refl _⟩
  case round =>
    obtain ⟨k, hk, rfl, rfl, hb⟩ := hrel
    replace hb := hb.below
    have hzr := hb.size
    (try simp only [size_grow, World.size_alloc, size_drewN, size_drew, size_setCell] at hzr)
    have hsr : w.heap.size < wr.heap.size := (by (first | omega | (simp only [size_grow, World.size_alloc, size_drewN, size_drew, size_setCell] at *; omega)))
    have hor := own_cell hb (b := w.heap.size) (by (first | omega | (simp only [size_grow, World.size_alloc, size_drewN, size_drew, size_setCell] at *; omega)))
    have hqr := own_frozen hb (b := w.heap.size) (by (first | omega | (simp only [size_grow, World.size_alloc, size_drewN, size_drew, size_setCell] at *; omega)))
    have hltr : ∀ b, b < w.heap.size → b < wr.heap.size := fun b hb => (by (first | omega | (simp only [size_grow, World.size_alloc, size_drewN, size_drew, size_setCell] at *; omega)))
    have hcr : ∀ b o, b < w.heap.size → wr.cell? ⟨b, o, none⟩ = w.cell? ⟨b, o, none⟩ := old_cell (by (repeat (first | exact Below.refl _ _ | assumption | (refine below_gr ?_ (by (first | omega | (simp only [size_grow, World.size_alloc, size_drewN, size_drew, size_setCell] at *; omega))) _) | (refine below_alloc ?_ (by (first | omega | (simp only [size_grow, World.size_alloc, size_drewN, size_drew, size_setCell] at *; omega))) _) | (refine Below.setCell ?_ (by (first | omega | (simp only [size_grow, World.size_alloc, size_drewN, size_drew, size_setCell] at *; omega))) _) | refine below_drewN ?_ _ | refine below_drew ?_ | (refine below_step ?_ (by assumption) (by (first | omega | (simp only [size_grow, World.size_alloc, size_drewN, size_drew, size_setCell] at *; omega)))))))
    by_cases hlt : k < ps.length
    · obtain ⟨b, off, rfl, hbl, hbl2, hp0, hp1, hp2⟩ := hA k ps[k] (by simp [hlt])
      have H := hide (fallsN_snoc fr to (ps.take k) ps[k])
      rw [← take_snoc _ _ hlt] at H
      have H2 := fallsN_le fr to (ps.take k)
      have H3 : (ps.take k).length ≤ k := List.length_take_le _ _
      generalize ps[k] = p at *
      generalize fallsN fr to (ps.take k) = N at *
      go_wp2_with (first | (go_at_call 42; refine (can_any p _).mono ?_; rintro e w1 ⟨rfl, hb1⟩; replace hb1 := ex_below hb1; have hz1 := hb1.size; (try simp only [size_grow, World.size_alloc, size_drewN, size_drew, size_setCell] at hz1); have hs1 : wr.heap.size < w1.heap.size := (by (first | omega | (simp only [size_grow, World.size_alloc, size_drewN, size_drew, size_setCell] at *; omega))); have ho1 := own_cell hb1 (b := wr.heap.size) (by (first | omega | (simp only [size_grow, World.size_alloc, size_drewN, size_drew, size_setCell] at *; omega))); have hq1 := own_frozen hb1 (b := wr.heap.size) (by (first | omega | (simp only [size_grow, World.size_alloc, size_drewN, size_drew, size_setCell] at *; omega))); have hs1 : w.heap.size < w1.heap.size := (by (first | omega | (simp only [size_grow, World.size_alloc, size_drewN, size_drew, size_setCell] at *; omega))); have ho1 := own_cell hb1 (b := w.heap.size) (by (first | omega | (simp only [size_grow, World.size_alloc, size_drewN, size_drew, size_setCell] at *; omega))); have hq1 := own_frozen hb1 (b := w.heap.size) (by (first | omega | (simp only [size_grow, World.size_alloc, size_drewN, size_drew, size_setCell] at *; omega))); have hlt1 : ∀ b, b < w.heap.size → b < w1.heap.size := fun b hb => (by (first | omega | (simp only [size_grow, World.size_alloc, size_drewN, size_drew, size_setCell] at *; omega))); have hc1 : ∀ b o, b < w.heap.size → w1.cell? ⟨b, o, none⟩ = w.cell? ⟨b, o, none⟩ := old_cell (by (repeat (first | exact Below.refl _ _ | assumption | (refine below_gr ?_ (by (first | omega | (simp only [size_grow, World.size_alloc, size_drewN, size_drew, size_setCell] at *; omega))) _) | (refine below_alloc ?_ (by (first | omega | (simp only [size_grow, World.size_alloc, size_drewN, size_drew, size_setCell] at *; omega))) _) | (refine Below.setCell ?_ (by (first | omega | (simp only [size_grow, World.size_alloc, size_drewN, size_drew, size_setCell] at *; omega))) _) | refine below_drewN ?_ _ | refine below_drew ?_ | (refine below_step ?_ (by assumption) (by (first | omega | (simp only [size_grow, World.size_alloc, size_drewN, size_drew, size_setCell] at *; omega)))))))) | (go_at_call 43; refine (last_any p _).mono ?_; rintro e w1 ⟨rfl, hb1⟩; replace hb1 := ex_below hb1; have hz1 := hb1.size; (try simp only [size_grow, World.size_alloc, size_drewN, size_drew, size_setCell] at hz1); have hs1 : wr.heap.size < w1.heap.size := (by (first | omega | (simp only [size_grow, World.size_alloc, size_drewN, size_drew, size_setCell] at *; omega))); have ho1 := own_cell hb1 (b := wr.heap.size) (by (first | omega | (simp only [size_grow, World.size_alloc, size_drewN, size_drew, size_setCell] at *; omega))); have hq1 := own_frozen hb1 (b := wr.heap.size) (by (first | omega | (simp only [size_grow, World.size_alloc, size_drewN, size_drew, size_setCell] at *; omega))); have hs1 : w.heap.size < w1.heap.size := (by (first | omega | (simp only [size_grow, World.size_alloc, size_drewN, size_drew, size_setCell] at *; omega))); have ho1 := own_cell hb1 (b := w.heap.size) (by (first | omega | (simp only [size_grow, World.size_alloc, size_drewN, size_drew, size_setCell] at *; omega))); have hq1 := own_frozen hb1 (b := w.heap.size) (by (first | omega | (simp only [size_grow, World.size_alloc, size_drewN, size_drew, size_setCell] at *; omega))); have hlt1 : ∀ b, b < w.heap.size → b < w1.heap.size := fun b hb => (by (first | omega | (simp only [size_grow, World.size_alloc, size_drewN, size_drew, size_setCell] at *; omega))); have hc1 : ∀ b o, b < w.heap.size → w1.cell? ⟨b, o, none⟩ = w.cell? ⟨b, o, none⟩ := old_cell (by (repeat (first | exact Below.refl _ _ | assumption | (refine below_gr ?_ (by (first | omega | (simp only [size_grow, World.size_alloc, size_drewN, size_drew, size_setCell] at *; omega))) _) | (refine below_alloc ?_ (by (first | omega | (simp only [size_grow, World.size_alloc, size_drewN, size_drew, size_setCell] at *; omega))) _) | (refine Below.setCell ?_ (by (first | omega | (simp only [size_grow, World.size_alloc, size_drewN, size_drew, size_setCell] at *; omega))) _) | refine below_drewN ?_ _ | refine below_drew ?_ | (refine below_step ?_ (by assumption) (by (first | omega | (simp only [size_grow, World.size_alloc, size_drewN, size_drew, size_setCell] at *; omega)))))))))
      all_goals
        exact ⟨⟨k + 1, by omega, by go_num, by rw [H.out]; exact v_int (by unfold fallsB; go_light; simp_all <;> (repeat' split) <;> omega), grew_of (by (repeat (first | exact Below.refl _ _ | assumption | (refine below_gr ?_ (by (first | omega | (simp only [size_grow, World.size_alloc, size_drewN, size_drew, size_setCell] at *; omega))) _) | (refine below_alloc ?_ (by (first | omega | (simp only [size_grow, World.size_alloc, size_drewN, size_drew, size_setCell] at *; omega))) _) | (refine Below.setCell ?_ (by (first | omega | (simp only [size_grow, World.size_alloc, size_drewN, size_drew, size_setCell] at *; omega))) _) | refine below_drewN ?_ _ | refine below_drew ?_ | (refine below_step ?_ (by assumption) (by (first | omega | (simp only [size_grow, World.size_alloc, size_drewN, size_drew, size_setCell] at *; omega)))))))⟩, by simp [intOf]; omega⟩
    · have : k = ps.length := by omega
      subst this
      go_wp2
      go_ret
      exact gives_of (v_int (by simp)) (by (repeat (first | exact Below.refl _ _ | assumption | (refine below_gr ?_ (by (first | omega | (simp only [size_grow, World.size_alloc, size_drewN, size_drew, size_setCell] at *; omega))) _) | (refine below_alloc ?_ (by (first | omega | (simp only [size_grow, World.size_alloc, size_drewN, size_drew, size_setCell] at *; omega))) _) | (refine Below.setCell ?_ (by (first | omega | (simp only [size_grow, World.size_alloc, size_drewN, size_drew, size_setCell] at *; omega))) _) | refine below_drewN ?_ _ | refine below_drew ?_ | (refine below_step ?_ (by assumption) (by (first | omega | (simp only [size_grow, World.size_alloc, size_drewN, size_drew, size_setCell] at *; omega)))))))

set_option maxHeartbeats 400000 in
theorem isMinute_any (m n : Int) (A : Option Addr) (l c : Nat) (w : World) :
    Calls Try.prog 39 #[.agg #[.int .i64 m, .slice A l c], .int .i64 n] w (Gives w (.bool (isMin m n))) := by
  go_enter Try.func39, Try.ntmps39
  go_wp2
  all_goals
    go_ret
    exact gives_of (v_bool (by simp [isMin, *] <;> omega)) (by (repeat (first | exact Below.refl _ _ | assumption | (refine below_gr ?_ (by (first | omega | (simp only [size_grow, World.size_alloc, size_drewN, size_drew, size_setCell] at *; omega))) _) | (refine below_alloc ?_ (by (first | omega | (simp only [size_grow, World.size_alloc, size_drewN, size_drew, size_setCell] at *; omega))) _) | (refine Below.setCell ?_ (by (first | omega | (simp only [size_grow, World.size_alloc, size_drewN, size_drew, size_setCell] at *; omega))) _) | refine below_drewN ?_ _ | refine below_drew ?_ | (refine below_step ?_ (by assumption) (by (first | omega | (simp only [size_grow, World.size_alloc, size_drewN, size_drew, size_setCell] at *; omega)))))))

set_option maxHeartbeats 400000 in
theorem checkHall_any (m : Int) (A : Option Addr) (ps : List P3) (c : Nat) (w : World) (hA : Ppl w A ps) (hl : ps.length ≤ 100) :
    Calls Try.prog 21 #[.agg #[.int .i64 m, .slice A ps.length c]] w (Gives w (.int .i64 (checkHall m ps))) := by
  by_cases h1 : m < 1 ∨ 60 < m
  · have H1 := hide (show checkHall m ps = 3 by unfold checkHall; rw [if_pos h1])
    go_enter Try.func21, Try.ntmps21
    go_wp2
    all_goals
      first | omega | (go_ret; exact gives_of (v_int H1.out.symm) (by (repeat (first | exact Below.refl _ _ | assumption | (refine below_gr ?_ (by (first | omega | (simp only [size_grow, World.size_alloc, size_drewN, size_drew, size_setCell] at *; omega))) _) | (refine below_alloc ?_ (by (first | omega | (simp only [size_grow, World.size_alloc, size_drewN, size_drew, size_setCell] at *; omega))) _) | (refine Below.setCell ?_ (by (first | omega | (simp only [size_grow, World.size_alloc, size_drewN, size_drew, size_setCell] at *; omega))) _) | refine below_drewN ?_ _ | refine below_drew ?_ | (refine below_step ?_ (by assumption) (by (first | omega | (simp only [size_grow, World.size_alloc, size_drewN, size_drew, size_setCell] at *; omega))))))))
  · by_cases h2 : 30 < ps.length
    · have H1 := hide (show checkHall m ps = 6 by unfold checkHall; rw [if_neg h1, if_pos h2])
      go_enter Try.func21, Try.ntmps21
      go_wp2
      all_goals
        go_ret
        exact gives_of (v_int H1.out.symm) (by (repeat (first | exact Below.refl _ _ | assumption | (refine below_gr ?_ (by (first | omega | (simp only [size_grow, World.size_alloc, size_drewN, size_drew, size_setCell] at *; omega))) _) | (refine below_alloc ?_ (by (first | omega | (simp only [size_grow, World.size_alloc, size_drewN, size_drew, size_setCell] at *; omega))) _) | (refine Below.setCell ?_ (by (first | omega | (simp only [size_grow, World.size_alloc, size_drewN, size_drew, size_setCell] at *; omega))) _) | refine below_drewN ?_ _ | refine below_drew ?_ | (refine below_step ?_ (by assumption) (by (first | omega | (simp only [size_grow, World.size_alloc, size_drewN, size_drew, size_setCell] at *; omega)))))))
    · have H1 := hide (show checkHall m ps = if ps.all (okP m) then 0 else 2 by unfold checkHall; rw [if_neg h1, if_neg h2])
      go_enter Try.func21, Try.ntmps21
      go_wp2
      go_loopw [3] (fun i wr => ∃ k : Nat, k ≤ ps.length ∧ i = .int .i64 k ∧ (ps.take k).all (okP m) = true ∧ Grew (w.alloc (Obj.cells #[Value.int IntKind.i64 m, Value.slice A ps.length c] 24)) wr) (fun i _ => ps.length - (intOf i).toNat)
      case atStart => exact ⟨0, Nat.zero_le _, rfl, rfl, grew_refl _⟩
      case round =>
        obtain ⟨k, hk, rfl, hall, hb⟩ := hrel
        replace hb := hb.below
        have hzr := hb.size
        (try simp only [size_grow, World.size_alloc, size_drewN, size_drew, size_setCell] at hzr)
        have hsr : w.heap.size < wr.heap.size := (by (first | omega | (simp only [size_grow, World.size_alloc, size_drewN, size_drew, size_setCell] at *; omega)))
        have hor := own_cell hb (b := w.heap.size) (by (first | omega | (simp only [size_grow, World.size_alloc, size_drewN, size_drew, size_setCell] at *; omega)))
        have hqr := own_frozen hb (b := w.heap.size) (by (first | omega | (simp only [size_grow, World.size_alloc, size_drewN, size_drew, size_setCell] at *; omega)))
        have hltr : ∀ b, b < w.heap.size → b < wr.heap.size := fun b hb => (by (first | omega | (simp only [size_grow, World.size_alloc, size_drewN, size_drew, size_setCell] at *; omega)))
        have hcr : ∀ b o, b < w.heap.size → wr.cell? ⟨b, o, none⟩ = w.cell? ⟨b, o, none⟩ := old_cell (by (repeat (first | exact Below.refl _ _ | assumption | (refine below_gr ?_ (by (first | omega | (simp only [size_grow, World.size_alloc, size_drewN, size_drew, size_setCell] at *; omega))) _) | (refine below_alloc ?_ (by (first | omega | (simp only [size_grow, World.size_alloc, size_drewN, size_drew, size_setCell] at *; omega))) _) | (refine Below.setCell ?_ (by (first | omega | (simp only [size_grow, World.size_alloc, size_drewN, size_drew, size_setCell] at *; omega))) _) | refine below_drewN ?_ _ | refine below_drew ?_ | (refine below_step ?_ (by assumption) (by (first | omega | (simp only [size_grow, World.size_alloc, size_drewN, size_drew, size_setCell] at *; omega)))))))
        by_cases hlt : k < ps.length
        · obtain ⟨b, off, rfl, hbl, hbl2, hp0, hp1, hp2⟩ := hA k ps[k] (by simp [hlt])
          have HB := hide (all_bad (f := okP m) hlt)
          have HG := hide (all_good (f := okP m) hlt hall)
          clear hall
          generalize ps[k] = p at *
          go_wp2_with (go_at_call 39; refine (isMinute_any _ _ _ _ _ _).mono ?_; rintro e w1 ⟨rfl, hb1⟩; replace hb1 := ex_below hb1; have hz1 := hb1.size; (try simp only [size_grow, World.size_alloc, size_drewN, size_drew, size_setCell] at hz1); have hs1 : wr.heap.size < w1.heap.size := (by (first | omega | (simp only [size_grow, World.size_alloc, size_drewN, size_drew, size_setCell] at *; omega))); have ho1 := own_cell hb1 (b := wr.heap.size) (by (first | omega | (simp only [size_grow, World.size_alloc, size_drewN, size_drew, size_setCell] at *; omega))); have hq1 := own_frozen hb1 (b := wr.heap.size) (by (first | omega | (simp only [size_grow, World.size_alloc, size_drewN, size_drew, size_setCell] at *; omega))); have hs1 : w.heap.size < w1.heap.size := (by (first | omega | (simp only [size_grow, World.size_alloc, size_drewN, size_drew, size_setCell] at *; omega))); have ho1 := own_cell hb1 (b := w.heap.size) (by (first | omega | (simp only [size_grow, World.size_alloc, size_drewN, size_drew, size_setCell] at *; omega))); have hq1 := own_frozen hb1 (b := w.heap.size) (by (first | omega | (simp only [size_grow, World.size_alloc, size_drewN, size_drew, size_setCell] at *; omega))); have hlt1 : ∀ b, b < w.heap.size → b < w1.heap.size := fun b hb => (by (first | omega | (simp only [size_grow, World.size_alloc, size_drewN, size_drew, size_setCell] at *; omega))); have hc1 : ∀ b o, b < w.heap.size → w1.cell? ⟨b, o, none⟩ = w.cell? ⟨b, o, none⟩ := old_cell (by (repeat (first | exact Below.refl _ _ | assumption | (refine below_gr ?_ (by (first | omega | (simp only [size_grow, World.size_alloc, size_drewN, size_drew, size_setCell] at *; omega))) _) | (refine below_alloc ?_ (by (first | omega | (simp only [size_grow, World.size_alloc, size_drewN, size_drew, size_setCell] at *; omega))) _) | (refine Below.setCell ?_ (by (first | omega | (simp only [size_grow, World.size_alloc, size_drewN, size_drew, size_setCell] at *; omega))) _) | refine below_drewN ?_ _ | refine below_drew ?_ | (refine below_step ?_ (by assumption) (by (first | omega | (simp only [size_grow, World.size_alloc, size_drewN, size_drew, size_setCell] at *; omega))))))))
          case roundEnd => exact ⟨⟨k + 1, by omega, by go_num, HG.out (by go_light; unfold okP; cases ha1 : isMin m p.lo <;> cases ha2 : isMin m p.hi <;> cases ha3 : isMin m p.un <;> simp_all <;> omega), grew_of (by (repeat (first | exact Below.refl _ _ | assumption | (refine below_gr ?_ (by (first | omega | (simp only [size_grow, World.size_alloc, size_drewN, size_drew, size_setCell] at *; omega))) _) | (refine below_alloc ?_ (by (first | omega | (simp only [size_grow, World.size_alloc, size_drewN, size_drew, size_setCell] at *; omega))) _) | (refine Below.setCell ?_ (by (first | omega | (simp only [size_grow, World.size_alloc, size_drewN, size_drew, size_setCell] at *; omega))) _) | refine below_drewN ?_ _ | refine below_drew ?_ | (refine below_step ?_ (by assumption) (by (first | omega | (simp only [size_grow, World.size_alloc, size_drewN, size_drew, size_setCell] at *; omega)))))))⟩, by simp [intOf]; omega⟩
          all_goals
            go_ret
            exact gives_of (v_int (by rw [H1.out, if_neg (by rw [HB.out (by go_light; unfold okP; cases ha1 : isMin m p.lo <;> cases ha2 : isMin m p.hi <;> cases ha3 : isMin m p.un <;> simp_all <;> omega)]; simp)])) (by (repeat (first | exact Below.refl _ _ | assumption | (refine below_gr ?_ (by (first | omega | (simp only [size_grow, World.size_alloc, size_drewN, size_drew, size_setCell] at *; omega))) _) | (refine below_alloc ?_ (by (first | omega | (simp only [size_grow, World.size_alloc, size_drewN, size_drew, size_setCell] at *; omega))) _) | (refine Below.setCell ?_ (by (first | omega | (simp only [size_grow, World.size_alloc, size_drewN, size_drew, size_setCell] at *; omega))) _) | refine below_drewN ?_ _ | refine below_drew ?_ | (refine below_step ?_ (by assumption) (by (first | omega | (simp only [size_grow, World.size_alloc, size_drewN, size_drew, size_setCell] at *; omega)))))))
        · have : k = ps.length := by omega
          subst this
          have H2 := hide (show checkHall m ps = 0 by rw [H1.out, if_pos (by simpa using hall)])
          clear hall
          go_wp2
          go_ret
          exact gives_of (v_int H2.out.symm) (by (repeat (first | exact Below.refl _ _ | assumption | (refine below_gr ?_ (by (first | omega | (simp only [size_grow, World.size_alloc, size_drewN, size_drew, size_setCell] at *; omega))) _) | (refine below_alloc ?_ (by (first | omega | (simp only [size_grow, World.size_alloc, size_drewN, size_drew, size_setCell] at *; omega))) _) | (refine Below.setCell ?_ (by (first | omega | (simp only [size_grow, World.size_alloc, size_drewN, size_drew, size_setCell] at *; omega))) _) | refine below_drewN ?_ _ | refine below_drew ?_ | (refine below_step ?_ (by assumption) (by (first | omega | (simp only [size_grow, World.size_alloc, size_drewN, size_drew, size_setCell] at *; omega)))))))
end Go.Proofs.Ytbfhkknpocbeaaa
