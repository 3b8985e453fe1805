/- Proved here: what an outcome pays; what can be behind some races, a part of the proofs about the box laws. Conditions: those that each theorem names, no others. -/
import Derived.Test.YtlbkaeoagdbemaaP21
import Derived.WalkKit
import Derived.WalkSpells
import Derived.WalkLawsBesides
import Derived.Below
import Derived.Deep.QuietTactic
import Derived.BigQuiet
import Derived.Deep.Light
import Derived.Deep.RegionHeld3
set_option linter.unusedSimpArgs false
set_option linter.unusedVariables false
namespace Go.Proofs.Ytlbkaeoagdbemaa
open Go.RowKit Go.Maps
theorem runB_zs : ∀ (R : List Nat) (won : List Int), won.length ≤ R.length → runB R won = true → ∃ o : List Nat, won = zs o ∧ o.length = won.length ∧ ∀ k, k < o.length → o.getD k 0 < R.getD k 0
  | _, [], _, _ => ⟨[], rfl, rfl, fun k hk => by simp at hk⟩
  | n :: R, x :: won, hl, h => by
    obtain ⟨h1, h2⟩ := (by simpa [runB, zs] using h : (0 ≤ x ∧ x < (n : Int)) ∧ _)
    obtain ⟨o, h3, h4, h5⟩ := runB_zs R won (by simpa using hl) (by unfold runB zs; simpa using h2)
    refine ⟨x.toNat :: o, by simp [zs] at h3 ⊢; exact ⟨by omega, h3⟩, by simp [h4], fun k hk => ?_⟩
    cases k with
    | zero => simp; omega
    | succ k => simpa using h5 k (by simpa using hk)
/- Idle, Map: the errors -/
set_option maxRecDepth 100000 in
set_option maxHeartbeats 4000000 in
theorem map_bad (A : Option Addr) (R : List Int) (rc : Nat) (B : Option Addr) (ts : List Tz) (d : Nat) (w : World) (hA : I64 w A R) (hB : Tks w B ts) (hR2 : R.length ≤ 1000000) (hl : ts.length ≤ 1000000) (hts : ∀ t, t ∈ ts → t.1.length ≤ 1000000) (h0 : chkT R ts ≠ 0) :
    Calls Try.prog 29 #[.agg #[.slice A R.length rc], .slice B ts.length d] w (Gives w (.tuple #[.slice none 0 0, .int .i64 (chkT R ts)])) := by
  have HOP := hide (fun w' (h1 : I64 w' A R) (h2 : Tks w' B ts) => open_bad A R rc B ts d w' h1 h2 hR2 hl hts h0)
  have H0 := hide h0
  clear h0
  generalize chkT R ts = ec at *
  have hne : ec ≠ 0 := H0.out
  refine (callsIn_wide (n := 8)).1 ?_
  refine callsIn_of_wp_marks Try.func29 rfl trivial ?_ rfl
  simp only [Try.ntmps29, List.size_toArray, List.length_cons, List.length_nil, Nat.reduceAdd, Nat.reduceSub, Array.replicate_succ, Array.replicate_zero, List.push_toArray, List.append_toArray, List.nil_append, List.cons_append]
  refine wpIn_wide.2 ?_
  go_wp2_with (first
    | (go_at_call 61; refine (HOP.out _ (hA.ext (by (repeat (first | exact Below.refl _ _ | assumption | refine below_drewN ?_ _ | refine below_drew ?_ | refine below_gr ?_ ?_ _ | refine below_alloc ?_ ?_ _ | refine Below.setCell ?_ ?_ _ | refine below_step ?_ (by assumption) ?_ | omega | (simp only [zz] at *; omega))))) (hB.ext (by (repeat (first | exact Below.refl _ _ | assumption | refine below_drewN ?_ _ | refine below_drew ?_ | refine below_gr ?_ ?_ _ | refine below_alloc ?_ ?_ _ | refine Below.setCell ?_ ?_ _ | refine below_step ?_ (by assumption) ?_ | omega | (simp only [zz] at *; omega)))))).mono ?_; rintro e w1 ⟨rfl, hb1⟩; replace hb1 := ex_below hb1; have hz1 := hb1.size))

  refine ⟨.tuple #[.slice none 0 0, .int .i64 ec], by simp [results, Try.results29, go_sem], ?_⟩
  exact gives_of (rfl) (by (repeat (first | exact Below.refl _ _ | assumption | refine below_drewN ?_ _ | refine below_drew ?_ | refine below_gr ?_ ?_ _ | refine below_alloc ?_ ?_ _ | refine Below.setCell ?_ ?_ _ | refine below_step ?_ (by assumption) ?_ | omega | (simp only [zz] at *; omega))))
set_option maxRecDepth 100000 in
set_option maxHeartbeats 4000000 in
theorem idle_bad (A : Option Addr) (R : List Int) (rc : Nat) (B : Option Addr) (ts : List Tz) (d : Nat) (w : World) (hA : I64 w A R) (hB : Tks w B ts) (hR2 : R.length ≤ 1000000) (hl : ts.length ≤ 1000000) (hts : ∀ t, t ∈ ts → t.1.length ≤ 1000000) (h0 : chkT R ts ≠ 0) :
    Calls Try.prog 38 #[.agg #[.slice A R.length rc], .slice B ts.length d] w (Gives w (.tuple #[.slice none 0 0, .int .i64 (chkT R ts)])) := by
  have HOP := hide (fun w' (h1 : I64 w' A R) (h2 : Tks w' B ts) => open_bad A R rc B ts d w' h1 h2 hR2 hl hts h0)
  have H0 := hide h0
  clear h0
  generalize chkT R ts = ec at *
  have hne : ec ≠ 0 := H0.out
  refine (callsIn_wide (n := 8)).1 ?_
  refine callsIn_of_wp_marks Try.func38 rfl trivial ?_ rfl
  simp only [Try.ntmps38, List.size_toArray, List.length_cons, List.length_nil, Nat.reduceAdd, Nat.reduceSub, Array.replicate_succ, Array.replicate_zero, List.push_toArray, List.append_toArray, List.nil_append, List.cons_append]
  refine wpIn_wide.2 ?_
  go_wp2
  go_step3
  go_wp2_with (first
    | (go_at_call 61; refine (HOP.out _ (hA.ext (by (repeat (first | exact Below.refl _ _ | assumption | refine below_drewN ?_ _ | refine below_drew ?_ | refine below_gr ?_ ?_ _ | refine below_alloc ?_ ?_ _ | refine Below.setCell ?_ ?_ _ | refine below_step ?_ (by assumption) ?_ | omega | (simp only [zz] at *; omega))))) (hB.ext (by (repeat (first | exact Below.refl _ _ | assumption | refine below_drewN ?_ _ | refine below_drew ?_ | refine below_gr ?_ ?_ _ | refine below_alloc ?_ ?_ _ | refine Below.setCell ?_ ?_ _ | refine below_step ?_ (by assumption) ?_ | omega | (simp only [zz] at *; omega)))))).mono ?_; rintro e w1 ⟨rfl, hb1⟩; replace hb1 := ex_below hb1; have hz1 := hb1.size))

  refine ⟨.tuple #[.slice none 0 0, .int .i64 ec], by simp [results, Try.results38, go_sem], ?_⟩
  exact gives_of (rfl) (by (repeat (first | exact Below.refl _ _ | assumption | refine below_drewN ?_ _ | refine below_drew ?_ | refine below_gr ?_ ?_ _ | refine below_alloc ?_ ?_ _ | refine Below.setCell ?_ ?_ _ | refine below_step ?_ (by assumption) ?_ | omega | (simp only [zz] at *; omega))))
/-- what a pool pays -/
def payV (R : List Nat) (ts : List Bm.Tk) (p : Int) (won : List Int) : Value :=
  if ¬(0 ≤ p ∧ p ≤ 1099511627776) then .tuple #[.int .i64 0, .int .i64 0, .int .i64 3]
  else if won.length ≠ R.length then .tuple #[.int .i64 0, .int .i64 0, .int .i64 15]
  else if runB R won = false then .tuple #[.int .i64 0, .int .i64 0, .int .i64 3]
  else if Bm.uni ts (won.map Int.toNat) = 0 then .tuple #[.int .i64 0, .int .i64 p, .int .i64 0]
  else .tuple #[.int .i64 (p / (Bm.uni ts (won.map Int.toNat) : Nat)), .int .i64 (p % (Bm.uni ts (won.map Int.toNat) : Nat)), .int .i64 0]
set_option maxRecDepth 100000 in
set_option maxHeartbeats 1000000 in
theorem pays_bad (A : Option Addr) (R : List Int) (rc : Nat) (B : Option Addr) (ts : List Tz) (d : Nat) (w : World) (hA : I64 w A R) (hB : Tks w B ts) (hR2 : R.length ≤ 1000000) (hl : ts.length ≤ 1000000) (hts : ∀ t, t ∈ ts → t.1.length ≤ 1000000) (h0 : chkT R ts ≠ 0) (X : Option Addr) (n xc : Nat) (p : Int) :
    Calls Try.prog 41 #[.agg #[.slice A R.length rc], .slice B ts.length d, .int .i64 p, .slice X n xc] w (Gives w (.tuple #[.int .i64 0, .int .i64 0, .int .i64 (chkT R ts)])) := by
  have HOP := hide (fun w' (h1 : I64 w' A R) (h2 : Tks w' B ts) => open_bad A R rc B ts d w' h1 h2 hR2 hl hts h0)
  have H0 := hide h0
  clear h0
  generalize chkT R ts = ec at *
  have hne : ec ≠ 0 := H0.out
  have hneb : (ec != 0) = true := by simp [hne]
  go_enter Try.func41, Try.ntmps41
  go_wp2_with (first
    | (go_at_call 61; refine (HOP.out _ (hA.ext (by (repeat (first | exact Below.refl _ _ | assumption | refine below_drewN ?_ _ | refine below_drew ?_ | refine below_gr ?_ ?_ _ | refine below_alloc ?_ ?_ _ | refine Below.setCell ?_ ?_ _ | refine below_step ?_ (by assumption) ?_ | omega | (simp only [zz] at *; omega))))) (hB.ext (by (repeat (first | exact Below.refl _ _ | assumption | refine below_drewN ?_ _ | refine below_drew ?_ | refine below_gr ?_ ?_ _ | refine below_alloc ?_ ?_ _ | refine Below.setCell ?_ ?_ _ | refine below_step ?_ (by assumption) ?_ | omega | (simp only [zz] at *; omega)))))).mono ?_; rintro e w1 ⟨rfl, hb1⟩; replace hb1 := ex_below hb1; have hz1 := hb1.size))

  go_ret3
  exact gives_of (rfl) (by (repeat (first | exact Below.refl _ _ | assumption | refine below_drewN ?_ _ | refine below_drew ?_ | refine below_gr ?_ ?_ _ | refine below_alloc ?_ ?_ _ | refine Below.setCell ?_ ?_ _ | refine below_step ?_ (by assumption) ?_ | omega | (simp only [zz] at *; omega))))
set_option maxRecDepth 100000 in
set_option maxHeartbeats 1000000 in
theorem pays_pool (A : Option Addr) (R : List Nat) (rc : Nat) (B : Option Addr) (ts : List Bm.Tk) (d : Nat) (X : Option Addr) (won : List Int) (xc : Nat) (p : Int) (w : World) (hA : I64 w A (zs R)) (hB : Tks w B (tz ts)) (hX : I64 w X won) (hw : won.length ≤ 1000000) (hok : Ok R ts) (hp : ¬(0 ≤ p ∧ p ≤ 1099511627776)) :
    Calls Try.prog 41 #[.agg #[.slice A R.length rc], .slice B ts.length d, .int .i64 p, .slice X won.length xc] w (Gives w (.tuple #[.int .i64 0, .int .i64 0, .int .i64 3])) := by
  have HOP := hide (fun w' (h1 : I64 w' A (zs R)) (h2 : Tks w' B (tz ts)) => opens_n A R rc B ts d w' h1 h2 hok)
  have hpb : decide (0 ≤ p ∧ p ≤ 1099511627776) = false := by simpa using hp
  go_enter Try.func41, Try.ntmps41
  go_wp2_with (first
    | (go_at_call 61; refine (HOP.out _ (hA.ext (by (repeat (first | exact Below.refl _ _ | assumption | refine below_drewN ?_ _ | refine below_drew ?_ | refine below_gr ?_ ?_ _ | refine below_alloc ?_ ?_ _ | refine Below.setCell ?_ ?_ _ | refine below_step ?_ (by assumption) ?_ | omega | (simp only [zz] at *; omega))))) (hB.ext (by (repeat (first | exact Below.refl _ _ | assumption | refine below_drewN ?_ _ | refine below_drew ?_ | refine below_gr ?_ ?_ _ | refine below_alloc ?_ ?_ _ | refine Below.setCell ?_ ?_ _ | refine below_step ?_ (by assumption) ?_ | omega | (simp only [zz] at *; omega)))))).mono ?_; rintro e w1 ⟨s, rfl, hb1, hs1, hS1⟩; replace hb1 := ex_below hb1; have hz1 := hb1.size; (try simp only [World.size_alloc] at hz1); have hc1 := own_cell hb1 (b := w.heap.size) (by (first | omega | (simp only [zz]; omega) | (simp only [zz] at *; omega) | (simp; done) | (simp; omega))))
    | (go_at_call 56; refine (within1 _ _ _ _ _ _ (by simp)).mono ?_; rintro e w2 ⟨rfl, hb2⟩; replace hb2 := ex_below hb2; have hz2 := hb2.size; have hlt1 : w.heap.size < w1.heap.size := (by omega); have hc2 := own_cell hb2 (b := w.heap.size) (by (first | omega | (simp only [zz]; omega) | (simp only [zz] at *; omega) | (simp; done) | (simp; omega)))))

  go_ret3
  exact gives_of (rfl) (by (repeat (first | exact Below.refl _ _ | assumption | refine below_drewN ?_ _ | refine below_drew ?_ | refine below_gr ?_ ?_ _ | refine below_alloc ?_ ?_ _ | refine Below.setCell ?_ ?_ _ | refine below_step ?_ (by assumption) ?_ | omega | (simp only [zz] at *; omega))))
set_option maxRecDepth 100000 in
set_option maxHeartbeats 1000000 in
theorem pays_many (A : Option Addr) (R : List Nat) (rc : Nat) (B : Option Addr) (ts : List Bm.Tk) (d : Nat) (X : Option Addr) (won : List Int) (xc : Nat) (p : Int) (w : World) (hA : I64 w A (zs R)) (hB : Tks w B (tz ts)) (hX : I64 w X won) (hw : won.length ≤ 1000000) (hok : Ok R ts) (hp : 0 ≤ p ∧ p ≤ 1099511627776) (hl : won.length ≠ R.length) :
    Calls Try.prog 41 #[.agg #[.slice A R.length rc], .slice B ts.length d, .int .i64 p, .slice X won.length xc] w (Gives w (.tuple #[.int .i64 0, .int .i64 0, .int .i64 15])) := by
  have HOP := hide (fun w' (h1 : I64 w' A (zs R)) (h2 : Tks w' B (tz ts)) => opens_n A R rc B ts d w' h1 h2 hok)
  have hpb : decide (0 ≤ p ∧ p ≤ 1099511627776) = true := by simpa using hp
  have hlb : ((won.length : Int) != (R.length : Int)) = true := by simp; omega
  go_enter Try.func41, Try.ntmps41
  go_wp2_with (first
    | (go_at_call 61; refine (HOP.out _ (hA.ext (by (repeat (first | exact Below.refl _ _ | assumption | refine below_drewN ?_ _ | refine below_drew ?_ | refine below_gr ?_ ?_ _ | refine below_alloc ?_ ?_ _ | refine Below.setCell ?_ ?_ _ | refine below_step ?_ (by assumption) ?_ | omega | (simp only [zz] at *; omega))))) (hB.ext (by (repeat (first | exact Below.refl _ _ | assumption | refine below_drewN ?_ _ | refine below_drew ?_ | refine below_gr ?_ ?_ _ | refine below_alloc ?_ ?_ _ | refine Below.setCell ?_ ?_ _ | refine below_step ?_ (by assumption) ?_ | omega | (simp only [zz] at *; omega)))))).mono ?_; rintro e w1 ⟨s, rfl, hb1, hs1, hS1⟩; replace hb1 := ex_below hb1; have hz1 := hb1.size; (try simp only [World.size_alloc] at hz1); have hc1 := own_cell hb1 (b := w.heap.size) (by (first | omega | (simp only [zz]; omega) | (simp only [zz] at *; omega) | (simp; done) | (simp; omega))))
    | (go_at_call 56; refine (within1 _ _ _ _ _ _ (by simp)).mono ?_; rintro e w2 ⟨rfl, hb2⟩; replace hb2 := ex_below hb2; have hz2 := hb2.size; have hlt1 : w.heap.size < w1.heap.size := (by omega); have hc2 := own_cell hb2 (b := w.heap.size) (by (first | omega | (simp only [zz]; omega) | (simp only [zz] at *; omega) | (simp; done) | (simp; omega)))))

  go_ret3
  exact gives_of (rfl) (by (repeat (first | exact Below.refl _ _ | assumption | refine below_drewN ?_ _ | refine below_drew ?_ | refine below_gr ?_ ?_ _ | refine below_alloc ?_ ?_ _ | refine Below.setCell ?_ ?_ _ | refine below_step ?_ (by assumption) ?_ | omega | (simp only [zz] at *; omega))))
set_option maxRecDepth 100000 in
set_option maxHeartbeats 1000000 in
theorem pays_range (A : Option Addr) (R : List Nat) (rc : Nat) (B : Option Addr) (ts : List Bm.Tk) (d : Nat) (X : Option Addr) (won : List Int) (xc : Nat) (p : Int) (w : World) (hA : I64 w A (zs R)) (hB : Tks w B (tz ts)) (hX : I64 w X won) (hw : won.length ≤ 1000000) (hok : Ok R ts) (hp : 0 ≤ p ∧ p ≤ 1099511627776) (hl : won.length = R.length) (hr : runB R won = false) :
    Calls Try.prog 41 #[.agg #[.slice A R.length rc], .slice B ts.length d, .int .i64 p, .slice X won.length xc] w (Gives w (.tuple #[.int .i64 0, .int .i64 0, .int .i64 3])) := by
  have HOP := hide (fun w' (h1 : I64 w' A (zs R)) (h2 : Tks w' B (tz ts)) => opens_n A R rc B ts d w' h1 h2 hok)
  have hpb : decide (0 ≤ p ∧ p ≤ 1099511627776) = true := by simpa using hp
  have hlb : ((won.length : Int) != (R.length : Int)) = false := by simp; omega
  have HRU := hide (fun s w' (h : SheetAt w' s A (zs R) rc B (tz ts) d) (hX : I64 w' X won) => run_any s A R rc B ts d w' h hok.h5 hok.r6 hok.t10 X won xc hX (by omega))
  rw [hr] at HRU
  clear hl
  go_enter Try.func41, Try.ntmps41
  go_wp2_with (first
    | (go_at_call 61; refine (HOP.out _ (hA.ext (by (repeat (first | exact Below.refl _ _ | assumption | refine below_drewN ?_ _ | refine below_drew ?_ | refine below_gr ?_ ?_ _ | refine below_alloc ?_ ?_ _ | refine Below.setCell ?_ ?_ _ | refine below_step ?_ (by assumption) ?_ | omega | (simp only [zz] at *; omega))))) (hB.ext (by (repeat (first | exact Below.refl _ _ | assumption | refine below_drewN ?_ _ | refine below_drew ?_ | refine below_gr ?_ ?_ _ | refine below_alloc ?_ ?_ _ | refine Below.setCell ?_ ?_ _ | refine below_step ?_ (by assumption) ?_ | omega | (simp only [zz] at *; omega)))))).mono ?_; rintro e w1 ⟨s, rfl, hb1, hs1, hS1⟩; replace hb1 := ex_below hb1; have hz1 := hb1.size; (try simp only [World.size_alloc] at hz1); have hc1 := own_cell hb1 (b := w.heap.size) (by (first | omega | (simp only [zz]; omega) | (simp only [zz] at *; omega) | (simp; done) | (simp; omega))))
    | (go_at_call 56; refine (within1 _ _ _ _ _ _ (by simp)).mono ?_; rintro e w2 ⟨rfl, hb2⟩; replace hb2 := ex_below hb2; have hz2 := hb2.size; have hlt1 : w.heap.size < w1.heap.size := (by omega); have hc2 := own_cell hb2 (b := w.heap.size) (by (first | omega | (simp only [zz]; omega) | (simp only [zz] at *; omega) | (simp; done) | (simp; omega))))
    | (go_at_call 78; refine (HRU.out _ _ (hS1.ext (by (repeat (first | exact Below.refl _ _ | assumption | refine below_drewN ?_ _ | refine below_drew ?_ | refine below_gr ?_ ?_ _ | refine below_alloc ?_ ?_ _ | refine Below.setCell ?_ ?_ _ | refine below_step ?_ (by assumption) ?_ | omega | (simp only [zz] at *; omega))))) (hX.ext (by (repeat (first | exact Below.refl _ _ | assumption | refine below_drewN ?_ _ | refine below_drew ?_ | refine below_gr ?_ ?_ _ | refine below_alloc ?_ ?_ _ | refine Below.setCell ?_ ?_ _ | refine below_step ?_ (by assumption) ?_ | omega | (simp only [zz] at *; omega)))))).mono ?_; rintro e w3 ⟨rfl, hb3⟩; replace hb3 := ex_below hb3; have hz3 := hb3.size; have hc3 := own_cell hb3 (b := w.heap.size) (by (first | omega | (simp only [zz]; omega) | (simp only [zz] at *; omega) | (simp; done) | (simp; omega)))))

  go_ret3
  exact gives_of (rfl) (by (repeat (first | exact Below.refl _ _ | assumption | refine below_drewN ?_ _ | refine below_drew ?_ | refine below_gr ?_ ?_ _ | refine below_alloc ?_ ?_ _ | refine Below.setCell ?_ ?_ _ | refine below_step ?_ (by assumption) ?_ | omega | (simp only [zz] at *; omega))))
theorem zs_nat (o : List Nat) : (zs o).map Int.toNat = o := by unfold zs; rw [List.map_map]; simp [Function.comp_def]
theorem fit (p : Int) (h : 0 ≤ p ∧ p ≤ 1099511627776) (n : Nat) (h1 : 1 ≤ n) : 0 ≤ p / (n : Int) ∧ p / (n : Int) ≤ 1099511627776 ∧ 0 ≤ p % (n : Int) ∧ p % (n : Int) ≤ 1099511627776 := by
  have hn : (0 : Int) < n := by omega
  have h2 := Int.ediv_nonneg h.1 (Int.le_of_lt hn)
  have h3 := Int.emod_nonneg p (Int.ne_of_gt hn)
  have h4 := Int.mul_ediv_add_emod p n
  have h5 : p / (n : Int) ≤ (n : Int) * (p / (n : Int)) := by
    have := Int.mul_le_mul_of_nonneg_right (show (1 : Int) ≤ n by omega) h2
    simpa using this
  have h6 : 0 ≤ (n : Int) * (p / (n : Int)) := Int.mul_nonneg (Int.le_of_lt hn) h2
  omega
set_option maxRecDepth 100000 in
set_option maxHeartbeats 1000000 in
theorem pays_ok (A : Option Addr) (R : List Nat) (rc : Nat) (B : Option Addr) (ts : List Bm.Tk) (d : Nat) (X : Option Addr) (won : List Int) (xc : Nat) (p : Int) (w : World) (hA : I64 w A (zs R)) (hB : Tks w B (tz ts)) (hX : I64 w X won) (hw : won.length ≤ 1000000) (hok : Ok R ts) (hp : 0 ≤ p ∧ p ≤ 1099511627776) (hl : won.length = R.length) (hr : runB R won = true) :
    Calls Try.prog 41 #[.agg #[.slice A R.length rc], .slice B ts.length d, .int .i64 p, .slice X won.length xc] w (Gives w (payV R ts p won)) := by
  have HOP := hide (fun w' (h1 : I64 w' A (zs R)) (h2 : Tks w' B (tz ts)) => opens_n A R rc B ts d w' h1 h2 hok)
  have hpb : decide (0 ≤ p ∧ p ≤ 1099511627776) = true := by simpa using hp
  have hlb : ((won.length : Int) != (R.length : Int)) = false := by simp; omega
  have HRU := hide (fun s w' (h : SheetAt w' s A (zs R) rc B (tz ts) d) (hX : I64 w' X won) => run_any s A R rc B ts d w' h hok.h5 hok.r6 hok.t10 X won xc hX (by omega))
  have hv : payV R ts p won = if Bm.uni ts (won.map Int.toNat) = 0 then .tuple #[.int .i64 0, .int .i64 p, .int .i64 0] else .tuple #[.int .i64 (p / (Bm.uni ts (won.map Int.toNat) : Nat)), .int .i64 (p % (Bm.uni ts (won.map Int.toNat) : Nat)), .int .i64 0] := by
    unfold payV; rw [if_neg (by simpa using hp), if_neg (by simpa using hl), if_neg (by simp [hr])]
  rw [hv]
  rw [hr] at HRU
  clear hv
  obtain ⟨o, rfl, hol, holt⟩ := runB_zs R won (by omega) hr
  rw [zs_nat]
  have hoR : o.length = R.length := hol.trans hl
  have ho6 : ∀ i, i ∈ o → i < 6 := fun i hi => by
    obtain ⟨k, hk, rfl⟩ := List.getElem_of_mem hi
    have h1 := holt k hk
    have h2 : R[k]'(by omega) ≤ 6 := hok.r6 _ (List.getElem_mem _)
    rw [getD_at _ _ hk, getD_at _ _ (by omega : k < R.length)] at h1
    omega
  have HOU := hide (fun s w' (h : SheetAt w' s A (zs R) rc B (tz ts) d) (hX : I64 w' X (zs o)) => outcome_any s A R rc B ts d w' h hok.h5 hok.r6 hok.t10 hok.hu hok.htl hok.ht6 X o xc hX hoR ho6)
  rw [units_single hok hoR, ← zs_len] at HOU
  clear hol holt ho6 hoR hl
  by_cases hn : Bm.uni ts o = 0
  · rw [if_pos hn]
    rw [hn] at HOU
    go_enter Try.func41, Try.ntmps41
    go_wp2_with (first
    | (go_at_call 61; refine (HOP.out _ (hA.ext (by (repeat (first | exact Below.refl _ _ | assumption | refine below_drewN ?_ _ | refine below_drew ?_ | refine below_gr ?_ ?_ _ | refine below_alloc ?_ ?_ _ | refine Below.setCell ?_ ?_ _ | refine below_step ?_ (by assumption) ?_ | omega | (simp only [zz] at *; omega))))) (hB.ext (by (repeat (first | exact Below.refl _ _ | assumption | refine below_drewN ?_ _ | refine below_drew ?_ | refine below_gr ?_ ?_ _ | refine below_alloc ?_ ?_ _ | refine Below.setCell ?_ ?_ _ | refine below_step ?_ (by assumption) ?_ | omega | (simp only [zz] at *; omega)))))).mono ?_; rintro e w1 ⟨s, rfl, hb1, hs1, hS1⟩; replace hb1 := ex_below hb1; have hz1 := hb1.size; (try simp only [World.size_alloc] at hz1); have hc1 := own_cell hb1 (b := w.heap.size) (by (first | omega | (simp only [zz]; omega) | (simp only [zz] at *; omega) | (simp; done) | (simp; omega))))
    | (go_at_call 56; refine (within1 _ _ _ _ _ _ (by simp)).mono ?_; rintro e w2 ⟨rfl, hb2⟩; replace hb2 := ex_below hb2; have hz2 := hb2.size; have hlt1 : w.heap.size < w1.heap.size := (by omega); have hc2 := own_cell hb2 (b := w.heap.size) (by (first | omega | (simp only [zz]; omega) | (simp only [zz] at *; omega) | (simp; done) | (simp; omega))))
    | (go_at_call 78; refine (HRU.out _ _ (hS1.ext (by (repeat (first | exact Below.refl _ _ | assumption | refine below_drewN ?_ _ | refine below_drew ?_ | refine below_gr ?_ ?_ _ | refine below_alloc ?_ ?_ _ | refine Below.setCell ?_ ?_ _ | refine below_step ?_ (by assumption) ?_ | omega | (simp only [zz] at *; omega))))) (hX.ext (by (repeat (first | exact Below.refl _ _ | assumption | refine below_drewN ?_ _ | refine below_drew ?_ | refine below_gr ?_ ?_ _ | refine below_alloc ?_ ?_ _ | refine Below.setCell ?_ ?_ _ | refine below_step ?_ (by assumption) ?_ | omega | (simp only [zz] at *; omega)))))).mono ?_; rintro e w3 ⟨rfl, hb3⟩; replace hb3 := ex_below hb3; have hz3 := hb3.size; have hc3 := own_cell hb3 (b := w.heap.size) (by (first | omega | (simp only [zz]; omega) | (simp only [zz] at *; omega) | (simp; done) | (simp; omega))))
    | (go_at_call 76; refine (HOU.out _ _ (hS1.ext (by (repeat (first | exact Below.refl _ _ | assumption | refine below_drewN ?_ _ | refine below_drew ?_ | refine below_gr ?_ ?_ _ | refine below_alloc ?_ ?_ _ | refine Below.setCell ?_ ?_ _ | refine below_step ?_ (by assumption) ?_ | omega | (simp only [zz] at *; omega))))) (hX.ext (by (repeat (first | exact Below.refl _ _ | assumption | refine below_drewN ?_ _ | refine below_drew ?_ | refine below_gr ?_ ?_ _ | refine below_alloc ?_ ?_ _ | refine Below.setCell ?_ ?_ _ | refine below_step ?_ (by assumption) ?_ | omega | (simp only [zz] at *; omega)))))).mono ?_; rintro e w4 ⟨rfl, hb4⟩; replace hb4 := ex_below hb4; have hz4 := hb4.size))

    go_ret3
    exact gives_of (rfl) (by (repeat (first | exact Below.refl _ _ | assumption | refine below_drewN ?_ _ | refine below_drew ?_ | refine below_gr ?_ ?_ _ | refine below_alloc ?_ ?_ _ | refine Below.setCell ?_ ?_ _ | refine below_step ?_ (by assumption) ?_ | omega | (simp only [zz] at *; omega))))
  · rw [if_neg hn]
    have HN := hide hn
    have hf := fit p hp (Bm.uni ts o) (by omega)
    generalize Bm.uni ts o = n at *
    have hnb : ((n : Int) == 0) = false := by simp; omega
    have hn0 : (n : Int) ≠ 0 := by omega
    have hqd : (p).tdiv (n : Int) = p / (n : Int) := Int.tdiv_eq_ediv_of_nonneg hp.1
    have hqm : (p).tmod (n : Int) = p % (n : Int) := Int.tmod_eq_emod_of_nonneg hp.1
    go_enter Try.func41, Try.ntmps41
    go_wp2_with (first
    | (go_at_call 61; refine (HOP.out _ (hA.ext (by (repeat (first | exact Below.refl _ _ | assumption | refine below_drewN ?_ _ | refine below_drew ?_ | refine below_gr ?_ ?_ _ | refine below_alloc ?_ ?_ _ | refine Below.setCell ?_ ?_ _ | refine below_step ?_ (by assumption) ?_ | omega | (simp only [zz] at *; omega))))) (hB.ext (by (repeat (first | exact Below.refl _ _ | assumption | refine below_drewN ?_ _ | refine below_drew ?_ | refine below_gr ?_ ?_ _ | refine below_alloc ?_ ?_ _ | refine Below.setCell ?_ ?_ _ | refine below_step ?_ (by assumption) ?_ | omega | (simp only [zz] at *; omega)))))).mono ?_; rintro e w1 ⟨s, rfl, hb1, hs1, hS1⟩; replace hb1 := ex_below hb1; have hz1 := hb1.size; (try simp only [World.size_alloc] at hz1); have hc1 := own_cell hb1 (b := w.heap.size) (by (first | omega | (simp only [zz]; omega) | (simp only [zz] at *; omega) | (simp; done) | (simp; omega))))
    | (go_at_call 56; refine (within1 _ _ _ _ _ _ (by simp)).mono ?_; rintro e w2 ⟨rfl, hb2⟩; replace hb2 := ex_below hb2; have hz2 := hb2.size; have hlt1 : w.heap.size < w1.heap.size := (by omega); have hc2 := own_cell hb2 (b := w.heap.size) (by (first | omega | (simp only [zz]; omega) | (simp only [zz] at *; omega) | (simp; done) | (simp; omega))))
    | (go_at_call 78; refine (HRU.out _ _ (hS1.ext (by (repeat (first | exact Below.refl _ _ | assumption | refine below_drewN ?_ _ | refine below_drew ?_ | refine below_gr ?_ ?_ _ | refine below_alloc ?_ ?_ _ | refine Below.setCell ?_ ?_ _ | refine below_step ?_ (by assumption) ?_ | omega | (simp only [zz] at *; omega))))) (hX.ext (by (repeat (first | exact Below.refl _ _ | assumption | refine below_drewN ?_ _ | refine below_drew ?_ | refine below_gr ?_ ?_ _ | refine below_alloc ?_ ?_ _ | refine Below.setCell ?_ ?_ _ | refine below_step ?_ (by assumption) ?_ | omega | (simp only [zz] at *; omega)))))).mono ?_; rintro e w3 ⟨rfl, hb3⟩; replace hb3 := ex_below hb3; have hz3 := hb3.size; have hc3 := own_cell hb3 (b := w.heap.size) (by (first | omega | (simp only [zz]; omega) | (simp only [zz] at *; omega) | (simp; done) | (simp; omega))))
    | (go_at_call 76; refine (HOU.out _ _ (hS1.ext (by (repeat (first | exact Below.refl _ _ | assumption | refine below_drewN ?_ _ | refine below_drew ?_ | refine below_gr ?_ ?_ _ | refine below_alloc ?_ ?_ _ | refine Below.setCell ?_ ?_ _ | refine below_step ?_ (by assumption) ?_ | omega | (simp only [zz] at *; omega))))) (hX.ext (by (repeat (first | exact Below.refl _ _ | assumption | refine below_drewN ?_ _ | refine below_drew ?_ | refine below_gr ?_ ?_ _ | refine below_alloc ?_ ?_ _ | refine Below.setCell ?_ ?_ _ | refine below_step ?_ (by assumption) ?_ | omega | (simp only [zz] at *; omega)))))).mono ?_; rintro e w4 ⟨rfl, hb4⟩; replace hb4 := ex_below hb4; have hz4 := hb4.size))

    refine wp_region_grow (by kernel_rfl) (by kernel_rfl) ?_
    repeat (go_big_quiet_step (fail))
    refine wpQuiet_nil ?_
    intro w6 hb2
    replace hb2 := ex_below hb2
    have hz2 := hb2.size
    (try simp only [zz] at hz2)
    have hlt2 : ∀ b, b < w.heap.size → b < w6.heap.size := fun b hb => (by (first | omega | (simp only [zz] at *; omega)))
    have hc2 : ∀ b o, b < w.heap.size → w6.cell? ⟨b, o, none⟩ = w.cell? ⟨b, o, none⟩ := old_cell (by (repeat (first | exact Below.refl _ _ | assumption | refine below_drewN ?_ _ | refine below_drew ?_ | refine below_gr ?_ ?_ _ | refine below_alloc ?_ ?_ _ | refine Below.setCell ?_ ?_ _ | refine below_step ?_ (by assumption) ?_ | omega | (simp only [zz] at *; omega))))
    go_wp2
    go_ret3
    exact gives_of (rfl) (by (repeat (first | exact Below.refl _ _ | assumption | refine below_drewN ?_ _ | refine below_drew ?_ | refine below_gr ?_ ?_ _ | refine below_alloc ?_ ?_ _ | refine Below.setCell ?_ ?_ _ | refine below_step ?_ (by assumption) ?_ | omega | (simp only [zz] at *; omega))))
end Go.Proofs.Ytlbkaeoagdbemaa
namespace Go.Proofs.Ytlbkaeoagdbemaa
open Go.RowKit Go.Maps
set_option maxRecDepth 100000 in
set_option maxHeartbeats 1000000 in
theorem after_bad (A : Option Addr) (R : List Int) (rc : Nat) (B : Option Addr) (ts : List Tz) (d : Nat) (w : World) (hA : I64 w A R) (hB : Tks w B ts) (hR2 : R.length ≤ 1000000) (hl : ts.length ≤ 1000000) (hts : ∀ t, t ∈ ts → t.1.length ≤ 1000000) (h0 : chkT R ts ≠ 0) (X : Option Addr) (n xc : Nat) :
    Calls Try.prog 43 #[.agg #[.slice A R.length rc], .slice B ts.length d, .slice X n xc] w (Gives w (.tuple #[.int .i64 0, .slice none 0 0, .int .i64 (chkT R ts)])) := by
  have HOP := hide (fun w' (h1 : I64 w' A R) (h2 : Tks w' B ts) => open_bad A R rc B ts d w' h1 h2 hR2 hl hts h0)
  have H0 := hide h0
  clear h0
  generalize chkT R ts = ec at *
  have hne : ec ≠ 0 := H0.out
  have hneb : (ec != 0) = true := by simp [hne]
  go_enter Try.func43, Try.ntmps43
  go_wp2_with (first
    | (go_at_call 61; refine (HOP.out _ (hA.ext (by (repeat (first | exact Below.refl _ _ | assumption | refine below_drewN ?_ _ | refine below_drew ?_ | refine below_gr ?_ ?_ _ | refine below_alloc ?_ ?_ _ | refine Below.setCell ?_ ?_ _ | refine below_step ?_ (by assumption) ?_ | omega | (simp only [zz] at *; omega))))) (hB.ext (by (repeat (first | exact Below.refl _ _ | assumption | refine below_drewN ?_ _ | refine below_drew ?_ | refine below_gr ?_ ?_ _ | refine below_alloc ?_ ?_ _ | refine Below.setCell ?_ ?_ _ | refine below_step ?_ (by assumption) ?_ | omega | (simp only [zz] at *; omega)))))).mono ?_; rintro e w1 ⟨rfl, hb1⟩; replace hb1 := ex_below hb1; have hz1 := hb1.size))

  go_ret3
  exact gives_of (rfl) (by (repeat (first | exact Below.refl _ _ | assumption | refine below_drewN ?_ _ | refine below_drew ?_ | refine below_gr ?_ ?_ _ | refine below_alloc ?_ ?_ _ | refine Below.setCell ?_ ?_ _ | refine below_step ?_ (by assumption) ?_ | omega | (simp only [zz] at *; omega))))
set_option maxRecDepth 100000 in
set_option maxHeartbeats 1000000 in
theorem after_many (A : Option Addr) (R : List Nat) (rc : Nat) (B : Option Addr) (ts : List Bm.Tk) (d : Nat) (X : Option Addr) (won : List Int) (xc : Nat) (w : World) (hA : I64 w A (zs R)) (hB : Tks w B (tz ts)) (hX : I64 w X won) (hw : won.length ≤ 1000000) (hok : Ok R ts) (hl : R.length < won.length) :
    Calls Try.prog 43 #[.agg #[.slice A R.length rc], .slice B ts.length d, .slice X won.length xc] w (Gives w (.tuple #[.int .i64 0, .slice none 0 0, .int .i64 6])) := by
  have HOP := hide (fun w' (h1 : I64 w' A (zs R)) (h2 : Tks w' B (tz ts)) => opens_n A R rc B ts d w' h1 h2 hok)
  have hlb : decide ((won.length : Int) > (R.length : Int)) = true := by simp; omega
  go_enter Try.func43, Try.ntmps43
  go_wp2_with (first
    | (go_at_call 61; refine (HOP.out _ (hA.ext (by (repeat (first | exact Below.refl _ _ | assumption | refine below_drewN ?_ _ | refine below_drew ?_ | refine below_gr ?_ ?_ _ | refine below_alloc ?_ ?_ _ | refine Below.setCell ?_ ?_ _ | refine below_step ?_ (by assumption) ?_ | omega | (simp only [zz] at *; omega))))) (hB.ext (by (repeat (first | exact Below.refl _ _ | assumption | refine below_drewN ?_ _ | refine below_drew ?_ | refine below_gr ?_ ?_ _ | refine below_alloc ?_ ?_ _ | refine Below.setCell ?_ ?_ _ | refine below_step ?_ (by assumption) ?_ | omega | (simp only [zz] at *; omega)))))).mono ?_; rintro e w1 ⟨s, rfl, hb1, hs1, hS1⟩; replace hb1 := ex_below hb1; have hz1 := hb1.size; (try simp only [World.size_alloc] at hz1); have hc1 := own_cell hb1 (b := w.heap.size) (by (first | omega | (simp only [zz]; omega) | (simp only [zz] at *; omega) | (simp; done) | (simp; omega)))))

  go_ret3
  exact gives_of (rfl) (by (repeat (first | exact Below.refl _ _ | assumption | refine below_drewN ?_ _ | refine below_drew ?_ | refine below_gr ?_ ?_ _ | refine below_alloc ?_ ?_ _ | refine Below.setCell ?_ ?_ _ | refine below_step ?_ (by assumption) ?_ | omega | (simp only [zz] at *; omega))))
set_option maxRecDepth 100000 in
set_option maxHeartbeats 1000000 in
theorem after_range (A : Option Addr) (R : List Nat) (rc : Nat) (B : Option Addr) (ts : List Bm.Tk) (d : Nat) (X : Option Addr) (won : List Int) (xc : Nat) (w : World) (hA : I64 w A (zs R)) (hB : Tks w B (tz ts)) (hX : I64 w X won) (hw : won.length ≤ 1000000) (hok : Ok R ts) (hl : won.length ≤ R.length) (hr : runB R won = false) :
    Calls Try.prog 43 #[.agg #[.slice A R.length rc], .slice B ts.length d, .slice X won.length xc] w (Gives w (.tuple #[.int .i64 0, .slice none 0 0, .int .i64 3])) := by
  have HOP := hide (fun w' (h1 : I64 w' A (zs R)) (h2 : Tks w' B (tz ts)) => opens_n A R rc B ts d w' h1 h2 hok)
  have hlb : decide ((won.length : Int) > (R.length : Int)) = false := by simp; omega
  have HRU := hide (fun s w' (h : SheetAt w' s A (zs R) rc B (tz ts) d) (hX : I64 w' X won) => run_any s A R rc B ts d w' h hok.h5 hok.r6 hok.t10 X won xc hX hl)
  rw [hr] at HRU
  go_enter Try.func43, Try.ntmps43
  go_wp2_with (first
    | (go_at_call 61; refine (HOP.out _ (hA.ext (by (repeat (first | exact Below.refl _ _ | assumption | refine below_drewN ?_ _ | refine below_drew ?_ | refine below_gr ?_ ?_ _ | refine below_alloc ?_ ?_ _ | refine Below.setCell ?_ ?_ _ | refine below_step ?_ (by assumption) ?_ | omega | (simp only [zz] at *; omega))))) (hB.ext (by (repeat (first | exact Below.refl _ _ | assumption | refine below_drewN ?_ _ | refine below_drew ?_ | refine below_gr ?_ ?_ _ | refine below_alloc ?_ ?_ _ | refine Below.setCell ?_ ?_ _ | refine below_step ?_ (by assumption) ?_ | omega | (simp only [zz] at *; omega)))))).mono ?_; rintro e w1 ⟨s, rfl, hb1, hs1, hS1⟩; replace hb1 := ex_below hb1; have hz1 := hb1.size; (try simp only [World.size_alloc] at hz1); have hc1 := own_cell hb1 (b := w.heap.size) (by (first | omega | (simp only [zz]; omega) | (simp only [zz] at *; omega) | (simp; done) | (simp; omega))))
    | (go_at_call 78; refine (HRU.out _ _ (hS1.ext (by (repeat (first | exact Below.refl _ _ | assumption | refine below_drewN ?_ _ | refine below_drew ?_ | refine below_gr ?_ ?_ _ | refine below_alloc ?_ ?_ _ | refine Below.setCell ?_ ?_ _ | refine below_step ?_ (by assumption) ?_ | omega | (simp only [zz] at *; omega))))) (hX.ext (by (repeat (first | exact Below.refl _ _ | assumption | refine below_drewN ?_ _ | refine below_drew ?_ | refine below_gr ?_ ?_ _ | refine below_alloc ?_ ?_ _ | refine Below.setCell ?_ ?_ _ | refine below_step ?_ (by assumption) ?_ | omega | (simp only [zz] at *; omega)))))).mono ?_; rintro e w3 ⟨rfl, hb3⟩; replace hb3 := ex_below hb3; have hz3 := hb3.size; have hc3 := own_cell hb3 (b := w.heap.size) (by (first | omega | (simp only [zz]; omega) | (simp only [zz] at *; omega) | (simp; done) | (simp; omega)))))

  go_ret3
  exact gives_of (rfl) (by (repeat (first | exact Below.refl _ _ | assumption | refine below_drewN ?_ _ | refine below_drew ?_ | refine below_gr ?_ ?_ _ | refine below_alloc ?_ ?_ _ | refine Below.setCell ?_ ?_ _ | refine below_step ?_ (by assumption) ?_ | omega | (simp only [zz] at *; omega))))
/-- the tickets that can still win -/
def aliveTo (ts : List Bm.Tk) (o : List Nat) : Nat → List Nat
  | 0 => []
  | k + 1 => aliveTo ts o k ++ if hasB ((ts.getD k ([], 0)).1.take o.length) (singleP o) then [k] else []
theorem aliveTo_le (ts : List Bm.Tk) (o : List Nat) (k : Nat) : (aliveTo ts o k).length ≤ k := by
  induction k with
  | zero => exact Nat.zero_le _
  | succ k ih => simp only [aliveTo, List.length_append]; split <;> simp <;> omega
theorem I64.take {w : World} {A : Option Addr} {xs : List Nat} (h : I64 w A (zs xs)) (n : Nat) : I64 w A (zs (xs.take n)) := fun k x hk => by
  refine h k x ?_
  unfold zs at hk ⊢
  rw [List.map_take] at hk
  rw [List.getElem?_take] at hk
  split at hk
  · exact hk
  · simp at hk
set_option maxRecDepth 100000 in
set_option maxHeartbeats 4000000 in
theorem after_ok (A : Option Addr) (R : List Nat) (rc : Nat) (B : Option Addr) (ts : List Bm.Tk) (d : Nat) (X : Option Addr) (won : List Int) (xc : Nat) (w : World) (hA : I64 w A (zs R)) (hB : Tks w B (tz ts)) (hX : I64 w X won) (hw : won.length ≤ 1000000) (hok : Ok R ts) (hl : won.length ≤ R.length) (hr : runB R won = true) :
    Calls Try.prog 43 #[.agg #[.slice A R.length rc], .slice B ts.length d, .slice X won.length xc] w (GivesDI w (coveredP R ts (won.map Int.toNat) : Nat) (zs (aliveTo ts (won.map Int.toNat) ts.length))) := by
  have hlb : decide ((won.length : Int) > (R.length : Int)) = false := by simp; omega
  have HOP := hide (fun w' (h1 : I64 w' A (zs R)) (h2 : Tks w' B (tz ts)) => opens_n A R rc B ts d w' h1 h2 hok)
  have HRU := hide (fun s w' (h : SheetAt w' s A (zs R) rc B (tz ts) d) (hX : I64 w' X won) => run_any s A R rc B ts d w' h hok.h5 hok.r6 hok.t10 X won xc hX hl)
  rw [hr] at HRU
  obtain ⟨o, rfl, hol, holt⟩ := runB_zs R won hl hr
  rw [zs_len] at hl hlb HRU
  rw [zs_nat, zs_len]
  have ho6 : ∀ i, i ∈ o → i < 6 := fun i hi => by
    obtain ⟨k, hk, rfl⟩ := List.getElem_of_mem hi
    have h1 := holt k hk
    have h2 : R[k]'(by omega) ≤ 6 := hok.r6 _ (List.getElem_mem _)
    rw [getD_at _ _ hk, getD_at _ _ (by omega : k < R.length)] at h1
    omega
  have ho5 : o.length ≤ 5 := by have := hok.h5; omega
  have HSI := hide (fun w' (h : I64 w' X (zs o)) => single_any X o xc w' h (by omega) ho6)
  have HSL := hide (show (zs (singleP o)).length = o.length by simp [zs, singleP])
  have HCV := hide (fun s w' (h : SheetAt w' s A (zs R) rc B (tz ts) d) (h2 : I64 w' X (zs o)) => covered_any s A R rc B ts d w' h hok.h5 hok.r6 hok.t10 hok.hu hok.htl hok.ht6 X o xc h2 hl ho6 hok.r1)
  have HS6 := hide (single6 ho6)
  have HLR := hide hl
  have ht10 := hok.t10
  have HTL := hide hok.htl
  have HT6 := hide hok.ht6
  have HAO : Hid (∀ k, aliveTo ts o (k + 1) = aliveTo ts o k ++ if hasB ((ts.getD k ([], 0)).1.take o.length) (singleP o) then [k] else []) := hide (fun k => rfl)
  have HAL := hide (aliveTo_le ts o)
  have ht' : (ts.length : Int) ≤ 10 := by omega
  have ho5i : (o.length : Int) ≤ 5 := by omega
  obtain ⟨i0, ih, iz, is, ib⟩ := info_parts info3
  clear hol holt ho6 hr
  go_enter Try.func43, Try.ntmps43
  go_wp2_with (first
    | (go_at_call 61; refine (HOP.out _ (hA.ext (by (repeat (first | exact Below.refl _ _ | assumption | refine below_drewN ?_ _ | refine below_drew ?_ | refine below_gr ?_ ?_ _ | refine below_alloc ?_ ?_ _ | refine Below.setCell ?_ ?_ _ | refine below_step ?_ (by assumption) ?_ | omega | (simp only [zz] at *; omega))))) (hB.ext (by (repeat (first | exact Below.refl _ _ | assumption | refine below_drewN ?_ _ | refine below_drew ?_ | refine below_gr ?_ ?_ _ | refine below_alloc ?_ ?_ _ | refine Below.setCell ?_ ?_ _ | refine below_step ?_ (by assumption) ?_ | omega | (simp only [zz] at *; omega)))))).mono ?_; rintro e w1 ⟨s, rfl, hb1, hs1, hS1⟩; replace hb1 := ex_below hb1; have hz1 := hb1.size; (try simp only [World.size_alloc] at hz1); have hc1 := own_cell hb1 (b := w.heap.size) (by (first | omega | (simp only [zz]; omega) | (simp only [zz] at *; omega) | (simp; done) | (simp; omega))))
    | (go_at_call 78; refine (HRU.out _ _ (hS1.ext (by (repeat (first | exact Below.refl _ _ | assumption | refine below_drewN ?_ _ | refine below_drew ?_ | refine below_gr ?_ ?_ _ | refine below_alloc ?_ ?_ _ | refine Below.setCell ?_ ?_ _ | refine below_step ?_ (by assumption) ?_ | omega | (simp only [zz] at *; omega))))) (hX.ext (by (repeat (first | exact Below.refl _ _ | assumption | refine below_drewN ?_ _ | refine below_drew ?_ | refine below_gr ?_ ?_ _ | refine below_alloc ?_ ?_ _ | refine Below.setCell ?_ ?_ _ | refine below_step ?_ (by assumption) ?_ | omega | (simp only [zz] at *; omega)))))).mono ?_; rintro e w3 ⟨rfl, hb3⟩; replace hb3 := ex_below hb3; have hz3 := hb3.size; have hc3 := own_cell hb3 (b := w.heap.size) (by (first | omega | (simp only [zz]; omega) | (simp only [zz] at *; omega) | (simp; done) | (simp; omega)))))

  have hbw3 : Below w.heap.size w w3 := by (repeat (first | exact Below.refl _ _ | assumption | (refine below_gr ?_ (by (first | omega | (simp only [zz] at *; omega))) _) | (refine below_alloc ?_ (by (first | omega | (simp only [zz] at *; omega))) _) | (refine Below.setCell ?_ (by (first | omega | (simp only [zz] at *; omega))) _) | refine below_drewN ?_ _ | refine below_drew ?_ | (refine below_step ?_ (by assumption) (by (first | omega | (simp only [zz] at *; omega))))))
  have hS3 := hS1.ext hb3
  have hB3 := hB.ext hbw3
  have hX3 := hX.ext hbw3
  clear hc1 hc3 hb1 hb3 hl hlb
  go_loopw [11, 38] (fun t11 t38 wr => ∃ (k : Nat) (O : Option Addr) (c : Nat), k ≤ ts.length ∧ t38 = .int .i64 k ∧ t11 = .slice O (aliveTo ts o k).length c ∧ Below w3.heap.size w3 wr ∧ wr.ownsRow w3.heap.size 3 1 (.slice O (aliveTo ts o k).length c) (aliveTo ts o k).length ((zs (aliveTo ts o k)).map (Value.int .i64))) (fun _ t38 _ => ts.length - (intOf t38).toNat)
  case atStart => exact ⟨0, none, 0, Nat.zero_le _, rfl, rfl, Below.refl _ _, World.ownsRow_nil _ _ _ _⟩
  case round =>
    obtain ⟨k, O, c, hk, rfl, rfl, hb, hown⟩ := hrel
    have hzr := hb.size
    have HFS := hide (HAO.out k)
    have hfl := HAL.out k
    by_cases hlt : k < ts.length
    · have hB1 := hB3.ext hb
      obtain ⟨tb, to, rfl, htb⟩ := hB1.form (by rw [tz_len]; omega)
      obtain ⟨S, sc, q0, q1, q2, hSx⟩ := hB1.at (k := k) (by rw [tz_len]; exact hlt)
      simp only [tz_at _ _ hlt, zs_len] at q0 q1 q2 hSx
      rw [getD_at _ _ hlt] at HFS
      have hll := HTL.out ts[k] (List.getElem_mem hlt)
      have h61 := HT6.out ts[k] (List.getElem_mem hlt)
      generalize aliveTo ts o k = fl at *
      generalize ts[k] = tk at *
      obtain ⟨T, u⟩ := tk
      simp only at hll h61 q0 q1 q2 hSx HFS
      have hos : o.length ≤ T.length := by have := HLR.out; omega
      have hosc : (o.length : Int) ≤ (sc : Int) := by omega
      have htk : (T.take o.length).length = o.length := by rw [List.length_take]; omega
      have HHA := hide (fun w' Z zc (h1 : I64 w' S (zs (T.take o.length))) (h2 : I64 w' Z (zs (singleP o))) => has_any S (T.take o.length) sc Z (singleP o) zc w' h1 h2 (by rw [htk]; simp [singleP]) (by simp [singleP]; omega) (fun s hs => h61 s (List.mem_of_mem_take hs)) HS6.out)
      rw [htk, show (singleP o).length = o.length by simp [singleP]] at HHA
      have hTx := hSx.take o.length
      have hXr := hX3.ext hb
      have HLL := hide hll
      clear hll h61 htk hos hB1 hSx
      by_cases ha : hasB (T.take o.length) (singleP o) = true
      · rw [if_pos ha] at HFS
        rw [ha] at HHA
        clear ha
        go_upto_region 12 with fail
        go_region_held3 (fun w' => w'.cell? ⟨wr.heap.size, 0, none⟩ = some (.slice S T.length sc) ∧ w'.cell? ⟨wr.heap.size, 1, none⟩ = some (.int .i64 (u : Nat))) (go_keep) (first
          | (go_at_call 79; refine (HSI.out _ (hXr.ext (by (repeat (first | exact Below.refl _ _ | assumption | refine below_drewN ?_ _ | refine below_drew ?_ | refine below_gr ?_ ?_ _ | refine below_alloc ?_ ?_ _ | refine Below.setCell ?_ ?_ _ | refine below_step ?_ (by assumption) ?_ | omega | (simp only [zz] at *; omega)))))).mono ?_; rintro e w4 ⟨Z, zc, rfl, hb4, hZ, _⟩; rw [HSL.out]; replace hb4 := ex_below hb4; have hz4 := hb4.size; (try simp only [zz] at hz4); have hs4 : wr.heap.size < w4.heap.size := (by (first | omega | (simp only [zz] at *; omega))); have ho4 := own_cell hb4 (b := wr.heap.size) (by (first | omega | (simp only [zz] at *; omega))); have hq4 := own_frozen hb4 (b := wr.heap.size) (by (first | omega | (simp only [zz] at *; omega))); have hlt4 : ∀ b, b < wr.heap.size → b < w4.heap.size := fun b hb => (by (first | omega | (simp only [zz] at *; omega))); have hc4 : ∀ b o, b < wr.heap.size → w4.cell? ⟨b, o, none⟩ = wr.cell? ⟨b, o, none⟩ := old_cell (by (repeat (first | exact Below.refl _ _ | assumption | refine below_drewN ?_ _ | refine below_drew ?_ | refine below_gr ?_ ?_ _ | refine below_alloc ?_ ?_ _ | refine Below.setCell ?_ ?_ _ | refine below_step ?_ (by assumption) ?_ | omega | (simp only [zz] at *; omega)))))
          | (go_at_call 70; refine (HHA.out _ _ _ (hTx.ext (by (repeat (first | exact Below.refl _ _ | assumption | refine below_drewN ?_ _ | refine below_drew ?_ | refine below_gr ?_ ?_ _ | refine below_alloc ?_ ?_ _ | refine Below.setCell ?_ ?_ _ | refine below_step ?_ (by assumption) ?_ | omega | (simp only [zz] at *; omega))))) (hZ.ext (by (repeat (first | exact Below.refl _ _ | assumption | refine below_drewN ?_ _ | refine below_drew ?_ | refine below_gr ?_ ?_ _ | refine below_alloc ?_ ?_ _ | refine Below.setCell ?_ ?_ _ | refine below_step ?_ (by assumption) ?_ | omega | (simp only [zz] at *; omega)))))).mono ?_; rintro e w5 ⟨rfl, hb5⟩; replace hb5 := ex_below hb5; have hz5 := hb5.size; (try simp only [zz] at hz5); have hs5 : wr.heap.size < w5.heap.size := (by (first | omega | (simp only [zz] at *; omega))); have ho5 := own_cell hb5 (b := wr.heap.size) (by (first | omega | (simp only [zz] at *; omega))); have hq5 := own_frozen hb5 (b := wr.heap.size) (by (first | omega | (simp only [zz] at *; omega))); have hlt5 : ∀ b, b < wr.heap.size → b < w5.heap.size := fun b hb => (by (first | omega | (simp only [zz] at *; omega))); have hc5 : ∀ b o, b < wr.heap.size → w5.cell? ⟨b, o, none⟩ = wr.cell? ⟨b, o, none⟩ := old_cell (by (repeat (first | exact Below.refl _ _ | assumption | refine below_drewN ?_ _ | refine below_drew ?_ | refine below_gr ?_ ?_ _ | refine below_alloc ?_ ?_ _ | refine Below.setCell ?_ ?_ _ | refine below_step ?_ (by assumption) ?_ | omega | (simp only [zz] at *; omega))))))
        have hb2 : Below wr.heap.size wr w5 := by (repeat (first | exact Below.refl _ _ | assumption | (refine below_gr ?_ (by (first | omega | (simp only [zz] at *; omega))) _) | (refine below_alloc ?_ (by (first | omega | (simp only [zz] at *; omega))) _) | (refine Below.setCell ?_ (by (first | omega | (simp only [zz] at *; omega))) _) | refine below_drewN ?_ _ | refine below_drew ?_ | (refine below_step ?_ (by assumption) (by (first | omega | (simp only [zz] at *; omega))))))
        have hown5 := own_keeps hown (keeps_below hb2).2
        have hb15 := hb.trans (hb2.mono hzr)
        have hz5 := hb15.size
        clear hb4 hb5 hb2 hown
        go_wp2_with (at_builtin; refine wpList_append_own _ rfl (.tmp 51) (.tmp 53) 22 rfl w3.heap.size 3 i0 _ 1 8 und22 ih iz is ib rfl (by decide) _ fl.length _ rfl (hown5.alloc _) ⟨w5.heap.size, 0, none⟩ 1 1 [.int .i64 (k : Nat)] rfl rfl ?c1 (by simp [Value.oneCell']) (by unfold maxLen; omega) (by omega) (by simp; omega) ?_)
        case c1 => exact cells_new w5 [.int .i64 (k : Nat)] _ _ (by simp)
        intro v' w6 hown' hgr' _
        obtain ⟨A2, c2, rfl⟩ := own_form hown'
        have hge := own_ge hown5
        have hb6 := gb_below (below_alloc hb15 (by omega) _) hgr' (by simp; omega) (fun k hk => by have := hge k hk; omega)
        have hown6 : w6.ownsRow w3.heap.size 3 1 (.slice A2 (fl.length + 1) c2) (fl.length + 1) ((zs (fl ++ [k])).map (Value.int .i64)) := by
          simpa [zs] using hown'
        clear hgr' hge hown5 hown'
        go_wp2
        refine ⟨⟨k + 1, A2, c2, by omega, by go_num, by rw [HFS.out, List.length_append]; rfl, hb6, ?_⟩, by simp [intOf]; omega⟩
        rw [HFS.out, List.length_append]
        exact hown6
      · rw [if_neg ha, List.append_nil] at HFS
        replace ha : hasB (T.take o.length) (singleP o) = false := by simpa using ha
        rw [ha] at HHA
        clear ha
        go_upto_region 12 with fail
        go_region_held3 (fun w' => w'.cell? ⟨wr.heap.size, 0, none⟩ = some (.slice S T.length sc) ∧ w'.cell? ⟨wr.heap.size, 1, none⟩ = some (.int .i64 (u : Nat))) (go_keep) (first
          | (go_at_call 79; refine (HSI.out _ (hXr.ext (by (repeat (first | exact Below.refl _ _ | assumption | refine below_drewN ?_ _ | refine below_drew ?_ | refine below_gr ?_ ?_ _ | refine below_alloc ?_ ?_ _ | refine Below.setCell ?_ ?_ _ | refine below_step ?_ (by assumption) ?_ | omega | (simp only [zz] at *; omega)))))).mono ?_; rintro e w4 ⟨Z, zc, rfl, hb4, hZ, _⟩; rw [HSL.out]; replace hb4 := ex_below hb4; have hz4 := hb4.size; (try simp only [zz] at hz4); have hs4 : wr.heap.size < w4.heap.size := (by (first | omega | (simp only [zz] at *; omega))); have ho4 := own_cell hb4 (b := wr.heap.size) (by (first | omega | (simp only [zz] at *; omega))); have hq4 := own_frozen hb4 (b := wr.heap.size) (by (first | omega | (simp only [zz] at *; omega))); have hlt4 : ∀ b, b < wr.heap.size → b < w4.heap.size := fun b hb => (by (first | omega | (simp only [zz] at *; omega))); have hc4 : ∀ b o, b < wr.heap.size → w4.cell? ⟨b, o, none⟩ = wr.cell? ⟨b, o, none⟩ := old_cell (by (repeat (first | exact Below.refl _ _ | assumption | refine below_drewN ?_ _ | refine below_drew ?_ | refine below_gr ?_ ?_ _ | refine below_alloc ?_ ?_ _ | refine Below.setCell ?_ ?_ _ | refine below_step ?_ (by assumption) ?_ | omega | (simp only [zz] at *; omega)))))
          | (go_at_call 70; refine (HHA.out _ _ _ (hTx.ext (by (repeat (first | exact Below.refl _ _ | assumption | refine below_drewN ?_ _ | refine below_drew ?_ | refine below_gr ?_ ?_ _ | refine below_alloc ?_ ?_ _ | refine Below.setCell ?_ ?_ _ | refine below_step ?_ (by assumption) ?_ | omega | (simp only [zz] at *; omega))))) (hZ.ext (by (repeat (first | exact Below.refl _ _ | assumption | refine below_drewN ?_ _ | refine below_drew ?_ | refine below_gr ?_ ?_ _ | refine below_alloc ?_ ?_ _ | refine Below.setCell ?_ ?_ _ | refine below_step ?_ (by assumption) ?_ | omega | (simp only [zz] at *; omega)))))).mono ?_; rintro e w5 ⟨rfl, hb5⟩; replace hb5 := ex_below hb5; have hz5 := hb5.size; (try simp only [zz] at hz5); have hs5 : wr.heap.size < w5.heap.size := (by (first | omega | (simp only [zz] at *; omega))); have ho5 := own_cell hb5 (b := wr.heap.size) (by (first | omega | (simp only [zz] at *; omega))); have hq5 := own_frozen hb5 (b := wr.heap.size) (by (first | omega | (simp only [zz] at *; omega))); have hlt5 : ∀ b, b < wr.heap.size → b < w5.heap.size := fun b hb => (by (first | omega | (simp only [zz] at *; omega))); have hc5 : ∀ b o, b < wr.heap.size → w5.cell? ⟨b, o, none⟩ = wr.cell? ⟨b, o, none⟩ := old_cell (by (repeat (first | exact Below.refl _ _ | assumption | refine below_drewN ?_ _ | refine below_drew ?_ | refine below_gr ?_ ?_ _ | refine below_alloc ?_ ?_ _ | refine Below.setCell ?_ ?_ _ | refine below_step ?_ (by assumption) ?_ | omega | (simp only [zz] at *; omega))))))
        have hb2 : Below wr.heap.size wr w5 := by (repeat (first | exact Below.refl _ _ | assumption | (refine below_gr ?_ (by (first | omega | (simp only [zz] at *; omega))) _) | (refine below_alloc ?_ (by (first | omega | (simp only [zz] at *; omega))) _) | (refine Below.setCell ?_ (by (first | omega | (simp only [zz] at *; omega))) _) | refine below_drewN ?_ _ | refine below_drew ?_ | (refine below_step ?_ (by assumption) (by (first | omega | (simp only [zz] at *; omega))))))
        have hown5 := own_keeps hown (keeps_below hb2).2
        have hb15 := hb.trans (hb2.mono hzr)
        clear hb4 hb5 hb2 hown
        go_wp2
        exact ⟨⟨k + 1, O, c, by omega, by go_num, by rw [HFS.out], hb15, by rw [HFS.out]; exact hown5⟩, by simp [intOf]; omega⟩
    · have hkn : k = ts.length := by omega
      rw [hkn] at hown
      have hown2 := own_i64 (xs := zs (aliveTo ts o ts.length)) (c := c) (by rw [zs_len]; exact hown)
      have HO := hide hown2
      have HKN := hide hkn
      have hSr := hS3.ext hb
      have hXr := hX3.ext hb
      have hcl : coveredP R ts o = coveredP R ts o := rfl
      rw [show aliveTo ts o k = aliveTo ts o ts.length by rw [hkn]]
      generalize aliveTo ts o ts.length = fl at *
      clear hown hown2 HFS hfl hkn
      go_wp2_with (first
    | (go_at_call 73; refine (HCV.out _ _ (hSr.ext (by (repeat (first | exact Below.refl _ _ | assumption | refine below_drewN ?_ _ | refine below_drew ?_ | refine below_gr ?_ ?_ _ | refine below_alloc ?_ ?_ _ | refine Below.setCell ?_ ?_ _ | refine below_step ?_ (by assumption) ?_ | omega | (simp only [zz] at *; omega))))) (hXr.ext (by (repeat (first | exact Below.refl _ _ | assumption | refine below_drewN ?_ _ | refine below_drew ?_ | refine below_gr ?_ ?_ _ | refine below_alloc ?_ ?_ _ | refine Below.setCell ?_ ?_ _ | refine below_step ?_ (by assumption) ?_ | omega | (simp only [zz] at *; omega)))))).mono ?_; rintro e w4 ⟨rfl, hb4⟩; replace hb4 := ex_below hb4; have hz4 := hb4.size))

      go_ret3
      exact ⟨O, c, by rw [zs_len]; rfl, below_grow (hbw3.trans ((hb.trans (hb4.mono hzr)).mono (by have := hbw3.size; omega))), HO.out.1.ext hb4, HO.out.2.1⟩
end Go.Proofs.Ytlbkaeoagdbemaa
