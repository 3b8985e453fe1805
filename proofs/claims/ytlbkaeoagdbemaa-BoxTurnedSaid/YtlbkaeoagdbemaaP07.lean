/- Proved here: which tickets are valid; a sheet is opened; how many runners a set has, and how many outcomes a box; whether boxes meet, a part of the proofs about the box laws. Conditions: those that each theorem names, no others. -/
import Derived.Test.YtlbkaeoagdbemaaP06
import Derived.WalkKit
import Derived.WalkSpells
import Derived.WalkLawsBesides
import Derived.Below
import Derived.Deep.QuietTactic
import Derived.BigQuiet
import Derived.Deep.Light
set_option linter.unusedSimpArgs false
set_option linter.unusedVariables false
namespace Go.Proofs.Ytlbkaeoagdbemaa
open Go.RowKit
theorem chkCard_ok {R : List Int} (h : chkCard R = 0) : 1 ≤ R.length ∧ R.length ≤ 5 ∧ ∀ k, (h : k < R.length) → 1 ≤ R[k] ∧ R[k] ≤ 6 := by
  unfold chkCard at h
  split at h
  · simp at h
  · rename_i h1
    split at h
    · rename_i h2
      simp at h1
      rw [List.all_eq_true] at h2
      refine ⟨by omega, by omega, fun k hk => ?_⟩
      have := h2 R[k] (List.getElem_mem hk)
      simpa using this
    · simp at h
set_option maxRecDepth 100000 in
set_option maxHeartbeats 1000000 in
theorem checkTickets_any (A : Option Addr) (R : List Int) (rc : Nat) (B : Option Addr) (ts : List Tz) (d : Nat) (w : World) (hA : I64 w A R) (hB : Tks w B ts) (hR2 : R.length ≤ 1000000) (hl : ts.length ≤ 1000000) (hts : ∀ t, t ∈ ts → t.1.length ≤ 1000000) :
    Calls Try.prog 23 #[.agg #[.slice A R.length rc], .slice B ts.length d] w (Gives w (.int .i64 (chkT R ts))) := by
  have HX := hide (show chkT R ts = if chkCard R ≠ 0 then chkCard R else if 10 < (ts.length : Int) then 6 else if areB R ts ≠ 0 then areB R ts else if ts.any unfitB = true then 3 else 0 from rfl)
  have hl' : (ts.length : Int) ≤ 1000000 := by omega
  have HC := hide (fun w' (h : I64 w' A R) => checkCard_any A R rc w' h hR2)
  by_cases h0 : chkCard R = 0
  · have HB := hide (fun w' (h : Tks w' B ts) (h' : I64 w' A R) => areBoxes_any B ts d w' h hl A R rc h' hR2 hts (chkCard_ok h0).2.2)
    have HU := hide (fun w' (h : Tks w' B ts) => contains3_any B ts d w' h hl)
    have HY : Hid (chkT R ts = if 10 < (ts.length : Int) then 6 else if areB R ts ≠ 0 then areB R ts else if ts.any unfitB = true then 3 else 0) := hide (by rw [HX.out, h0]; simp)
    rw [h0] at HC
    clear HX h0
    generalize areB R ts = ea at *
    generalize ts.any unfitB = eu at *
    go_enter Try.func23, Try.ntmps23
    go_wp2_with (first
    | (go_at_call 21; refine (HC.out _ (hA.ext (by (repeat (first | exact Below.refl _ _ | assumption | refine below_drewN ?_ _ | refine below_drew ?_ | refine below_gr ?_ ?_ _ | refine below_alloc ?_ ?_ _ | refine Below.setCell ?_ ?_ _ | refine below_step ?_ (by assumption) ?_ | omega | (simp only [zz] at *; omega)))))).mono ?_; rintro e w1 ⟨rfl, hb1⟩; replace hb1 := ex_below hb1; have hz1 := hb1.size; (try simp only [zz] at hz1); have hs1 : w.heap.size < w1.heap.size := (by (first | omega | (simp only [zz] at *; omega))); have ho1 := own_cell hb1 (b := w.heap.size) (by (first | omega | (simp only [zz] at *; omega))); have hq1 := own_frozen hb1 (b := w.heap.size) (by (first | omega | (simp only [zz] at *; omega))); have hlt1 : ∀ b, b < w.heap.size → b < w1.heap.size := fun b hb => (by (first | omega | (simp only [zz] at *; omega))); have hc1 : ∀ b o, b < w.heap.size → w1.cell? ⟨b, o, none⟩ = w.cell? ⟨b, o, none⟩ := old_cell (by (repeat (first | exact Below.refl _ _ | assumption | refine below_drewN ?_ _ | refine below_drew ?_ | refine below_gr ?_ ?_ _ | refine below_alloc ?_ ?_ _ | refine Below.setCell ?_ ?_ _ | refine below_step ?_ (by assumption) ?_ | omega | (simp only [zz] at *; omega)))))
    | (go_at_call 57; refine (HB.out _ (hB.ext (by (repeat (first | exact Below.refl _ _ | assumption | refine below_drewN ?_ _ | refine below_drew ?_ | refine below_gr ?_ ?_ _ | refine below_alloc ?_ ?_ _ | refine Below.setCell ?_ ?_ _ | refine below_step ?_ (by assumption) ?_ | omega | (simp only [zz] at *; omega))))) (hA.ext (by (repeat (first | exact Below.refl _ _ | assumption | refine below_drewN ?_ _ | refine below_drew ?_ | refine below_gr ?_ ?_ _ | refine below_alloc ?_ ?_ _ | refine Below.setCell ?_ ?_ _ | refine below_step ?_ (by assumption) ?_ | omega | (simp only [zz] at *; omega)))))).mono ?_; rintro e w2 ⟨rfl, hb1⟩; replace hb1 := ex_below hb1; have hz1 := hb1.size; (try simp only [zz] at hz1); have hs1 : w.heap.size < w2.heap.size := (by (first | omega | (simp only [zz] at *; omega))); have ho1 := own_cell hb1 (b := w.heap.size) (by (first | omega | (simp only [zz] at *; omega))); have hq1 := own_frozen hb1 (b := w.heap.size) (by (first | omega | (simp only [zz] at *; omega))); have hlt1 : ∀ b, b < w.heap.size → b < w2.heap.size := fun b hb => (by (first | omega | (simp only [zz] at *; omega))); have hc1 : ∀ b o, b < w.heap.size → w2.cell? ⟨b, o, none⟩ = w.cell? ⟨b, o, none⟩ := old_cell (by (repeat (first | exact Below.refl _ _ | assumption | refine below_drewN ?_ _ | refine below_drew ?_ | refine below_gr ?_ ?_ _ | refine below_alloc ?_ ?_ _ | refine Below.setCell ?_ ?_ _ | refine below_step ?_ (by assumption) ?_ | omega | (simp only [zz] at *; omega)))))
    | (go_at_call 58; refine (HU.out _ (hB.ext (by (repeat (first | exact Below.refl _ _ | assumption | refine below_drewN ?_ _ | refine below_drew ?_ | refine below_gr ?_ ?_ _ | refine below_alloc ?_ ?_ _ | refine Below.setCell ?_ ?_ _ | refine below_step ?_ (by assumption) ?_ | omega | (simp only [zz] at *; omega)))))).mono ?_; rintro e w3 ⟨rfl, hb1⟩; replace hb1 := ex_below hb1; have hz1 := hb1.size; (try simp only [zz] at hz1); have hs1 : w.heap.size < w3.heap.size := (by (first | omega | (simp only [zz] at *; omega))); have ho1 := own_cell hb1 (b := w.heap.size) (by (first | omega | (simp only [zz] at *; omega))); have hq1 := own_frozen hb1 (b := w.heap.size) (by (first | omega | (simp only [zz] at *; omega))); have hlt1 : ∀ b, b < w.heap.size → b < w3.heap.size := fun b hb => (by (first | omega | (simp only [zz] at *; omega))); have hc1 : ∀ b o, b < w.heap.size → w3.cell? ⟨b, o, none⟩ = w.cell? ⟨b, o, none⟩ := old_cell (by (repeat (first | exact Below.refl _ _ | assumption | refine below_drewN ?_ _ | refine below_drew ?_ | refine below_gr ?_ ?_ _ | refine below_alloc ?_ ?_ _ | refine Below.setCell ?_ ?_ _ | refine below_step ?_ (by assumption) ?_ | omega | (simp only [zz] at *; omega))))))

    all_goals
      go_ret
      exact gives_of (v_int (by rw [HY.out]; go_light; (repeat' split) <;> simp_all <;> omega)) (by (repeat (first | exact Below.refl _ _ | assumption | refine below_drewN ?_ _ | refine below_drew ?_ | refine below_gr ?_ ?_ _ | refine below_alloc ?_ ?_ _ | refine Below.setCell ?_ ?_ _ | refine below_step ?_ (by assumption) ?_ | omega | (simp only [zz] at *; omega))))
  · have HY : Hid (chkT R ts = chkCard R) := hide (by rw [HX.out, if_pos h0])
    clear HX
    generalize chkCard R = ec at *
    go_enter Try.func23, Try.ntmps23
    go_wp2_with (first
    | (go_at_call 21; refine (HC.out _ (hA.ext (by (repeat (first | exact Below.refl _ _ | assumption | refine below_drewN ?_ _ | refine below_drew ?_ | refine below_gr ?_ ?_ _ | refine below_alloc ?_ ?_ _ | refine Below.setCell ?_ ?_ _ | refine below_step ?_ (by assumption) ?_ | omega | (simp only [zz] at *; omega)))))).mono ?_; rintro e w1 ⟨rfl, hb1⟩; replace hb1 := ex_below hb1; have hz1 := hb1.size; (try simp only [zz] at hz1); have hs1 : w.heap.size < w1.heap.size := (by (first | omega | (simp only [zz] at *; omega))); have ho1 := own_cell hb1 (b := w.heap.size) (by (first | omega | (simp only [zz] at *; omega))); have hq1 := own_frozen hb1 (b := w.heap.size) (by (first | omega | (simp only [zz] at *; omega))); have hlt1 : ∀ b, b < w.heap.size → b < w1.heap.size := fun b hb => (by (first | omega | (simp only [zz] at *; omega))); have hc1 : ∀ b o, b < w.heap.size → w1.cell? ⟨b, o, none⟩ = w.cell? ⟨b, o, none⟩ := old_cell (by (repeat (first | exact Below.refl _ _ | assumption | refine below_drewN ?_ _ | refine below_drew ?_ | refine below_gr ?_ ?_ _ | refine below_alloc ?_ ?_ _ | refine Below.setCell ?_ ?_ _ | refine below_step ?_ (by assumption) ?_ | omega | (simp only [zz] at *; omega))))))

    go_ret
    exact gives_of (v_int HY.out.symm) (by (repeat (first | exact Below.refl _ _ | assumption | refine below_drewN ?_ _ | refine below_drew ?_ | refine below_gr ?_ ?_ _ | refine below_alloc ?_ ?_ _ | refine Below.setCell ?_ ?_ _ | refine below_step ?_ (by assumption) ?_ | omega | (simp only [zz] at *; omega))))
theorem obj2 {w : World} {s : Nat} {x y : Value} {t : TypeId} (h : w.heap[s]? = some (.cells #[x, y] t (0, 0))) : w.cell? ⟨s, 0, none⟩ = some x ∧ w.cell? ⟨s, 1, none⟩ = some y := ⟨obj_at h 0 _ rfl, obj_at h 1 _ rfl⟩
/-- what open comes to with valid tickets -/
def Opens (w : World) (A : Option Addr) (R : List Int) (rc : Nat) (B : Option Addr) (ts : List Tz) (d : Nat) (e : Ending) (w' : World) : Prop :=
  ∃ s, e = .returned (.tuple #[.pointer (some ⟨s, 0, none⟩), .int .i64 0]) ∧ (∃ g, w' = w.grow g) ∧ w.heap.size ≤ s ∧ SheetAt w' s A R rc B ts d
def Sheets (w : World) (A : Option Addr) (R : List Int) (rc : Nat) (B : Option Addr) (ts : List Tz) (d : Nat) (e : Ending) (w' : World) : Prop :=
  ∃ s, e = .returned (.pointer (some ⟨s, 0, none⟩)) ∧ (∃ g, w' = w.grow g) ∧ w.heap.size ≤ s ∧ SheetAt w' s A R rc B ts d
set_option maxRecDepth 100000 in
set_option maxHeartbeats 1000000 in
theorem newSheet_any (A : Option Addr) (R : List Int) (rc : Nat) (B : Option Addr) (ts : List Tz) (d : Nat) (w : World) (hA : I64 w A R) (hB : Tks w B ts) (hR2 : R.length ≤ 1000000) (hl : ts.length ≤ 1000000) (hts : ∀ t, t ∈ ts → t.1.length ≤ 1000000) :
    Calls Try.prog 85 #[.agg #[.slice A R.length rc], .slice B ts.length d] w (Sheets w A R rc B ts d) := by
  go_enter Try.func85, Try.ntmps85
  go_wp2
  have hh := heap_b w (.cells #[.slice A R.length rc] 24) (.cells #[.slice A R.length rc, .slice B ts.length d] 113)
  obtain ⟨c0, c1⟩ := obj2 hh
  have hb : Below w.heap.size w ((w.alloc (.cells #[.slice A R.length rc] 24)).alloc (.cells #[.slice A R.length rc, .slice B ts.length d] 113)) := by (repeat (first | exact Below.refl _ _ | assumption | (refine below_gr ?_ (by (first | omega | (simp only [zz] at *; omega))) _) | (refine below_alloc ?_ (by (first | omega | (simp only [zz] at *; omega))) _) | (refine Below.setCell ?_ (by (first | omega | (simp only [zz] at *; omega))) _) | refine below_drewN ?_ _ | refine below_drew ?_ | (refine below_step ?_ (by assumption) (by (first | omega | (simp only [zz] at *; omega))))))
  go_ret
  exact ⟨w.heap.size + 1, by simp, below_grow hb, by omega, c0, c1, by simp, hA.ext hb, hB.ext hb⟩
set_option maxRecDepth 100000 in
set_option maxHeartbeats 1000000 in
theorem open_ok (A : Option Addr) (R : List Int) (rc : Nat) (B : Option Addr) (ts : List Tz) (d : Nat) (w : World) (hA : I64 w A R) (hB : Tks w B ts) (hR2 : R.length ≤ 1000000) (hl : ts.length ≤ 1000000) (hts : ∀ t, t ∈ ts → t.1.length ≤ 1000000) (h0 : chkT R ts = 0) :
    Calls Try.prog 61 #[.agg #[.slice A R.length rc], .slice B ts.length d] w (Opens w A R rc B ts d) := by
  have HC := hide (fun w' (h : I64 w' A R) (h' : Tks w' B ts) => checkTickets_any A R rc B ts d w' h h' hR2 hl hts)
  have HN := hide (fun w' (h : I64 w' A R) (h' : Tks w' B ts) => newSheet_any A R rc B ts d w' h h' hR2 hl hts)
  rw [h0] at HC
  clear h0
  go_enter Try.func61, Try.ntmps61
  go_wp2_with (first
    | (go_at_call 23; refine (HC.out _ (hA.ext (by (repeat (first | exact Below.refl _ _ | assumption | refine below_drewN ?_ _ | refine below_drew ?_ | refine below_gr ?_ ?_ _ | refine below_alloc ?_ ?_ _ | refine Below.setCell ?_ ?_ _ | refine below_step ?_ (by assumption) ?_ | omega | (simp only [zz] at *; omega))))) (hB.ext (by (repeat (first | exact Below.refl _ _ | assumption | refine below_drewN ?_ _ | refine below_drew ?_ | refine below_gr ?_ ?_ _ | refine below_alloc ?_ ?_ _ | refine Below.setCell ?_ ?_ _ | refine below_step ?_ (by assumption) ?_ | omega | (simp only [zz] at *; omega)))))).mono ?_; rintro e w1 ⟨rfl, hb1⟩; replace hb1 := ex_below hb1; have hz1 := hb1.size; (try simp only [zz] at hz1); have hs1 : w.heap.size < w1.heap.size := (by (first | omega | (simp only [zz] at *; omega))); have ho1 := own_cell hb1 (b := w.heap.size) (by (first | omega | (simp only [zz] at *; omega))); have hq1 := own_frozen hb1 (b := w.heap.size) (by (first | omega | (simp only [zz] at *; omega))); have hlt1 : ∀ b, b < w.heap.size → b < w1.heap.size := fun b hb => (by (first | omega | (simp only [zz] at *; omega))); have hc1 : ∀ b o, b < w.heap.size → w1.cell? ⟨b, o, none⟩ = w.cell? ⟨b, o, none⟩ := old_cell (by (repeat (first | exact Below.refl _ _ | assumption | refine below_drewN ?_ _ | refine below_drew ?_ | refine below_gr ?_ ?_ _ | refine below_alloc ?_ ?_ _ | refine Below.setCell ?_ ?_ _ | refine below_step ?_ (by assumption) ?_ | omega | (simp only [zz] at *; omega)))))
    | (go_at_call 85; refine (HN.out _ (hA.ext (by (repeat (first | exact Below.refl _ _ | assumption | refine below_drewN ?_ _ | refine below_drew ?_ | refine below_gr ?_ ?_ _ | refine below_alloc ?_ ?_ _ | refine Below.setCell ?_ ?_ _ | refine below_step ?_ (by assumption) ?_ | omega | (simp only [zz] at *; omega))))) (hB.ext (by (repeat (first | exact Below.refl _ _ | assumption | refine below_drewN ?_ _ | refine below_drew ?_ | refine below_gr ?_ ?_ _ | refine below_alloc ?_ ?_ _ | refine Below.setCell ?_ ?_ _ | refine below_step ?_ (by assumption) ?_ | omega | (simp only [zz] at *; omega)))))).mono ?_; rintro e w2 ⟨s, rfl, hb2, hs2, hS2⟩; replace hb2 := ex_below hb2; have hz2 := hb2.size; (try simp only [zz] at hz2)))

  go_ret2
  exact ⟨s, rfl, below_grow (by (repeat (first | exact Below.refl _ _ | assumption | refine below_drewN ?_ _ | refine below_drew ?_ | refine below_gr ?_ ?_ _ | refine below_alloc ?_ ?_ _ | refine Below.setCell ?_ ?_ _ | refine below_step ?_ (by assumption) ?_ | omega | (simp only [zz] at *; omega)))), by omega, hS2⟩
set_option maxRecDepth 100000 in
set_option maxHeartbeats 1000000 in
theorem open_bad (A : Option Addr) (R : List Int) (rc : Nat) (B : Option Addr) (ts : List Tz) (d : Nat) (w : World) (hA : I64 w A R) (hB : Tks w B ts) (hR2 : R.length ≤ 1000000) (hl : ts.length ≤ 1000000) (hts : ∀ t, t ∈ ts → t.1.length ≤ 1000000) (h0 : chkT R ts ≠ 0) :
    Calls Try.prog 61 #[.agg #[.slice A R.length rc], .slice B ts.length d] w (Gives w (.tuple #[.pointer none, .int .i64 (chkT R ts)])) := by
  have HC := hide (fun w' (h : I64 w' A R) (h' : Tks w' B ts) => checkTickets_any A R rc B ts d w' h h' hR2 hl hts)
  generalize chkT R ts = ec at *
  go_enter Try.func61, Try.ntmps61
  go_wp2_with (first
    | (go_at_call 23; refine (HC.out _ (hA.ext (by (repeat (first | exact Below.refl _ _ | assumption | refine below_drewN ?_ _ | refine below_drew ?_ | refine below_gr ?_ ?_ _ | refine below_alloc ?_ ?_ _ | refine Below.setCell ?_ ?_ _ | refine below_step ?_ (by assumption) ?_ | omega | (simp only [zz] at *; omega))))) (hB.ext (by (repeat (first | exact Below.refl _ _ | assumption | refine below_drewN ?_ _ | refine below_drew ?_ | refine below_gr ?_ ?_ _ | refine below_alloc ?_ ?_ _ | refine Below.setCell ?_ ?_ _ | refine below_step ?_ (by assumption) ?_ | omega | (simp only [zz] at *; omega)))))).mono ?_; rintro e w1 ⟨rfl, hb1⟩; replace hb1 := ex_below hb1; have hz1 := hb1.size; (try simp only [zz] at hz1); have hs1 : w.heap.size < w1.heap.size := (by (first | omega | (simp only [zz] at *; omega))); have ho1 := own_cell hb1 (b := w.heap.size) (by (first | omega | (simp only [zz] at *; omega))); have hq1 := own_frozen hb1 (b := w.heap.size) (by (first | omega | (simp only [zz] at *; omega))); have hlt1 : ∀ b, b < w.heap.size → b < w1.heap.size := fun b hb => (by (first | omega | (simp only [zz] at *; omega))); have hc1 : ∀ b o, b < w.heap.size → w1.cell? ⟨b, o, none⟩ = w.cell? ⟨b, o, none⟩ := old_cell (by (repeat (first | exact Below.refl _ _ | assumption | refine below_drewN ?_ _ | refine below_drew ?_ | refine below_gr ?_ ?_ _ | refine below_alloc ?_ ?_ _ | refine Below.setCell ?_ ?_ _ | refine below_step ?_ (by assumption) ?_ | omega | (simp only [zz] at *; omega))))))

  go_ret2
  exact gives_of (rfl) (by (repeat (first | exact Below.refl _ _ | assumption | refine below_drewN ?_ _ | refine below_drew ?_ | refine below_gr ?_ ?_ _ | refine below_alloc ?_ ?_ _ | refine Below.setCell ?_ ?_ _ | refine below_step ?_ (by assumption) ?_ | omega | (simp only [zz] at *; omega))))
end Go.Proofs.Ytlbkaeoagdbemaa
namespace Go.Proofs.Ytlbkaeoagdbemaa
open Go.RowKit
set_option maxRecDepth 100000 in
set_option maxHeartbeats 1000000 in
theorem ones64_any (s : Nat) (w : World) (hs : s < 64) : Calls Try.prog 87 #[.int .u64 (s : Nat)] w (Gives w (.int .i64 (Bm.popc s : Nat))) := by
  have h0 : (0 : Int) ≤ (s : Int) := by omega
  have h1 : (s : Int) ≤ 63 := by omega
  go_enter Try.func87, Try.ntmps87
  go_wp2
  go_ret
  refine gives_of (v_int ?_) (Below.refl _ _)
  clear h0 h1
  revert s
  decide +kernel
set_option maxRecDepth 100000 in
set_option maxHeartbeats 1000000 in
theorem ones_any (s : Nat) (w : World) (hs : s < 64) : Calls Try.prog 63 #[.int .u64 (s : Nat)] w (Gives w (.int .i64 (Bm.popc s : Nat))) := by
  have h0 : (0 : Int) ≤ (s : Int) := by omega
  have h1 : (s : Int) ≤ 63 := by omega
  go_enter Try.func63, Try.ntmps63
  go_wp2_with (go_at_call 87; refine (ones64_any s _ hs).mono ?_; rintro e w1 ⟨rfl, hb1⟩; replace hb1 := ex_below hb1; have hz1 := hb1.size; (try simp only [zz] at hz1); have hlt1 : ∀ b, b < w.heap.size → b < w1.heap.size := fun b hb => (by (first | omega | (simp only [zz] at *; omega))); have hc1 : ∀ b o, b < w.heap.size → w1.cell? ⟨b, o, none⟩ = w.cell? ⟨b, o, none⟩ := old_cell (by (repeat (first | exact Below.refl _ _ | assumption | refine below_drewN ?_ _ | refine below_drew ?_ | refine below_gr ?_ ?_ _ | refine below_alloc ?_ ?_ _ | refine Below.setCell ?_ ?_ _ | refine below_step ?_ (by assumption) ?_ | omega | (simp only [zz] at *; omega)))))
  go_ret
  exact gives_of (rfl) (by (repeat (first | exact Below.refl _ _ | assumption | refine below_drewN ?_ _ | refine below_drew ?_ | refine below_gr ?_ ?_ _ | refine below_alloc ?_ ?_ _ | refine Below.setCell ?_ ?_ _ | refine below_step ?_ (by assumption) ?_ | omega | (simp only [zz] at *; omega))))
theorem zsI {w : World} {b o : Nat} {xs : List Nat} (h : I64 w (some ⟨b, o, none⟩) (zs xs)) {k : Nat} (hk : k < xs.length) : w.cell? ⟨b, o + k, none⟩ = some (.int .i64 (xs[k] : Nat)) := by
  have := h.at (k := k) (by rw [zs_len]; exact hk)
  rwa [zs_at _ _ hk] at this
theorem zsF {w : World} {A : Option Addr} {xs : List Nat} (h : I64 w A (zs xs)) (hk : 0 < xs.length) : ∃ b o, A = some ⟨b, o, none⟩ ∧ b < w.heap.size := h.form (by rw [zs_len]; exact hk)
theorem size_snoc (S : List Nat) (k : Nat) (h : k < S.length) : Bm.size (S.take (k + 1)) = Bm.size (S.take k) * Bm.popc S[k] := by
  rw [take_snoc S k h]
  generalize S.take k = l
  induction l with
  | nil => simp [Bm.size]
  | cons a l ih => simp only [List.cons_append, Bm.size, ih]; rw [Nat.mul_assoc]
theorem size_le (l : List Nat) (n : Nat) (h : l.length ≤ n) : Bm.size l ≤ 6 ^ n := by
  induction l generalizing n with
  | nil => exact Nat.one_le_pow _ _ (by omega)
  | cons a l ih =>
    cases n with
    | zero => simp at h
    | succ n =>
      have h1 : Bm.popc a ≤ 6 := by
        have := List.countP_le_length (p := fun i => a.testBit i) (l := List.range 6)
        simpa [Bm.popc] using this
      have h2 := ih n (by simpa using h)
      rw [Bm.size, Nat.pow_succ, Nat.mul_comm]
      exact Nat.mul_le_mul h2 h1
set_option maxRecDepth 100000 in
set_option maxHeartbeats 1000000 in
theorem size_any (A : Option Addr) (S : List Nat) (c : Nat) (w : World) (hA : I64 w A (zs S)) (h5 : S.length ≤ 5) (h6 : ∀ s, s ∈ S → s < 64) :
    Calls Try.prog 62 #[.slice A S.length c] w (Gives w (.int .i64 (Bm.size S : Nat))) := by
  have h5' : (S.length : Int) ≤ 5 := by omega
  go_enter Try.func62, Try.ntmps62
  go_wp2
  go_loopw [3, 5, 8] (fun n _ i wr => ∃ k : Nat, k ≤ S.length ∧ i = .int .i64 k ∧ n = .int .i64 (Bm.size (S.take k) : Nat) ∧ Grew w wr) (fun _ _ i _ => S.length - (intOf i).toNat)
  case atStart => exact ⟨0, Nat.zero_le _, rfl, rfl, grew_refl _⟩
  case round =>
    obtain ⟨k, hk, rfl, rfl, hb⟩ := hrel
    replace hb := hb.below
    have hzr := hb.size
    (try simp only [zz] at hzr)
    have hltr : ∀ b, b < w.heap.size → b < wr.heap.size := fun b hb => (by (first | omega | (simp only [zz] at *; omega)))
    have hcr : ∀ b o, b < w.heap.size → wr.cell? ⟨b, o, none⟩ = w.cell? ⟨b, o, none⟩ := old_cell (by (repeat (first | exact Below.refl _ _ | assumption | refine below_drewN ?_ _ | refine below_drew ?_ | refine below_gr ?_ ?_ _ | refine below_alloc ?_ ?_ _ | refine Below.setCell ?_ ?_ _ | refine below_step ?_ (by assumption) ?_ | omega | (simp only [zz] at *; omega))))
    have h7 : Bm.size (S.take k) ≤ 7776 := by
      have := size_le (S.take k) 5 (by simp; omega)
      omega
    by_cases hlt : k < S.length
    · obtain ⟨tb, toff, rfl, htl⟩ := zsF hA (by omega)
      have ht0 := zsI hA hlt
      have hs := h6 S[k] (List.getElem_mem hlt)
      have HS := hide (size_snoc S k hlt)
      have h8 : Bm.popc S[k] ≤ 6 := by
        have := List.countP_le_length (p := fun i => S[k].testBit i) (l := List.range 6)
        simpa [Bm.popc] using this
      generalize S[k] = x at *
      have HO := hide (fun w' => ones_any x w' hs)
      generalize Bm.popc x = p at *
      generalize Bm.size (S.take k) = q at *
      have q0 : (0 : Int) ≤ (q : Int) := by omega
      have q1 : (q : Int) ≤ 7776 := by omega
      have p0 : (0 : Int) ≤ (p : Int) := by omega
      have p1 : (p : Int) ≤ 6 := by omega
      have x0 : (0 : Int) ≤ (x : Int) := by omega
      have x1 : (x : Int) ≤ 63 := by omega
      have HM := hide (show (0 : Int) ≤ (q : Int) * (p : Int) ∧ (q : Int) * (p : Int) ≤ 46656 from ⟨Int.mul_nonneg q0 p0, by have := Int.mul_le_mul q1 p1 p0 (by omega); omega⟩)
      go_wp2_with (go_at_call 63; refine (HO.out _).mono ?_; rintro e w1 ⟨rfl, hb1⟩; replace hb1 := ex_below hb1; have hz1 := hb1.size; (try simp only [zz] at hz1); have hlt1 : ∀ b, b < w.heap.size → b < w1.heap.size := fun b hb => (by (first | omega | (simp only [zz] at *; omega))); have hc1 : ∀ b o, b < w.heap.size → w1.cell? ⟨b, o, none⟩ = w.cell? ⟨b, o, none⟩ := old_cell (by (repeat (first | exact Below.refl _ _ | assumption | refine below_drewN ?_ _ | refine below_drew ?_ | refine below_gr ?_ ?_ _ | refine below_alloc ?_ ?_ _ | refine Below.setCell ?_ ?_ _ | refine below_step ?_ (by assumption) ?_ | omega | (simp only [zz] at *; omega)))))
      exact ⟨⟨k + 1, by omega, by go_num, v_int (by rw [HS.out, IntWalk.wrap64_in _ (by have := HM.out; omega)]; simp), grew_of (by (repeat (first | exact Below.refl _ _ | assumption | refine below_drewN ?_ _ | refine below_drew ?_ | refine below_gr ?_ ?_ _ | refine below_alloc ?_ ?_ _ | refine Below.setCell ?_ ?_ _ | refine below_step ?_ (by assumption) ?_ | omega | (simp only [zz] at *; omega))))⟩, by simp [intOf]; omega⟩
    · have hkl : k = S.length := by omega
      have HV := hide (show S.take k = S by rw [hkl, List.take_length])
      go_wp2
      go_ret
      exact gives_of (v_int (by rw [HV.out])) (by (repeat (first | exact Below.refl _ _ | assumption | refine below_drewN ?_ _ | refine below_drew ?_ | refine below_gr ?_ ?_ _ | refine below_alloc ?_ ?_ _ | refine Below.setCell ?_ ?_ _ | refine below_step ?_ (by assumption) ?_ | omega | (simp only [zz] at *; omega))))
end Go.Proofs.Ytlbkaeoagdbemaa
namespace Go.Proofs.Ytlbkaeoagdbemaa
open Go.RowKit
theorem bAnd : ∀ a, a < 64 → ∀ b, b < 64 → bits BinOp.and .i64 ((a : Nat) : Int) ((b : Nat) : Int) = ((a &&& b : Nat) : Int) := by decide +kernel
def meetP (p : Nat × Nat) : Bool := !decide (p.1 &&& p.2 = 0)
def meetB (a b : List Nat) : Bool := (a.zip b).all meetP
def hasP (p : Nat × Nat) : Bool := decide (p.1 &&& p.2 = p.2)
def hasB (a b : List Nat) : Bool := (a.zip b).all hasP
theorem f_tests_meet (x y : Nat) (v : Bool) (h : meetP (x, y) = v) : (((x &&& y : Nat) : Int) == 0) = !v := by
  subst h
  unfold meetP
  rw [Bool.eq_iff_iff]; simp
theorem f_tests_has (x y : Nat) (v : Bool) (h : hasP (x, y) = v) : (((x &&& y : Nat) : Int) == (y : Int)) = v := by
  subst h
  unfold hasP
  rw [Bool.eq_iff_iff]; simp; omega
set_option maxRecDepth 100000 in
set_option maxHeartbeats 1000000 in
theorem meet_any (X : Option Addr) (a : List Nat) (xc : Nat) (Y : Option Addr) (b : List Nat) (yc : Nat) (w : World) (hX : I64 w X (zs a)) (hY : I64 w Y (zs b)) (hab : a.length ≤ b.length) (hl : b.length ≤ 1000000) (ha : ∀ s, s ∈ a → s < 64) (hb6 : ∀ s, s ∈ b → s < 64) :
    Calls Try.prog 68 #[.slice X a.length xc, .slice Y b.length yc] w (Gives w (.bool (meetB a b))) := by
  have HX := hide (show meetB a b = (a.zip b).all meetP from rfl)
  have hzl := hide (show (a.zip b).length = a.length by simp; omega)
  have hl1 : (a.length : Int) ≤ 1000000 := by omega
  have hl2 : (b.length : Int) ≤ 1000000 := by omega
  go_enter Try.func68, Try.ntmps68
  go_wp2
  go_loopw [5, 8] (fun _ i wr => ∃ k : Nat, k ≤ a.length ∧ i = .int .i64 k ∧ ((a.zip b).take k).all meetP = true ∧ Grew w wr) (fun _ i _ => a.length - (intOf i).toNat)
  case atStart => exact ⟨0, Nat.zero_le _, rfl, rfl, grew_refl _⟩
  case round =>
    obtain ⟨k, hk, rfl, hall, hb⟩ := hrel
    replace hb := hb.below
    have hzr := hb.size
    (try simp only [zz] at hzr)
    have hltr : ∀ b, b < w.heap.size → b < wr.heap.size := fun b hb => (by (first | omega | (simp only [zz] at *; omega)))
    have hcr : ∀ b o, b < w.heap.size → wr.cell? ⟨b, o, none⟩ = w.cell? ⟨b, o, none⟩ := old_cell (by (repeat (first | exact Below.refl _ _ | assumption | refine below_drewN ?_ _ | refine below_drew ?_ | refine below_gr ?_ ?_ _ | refine below_alloc ?_ ?_ _ | refine Below.setCell ?_ ?_ _ | refine below_step ?_ (by assumption) ?_ | omega | (simp only [zz] at *; omega))))
    by_cases hlt : k < a.length
    · have hltb : k < b.length := by omega
      obtain ⟨ab, ao, rfl, hal⟩ := zsF hX (by omega)
      have hx0 := zsI hX hlt
      obtain ⟨bb, bo, rfl, hbl⟩ := zsF hY (by omega)
      have hy0 := zsI hY hltb
      have HBad := hide (all_bad (f := meetP) (show k < (a.zip b).length by rw [hzl.out]; exact hlt))
      have HG := hide (all_good (f := meetP) (show k < (a.zip b).length by rw [hzl.out]; exact hlt) hall)
      have hz0 : (a.zip b)[k]'(by rw [hzl.out]; exact hlt) = (a[k], b[k]) := by simp
      rw [hz0] at HBad HG
      have HAND := hide (bAnd a[k] (ha _ (List.getElem_mem hlt)) b[k] (hb6 _ (List.getElem_mem hltb)))
      have hx6 := ha a[k] (List.getElem_mem hlt)
      have hy6 := hb6 b[k] (List.getElem_mem hltb)
      clear hz0 hall
      generalize a[k] = x at *
      generalize b[k] = y at *
      have hf : meetP (x, y) = true ∨ meetP (x, y) = false := by cases meetP (x, y) <;> simp
      rcases hf with hf | hf
      all_goals
        first | replace HG := hide (HG.out hf) | replace HBad := hide (HBad.out hf)
        have ht := hide (f_tests_meet x y _ hf)
        clear hf
        have hand := HAND.out
        obtain ⟨z, hz⟩ : ∃ z : Nat, x &&& y = z := ⟨_, rfl⟩
        rw [hz] at hand ht
        have ht2 := ht.out
        clear hz HAND
        go_wp2
        refine wp_region_grow (by kernel_rfl) (by kernel_rfl) ?_
        repeat (go_big_quiet_step (fail))
        refine wpQuiet_nil ?_
        intro w2 hb2
        replace hb2 := ex_below hb2
        have hz2 := hb2.size
        (try simp only [zz] at hz2)
        have hlt2 : ∀ b, b < w.heap.size → b < w2.heap.size := fun b hb => (by (first | omega | (simp only [zz] at *; omega)))
        have hc2 : ∀ b o, b < w.heap.size → w2.cell? ⟨b, o, none⟩ = w.cell? ⟨b, o, none⟩ := old_cell (by (repeat (first | exact Below.refl _ _ | assumption | refine below_drewN ?_ _ | refine below_drew ?_ | refine below_gr ?_ ?_ _ | refine below_alloc ?_ ?_ _ | refine Below.setCell ?_ ?_ _ | refine below_step ?_ (by assumption) ?_ | omega | (simp only [zz] at *; omega))))
        go_wp2
      · go_roundw
        case measure => simp [intOf]; omega
        exact ⟨k + 1, by omega, by go_num, HG.out, grew_of (by (repeat (first | exact Below.refl _ _ | assumption | refine below_drewN ?_ _ | refine below_drew ?_ | refine below_gr ?_ ?_ _ | refine below_alloc ?_ ?_ _ | refine Below.setCell ?_ ?_ _ | refine below_step ?_ (by assumption) ?_ | omega | (simp only [zz] at *; omega))))⟩
      · go_ret
        exact gives_of (v_bool (by rw [HX.out, HBad.out])) (by (repeat (first | exact Below.refl _ _ | assumption | refine below_drewN ?_ _ | refine below_drew ?_ | refine below_gr ?_ ?_ _ | refine below_alloc ?_ ?_ _ | refine Below.setCell ?_ ?_ _ | refine below_step ?_ (by assumption) ?_ | omega | (simp only [zz] at *; omega))))
    · have hkl : k = a.length := by omega
      have hv := hide (show meetB a b = true by rw [HX.out]; rw [hkl, ← hzl.out, List.take_length] at hall; exact hall)
      clear hall
      go_wp2
      go_ret
      exact gives_of (v_bool hv.out.symm) (by (repeat (first | exact Below.refl _ _ | assumption | refine below_drewN ?_ _ | refine below_drew ?_ | refine below_gr ?_ ?_ _ | refine below_alloc ?_ ?_ _ | refine Below.setCell ?_ ?_ _ | refine below_step ?_ (by assumption) ?_ | omega | (simp only [zz] at *; omega))))
set_option maxRecDepth 100000 in
set_option maxHeartbeats 1000000 in
theorem has_any (X : Option Addr) (a : List Nat) (xc : Nat) (Y : Option Addr) (b : List Nat) (yc : Nat) (w : World) (hX : I64 w X (zs a)) (hY : I64 w Y (zs b)) (hab : a.length ≤ b.length) (hl : b.length ≤ 1000000) (ha : ∀ s, s ∈ a → s < 64) (hb6 : ∀ s, s ∈ b → s < 64) :
    Calls Try.prog 70 #[.slice X a.length xc, .slice Y b.length yc] w (Gives w (.bool (hasB a b))) := by
  have HX := hide (show hasB a b = (a.zip b).all hasP from rfl)
  have hzl := hide (show (a.zip b).length = a.length by simp; omega)
  have hl1 : (a.length : Int) ≤ 1000000 := by omega
  have hl2 : (b.length : Int) ≤ 1000000 := by omega
  go_enter Try.func70, Try.ntmps70
  go_wp2
  go_loopw [5, 8] (fun _ i wr => ∃ k : Nat, k ≤ a.length ∧ i = .int .i64 k ∧ ((a.zip b).take k).all hasP = true ∧ Grew w wr) (fun _ i _ => a.length - (intOf i).toNat)
  case atStart => exact ⟨0, Nat.zero_le _, rfl, rfl, grew_refl _⟩
  case round =>
    obtain ⟨k, hk, rfl, hall, hb⟩ := hrel
    replace hb := hb.below
    have hzr := hb.size
    (try simp only [zz] at hzr)
    have hltr : ∀ b, b < w.heap.size → b < wr.heap.size := fun b hb => (by (first | omega | (simp only [zz] at *; omega)))
    have hcr : ∀ b o, b < w.heap.size → wr.cell? ⟨b, o, none⟩ = w.cell? ⟨b, o, none⟩ := old_cell (by (repeat (first | exact Below.refl _ _ | assumption | refine below_drewN ?_ _ | refine below_drew ?_ | refine below_gr ?_ ?_ _ | refine below_alloc ?_ ?_ _ | refine Below.setCell ?_ ?_ _ | refine below_step ?_ (by assumption) ?_ | omega | (simp only [zz] at *; omega))))
    by_cases hlt : k < a.length
    · have hltb : k < b.length := by omega
      obtain ⟨ab, ao, rfl, hal⟩ := zsF hX (by omega)
      have hx0 := zsI hX hlt
      obtain ⟨bb, bo, rfl, hbl⟩ := zsF hY (by omega)
      have hy0 := zsI hY hltb
      have HBad := hide (all_bad (f := hasP) (show k < (a.zip b).length by rw [hzl.out]; exact hlt))
      have HG := hide (all_good (f := hasP) (show k < (a.zip b).length by rw [hzl.out]; exact hlt) hall)
      have hz0 : (a.zip b)[k]'(by rw [hzl.out]; exact hlt) = (a[k], b[k]) := by simp
      rw [hz0] at HBad HG
      have HAND := hide (bAnd a[k] (ha _ (List.getElem_mem hlt)) b[k] (hb6 _ (List.getElem_mem hltb)))
      have hx6 := ha a[k] (List.getElem_mem hlt)
      have hy6 := hb6 b[k] (List.getElem_mem hltb)
      clear hz0 hall
      generalize a[k] = x at *
      generalize b[k] = y at *
      have hf : hasP (x, y) = true ∨ hasP (x, y) = false := by cases hasP (x, y) <;> simp
      rcases hf with hf | hf
      all_goals
        first | replace HG := hide (HG.out hf) | replace HBad := hide (HBad.out hf)
        have ht := hide (f_tests_has x y _ hf)
        clear hf
        have hand := HAND.out
        obtain ⟨z, hz⟩ : ∃ z : Nat, x &&& y = z := ⟨_, rfl⟩
        rw [hz] at hand ht
        have ht2 := ht.out
        clear hz HAND
        go_wp2
        refine wp_region_grow (by kernel_rfl) (by kernel_rfl) ?_
        repeat (go_big_quiet_step (fail))
        refine wpQuiet_nil ?_
        intro w2 hb2
        replace hb2 := ex_below hb2
        have hz2 := hb2.size
        (try simp only [zz] at hz2)
        have hlt2 : ∀ b, b < w.heap.size → b < w2.heap.size := fun b hb => (by (first | omega | (simp only [zz] at *; omega)))
        have hc2 : ∀ b o, b < w.heap.size → w2.cell? ⟨b, o, none⟩ = w.cell? ⟨b, o, none⟩ := old_cell (by (repeat (first | exact Below.refl _ _ | assumption | refine below_drewN ?_ _ | refine below_drew ?_ | refine below_gr ?_ ?_ _ | refine below_alloc ?_ ?_ _ | refine Below.setCell ?_ ?_ _ | refine below_step ?_ (by assumption) ?_ | omega | (simp only [zz] at *; omega))))
        go_wp2
      · go_roundw
        case measure => simp [intOf]; omega
        exact ⟨k + 1, by omega, by go_num, HG.out, grew_of (by (repeat (first | exact Below.refl _ _ | assumption | refine below_drewN ?_ _ | refine below_drew ?_ | refine below_gr ?_ ?_ _ | refine below_alloc ?_ ?_ _ | refine Below.setCell ?_ ?_ _ | refine below_step ?_ (by assumption) ?_ | omega | (simp only [zz] at *; omega))))⟩
      · go_ret
        exact gives_of (v_bool (by rw [HX.out, HBad.out])) (by (repeat (first | exact Below.refl _ _ | assumption | refine below_drewN ?_ _ | refine below_drew ?_ | refine below_gr ?_ ?_ _ | refine below_alloc ?_ ?_ _ | refine Below.setCell ?_ ?_ _ | refine below_step ?_ (by assumption) ?_ | omega | (simp only [zz] at *; omega))))
    · have hkl : k = a.length := by omega
      have hv := hide (show hasB a b = true by rw [HX.out]; rw [hkl, ← hzl.out, List.take_length] at hall; exact hall)
      clear hall
      go_wp2
      go_ret
      exact gives_of (v_bool hv.out.symm) (by (repeat (first | exact Below.refl _ _ | assumption | refine below_drewN ?_ _ | refine below_drew ?_ | refine below_gr ?_ ?_ _ | refine below_alloc ?_ ?_ _ | refine Below.setCell ?_ ?_ _ | refine below_step ?_ (by assumption) ?_ | omega | (simp only [zz] at *; omega))))

end Go.Proofs.Ytlbkaeoagdbemaa
