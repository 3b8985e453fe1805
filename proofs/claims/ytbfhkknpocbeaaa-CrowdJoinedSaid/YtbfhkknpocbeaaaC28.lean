/- Proved here: contracts and laws of C28, a part of the proofs about the crowd laws: what some functions of the program and of the reference compute, and plain facts about it. Conditions: those that each theorem names, no others. -/
import Derived.Test.YtbfhkknpocbeaaaC27
import Derived.WalkKit
import Derived.WalkSpells
import Derived.WalkLawsBesides
import Derived.Below
import Derived.Deep.QuietTactic
import Derived.BigQuiet
import Derived.Deep.Light
import Derived.Deep.MidRow
import Derived.Deep.CutBlock
import Derived.Deep.DeepCutAuto
import Derived.Lib.SliceRun
set_option linter.unusedSimpArgs false
set_option linter.unusedVariables false
namespace Go.Proofs.Ytbfhkknpocbeaaa
open Go.RowKit
/-- how often each number from 0 to 60 comes -/
def cntL (l : List Int) : List Int := (List.range 61).map (fun (j : Nat) => ((l.filter (fun x => decide (x = (j : Int)))).length : Int))
theorem cntL_len (l : List Int) : (cntL l).length = 61 := by simp [cntL]
theorem cntL_at (l : List Int) (j : Nat) (hj : j < 61) : atI (cntL l) j = ((l.filter (fun x => decide (x = (j : Int)))).length : Int) := by
  simp [atI, cntL, List.getD_eq_getElem?_getD, hj]
theorem ext_atI {xs ys : List Int} (hl : xs.length = ys.length) (h : ∀ j, j < xs.length → atI xs j = atI ys j) : xs = ys := by
  apply List.ext_getElem hl
  intro j h1 h2
  have := h j h1
  rwa [atI_at h1, atI_at h2] at this
theorem cntL_snoc (l : List Int) (y : Int) (h0 : 0 ≤ y) (h1 : y ≤ 60) : cntL (l ++ [y]) = (cntL l).set y.toNat (atI (cntL l) y.toNat + 1) := by
  refine ext_atI (by simp [cntL_len]) (fun j hj => ?_)
  rw [cntL_len] at hj
  rw [atI_set _ _ _ (by rw [cntL_len]; omega), cntL_at _ _ hj, List.filter_append]
  by_cases e : j = y.toNat
  · subst e
    rw [if_pos rfl, cntL_at _ _ hj]
    have : y = ((y.toNat : Nat) : Int) := by omega
    simp [List.filter_cons, ← this]
  · rw [if_neg e, cntL_at _ _ hj]
    have : ¬ y = (j : Int) := by omega
    simp [List.filter_cons, this]
/-- the block of the counts -/
def OwnA (W : World) (B : Nat) (xs : List Int) : Prop := W.heap[B]? = some (.cells (xs.map (Value.int .i64)).toArray 79 (0, 0))
theorem OwnA.lt {W : World} {B : Nat} {xs : List Int} (h : OwnA W B xs) : B < W.heap.size := (Array.getElem?_eq_some_iff.1 (show W.heap[B]? = _ from h)).1
theorem OwnA.cell {W : World} {B : Nat} {xs : List Int} (h : OwnA W B xs) {k : Nat} (hk : k < xs.length) : W.cell? ⟨B, k, none⟩ = some (.int .i64 (atI xs k)) := by
  simp [World.cell?, show W.heap[B]? = _ from h, atI_lt xs k hk]
theorem OwnA.frozen {W : World} {B : Nat} {xs : List Int} (h : OwnA W B xs) (k : Nat) : W.frozen? ⟨B, k, none⟩ = false := by simp [World.frozen?, show W.heap[B]? = _ from h]
theorem OwnA.below {W W' : World} {B : Nat} {xs : List Int} (h : OwnA W B xs) (hb : Below W.heap.size W W') : OwnA W' B xs := (hb.block B h.lt).trans h
theorem OwnA.alloc {W : World} {B : Nat} {xs : List Int} (h : OwnA W B xs) (o : Obj) : OwnA (W.alloc o) B xs := (Below.heap_alloc W o B h.lt).trans h
theorem OwnA.set {W : World} {B : Nat} {xs : List Int} (h : OwnA W B xs) (k : Nat) (v : Int) : OwnA (W.setCell ⟨B, k, none⟩ (.int .i64 v)) B (xs.set k v) := by
  refine (set_obj h k _).trans ?_
  rw [List.map_set]
  congr 2
  apply Array.ext'
  simp
theorem OwnA.i64 {W : World} {B : Nat} {xs : List Int} (h : OwnA W B xs) : I64 W (some ⟨B, 0, none⟩) xs := by
  intro k x hk
  have hl := (List.getElem?_eq_some_iff.1 hk).1
  have e : atI xs k = x := by have := atI_lt xs k hl; rw [hk] at this; simpa using this.symm
  have := h.cell hl
  rw [e] at this
  have hlt := h.lt
  exact ⟨B, 0, rfl, by omega, by omega, by simpa using this⟩
def inW (q : Int × P3) : Bool := withinB (windowP q.2).1 (windowP q.2).2 [q.1]
theorem inW_iff (x : Int) (p : P3) : inW (x, p) = true ↔ (windowP p).1 ≤ x ∧ x ≤ (windowP p).2 := by simp [inW, withinB, outB]
theorem window_bounds {m : Int} {ps : List P3} (h0 : checkHall m ps = 0) {p : P3} (hp : p ∈ ps) : 0 ≤ (windowP p).1 ∧ (windowP p).2 ≤ 60 := by
  obtain ⟨v1, v2, v3, v4⟩ := check_val h0
  obtain ⟨a1, a2, a3, a4, a5⟩ := v4 p hp
  unfold windowP
  by_cases h : p.un < p.lo
  · rw [if_pos h]; simp
  · rw [if_neg h]; unfold lastP; simp only; omega
theorem part3 (xs : List Int) (k : Nat) (hk : k < xs.length) (w : World) : (part 3 (xs.map (Value.int .i64)).toArray k).run Try.prog w = .ok (.int .i64 (atI xs k)) w :=
  run_part_plain w (by kernel_rfl) (by rw [List.getElem?_toArray, List.getElem?_map, atI_lt xs k hk]; rfl)
theorem eqItems61 (d : Nat) (xs ys : List Int) (w : World) : ∀ is : List Nat, (∀ i ∈ is, i < xs.length ∧ i < ys.length) →
    (Op.eqItems (d + 1) 3 1 (xs.map (Value.int .i64)).toArray (ys.map (Value.int .i64)).toArray is).run Try.prog w = .ok (is.all (fun i => atI xs i == atI ys i)) w
  | [], _ => by simp [Op.eqItems]
  | i :: is, h => by
    obtain ⟨h1, h2⟩ := h i (by simp)
    have ih := eqItems61 d xs ys w is (fun j hj => h j (by simp [hj]))
    simp only [Op.eqItems, Nat.mul_one, Sem.run_bind, part3 xs i h1 w, part3 ys i h2 w, Result.andThen_ok, run_equalIn_int w d 3 .i64 .i64 (atI xs i) (atI ys i) Try.underlying3, List.all_cons]
    cases e : (atI xs i == atI ys i)
    · simp
    · simpa using ih
set_option maxRecDepth 100000 in
theorem eql61 (xs ys : List Int) (w : World) (hx : xs.length = 61) (hy : ys.length = 61) :
    (Op.equalIn 10000 79 (.agg (xs.map (Value.int .i64)).toArray) (.agg (ys.map (Value.int .i64)).toArray)).run Try.prog w = .ok (decide (xs = ys)) w := by
  rw [run_equalIn_array w 9999 _ _ Try.underlying79 (i := (Try.prog.info? 3).get!) (by kernel_rfl)]
  have hc : Try.prog.cellsOf 3 = 1 := by kernel_rfl
  rw [hc, eqItems61 9998 xs ys w _ (fun i hi => by rw [List.mem_range] at hi; omega)]
  congr 1
  rw [Bool.eq_iff_iff, List.all_eq_true, decide_eq_true_eq]
  constructor
  · intro h
    exact ext_atI (by omega) (fun j hj => by simpa using h j (List.mem_range.2 (by omega)))
  · rintro rfl i _
    simp
theorem foldl_max_le (l : List Int) : ∀ (a k : Int), l.foldl max a ≤ k ↔ a ≤ k ∧ ∀ x ∈ l, x ≤ k := by
  induction l with
  | nil => simp
  | cons x l ih =>
    intro a k
    rw [List.foldl_cons, ih, Int.max_le]
    simp [and_assoc]
theorem maxL_le {l : List Int} (h : l ≠ []) (k : Int) : maxL l ≤ k ↔ ∀ x ∈ l, x ≤ k := by
  cases l with
  | nil => exact absurd rfl h
  | cons x l => simp [maxL, foldl_max_le]
theorem mem_atI {l : List Int} {x : Int} : x ∈ l ↔ ∃ j, j < l.length ∧ atI l j = x := by
  rw [List.mem_iff_getElem]
  constructor
  · rintro ⟨j, hj, e⟩; exact ⟨j, hj, by rw [atI_at hj, e]⟩
  · rintro ⟨j, hj, e⟩; exact ⟨j, hj, by rw [← atI_at hj, e]⟩
/-- no minute from 1 on has too many -/
def fitB (k : Int) (ts : List Int) : Bool := (List.range 61).all (fun j => decide (j = 0) || decide (atI (cntL ts) j ≤ k))
theorem fit_le (k : Int) (ts : List Int) (hk : 0 ≤ k) : fitB k ts = true ↔ ∀ x ∈ (cntL ts).set 0 0, x ≤ k := by
  have hl : ((cntL ts).set 0 0).length = 61 := by rw [List.length_set, cntL_len]
  rw [fitB, List.all_eq_true]
  constructor
  · intro h x hx
    obtain ⟨j, hj, rfl⟩ := mem_atI.1 hx
    rw [hl] at hj
    rw [atI_set _ _ _ (by rw [cntL_len]; omega)]
    have := h j (List.mem_range.2 hj)
    by_cases e : j = 0
    · rw [if_pos e]; exact hk
    · rw [if_neg e]; simpa [e] using this
  · intro h j hj
    rw [List.mem_range] at hj
    by_cases e : j = 0
    · simp [e]
    · have := h (atI ((cntL ts).set 0 0) j) (mem_atI.2 ⟨j, by omega, rfl⟩)
      rw [atI_set _ _ _ (by rw [cntL_len]; omega), if_neg e] at this
      simp [e, this]
theorem fit_max (k : Int) (ts : List Int) (hk : 0 ≤ k) : fitB k ts = decide (maxL ((cntL ts).set 0 0) ≤ k) := by
  rw [Bool.eq_iff_iff, fit_le k ts hk, decide_eq_true_eq, maxL_le (fun h => by have : ((cntL ts).set 0 0).length = 61 := (by rw [List.length_set, cntL_len]); rw [h] at this; exact absurd this (by decide))]
theorem fit_zero (k : Int) (ts : List Int) (hk : 0 ≤ k) (h : (cntL ts).set 0 0 = List.replicate 61 0) : fitB k ts = true := by
  rw [fit_le k ts hk, h]
  intro x hx
  rw [List.eq_of_mem_replicate hx]; exact hk
theorem zero3 (w : World) : (zeroValue 3).run Try.prog w = .ok (.int .i64 0) w := by kernel_rfl
set_option maxRecDepth 100000 in
set_option maxHeartbeats 1000000 in
theorem pcheck_ok (k : Int) (T : Option Addr) (ts : List Int) (tc : Nat) (m : Int) (A : Option Addr) (ps : List P3) (c : Nat) (w : World) (hA : Ppl w A ps) (hl : ps.length ≤ 100) (hT : I64 w T ts) (h0 : checkHall m ps = 0) (hk : 0 ≤ k) (hk2 : k ≤ 30) (hlen : ts.length = ps.length) :
    Calls Try.prog 22 #[.agg #[.int .i64 m, .slice A ps.length c], .int .i64 k, .slice T ps.length tc] w (Gives w (.int .i64 (if (ts.zip ps).all inW = true then (if fitB k ts = true then 0 else 23) else 16))) := by
  obtain ⟨R, hR⟩ : ∃ R : Int, R = if (ts.zip ps).all inW = true then (if fitB k ts = true then 0 else 23) else 16 := ⟨_, rfl⟩
  rw [← hR]
  have HR := hide hR
  clear hR
  go_enter Try.func22, Try.ntmps22
  go_wp2_with (go_at_call 48; refine (staffed_ok k m A ps c _ (hA.ext (by (repeat (first | exact Below.refl _ _ | assumption | (refine below_gr ?_ (by (first | omega | (simp only [size_grow, World.size_alloc, size_drewN, size_drew, size_setCell] at *; omega))) _) | (refine below_alloc ?_ (by (first | omega | (simp only [size_grow, World.size_alloc, size_drewN, size_drew, size_setCell] at *; omega))) _) | (refine Below.setCell ?_ (by (first | omega | (simp only [size_grow, World.size_alloc, size_drewN, size_drew, size_setCell] at *; omega))) _) | refine below_drewN ?_ _ | refine below_drew ?_ | (refine below_step ?_ (by assumption) (by (first | omega | (simp only [size_grow, World.size_alloc, size_drewN, size_drew, size_setCell] at *; omega)))))))) hl h0 hk hk2).mono ?_; rintro e w1 ⟨fb, rfl, hb1, hF1⟩; replace hb1 := ex_below hb1; have hz1 := hb1.size; (try simp only [size_grow, World.size_alloc, size_drewN, size_drew, size_setCell] at hz1); have hs1 : w.heap.size < w1.heap.size := (by (first | omega | (simp only [size_grow, World.size_alloc, size_drewN, size_drew, size_setCell] at *; omega))); have ho1 := own_cell hb1 (b := w.heap.size) (by (first | omega | (simp only [size_grow, World.size_alloc, size_drewN, size_drew, size_setCell] at *; omega))); have hq1 := own_frozen hb1 (b := w.heap.size) (by (first | omega | (simp only [size_grow, World.size_alloc, size_drewN, size_drew, size_setCell] at *; omega))); have hlt1 : ∀ b, b < w.heap.size → b < w1.heap.size := fun b hb => (by (first | omega | (simp only [size_grow, World.size_alloc, size_drewN, size_drew, size_setCell] at *; omega))); have hc1 : ∀ b o, b < w.heap.size → w1.cell? ⟨b, o, none⟩ = w.cell? ⟨b, o, none⟩ := old_cell (by (repeat (first | exact Below.refl _ _ | assumption | (refine below_gr ?_ (by (first | omega | (simp only [size_grow, World.size_alloc, size_drewN, size_drew, size_setCell] at *; omega))) _) | (refine below_alloc ?_ (by (first | omega | (simp only [size_grow, World.size_alloc, size_drewN, size_drew, size_setCell] at *; omega))) _) | (refine Below.setCell ?_ (by (first | omega | (simp only [size_grow, World.size_alloc, size_drewN, size_drew, size_setCell] at *; omega))) _) | refine below_drewN ?_ _ | refine below_drew ?_ | (refine below_step ?_ (by assumption) (by (first | omega | (simp only [size_grow, World.size_alloc, size_drewN, size_drew, size_setCell] at *; omega))))))))
  have hL : (ts.zip ps).length = ps.length := by simp; omega
  go_loopw [33] (fun i wr => ∃ j : Nat, j ≤ ps.length ∧ i = .int .i64 j ∧ ((ts.zip ps).take j).all inW = true ∧ Below w1.heap.size w1 wr ∧ OwnA wr w1.heap.size (cntL (ts.take j))) (fun i _ => ps.length - (intOf i).toNat)
  case atStart =>
    exact ⟨0, Nat.zero_le _, rfl, rfl, (Below.refl _ _).alloc (Nat.le_refl _) _, World.alloc_heap_new w1 _⟩
  case round =>
    obtain ⟨j, hj, rfl, hall, hbx, hO⟩ := hrel
    have hb9 := hbx.size
    have hOl := hO.lt
    have hb : Below (w.heap.size + 1) w1 wr := hbx.mono (by omega)
    have hbw : Below w.heap.size w wr := by (repeat (first | exact Below.refl _ _ | assumption | (refine below_gr ?_ (by (first | omega | (simp only [size_grow, World.size_alloc, size_drewN, size_drew, size_setCell] at *; omega))) _) | (refine below_alloc ?_ (by (first | omega | (simp only [size_grow, World.size_alloc, size_drewN, size_drew, size_setCell] at *; omega))) _) | (refine Below.setCell ?_ (by (first | omega | (simp only [size_grow, World.size_alloc, size_drewN, size_drew, size_setCell] at *; omega))) _) | refine below_drewN ?_ _ | refine below_drew ?_ | (refine below_step ?_ (by assumption) (by (first | omega | (simp only [size_grow, World.size_alloc, size_drewN, size_drew, size_setCell] at *; omega))))))
    have hcr : ∀ b o, b < w.heap.size → wr.cell? ⟨b, o, none⟩ = w.cell? ⟨b, o, none⟩ := old_cell hbw
    by_cases hlt : j < ps.length
    · have hltz : j < (ts.zip ps).length := by omega
      obtain ⟨tb, toff, rfl, htl, htl2, ht0⟩ := hT j ts[j] (by simp [hlen, hlt])
      have HB := hide (all_bad (f := inW) hltz)
      have HG := hide (all_good (f := inW) hltz hall)
      have hz0 : (ts.zip ps)[j] = (ts[j], ps[j]) := by simp
      rw [hz0] at HB HG
      have hwb := window_bounds h0 (List.getElem_mem hlt)
      have hiw := inW_iff ts[j] ps[j]
      have hsn := take_snoc ts j (by omega)
      have HSN := hide hsn
      have HW := hide (show inW (ts[j], ps[j]) = withinB (windowP ps[j]).1 (windowP ps[j]).2 [ts[j]] from rfl)
      clear hz0 hall hsn
      have hwin := window_any j m A ps c fb
      have HWIN := hide (fun W a b => hwin W a hl b hlt)
      clear hwin
      generalize windowP ps[j] = q at *
      generalize ps[j] = p at *
      generalize ts[j] = x at *
      obtain ⟨lo, hi⟩ := q
      simp only at hwb hiw HW HWIN
      by_cases hin : inW (x, p) = true
      · obtain ⟨X, rfl⟩ : ∃ X : Nat, x = (X : Int) := ⟨x.toNat, by have := hiw.1 hin; omega⟩
        have hX : X ≤ 60 := by have := hiw.1 hin; omega
        have hwt : withinB lo hi [(X : Int)] = true := by rw [← HW.out]; exact hin
        have hXl : X < (cntL (ts.take j)).length := by rw [cntL_len]; omega
        have hXe := hide (rfl : atI (cntL (ts.take j)) X = atI (cntL (ts.take j)) X)
        have hcb : 0 ≤ atI (cntL (ts.take j)) X ∧ atI (cntL (ts.take j)) X ≤ 100 := by
          rw [cntL_at _ _ (by omega)]
          have := List.length_filter_le (fun x => decide (x = (X : Int))) (ts.take j)
          rw [List.length_take] at this
          omega
        have HCS := hide (cntL_snoc (ts.take j) (X : Int) (by omega) (by omega))
        rw [← HSN.out, Int.toNat_natCast] at HCS
        generalize cntL (ts.take j) = cl at *
        generalize hcx : atI cl X = cx at *
        have HCX := hide hcx
        clear hcx hXe
        go_wp2_with (first
          | (go_at_call 56; refine (HWIN.out _ (hA.ext (by (repeat (first | exact Below.refl _ _ | assumption | (refine below_gr ?_ (by (first | omega | (simp only [size_grow, World.size_alloc, size_drewN, size_drew, size_setCell] at *; omega))) _) | (refine below_alloc ?_ (by (first | omega | (simp only [size_grow, World.size_alloc, size_drewN, size_drew, size_setCell] at *; omega))) _) | (refine Below.setCell ?_ (by (first | omega | (simp only [size_grow, World.size_alloc, size_drewN, size_drew, size_setCell] at *; omega))) _) | refine below_drewN ?_ _ | refine below_drew ?_ | (refine below_step ?_ (by assumption) (by (first | omega | (simp only [size_grow, World.size_alloc, size_drewN, size_drew, size_setCell] at *; omega)))))))) (hF1.ext (by (repeat (first | exact Below.refl _ _ | assumption | (refine below_gr ?_ (by (first | omega | (simp only [size_grow, World.size_alloc, size_drewN, size_drew, size_setCell] at *; omega))) _) | (refine below_alloc ?_ (by (first | omega | (simp only [size_grow, World.size_alloc, size_drewN, size_drew, size_setCell] at *; omega))) _) | (refine Below.setCell ?_ (by (first | omega | (simp only [size_grow, World.size_alloc, size_drewN, size_drew, size_setCell] at *; omega))) _) | refine below_drewN ?_ _ | refine below_drew ?_ | (refine below_step ?_ (by assumption) (by (first | omega | (simp only [size_grow, World.size_alloc, size_drewN, size_drew, size_setCell] at *; omega))))))))).mono ?_; rintro e w2 ⟨rfl, hb2⟩; replace hb2 := ex_below hb2; have hz2 := hb2.size; (try simp only [size_grow, World.size_alloc, size_drewN, size_drew, size_setCell] at hz2); have hlt2 : ∀ b, b < w.heap.size → b < w2.heap.size := fun b hb => (by (first | omega | (simp only [size_grow, World.size_alloc, size_drewN, size_drew, size_setCell] at *; omega))); have hc2 : ∀ b o, b < w.heap.size → w2.cell? ⟨b, o, none⟩ = w.cell? ⟨b, o, none⟩ := old_cell (by (repeat (first | exact Below.refl _ _ | assumption | (refine below_gr ?_ (by (first | omega | (simp only [size_grow, World.size_alloc, size_drewN, size_drew, size_setCell] at *; omega))) _) | (refine below_alloc ?_ (by (first | omega | (simp only [size_grow, World.size_alloc, size_drewN, size_drew, size_setCell] at *; omega))) _) | (refine Below.setCell ?_ (by (first | omega | (simp only [size_grow, World.size_alloc, size_drewN, size_drew, size_setCell] at *; omega))) _) | refine below_drewN ?_ _ | refine below_drew ?_ | (refine below_step ?_ (by assumption) (by (first | omega | (simp only [size_grow, World.size_alloc, size_drewN, size_drew, size_setCell] at *; omega))))))))
          | (go_at_call 54; refine (within_any lo hi _ [(X : Int)] _ _ (i64_new _ [(X : Int)] _ _ (by simp)) (by simp)).mono ?_; rintro e w3 ⟨rfl, hb1⟩; replace hb1 := ex_below hb1; have hz1 := hb1.size; (try simp only [size_grow, World.size_alloc, size_drewN, size_drew, size_setCell] at hz1); have hlt1 : ∀ b, b < w.heap.size → b < w3.heap.size := fun b hb => (by (first | omega | (simp only [size_grow, World.size_alloc, size_drewN, size_drew, size_setCell] at *; omega))); have hc1 : ∀ b o, b < w.heap.size → w3.cell? ⟨b, o, none⟩ = w.cell? ⟨b, o, none⟩ := old_cell (by (repeat (first | exact Below.refl _ _ | assumption | (refine below_gr ?_ (by (first | omega | (simp only [size_grow, World.size_alloc, size_drewN, size_drew, size_setCell] at *; omega))) _) | (refine below_alloc ?_ (by (first | omega | (simp only [size_grow, World.size_alloc, size_drewN, size_drew, size_setCell] at *; omega))) _) | (refine Below.setCell ?_ (by (first | omega | (simp only [size_grow, World.size_alloc, size_drewN, size_drew, size_setCell] at *; omega))) _) | refine below_drewN ?_ _ | refine below_drew ?_ | (refine below_step ?_ (by assumption) (by (first | omega | (simp only [size_grow, World.size_alloc, size_drewN, size_drew, size_setCell] at *; omega))))))); have hO3 := ((hO.below hb2).alloc (.cells #[.int .i64 (X : Int)] 2)).below hb1; have hc3 := hO3.cell hXl; have hf3 := hO3.frozen X; rw [HCX.out] at hc3))
        exact ⟨⟨j + 1, by omega, by go_num, HG.out hin, by (repeat (first | exact Below.refl _ _ | assumption | (refine below_gr ?_ (by (first | omega | (simp only [size_grow, World.size_alloc, size_drewN, size_drew, size_setCell] at *; omega))) _) | (refine below_alloc ?_ (by (first | omega | (simp only [size_grow, World.size_alloc, size_drewN, size_drew, size_setCell] at *; omega))) _) | (refine Below.setCell ?_ (by (first | omega | (simp only [size_grow, World.size_alloc, size_drewN, size_drew, size_setCell] at *; omega))) _) | refine below_drewN ?_ _ | refine below_drew ?_ | (refine below_step ?_ (by assumption) (by (first | omega | (simp only [size_grow, World.size_alloc, size_drewN, size_drew, size_setCell] at *; omega)))))), by rw [HCS.out]; exact hO3.set X (cx + 1)⟩, by simp [intOf]; omega⟩
      · have hwf : withinB lo hi [x] = false := by rw [← HW.out]; simpa using hin
        have hR16 := hide (show R = 16 by rw [HR.out, HB.out (by simpa using hin)]; rfl)
        go_wp2_with (first
          | (go_at_call 56; refine (HWIN.out _ (hA.ext (by (repeat (first | exact Below.refl _ _ | assumption | (refine below_gr ?_ (by (first | omega | (simp only [size_grow, World.size_alloc, size_drewN, size_drew, size_setCell] at *; omega))) _) | (refine below_alloc ?_ (by (first | omega | (simp only [size_grow, World.size_alloc, size_drewN, size_drew, size_setCell] at *; omega))) _) | (refine Below.setCell ?_ (by (first | omega | (simp only [size_grow, World.size_alloc, size_drewN, size_drew, size_setCell] at *; omega))) _) | refine below_drewN ?_ _ | refine below_drew ?_ | (refine below_step ?_ (by assumption) (by (first | omega | (simp only [size_grow, World.size_alloc, size_drewN, size_drew, size_setCell] at *; omega)))))))) (hF1.ext (by (repeat (first | exact Below.refl _ _ | assumption | (refine below_gr ?_ (by (first | omega | (simp only [size_grow, World.size_alloc, size_drewN, size_drew, size_setCell] at *; omega))) _) | (refine below_alloc ?_ (by (first | omega | (simp only [size_grow, World.size_alloc, size_drewN, size_drew, size_setCell] at *; omega))) _) | (refine Below.setCell ?_ (by (first | omega | (simp only [size_grow, World.size_alloc, size_drewN, size_drew, size_setCell] at *; omega))) _) | refine below_drewN ?_ _ | refine below_drew ?_ | (refine below_step ?_ (by assumption) (by (first | omega | (simp only [size_grow, World.size_alloc, size_drewN, size_drew, size_setCell] at *; omega))))))))).mono ?_; rintro e w2 ⟨rfl, hb2⟩; replace hb2 := ex_below hb2; have hz2 := hb2.size; (try simp only [size_grow, World.size_alloc, size_drewN, size_drew, size_setCell] at hz2); have hlt2 : ∀ b, b < w.heap.size → b < w2.heap.size := fun b hb => (by (first | omega | (simp only [size_grow, World.size_alloc, size_drewN, size_drew, size_setCell] at *; omega))); have hc2 : ∀ b o, b < w.heap.size → w2.cell? ⟨b, o, none⟩ = w.cell? ⟨b, o, none⟩ := old_cell (by (repeat (first | exact Below.refl _ _ | assumption | (refine below_gr ?_ (by (first | omega | (simp only [size_grow, World.size_alloc, size_drewN, size_drew, size_setCell] at *; omega))) _) | (refine below_alloc ?_ (by (first | omega | (simp only [size_grow, World.size_alloc, size_drewN, size_drew, size_setCell] at *; omega))) _) | (refine Below.setCell ?_ (by (first | omega | (simp only [size_grow, World.size_alloc, size_drewN, size_drew, size_setCell] at *; omega))) _) | refine below_drewN ?_ _ | refine below_drew ?_ | (refine below_step ?_ (by assumption) (by (first | omega | (simp only [size_grow, World.size_alloc, size_drewN, size_drew, size_setCell] at *; omega))))))))
          | (go_at_call 54; refine (within_any lo hi _ [x] _ _ (i64_new _ [x] _ _ (by simp)) (by simp)).mono ?_; rintro e w3 ⟨rfl, hb1⟩; replace hb1 := ex_below hb1; have hz1 := hb1.size; (try simp only [size_grow, World.size_alloc, size_drewN, size_drew, size_setCell] at hz1); have hlt1 : ∀ b, b < w.heap.size → b < w3.heap.size := fun b hb => (by (first | omega | (simp only [size_grow, World.size_alloc, size_drewN, size_drew, size_setCell] at *; omega))); have hc1 : ∀ b o, b < w.heap.size → w3.cell? ⟨b, o, none⟩ = w.cell? ⟨b, o, none⟩ := old_cell (by (repeat (first | exact Below.refl _ _ | assumption | (refine below_gr ?_ (by (first | omega | (simp only [size_grow, World.size_alloc, size_drewN, size_drew, size_setCell] at *; omega))) _) | (refine below_alloc ?_ (by (first | omega | (simp only [size_grow, World.size_alloc, size_drewN, size_drew, size_setCell] at *; omega))) _) | (refine Below.setCell ?_ (by (first | omega | (simp only [size_grow, World.size_alloc, size_drewN, size_drew, size_setCell] at *; omega))) _) | refine below_drewN ?_ _ | refine below_drew ?_ | (refine below_step ?_ (by assumption) (by (first | omega | (simp only [size_grow, World.size_alloc, size_drewN, size_drew, size_setCell] at *; omega)))))))))
        go_ret
        exact gives_of (v_int hR16.out.symm) (by (repeat (first | exact Below.refl _ _ | assumption | (refine below_gr ?_ (by (first | omega | (simp only [size_grow, World.size_alloc, size_drewN, size_drew, size_setCell] at *; omega))) _) | (refine below_alloc ?_ (by (first | omega | (simp only [size_grow, World.size_alloc, size_drewN, size_drew, size_setCell] at *; omega))) _) | (refine Below.setCell ?_ (by (first | omega | (simp only [size_grow, World.size_alloc, size_drewN, size_drew, size_setCell] at *; omega))) _) | refine below_drewN ?_ _ | refine below_drew ?_ | (refine below_step ?_ (by assumption) (by (first | omega | (simp only [size_grow, World.size_alloc, size_drewN, size_drew, size_setCell] at *; omega)))))))
    · have hjn : j = ps.length := by omega
      subst hjn
      rw [List.take_of_length_le (by omega)] at hall
      rw [List.take_of_length_le (by omega)] at hO
      have hR2 := hide (show R = if fitB k ts = true then 0 else 23 by rw [HR.out, hall]; rfl)
      clear hall HR
      have hclen := cntL_len ts
      have hclr : ∀ ty, (Builtin.clear_ #[82] ty #[.slice (some ⟨w1.heap.size, 0, none⟩) 1 61]).run Try.prog wr = .ok (.tuple #[]) (wr.setCell ⟨w1.heap.size, 0, none⟩ (.int .i64 0)) := fun ty =>
        Lib.run_clear_slice wr 82 3 ty (.int .i64 0) Try.underlying82 zero3 rfl rfl w1.heap.size 0 1 61 (by omega) (fun j hj => by rw [hO.cell (by omega)]; rfl) (fun j hj => hO.frozen _)
      have hO0 := hO.set 0 0
      have hfit := hide (fit_max k ts hk)
      have hfz := hide (fit_zero k ts hk)
      have hcl : ((cntL ts).set 0 0).length = 61 := by rw [List.length_set, hclen]
      have hmv : List.map (Value.int IntKind.i64) ((cntL ts).set 0 0) = List.map (Value.int IntKind.i64) ((cntL ts).set 0 0) := rfl
      generalize (cntL ts).set 0 0 = cs at *
      clear hmv
      have hrg : (wr.setCell ⟨w1.heap.size, 0, none⟩ (.int .i64 0)).rangeAt w1.heap.size 0 (cs.map (Value.int .i64)) := fun j v hv => by
        rw [List.getElem?_map, Option.map_eq_some_iff] at hv
        obtain ⟨x, hx, rfl⟩ := hv
        have hjl := (List.getElem?_eq_some_iff.1 hx).1
        rw [Nat.zero_add, hO0.cell hjl]
        have := atI_lt _ j hjl
        rw [hx] at this
        simpa using this.symm
      have hif : (Try.prog.info? 79).map (·.size) = some (cs.map (Value.int .i64)).length := by
        rw [List.length_map, hcl]; kernel_rfl
      have hzl : ((List.replicate 61 (0 : Int)).map (Value.int .i64)).toArray = #[.int .i64 0, .int .i64 0, .int .i64 0, .int .i64 0, .int .i64 0, .int .i64 0, .int .i64 0, .int .i64 0, .int .i64 0, .int .i64 0, .int .i64 0, .int .i64 0, .int .i64 0, .int .i64 0, .int .i64 0, .int .i64 0, .int .i64 0, .int .i64 0, .int .i64 0, .int .i64 0, .int .i64 0, .int .i64 0, .int .i64 0, .int .i64 0, .int .i64 0, .int .i64 0, .int .i64 0, .int .i64 0, .int .i64 0, .int .i64 0, .int .i64 0, .int .i64 0, .int .i64 0, .int .i64 0, .int .i64 0, .int .i64 0, .int .i64 0, .int .i64 0, .int .i64 0, .int .i64 0, .int .i64 0, .int .i64 0, .int .i64 0, .int .i64 0, .int .i64 0, .int .i64 0, .int .i64 0, .int .i64 0, .int .i64 0, .int .i64 0, .int .i64 0, .int .i64 0, .int .i64 0, .int .i64 0, .int .i64 0, .int .i64 0, .int .i64 0, .int .i64 0, .int .i64 0, .int .i64 0, .int .i64 0] := rfl
      have hq0 := fun W => eql61 cs (List.replicate 61 0) W hcl (by simp)
      rw [hzl] at hq0
      clear hzl
      have hmx : ∀ W, I64 W (some ⟨w1.heap.size, 0, none⟩) cs → Calls Try.prog 57 #[.slice (some ⟨w1.heap.size, 0, none⟩) 61 61] W (Gives W (.int .i64 (maxL cs))) := fun W hW => by
        have := max_any (some ⟨w1.heap.size, 0, none⟩) cs 61 W hW (by omega) (by omega)
        rw [hcl] at this
        exact this
      have HMX := hide hmx
      clear hmx hcl
      by_cases hz : cs = List.replicate 61 0
      · have heq : ∀ W, (Op.equalIn 10000 79 (.agg (cs.map (Value.int .i64)).toArray) (.agg #[.int .i64 0, .int .i64 0, .int .i64 0, .int .i64 0, .int .i64 0, .int .i64 0, .int .i64 0, .int .i64 0, .int .i64 0, .int .i64 0, .int .i64 0, .int .i64 0, .int .i64 0, .int .i64 0, .int .i64 0, .int .i64 0, .int .i64 0, .int .i64 0, .int .i64 0, .int .i64 0, .int .i64 0, .int .i64 0, .int .i64 0, .int .i64 0, .int .i64 0, .int .i64 0, .int .i64 0, .int .i64 0, .int .i64 0, .int .i64 0, .int .i64 0, .int .i64 0, .int .i64 0, .int .i64 0, .int .i64 0, .int .i64 0, .int .i64 0, .int .i64 0, .int .i64 0, .int .i64 0, .int .i64 0, .int .i64 0, .int .i64 0, .int .i64 0, .int .i64 0, .int .i64 0, .int .i64 0, .int .i64 0, .int .i64 0, .int .i64 0, .int .i64 0, .int .i64 0, .int .i64 0, .int .i64 0, .int .i64 0, .int .i64 0, .int .i64 0, .int .i64 0, .int .i64 0, .int .i64 0, .int .i64 0])).run Try.prog W = .ok true W := fun W => by rw [hq0, decide_eq_true hz]
        have HF := hide (hfz.out hz)
        clear hq0 hz hfz hfit
        go_wp2_with (refine wpList_load_mid rfl 79 _ rfl w1.heap.size 0 rfl (cs.map (Value.int .i64)) _ hrg Try.underlying79 rfl hif ?_)
        go_ret
        exact gives_of (v_int (by rw [hR2.out, HF.out]; rfl)) (by (repeat (first | exact Below.refl _ _ | assumption | (refine below_gr ?_ (by (first | omega | (simp only [size_grow, World.size_alloc, size_drewN, size_drew, size_setCell] at *; omega))) _) | (refine below_alloc ?_ (by (first | omega | (simp only [size_grow, World.size_alloc, size_drewN, size_drew, size_setCell] at *; omega))) _) | (refine Below.setCell ?_ (by (first | omega | (simp only [size_grow, World.size_alloc, size_drewN, size_drew, size_setCell] at *; omega))) _) | refine below_drewN ?_ _ | refine below_drew ?_ | (refine below_step ?_ (by assumption) (by (first | omega | (simp only [size_grow, World.size_alloc, size_drewN, size_drew, size_setCell] at *; omega)))))))
      · have heq : ∀ W, (Op.equalIn 10000 79 (.agg (cs.map (Value.int .i64)).toArray) (.agg #[.int .i64 0, .int .i64 0, .int .i64 0, .int .i64 0, .int .i64 0, .int .i64 0, .int .i64 0, .int .i64 0, .int .i64 0, .int .i64 0, .int .i64 0, .int .i64 0, .int .i64 0, .int .i64 0, .int .i64 0, .int .i64 0, .int .i64 0, .int .i64 0, .int .i64 0, .int .i64 0, .int .i64 0, .int .i64 0, .int .i64 0, .int .i64 0, .int .i64 0, .int .i64 0, .int .i64 0, .int .i64 0, .int .i64 0, .int .i64 0, .int .i64 0, .int .i64 0, .int .i64 0, .int .i64 0, .int .i64 0, .int .i64 0, .int .i64 0, .int .i64 0, .int .i64 0, .int .i64 0, .int .i64 0, .int .i64 0, .int .i64 0, .int .i64 0, .int .i64 0, .int .i64 0, .int .i64 0, .int .i64 0, .int .i64 0, .int .i64 0, .int .i64 0, .int .i64 0, .int .i64 0, .int .i64 0, .int .i64 0, .int .i64 0, .int .i64 0, .int .i64 0, .int .i64 0, .int .i64 0, .int .i64 0])).run Try.prog W = .ok false W := fun W => by rw [hq0, decide_eq_false hz]
        clear hq0 hz hfz
        have HI := hide hO0.i64
        generalize maxL cs = M at *
        go_wp2_with (first
          | (refine wpList_load_mid rfl 79 _ rfl w1.heap.size 0 rfl (cs.map (Value.int .i64)) _ hrg Try.underlying79 rfl hif ?_)
          | (go_at_call 57; refine (HMX.out _ (HI.out.ext (by (repeat (first | exact Below.refl _ _ | assumption | (refine below_gr ?_ (by (first | omega | (simp only [size_grow, World.size_alloc, size_drewN, size_drew, size_setCell] at *; omega))) _) | (refine below_alloc ?_ (by (first | omega | (simp only [size_grow, World.size_alloc, size_drewN, size_drew, size_setCell] at *; omega))) _) | (refine Below.setCell ?_ (by (first | omega | (simp only [size_grow, World.size_alloc, size_drewN, size_drew, size_setCell] at *; omega))) _) | refine below_drewN ?_ _ | refine below_drew ?_ | (refine below_step ?_ (by assumption) (by (first | omega | (simp only [size_grow, World.size_alloc, size_drewN, size_drew, size_setCell] at *; omega))))))))).mono ?_; rintro e w7 ⟨rfl, hb1⟩; replace hb1 := ex_below hb1; have hz1 := hb1.size; (try simp only [size_grow, World.size_alloc, size_drewN, size_drew, size_setCell] at hz1); have hlt1 : ∀ b, b < w.heap.size → b < w7.heap.size := fun b hb => (by (first | omega | (simp only [size_grow, World.size_alloc, size_drewN, size_drew, size_setCell] at *; omega))); have hc1 : ∀ b o, b < w.heap.size → w7.cell? ⟨b, o, none⟩ = w.cell? ⟨b, o, none⟩ := old_cell (by (repeat (first | exact Below.refl _ _ | assumption | (refine below_gr ?_ (by (first | omega | (simp only [size_grow, World.size_alloc, size_drewN, size_drew, size_setCell] at *; omega))) _) | (refine below_alloc ?_ (by (first | omega | (simp only [size_grow, World.size_alloc, size_drewN, size_drew, size_setCell] at *; omega))) _) | (refine Below.setCell ?_ (by (first | omega | (simp only [size_grow, World.size_alloc, size_drewN, size_drew, size_setCell] at *; omega))) _) | refine below_drewN ?_ _ | refine below_drew ?_ | (refine below_step ?_ (by assumption) (by (first | omega | (simp only [size_grow, World.size_alloc, size_drewN, size_drew, size_setCell] at *; omega)))))))))
        · go_ret
          exact gives_of (v_int (by rw [hR2.out, hfit.out, decide_eq_true (by assumption)]; rfl)) (by (repeat (first | exact Below.refl _ _ | assumption | (refine below_gr ?_ (by (first | omega | (simp only [size_grow, World.size_alloc, size_drewN, size_drew, size_setCell] at *; omega))) _) | (refine below_alloc ?_ (by (first | omega | (simp only [size_grow, World.size_alloc, size_drewN, size_drew, size_setCell] at *; omega))) _) | (refine Below.setCell ?_ (by (first | omega | (simp only [size_grow, World.size_alloc, size_drewN, size_drew, size_setCell] at *; omega))) _) | refine below_drewN ?_ _ | refine below_drew ?_ | (refine below_step ?_ (by assumption) (by (first | omega | (simp only [size_grow, World.size_alloc, size_drewN, size_drew, size_setCell] at *; omega)))))))
        · go_ret
          exact gives_of (v_int (by rw [hR2.out, hfit.out, decide_eq_false (by omega)]; rfl)) (by (repeat (first | exact Below.refl _ _ | assumption | (refine below_gr ?_ (by (first | omega | (simp only [size_grow, World.size_alloc, size_drewN, size_drew, size_setCell] at *; omega))) _) | (refine below_alloc ?_ (by (first | omega | (simp only [size_grow, World.size_alloc, size_drewN, size_drew, size_setCell] at *; omega))) _) | (refine Below.setCell ?_ (by (first | omega | (simp only [size_grow, World.size_alloc, size_drewN, size_drew, size_setCell] at *; omega))) _) | refine below_drewN ?_ _ | refine below_drew ?_ | (refine below_step ?_ (by assumption) (by (first | omega | (simp only [size_grow, World.size_alloc, size_drewN, size_drew, size_setCell] at *; omega)))))))
end Go.Proofs.Ytbfhkknpocbeaaa
