/- Proved here: the reference: the fewest tapes that can be wrong, a part of the proofs about the tape laws. Conditions: those that each theorem names, no others. -/
import Derived.Test.YtafncmgijbkomaaP20
import Derived.WalkKit
import Derived.WalkSpells
import Derived.WalkLawsBesides
import Derived.Below
import Derived.Deep.QuietTactic
import Derived.BigQuiet
import Derived.Deep.Light
set_option linter.unusedSimpArgs false
set_option linter.unusedVariables false
namespace Go.Proofs.Ytafncmgijbkomaa
open Go.RowKit Go.Maps Go.Lib
/-- the fewest tapes that can be wrong, or the error -/
def wrgR (W : Int) (ts : List ByteArray) (long : Int) : List Int × Int := if openE W ts long ≠ 0 then ([], openE W ts long) else (natI (Tm.wrongR ts.length (canB W.toNat (lts ts) long)), 0)
def GivesIntsL (w : World) (q : List Int × Int) (e : Ending) (w' : World) : Prop := ∃ A' c', e = .returned (.tuple #[.slice A' q.1.length c', .int .i64 q.2]) ∧ Grew w w' ∧ I64 w' A' q.1
theorem rows_lit {w : World} {b : Nat} {vs : Array Value} {rows : List (List Int)} (hh : w.heap[b]? = some (.cells vs 32 (0, 0))) (h : ∀ (k : Nat) (p : List Int), rows[k]? = some p → ∃ P d, vs[k]? = some (.slice P p.length d) ∧ I64 w P p) : RowsA w (some ⟨b, 0, none⟩) rows := fun k p hk => by
  obtain ⟨P, d, h1, h2⟩ := h k p hk
  have hl := (Array.getElem?_eq_some_iff.1 hh).1
  exact ⟨b, 0, rfl, hl, by omega, P, d, by rw [Nat.zero_add]; exact obj_at hh k _ h1, h2⟩
theorem rows8 (w1 : World) : RowsA ((((((((w1.alloc (.cells #[.int .i64 0] 3)).alloc (.cells #[.int .i64 1] 3)).alloc (.cells #[.int .i64 2] 3)).alloc (.cells #[.int .i64 0, .int .i64 1] 3)).alloc (.cells #[.int .i64 0, .int .i64 2] 3)).alloc (.cells #[.int .i64 1, .int .i64 2] 3)).alloc (.cells #[.int .i64 0, .int .i64 1, .int .i64 2] 3)).alloc (.cells #[.slice none 0 0, .slice (some ⟨w1.heap.size, 0, none⟩) 1 1, .slice (some ⟨w1.heap.size + 1, 0, none⟩) 1 1, .slice (some ⟨w1.heap.size + 1 + 1, 0, none⟩) 1 1, .slice (some ⟨w1.heap.size + 1 + 1 + 1, 0, none⟩) 2 2, .slice (some ⟨w1.heap.size + 1 + 1 + 1 + 1, 0, none⟩) 2 2, .slice (some ⟨w1.heap.size + 1 + 1 + 1 + 1 + 1, 0, none⟩) 2 2, .slice (some ⟨w1.heap.size + 1 + 1 + 1 + 1 + 1 + 1, 0, none⟩) 3 3] 32)) (some ⟨w1.heap.size + 1 + 1 + 1 + 1 + 1 + 1 + 1, 0, none⟩) (natR Tm.listsR) := by
  have hh : ((((((((w1.alloc (.cells #[.int .i64 0] 3)).alloc (.cells #[.int .i64 1] 3)).alloc (.cells #[.int .i64 2] 3)).alloc (.cells #[.int .i64 0, .int .i64 1] 3)).alloc (.cells #[.int .i64 0, .int .i64 2] 3)).alloc (.cells #[.int .i64 1, .int .i64 2] 3)).alloc (.cells #[.int .i64 0, .int .i64 1, .int .i64 2] 3)).alloc (.cells #[.slice none 0 0, .slice (some ⟨w1.heap.size, 0, none⟩) 1 1, .slice (some ⟨w1.heap.size + 1, 0, none⟩) 1 1, .slice (some ⟨w1.heap.size + 1 + 1, 0, none⟩) 1 1, .slice (some ⟨w1.heap.size + 1 + 1 + 1, 0, none⟩) 2 2, .slice (some ⟨w1.heap.size + 1 + 1 + 1 + 1, 0, none⟩) 2 2, .slice (some ⟨w1.heap.size + 1 + 1 + 1 + 1 + 1, 0, none⟩) 2 2, .slice (some ⟨w1.heap.size + 1 + 1 + 1 + 1 + 1 + 1, 0, none⟩) 3 3] 32)).heap[w1.heap.size + 1 + 1 + 1 + 1 + 1 + 1 + 1]? = some (.cells #[.slice none 0 0, .slice (some ⟨w1.heap.size, 0, none⟩) 1 1, .slice (some ⟨w1.heap.size + 1, 0, none⟩) 1 1, .slice (some ⟨w1.heap.size + 1 + 1, 0, none⟩) 1 1, .slice (some ⟨w1.heap.size + 1 + 1 + 1, 0, none⟩) 2 2, .slice (some ⟨w1.heap.size + 1 + 1 + 1 + 1, 0, none⟩) 2 2, .slice (some ⟨w1.heap.size + 1 + 1 + 1 + 1 + 1, 0, none⟩) 2 2, .slice (some ⟨w1.heap.size + 1 + 1 + 1 + 1 + 1 + 1, 0, none⟩) 3 3] 32 (0, 0)) := by
    have h := heap_alloc_new (((((((w1.alloc (.cells #[.int .i64 0] 3)).alloc (.cells #[.int .i64 1] 3)).alloc (.cells #[.int .i64 2] 3)).alloc (.cells #[.int .i64 0, .int .i64 1] 3)).alloc (.cells #[.int .i64 0, .int .i64 2] 3)).alloc (.cells #[.int .i64 1, .int .i64 2] 3)).alloc (.cells #[.int .i64 0, .int .i64 1, .int .i64 2] 3)) (.cells #[.slice none 0 0, .slice (some ⟨w1.heap.size, 0, none⟩) 1 1, .slice (some ⟨w1.heap.size + 1, 0, none⟩) 1 1, .slice (some ⟨w1.heap.size + 1 + 1, 0, none⟩) 1 1, .slice (some ⟨w1.heap.size + 1 + 1 + 1, 0, none⟩) 2 2, .slice (some ⟨w1.heap.size + 1 + 1 + 1 + 1, 0, none⟩) 2 2, .slice (some ⟨w1.heap.size + 1 + 1 + 1 + 1 + 1, 0, none⟩) 2 2, .slice (some ⟨w1.heap.size + 1 + 1 + 1 + 1 + 1 + 1, 0, none⟩) 3 3] 32)
    simpa using h
  refine rows_lit hh (fun k p hk => ?_)
  have h8 : k < 8 := by
    have := (List.getElem?_eq_some_iff.1 hk).1
    simpa [natR, Tm.listsR] using this
  have hc : k = 0 ∨ k = 1 ∨ k = 2 ∨ k = 3 ∨ k = 4 ∨ k = 5 ∨ k = 6 ∨ k = 7 := by omega
  rcases hc with rfl | rfl | rfl | rfl | rfl | rfl | rfl | rfl
  · obtain rfl : p = [] := by simpa [natR, Tm.listsR, natI] using hk.symm
    exact ⟨none, 0, rfl, fun j x hj => by simp at hj⟩
  · obtain rfl : p = [(0 : Int)] := by simpa [natR, Tm.listsR, natI] using hk.symm
    exact ⟨some ⟨w1.heap.size, 0, none⟩, 1, rfl, (i64_new w1 [(0 : Int)] 3 (w1.heap.size) (by simp)).ext (by (repeat (first | exact Below.refl _ _ | assumption | refine below_drewN ?_ _ | refine below_drew ?_ | refine below_gr ?_ ?_ _ | refine below_alloc ?_ ?_ _ | refine Below.setCell ?_ ?_ _ | refine below_step ?_ (by assumption) ?_ | omega | (simp only [zz] at *; omega))))⟩
  · obtain rfl : p = [(1 : Int)] := by simpa [natR, Tm.listsR, natI] using hk.symm
    exact ⟨some ⟨w1.heap.size + 1, 0, none⟩, 1, rfl, (i64_new (w1.alloc (.cells #[.int .i64 0] 3)) [(1 : Int)] 3 (w1.heap.size + 1) (by simp)).ext (by (repeat (first | exact Below.refl _ _ | assumption | refine below_drewN ?_ _ | refine below_drew ?_ | refine below_gr ?_ ?_ _ | refine below_alloc ?_ ?_ _ | refine Below.setCell ?_ ?_ _ | refine below_step ?_ (by assumption) ?_ | omega | (simp only [zz] at *; omega))))⟩
  · obtain rfl : p = [(2 : Int)] := by simpa [natR, Tm.listsR, natI] using hk.symm
    exact ⟨some ⟨w1.heap.size + 1 + 1, 0, none⟩, 1, rfl, (i64_new ((w1.alloc (.cells #[.int .i64 0] 3)).alloc (.cells #[.int .i64 1] 3)) [(2 : Int)] 3 (w1.heap.size + 1 + 1) (by simp)).ext (by (repeat (first | exact Below.refl _ _ | assumption | refine below_drewN ?_ _ | refine below_drew ?_ | refine below_gr ?_ ?_ _ | refine below_alloc ?_ ?_ _ | refine Below.setCell ?_ ?_ _ | refine below_step ?_ (by assumption) ?_ | omega | (simp only [zz] at *; omega))))⟩
  · obtain rfl : p = [(0 : Int), (1 : Int)] := by simpa [natR, Tm.listsR, natI] using hk.symm
    exact ⟨some ⟨w1.heap.size + 1 + 1 + 1, 0, none⟩, 2, rfl, (i64_new (((w1.alloc (.cells #[.int .i64 0] 3)).alloc (.cells #[.int .i64 1] 3)).alloc (.cells #[.int .i64 2] 3)) [(0 : Int), (1 : Int)] 3 (w1.heap.size + 1 + 1 + 1) (by simp)).ext (by (repeat (first | exact Below.refl _ _ | assumption | refine below_drewN ?_ _ | refine below_drew ?_ | refine below_gr ?_ ?_ _ | refine below_alloc ?_ ?_ _ | refine Below.setCell ?_ ?_ _ | refine below_step ?_ (by assumption) ?_ | omega | (simp only [zz] at *; omega))))⟩
  · obtain rfl : p = [(0 : Int), (2 : Int)] := by simpa [natR, Tm.listsR, natI] using hk.symm
    exact ⟨some ⟨w1.heap.size + 1 + 1 + 1 + 1, 0, none⟩, 2, rfl, (i64_new ((((w1.alloc (.cells #[.int .i64 0] 3)).alloc (.cells #[.int .i64 1] 3)).alloc (.cells #[.int .i64 2] 3)).alloc (.cells #[.int .i64 0, .int .i64 1] 3)) [(0 : Int), (2 : Int)] 3 (w1.heap.size + 1 + 1 + 1 + 1) (by simp)).ext (by (repeat (first | exact Below.refl _ _ | assumption | refine below_drewN ?_ _ | refine below_drew ?_ | refine below_gr ?_ ?_ _ | refine below_alloc ?_ ?_ _ | refine Below.setCell ?_ ?_ _ | refine below_step ?_ (by assumption) ?_ | omega | (simp only [zz] at *; omega))))⟩
  · obtain rfl : p = [(1 : Int), (2 : Int)] := by simpa [natR, Tm.listsR, natI] using hk.symm
    exact ⟨some ⟨w1.heap.size + 1 + 1 + 1 + 1 + 1, 0, none⟩, 2, rfl, (i64_new (((((w1.alloc (.cells #[.int .i64 0] 3)).alloc (.cells #[.int .i64 1] 3)).alloc (.cells #[.int .i64 2] 3)).alloc (.cells #[.int .i64 0, .int .i64 1] 3)).alloc (.cells #[.int .i64 0, .int .i64 2] 3)) [(1 : Int), (2 : Int)] 3 (w1.heap.size + 1 + 1 + 1 + 1 + 1) (by simp)).ext (by (repeat (first | exact Below.refl _ _ | assumption | refine below_drewN ?_ _ | refine below_drew ?_ | refine below_gr ?_ ?_ _ | refine below_alloc ?_ ?_ _ | refine Below.setCell ?_ ?_ _ | refine below_step ?_ (by assumption) ?_ | omega | (simp only [zz] at *; omega))))⟩
  · obtain rfl : p = [(0 : Int), (1 : Int), (2 : Int)] := by simpa [natR, Tm.listsR, natI] using hk.symm
    exact ⟨some ⟨w1.heap.size + 1 + 1 + 1 + 1 + 1 + 1, 0, none⟩, 3, rfl, (i64_new ((((((w1.alloc (.cells #[.int .i64 0] 3)).alloc (.cells #[.int .i64 1] 3)).alloc (.cells #[.int .i64 2] 3)).alloc (.cells #[.int .i64 0, .int .i64 1] 3)).alloc (.cells #[.int .i64 0, .int .i64 2] 3)).alloc (.cells #[.int .i64 1, .int .i64 2] 3)) [(0 : Int), (1 : Int), (2 : Int)] 3 (w1.heap.size + 1 + 1 + 1 + 1 + 1 + 1) (by simp)).ext (by (repeat (first | exact Below.refl _ _ | assumption | refine below_drewN ?_ _ | refine below_drew ?_ | refine below_gr ?_ ?_ _ | refine below_alloc ?_ ?_ _ | refine Below.setCell ?_ ?_ _ | refine below_step ?_ (by assumption) ?_ | omega | (simp only [zz] at *; omega))))⟩
def findG (n : Nat) (P : List Nat → Bool) (l : List Nat) : Bool := (l.getLast?.all (fun x => decide (x < n))) && P l
theorem find_step {α : Type} {l : List α} {f : α → Bool} {k : Nat} (h : k < l.length) (hn : (l.take k).find? f = none) : (f l[k] = true → l.find? f = some l[k]) ∧ (f l[k] = false → (l.take (k + 1)).find? f = none) := by
  constructor
  · intro g
    rw [List.find?_eq_some_iff_getElem]
    refine ⟨g, k, h, rfl, fun j hj => ?_⟩
    rw [List.find?_eq_none] at hn
    have := hn l[j] (by rw [List.mem_take_iff_getElem]; exact ⟨j, by omega, rfl⟩)
    simpa using this
  · intro g
    rw [take_snoc l k h, List.find?_append, hn]
    simp [List.find?_cons, g]
set_option maxRecDepth 100000 in
set_option maxHeartbeats 1000000 in
theorem rwrg_bad (W : Int) (A : Option Addr) (ts : List ByteArray) (c : Nat) (w : World) (hA : Strs w A ts) (hl : ts.length ≤ 1000) (hsz : ∀ k, (h : k < ts.length) → ts[k].size ≤ 1000000) (long : Int) (h0 : openE W ts long ≠ 0) : Calls Try.prog 38 #[.agg #[.int .i64 W, .slice A ts.length c], .int .i64 long] w (GivesIntsL w (wrgR W ts long)) := by
  have h1 : (openE W ts long != 0) = true := by simp [h0]
  rw [show wrgR W ts long = ([], openE W ts long) by simp [wrgR, h0]]
  unfold GivesIntsL
  replace h0 := hide h0
  go_enter Try.func38, Try.ntmps38
  go_wp2_with (first
    | (go_at_call 76; refine (rLong_any W A ts c _ (hA.ext (by (repeat (first | exact Below.refl _ _ | assumption | refine below_drewN ?_ _ | refine below_drew ?_ | refine below_gr ?_ ?_ _ | refine below_alloc ?_ ?_ _ | refine Below.setCell ?_ ?_ _ | refine below_step ?_ (by assumption) ?_ | omega | (simp only [zz] at *; omega))))) hl hsz long).mono ?_; rintro e w1 ⟨rfl, hb1⟩; replace hb1 := ex_below hb1; have hz1 := hb1.size; (try simp only [zz] at hz1); have hs1 : w.heap.size < w1.heap.size := (by (first | omega | (simp only [zz] at *; omega))); have ho1 := own_cell hb1 (b := w.heap.size) (by (first | omega | (simp only [zz] at *; omega))); have hq1 := own_frozen hb1 (b := w.heap.size) (by (first | omega | (simp only [zz] at *; omega))); have hlt1 : ∀ b, b < w.heap.size → b < w1.heap.size := fun b hb => (by (first | omega | (simp only [zz] at *; omega))); have hc1 : ∀ b o, b < w.heap.size → w1.cell? ⟨b, o, none⟩ = w.cell? ⟨b, o, none⟩ := old_cell (by (repeat (first | exact Below.refl _ _ | assumption | refine below_drewN ?_ _ | refine below_drew ?_ | refine below_gr ?_ ?_ _ | refine below_alloc ?_ ?_ _ | refine Below.setCell ?_ ?_ _ | refine below_step ?_ (by assumption) ?_ | omega | (simp only [zz] at *; omega))))))

  go_ret2
  exact ⟨none, 0, rfl, grew_of (by (repeat (first | exact Below.refl _ _ | assumption | refine below_drewN ?_ _ | refine below_drew ?_ | refine below_gr ?_ ?_ _ | refine below_alloc ?_ ?_ _ | refine Below.setCell ?_ ?_ _ | refine below_step ?_ (by assumption) ?_ | omega | (simp only [zz] at *; omega)))), fun k x hk => (by cases hk)⟩
set_option maxRecDepth 100000 in
set_option maxHeartbeats 4000000 in
theorem rwrg_ok (W : Int) (A : Option Addr) (ts : List ByteArray) (c : Nat) (w : World) (hA : Strs w A ts) (hl : ts.length ≤ 1000) (hsz : ∀ k, (h : k < ts.length) → ts[k].size ≤ 1000000) (long : Int) (h0 : openE W ts long = 0) : Calls Try.prog 38 #[.agg #[.int .i64 W, .slice A ts.length c], .int .i64 long] w (GivesIntsL w (wrgR W ts long)) := by
  have hc := (open_val h0).1
  have h3 := (chk_val hc).2.2.2.1
  have h1 : (openE W ts long != 0) = false := by simp [h0]
  have HCB := hide (fun (l : List Nat) (hl3 : l.length ≤ 3) L d w' (hA : Strs w' A ts) (hL : I64 w' L (natI l)) => rCanBe_any W A ts c w' hA hl hsz hc long L l d hL hl3)
  rw [show wrgR W ts long = (natI (Tm.wrongR ts.length (canB W.toNat (lts ts) long)), 0) by simp [wrgR, h0]]
  have HWR := hide (show Tm.wrongR ts.length (canB W.toNat (lts ts) long) = (Tm.listsR.find? (findG ts.length (canB W.toNat (lts ts) long))).getD [] from rfl)
  have HFG := hide (fun l => (show findG ts.length (canB W.toNat (lts ts) long) l = ((l.getLast?.all (fun x => decide (x < ts.length))) && canB W.toNat (lts ts) long l) from rfl))
  have HL3 := hide (show ∀ k, (h : k < Tm.listsR.length) → Tm.listsR[k].length ≤ 3 by decide)
  have HLL := hide (show Tm.listsR.length = 8 from rfl)
  rw [HWR.out]
  generalize findG ts.length (canB W.toNat (lts ts) long) = fG at *
  generalize canB W.toNat (lts ts) long = cB at *
  generalize hres : (Tm.listsR.find? fG).getD [] = res at *
  have HRES := hide hres
  replace h0 := hide h0
  clear HWR hres
  go_enter Try.func38, Try.ntmps38
  go_wp2_with (first
    | (go_at_call 76; refine (rLong_any W A ts c _ (hA.ext (by (repeat (first | exact Below.refl _ _ | assumption | refine below_drewN ?_ _ | refine below_drew ?_ | refine below_gr ?_ ?_ _ | refine below_alloc ?_ ?_ _ | refine Below.setCell ?_ ?_ _ | refine below_step ?_ (by assumption) ?_ | omega | (simp only [zz] at *; omega))))) hl hsz long).mono ?_; rintro e w1 ⟨rfl, hb1⟩; replace hb1 := ex_below hb1; have hz1 := hb1.size; (try simp only [zz] at hz1); have hs1 : w.heap.size < w1.heap.size := (by (first | omega | (simp only [zz] at *; omega))); have ho1 := own_cell hb1 (b := w.heap.size) (by (first | omega | (simp only [zz] at *; omega))); have hq1 := own_frozen hb1 (b := w.heap.size) (by (first | omega | (simp only [zz] at *; omega))); have hlt1 : ∀ b, b < w.heap.size → b < w1.heap.size := fun b hb => (by (first | omega | (simp only [zz] at *; omega))); have hc1 : ∀ b o, b < w.heap.size → w1.cell? ⟨b, o, none⟩ = w.cell? ⟨b, o, none⟩ := old_cell (by (repeat (first | exact Below.refl _ _ | assumption | refine below_drewN ?_ _ | refine below_drew ?_ | refine below_gr ?_ ?_ _ | refine below_alloc ?_ ?_ _ | refine Below.setCell ?_ ?_ _ | refine below_step ?_ (by assumption) ?_ | omega | (simp only [zz] at *; omega))))))

  have y1 : w1.cell? ⟨w.heap.size, 1, none⟩ = some (.slice A ts.length c) := by rw [ho1]; simp [go_sem, *]
  have y0 : w1.cell? ⟨w.heap.size, 0, none⟩ = some (.int .i64 W) := by rw [ho1]; simp [go_sem, *]
  have hR8 := rows8 w1
  have hbW : Below w.heap.size w ((((((((w1.alloc (.cells #[.int .i64 0] 3)).alloc (.cells #[.int .i64 1] 3)).alloc (.cells #[.int .i64 2] 3)).alloc (.cells #[.int .i64 0, .int .i64 1] 3)).alloc (.cells #[.int .i64 0, .int .i64 2] 3)).alloc (.cells #[.int .i64 1, .int .i64 2] 3)).alloc (.cells #[.int .i64 0, .int .i64 1, .int .i64 2] 3)).alloc (.cells #[.slice none 0 0, .slice (some ⟨w1.heap.size, 0, none⟩) 1 1, .slice (some ⟨w1.heap.size + 1, 0, none⟩) 1 1, .slice (some ⟨w1.heap.size + 1 + 1, 0, none⟩) 1 1, .slice (some ⟨w1.heap.size + 1 + 1 + 1, 0, none⟩) 2 2, .slice (some ⟨w1.heap.size + 1 + 1 + 1 + 1, 0, none⟩) 2 2, .slice (some ⟨w1.heap.size + 1 + 1 + 1 + 1 + 1, 0, none⟩) 2 2, .slice (some ⟨w1.heap.size + 1 + 1 + 1 + 1 + 1 + 1, 0, none⟩) 3 3] 32)) := by (repeat (first | exact Below.refl _ _ | assumption | (refine below_gr ?_ (by (first | omega | (simp only [zz] at *; omega))) _) | (refine below_alloc ?_ (by (first | omega | (simp only [zz] at *; omega))) _) | (refine Below.setCell ?_ (by (first | omega | (simp only [zz] at *; omega))) _) | refine below_drewN ?_ _ | refine below_drew ?_ | (refine below_step ?_ (by assumption) (by (first | omega | (simp only [zz] at *; omega))))))
  have hzW : ((((((((w1.alloc (.cells #[.int .i64 0] 3)).alloc (.cells #[.int .i64 1] 3)).alloc (.cells #[.int .i64 2] 3)).alloc (.cells #[.int .i64 0, .int .i64 1] 3)).alloc (.cells #[.int .i64 0, .int .i64 2] 3)).alloc (.cells #[.int .i64 1, .int .i64 2] 3)).alloc (.cells #[.int .i64 0, .int .i64 1, .int .i64 2] 3)).alloc (.cells #[.slice none 0 0, .slice (some ⟨w1.heap.size, 0, none⟩) 1 1, .slice (some ⟨w1.heap.size + 1, 0, none⟩) 1 1, .slice (some ⟨w1.heap.size + 1 + 1, 0, none⟩) 1 1, .slice (some ⟨w1.heap.size + 1 + 1 + 1, 0, none⟩) 2 2, .slice (some ⟨w1.heap.size + 1 + 1 + 1 + 1, 0, none⟩) 2 2, .slice (some ⟨w1.heap.size + 1 + 1 + 1 + 1 + 1, 0, none⟩) 2 2, .slice (some ⟨w1.heap.size + 1 + 1 + 1 + 1 + 1 + 1, 0, none⟩) 3 3] 32)).heap.size = w1.heap.size + 1 + 1 + 1 + 1 + 1 + 1 + 1 + 1 := by simp
  have x1 : ((((((((w1.alloc (.cells #[.int .i64 0] 3)).alloc (.cells #[.int .i64 1] 3)).alloc (.cells #[.int .i64 2] 3)).alloc (.cells #[.int .i64 0, .int .i64 1] 3)).alloc (.cells #[.int .i64 0, .int .i64 2] 3)).alloc (.cells #[.int .i64 1, .int .i64 2] 3)).alloc (.cells #[.int .i64 0, .int .i64 1, .int .i64 2] 3)).alloc (.cells #[.slice none 0 0, .slice (some ⟨w1.heap.size, 0, none⟩) 1 1, .slice (some ⟨w1.heap.size + 1, 0, none⟩) 1 1, .slice (some ⟨w1.heap.size + 1 + 1, 0, none⟩) 1 1, .slice (some ⟨w1.heap.size + 1 + 1 + 1, 0, none⟩) 2 2, .slice (some ⟨w1.heap.size + 1 + 1 + 1 + 1, 0, none⟩) 2 2, .slice (some ⟨w1.heap.size + 1 + 1 + 1 + 1 + 1, 0, none⟩) 2 2, .slice (some ⟨w1.heap.size + 1 + 1 + 1 + 1 + 1 + 1, 0, none⟩) 3 3] 32)).cell? ⟨w.heap.size, 1, none⟩ = some (.slice A ts.length c) := by repeat (first | exact y1 | refine cell?_alloc_some _ ?_)
  have x0 : ((((((((w1.alloc (.cells #[.int .i64 0] 3)).alloc (.cells #[.int .i64 1] 3)).alloc (.cells #[.int .i64 2] 3)).alloc (.cells #[.int .i64 0, .int .i64 1] 3)).alloc (.cells #[.int .i64 0, .int .i64 2] 3)).alloc (.cells #[.int .i64 1, .int .i64 2] 3)).alloc (.cells #[.int .i64 0, .int .i64 1, .int .i64 2] 3)).alloc (.cells #[.slice none 0 0, .slice (some ⟨w1.heap.size, 0, none⟩) 1 1, .slice (some ⟨w1.heap.size + 1, 0, none⟩) 1 1, .slice (some ⟨w1.heap.size + 1 + 1, 0, none⟩) 1 1, .slice (some ⟨w1.heap.size + 1 + 1 + 1, 0, none⟩) 2 2, .slice (some ⟨w1.heap.size + 1 + 1 + 1 + 1, 0, none⟩) 2 2, .slice (some ⟨w1.heap.size + 1 + 1 + 1 + 1 + 1, 0, none⟩) 2 2, .slice (some ⟨w1.heap.size + 1 + 1 + 1 + 1 + 1 + 1, 0, none⟩) 3 3] 32)).cell? ⟨w.heap.size, 0, none⟩ = some (.int .i64 W) := by repeat (first | exact y0 | refine cell?_alloc_some _ ?_)
  obtain ⟨W8, hW8⟩ : ∃ W8, ((((((((w1.alloc (.cells #[.int .i64 0] 3)).alloc (.cells #[.int .i64 1] 3)).alloc (.cells #[.int .i64 2] 3)).alloc (.cells #[.int .i64 0, .int .i64 1] 3)).alloc (.cells #[.int .i64 0, .int .i64 2] 3)).alloc (.cells #[.int .i64 1, .int .i64 2] 3)).alloc (.cells #[.int .i64 0, .int .i64 1, .int .i64 2] 3)).alloc (.cells #[.slice none 0 0, .slice (some ⟨w1.heap.size, 0, none⟩) 1 1, .slice (some ⟨w1.heap.size + 1, 0, none⟩) 1 1, .slice (some ⟨w1.heap.size + 1 + 1, 0, none⟩) 1 1, .slice (some ⟨w1.heap.size + 1 + 1 + 1, 0, none⟩) 2 2, .slice (some ⟨w1.heap.size + 1 + 1 + 1 + 1, 0, none⟩) 2 2, .slice (some ⟨w1.heap.size + 1 + 1 + 1 + 1 + 1, 0, none⟩) 2 2, .slice (some ⟨w1.heap.size + 1 + 1 + 1 + 1 + 1 + 1, 0, none⟩) 3 3] 32)) = W8 := ⟨_, rfl⟩
  rw [hW8] at hR8 hbW hzW x1 x0 ⊢
  clear hW8 y1 y0
  have hw8 : w.heap.size < W8.heap.size := by omega
  generalize w1.heap.size + 1 + 1 + 1 + 1 + 1 + 1 + 1 = B8 at *
  clear hc1 ho1 hq1 hlt1 hb1
  generalize hRR : natR Tm.listsR = rows at *
  have HRR := hide hRR
  clear hRR
  go_loopw [7] (fun i wr => ∃ k : Nat, k ≤ 8 ∧ i = .int .i64 (k : Nat) ∧ Hid ((Tm.listsR.take k).find? fG = none) ∧ Below W8.heap.size W8 wr) (fun i _ => 8 - (intOf i).toNat)
  case atStart => exact ⟨0, by omega, rfl, hide rfl, Below.refl _ _⟩
  case round =>
    obtain ⟨k, hk, rfl, HFN, hb⟩ := hrel
    have hz := hb.size
    have hbw := hbW.trans (hb.mono hbW.size)
    by_cases hlt : k < 8
    · have hkl : k < Tm.listsR.length := by rw [HLL.out]; exact hlt
      obtain ⟨rb, ro, hRe, hrb, P, d, hcP, hIP⟩ := rowsA_at (by rw [HRR.out]; exact hR8.ext hb) k hkl
      injection hRe with hRe
      injection hRe with e1 e2 e3
      subst e1 e2
      rw [Nat.zero_add] at hcP
      have hl3 := HL3.out k hkl
      obtain ⟨HS1, HS2⟩ := find_step hkl HFN.out
      have HS1 := hide HS1
      have HS2 := hide HS2
      generalize Tm.listsR[k] = p at *
      have HF := hide (HFG.out p)
      have hb1 := (hb.cell (p := ⟨w.heap.size, 1, none⟩) (by show w.heap.size < _; omega)).trans x1
      have hb0 := (hb.cell (p := ⟨w.heap.size, 0, none⟩) (by show w.heap.size < _; omega)).trans x0
      have hwr : w.heap.size < wr.heap.size := by omega
      have hcs : p.length = 0 ∨ ∃ n, p.length = n + 1 := by cases hp : p.length with
        | zero => exact .inl rfl
        | succ n => exact .inr ⟨n, rfl⟩
      rcases hcs with hp0 | ⟨n, hpn⟩
      · have hlz : decide ((0 : Int) < (p.length : Nat)) = false := decide_eq_false (by omega)
        have hlz2 : decide (0 < p.length) = false := decide_eq_false (by omega)
        have HFP : Hid (fG p = cB p) := hide (by
          rw [HF.out, List.length_eq_zero_iff.1 hp0]; rfl)
        replace hp0 := hide hp0
        cases hcb : cB p with
        | true =>
          have HR : Hid (res = p) := hide (by rw [← HRES.out, HS1.out (by rw [HFP.out, hcb])]; rfl)
          go_wp2
          refine wp_region_grow (by kernel_rfl) (by kernel_rfl) ?_
          repeat (go_big_quiet_step (fail))
          refine wpQuiet_nil ?_
          intro w4 hb4
          replace hb4 := ex_below hb4
          have hz4 := hb4.size
          (try simp only [zz] at hz4)
          have hs4 : w.heap.size < w4.heap.size := (by (first | omega | (simp only [zz] at *; omega)))
          have ho4 := own_cell hb4 (b := w.heap.size) (by (first | omega | (simp only [zz] at *; omega)))
          have hq4 := own_frozen hb4 (b := w.heap.size) (by (first | omega | (simp only [zz] at *; omega)))
          have hlt4 : ∀ b, b < wr.heap.size → b < w4.heap.size := fun b hb => (by (first | omega | (simp only [zz] at *; omega)))
          have hc4 : ∀ b o, b < wr.heap.size → w4.cell? ⟨b, o, none⟩ = wr.cell? ⟨b, o, none⟩ := old_cell (by (repeat (first | exact Below.refl _ _ | assumption | refine below_drewN ?_ _ | refine below_drew ?_ | refine below_gr ?_ ?_ _ | refine below_alloc ?_ ?_ _ | refine Below.setCell ?_ ?_ _ | refine below_step ?_ (by assumption) ?_ | omega | (simp only [zz] at *; omega))))
          go_wp2_with (go_at_call 85; refine (HCB.out _ hl3 _ _ _ (hA.ext (by (repeat (first | exact Below.refl _ _ | assumption | refine below_drewN ?_ _ | refine below_drew ?_ | refine below_gr ?_ ?_ _ | refine below_alloc ?_ ?_ _ | refine Below.setCell ?_ ?_ _ | refine below_step ?_ (by assumption) ?_ | omega | (simp only [zz] at *; omega))))) (hIP.ext (by (repeat (first | exact Below.refl _ _ | assumption | refine below_drewN ?_ _ | refine below_drew ?_ | refine below_gr ?_ ?_ _ | refine below_alloc ?_ ?_ _ | refine Below.setCell ?_ ?_ _ | refine below_step ?_ (by assumption) ?_ | omega | (simp only [zz] at *; omega)))))).mono ?_; rintro e w5 ⟨rfl, hb5⟩; replace hb5 := ex_below hb5; have hz5 := hb5.size; (try simp only [zz] at hz5); have hs5 : w.heap.size < w5.heap.size := (by (first | omega | (simp only [zz] at *; omega))); have ho5 := own_cell hb5 (b := w.heap.size) (by (first | omega | (simp only [zz] at *; omega))); have hq5 := own_frozen hb5 (b := w.heap.size) (by (first | omega | (simp only [zz] at *; omega))); have hlt5 : ∀ b, b < wr.heap.size → b < w5.heap.size := fun b hb => (by (first | omega | (simp only [zz] at *; omega))); have hc5 : ∀ b o, b < wr.heap.size → w5.cell? ⟨b, o, none⟩ = wr.cell? ⟨b, o, none⟩ := old_cell (by (repeat (first | exact Below.refl _ _ | assumption | refine below_drewN ?_ _ | refine below_drew ?_ | refine below_gr ?_ ?_ _ | refine below_alloc ?_ ?_ _ | refine Below.setCell ?_ ?_ _ | refine below_step ?_ (by assumption) ?_ | omega | (simp only [zz] at *; omega)))); (try rw [hcb]))
          go_ret2
          unfold GivesIntsL
          exact ⟨P, d, by rw [HR.out, natI_len]; rfl, grew_of (by (repeat (first | exact Below.refl _ _ | assumption | refine below_drewN ?_ _ | refine below_drew ?_ | refine below_gr ?_ ?_ _ | refine below_alloc ?_ ?_ _ | refine Below.setCell ?_ ?_ _ | refine below_step ?_ (by assumption) ?_ | omega | (simp only [zz] at *; omega)))), by rw [HR.out]; exact hIP.ext (by (repeat (first | exact Below.refl _ _ | assumption | refine below_drewN ?_ _ | refine below_drew ?_ | refine below_gr ?_ ?_ _ | refine below_alloc ?_ ?_ _ | refine Below.setCell ?_ ?_ _ | refine below_step ?_ (by assumption) ?_ | omega | (simp only [zz] at *; omega))))⟩
        | false =>
          have HN2 : Hid ((Tm.listsR.take (k + 1)).find? fG = none) := hide (HS2.out (by rw [HFP.out, hcb]))
          go_wp2
          refine wp_region_grow (by kernel_rfl) (by kernel_rfl) ?_
          repeat (go_big_quiet_step (fail))
          refine wpQuiet_nil ?_
          intro w4 hb4
          replace hb4 := ex_below hb4
          have hz4 := hb4.size
          (try simp only [zz] at hz4)
          have hs4 : w.heap.size < w4.heap.size := (by (first | omega | (simp only [zz] at *; omega)))
          have ho4 := own_cell hb4 (b := w.heap.size) (by (first | omega | (simp only [zz] at *; omega)))
          have hq4 := own_frozen hb4 (b := w.heap.size) (by (first | omega | (simp only [zz] at *; omega)))
          have hlt4 : ∀ b, b < wr.heap.size → b < w4.heap.size := fun b hb => (by (first | omega | (simp only [zz] at *; omega)))
          have hc4 : ∀ b o, b < wr.heap.size → w4.cell? ⟨b, o, none⟩ = wr.cell? ⟨b, o, none⟩ := old_cell (by (repeat (first | exact Below.refl _ _ | assumption | refine below_drewN ?_ _ | refine below_drew ?_ | refine below_gr ?_ ?_ _ | refine below_alloc ?_ ?_ _ | refine Below.setCell ?_ ?_ _ | refine below_step ?_ (by assumption) ?_ | omega | (simp only [zz] at *; omega))))
          go_wp2_with (go_at_call 85; refine (HCB.out _ hl3 _ _ _ (hA.ext (by (repeat (first | exact Below.refl _ _ | assumption | refine below_drewN ?_ _ | refine below_drew ?_ | refine below_gr ?_ ?_ _ | refine below_alloc ?_ ?_ _ | refine Below.setCell ?_ ?_ _ | refine below_step ?_ (by assumption) ?_ | omega | (simp only [zz] at *; omega))))) (hIP.ext (by (repeat (first | exact Below.refl _ _ | assumption | refine below_drewN ?_ _ | refine below_drew ?_ | refine below_gr ?_ ?_ _ | refine below_alloc ?_ ?_ _ | refine Below.setCell ?_ ?_ _ | refine below_step ?_ (by assumption) ?_ | omega | (simp only [zz] at *; omega)))))).mono ?_; rintro e w5 ⟨rfl, hb5⟩; replace hb5 := ex_below hb5; have hz5 := hb5.size; (try simp only [zz] at hz5); have hs5 : w.heap.size < w5.heap.size := (by (first | omega | (simp only [zz] at *; omega))); have ho5 := own_cell hb5 (b := w.heap.size) (by (first | omega | (simp only [zz] at *; omega))); have hq5 := own_frozen hb5 (b := w.heap.size) (by (first | omega | (simp only [zz] at *; omega))); have hlt5 : ∀ b, b < wr.heap.size → b < w5.heap.size := fun b hb => (by (first | omega | (simp only [zz] at *; omega))); have hc5 : ∀ b o, b < wr.heap.size → w5.cell? ⟨b, o, none⟩ = wr.cell? ⟨b, o, none⟩ := old_cell (by (repeat (first | exact Below.refl _ _ | assumption | refine below_drewN ?_ _ | refine below_drew ?_ | refine below_gr ?_ ?_ _ | refine below_alloc ?_ ?_ _ | refine Below.setCell ?_ ?_ _ | refine below_step ?_ (by assumption) ?_ | omega | (simp only [zz] at *; omega)))); (try rw [hcb]))
          exact ⟨⟨k + 1, by omega, by go_num, HN2, below_step hb (by (repeat (first | exact Below.refl _ _ | assumption | refine below_drewN ?_ _ | refine below_drew ?_ | refine below_gr ?_ ?_ _ | refine below_alloc ?_ ?_ _ | refine Below.setCell ?_ ?_ _ | refine below_step ?_ (by assumption) ?_ | omega | (simp only [zz] at *; omega)))) hz⟩, by simp [intOf]; omega⟩
      · obtain ⟨pb, po, rfl, hpb, hcl⟩ := i64_at hIP n (by omega)
        have hlz : decide ((0 : Int) < (p.length : Nat)) = true := decide_eq_true (by omega)
        have hlz2 : decide (0 < p.length) = true := decide_eq_true (by omega)
        have hlz3 : (0 : Int) < (p.length : Nat) := by omega
        have hsub : (p.length : Int) - 1 = (n : Nat) := by omega
        have hn1 : (0 : Int) ≤ (n : Nat) := by omega
        have hn2 : (n : Int) < (p.length : Nat) := by omega
        have HLQ : Hid (p.getLast? = some (p.getD n 0)) := hide (by
          rw [List.getLast?_eq_getElem?, List.getD_eq_getElem?_getD, show p.length - 1 = n by omega, List.getElem?_eq_getElem (by omega)]; rfl)
        have HFP : Hid (fG p = (decide (p.getD n 0 < ts.length) && cB p)) := hide (by rw [HF.out, HLQ.out]; rfl)
        clear HLQ hpn
        generalize p.getD n 0 = x at *
        by_cases hx : x < ts.length
        · have hxi : (x : Int) < (ts.length : Nat) := by omega
          have hxd : decide ((ts.length : Int) ≤ (x : Nat)) = false := decide_eq_false (by omega)
          have hxd2 : decide (ts.length ≤ x) = false := decide_eq_false (by omega)
          have HFP2 : Hid (fG p = cB p) := hide (by rw [HFP.out, decide_eq_true hx]; rfl)
          cases hcb : cB p with
          | true =>
            have HR : Hid (res = p) := hide (by rw [← HRES.out, HS1.out (by rw [HFP2.out, hcb])]; rfl)
            go_wp2
            refine wp_region_grow (by kernel_rfl) (by kernel_rfl) ?_
            repeat (go_big_quiet_step (fail))
            refine wpQuiet_nil ?_
            intro w4 hb4
            replace hb4 := ex_below hb4
            have hz4 := hb4.size
            (try simp only [zz] at hz4)
            have hs4 : w.heap.size < w4.heap.size := (by (first | omega | (simp only [zz] at *; omega)))
            have ho4 := own_cell hb4 (b := w.heap.size) (by (first | omega | (simp only [zz] at *; omega)))
            have hq4 := own_frozen hb4 (b := w.heap.size) (by (first | omega | (simp only [zz] at *; omega)))
            have hlt4 : ∀ b, b < wr.heap.size → b < w4.heap.size := fun b hb => (by (first | omega | (simp only [zz] at *; omega)))
            have hc4 : ∀ b o, b < wr.heap.size → w4.cell? ⟨b, o, none⟩ = wr.cell? ⟨b, o, none⟩ := old_cell (by (repeat (first | exact Below.refl _ _ | assumption | refine below_drewN ?_ _ | refine below_drew ?_ | refine below_gr ?_ ?_ _ | refine below_alloc ?_ ?_ _ | refine Below.setCell ?_ ?_ _ | refine below_step ?_ (by assumption) ?_ | omega | (simp only [zz] at *; omega))))
            go_wp2_with (go_at_call 85; refine (HCB.out _ hl3 _ _ _ (hA.ext (by (repeat (first | exact Below.refl _ _ | assumption | refine below_drewN ?_ _ | refine below_drew ?_ | refine below_gr ?_ ?_ _ | refine below_alloc ?_ ?_ _ | refine Below.setCell ?_ ?_ _ | refine below_step ?_ (by assumption) ?_ | omega | (simp only [zz] at *; omega))))) (hIP.ext (by (repeat (first | exact Below.refl _ _ | assumption | refine below_drewN ?_ _ | refine below_drew ?_ | refine below_gr ?_ ?_ _ | refine below_alloc ?_ ?_ _ | refine Below.setCell ?_ ?_ _ | refine below_step ?_ (by assumption) ?_ | omega | (simp only [zz] at *; omega)))))).mono ?_; rintro e w5 ⟨rfl, hb5⟩; replace hb5 := ex_below hb5; have hz5 := hb5.size; (try simp only [zz] at hz5); have hs5 : w.heap.size < w5.heap.size := (by (first | omega | (simp only [zz] at *; omega))); have ho5 := own_cell hb5 (b := w.heap.size) (by (first | omega | (simp only [zz] at *; omega))); have hq5 := own_frozen hb5 (b := w.heap.size) (by (first | omega | (simp only [zz] at *; omega))); have hlt5 : ∀ b, b < wr.heap.size → b < w5.heap.size := fun b hb => (by (first | omega | (simp only [zz] at *; omega))); have hc5 : ∀ b o, b < wr.heap.size → w5.cell? ⟨b, o, none⟩ = wr.cell? ⟨b, o, none⟩ := old_cell (by (repeat (first | exact Below.refl _ _ | assumption | refine below_drewN ?_ _ | refine below_drew ?_ | refine below_gr ?_ ?_ _ | refine below_alloc ?_ ?_ _ | refine Below.setCell ?_ ?_ _ | refine below_step ?_ (by assumption) ?_ | omega | (simp only [zz] at *; omega)))); (try rw [hcb]))
            go_ret2
            unfold GivesIntsL
            exact ⟨_, d, by rw [HR.out, natI_len]; rfl, grew_of (by (repeat (first | exact Below.refl _ _ | assumption | refine below_drewN ?_ _ | refine below_drew ?_ | refine below_gr ?_ ?_ _ | refine below_alloc ?_ ?_ _ | refine Below.setCell ?_ ?_ _ | refine below_step ?_ (by assumption) ?_ | omega | (simp only [zz] at *; omega)))), by rw [HR.out]; exact hIP.ext (by (repeat (first | exact Below.refl _ _ | assumption | refine below_drewN ?_ _ | refine below_drew ?_ | refine below_gr ?_ ?_ _ | refine below_alloc ?_ ?_ _ | refine Below.setCell ?_ ?_ _ | refine below_step ?_ (by assumption) ?_ | omega | (simp only [zz] at *; omega))))⟩
          | false =>
            have HN2 : Hid ((Tm.listsR.take (k + 1)).find? fG = none) := hide (HS2.out (by rw [HFP2.out, hcb]))
            go_wp2
            refine wp_region_grow (by kernel_rfl) (by kernel_rfl) ?_
            repeat (go_big_quiet_step (fail))
            refine wpQuiet_nil ?_
            intro w4 hb4
            replace hb4 := ex_below hb4
            have hz4 := hb4.size
            (try simp only [zz] at hz4)
            have hs4 : w.heap.size < w4.heap.size := (by (first | omega | (simp only [zz] at *; omega)))
            have ho4 := own_cell hb4 (b := w.heap.size) (by (first | omega | (simp only [zz] at *; omega)))
            have hq4 := own_frozen hb4 (b := w.heap.size) (by (first | omega | (simp only [zz] at *; omega)))
            have hlt4 : ∀ b, b < wr.heap.size → b < w4.heap.size := fun b hb => (by (first | omega | (simp only [zz] at *; omega)))
            have hc4 : ∀ b o, b < wr.heap.size → w4.cell? ⟨b, o, none⟩ = wr.cell? ⟨b, o, none⟩ := old_cell (by (repeat (first | exact Below.refl _ _ | assumption | refine below_drewN ?_ _ | refine below_drew ?_ | refine below_gr ?_ ?_ _ | refine below_alloc ?_ ?_ _ | refine Below.setCell ?_ ?_ _ | refine below_step ?_ (by assumption) ?_ | omega | (simp only [zz] at *; omega))))
            go_wp2_with (go_at_call 85; refine (HCB.out _ hl3 _ _ _ (hA.ext (by (repeat (first | exact Below.refl _ _ | assumption | refine below_drewN ?_ _ | refine below_drew ?_ | refine below_gr ?_ ?_ _ | refine below_alloc ?_ ?_ _ | refine Below.setCell ?_ ?_ _ | refine below_step ?_ (by assumption) ?_ | omega | (simp only [zz] at *; omega))))) (hIP.ext (by (repeat (first | exact Below.refl _ _ | assumption | refine below_drewN ?_ _ | refine below_drew ?_ | refine below_gr ?_ ?_ _ | refine below_alloc ?_ ?_ _ | refine Below.setCell ?_ ?_ _ | refine below_step ?_ (by assumption) ?_ | omega | (simp only [zz] at *; omega)))))).mono ?_; rintro e w5 ⟨rfl, hb5⟩; replace hb5 := ex_below hb5; have hz5 := hb5.size; (try simp only [zz] at hz5); have hs5 : w.heap.size < w5.heap.size := (by (first | omega | (simp only [zz] at *; omega))); have ho5 := own_cell hb5 (b := w.heap.size) (by (first | omega | (simp only [zz] at *; omega))); have hq5 := own_frozen hb5 (b := w.heap.size) (by (first | omega | (simp only [zz] at *; omega))); have hlt5 : ∀ b, b < wr.heap.size → b < w5.heap.size := fun b hb => (by (first | omega | (simp only [zz] at *; omega))); have hc5 : ∀ b o, b < wr.heap.size → w5.cell? ⟨b, o, none⟩ = wr.cell? ⟨b, o, none⟩ := old_cell (by (repeat (first | exact Below.refl _ _ | assumption | refine below_drewN ?_ _ | refine below_drew ?_ | refine below_gr ?_ ?_ _ | refine below_alloc ?_ ?_ _ | refine Below.setCell ?_ ?_ _ | refine below_step ?_ (by assumption) ?_ | omega | (simp only [zz] at *; omega)))); (try rw [hcb]))
            exact ⟨⟨k + 1, by omega, by go_num, HN2, below_step hb (by (repeat (first | exact Below.refl _ _ | assumption | refine below_drewN ?_ _ | refine below_drew ?_ | refine below_gr ?_ ?_ _ | refine below_alloc ?_ ?_ _ | refine Below.setCell ?_ ?_ _ | refine below_step ?_ (by assumption) ?_ | omega | (simp only [zz] at *; omega)))) hz⟩, by simp [intOf]; omega⟩
        · have hxi : (ts.length : Int) ≤ (x : Nat) := by omega
          have hxd : decide ((ts.length : Int) ≤ (x : Nat)) = true := decide_eq_true (by omega)
          have hxd2 : decide (ts.length ≤ x) = true := decide_eq_true (by omega)
          have HN2 : Hid ((Tm.listsR.take (k + 1)).find? fG = none) := hide (HS2.out (by rw [HFP.out, decide_eq_false hx]; rfl))
          go_wp2
          refine wp_region_grow (by kernel_rfl) (by kernel_rfl) ?_
          repeat (go_big_quiet_step (fail))
          refine wpQuiet_nil ?_
          intro w4 hb4
          replace hb4 := ex_below hb4
          have hz4 := hb4.size
          (try simp only [zz] at hz4)
          have hs4 : w.heap.size < w4.heap.size := (by (first | omega | (simp only [zz] at *; omega)))
          have ho4 := own_cell hb4 (b := w.heap.size) (by (first | omega | (simp only [zz] at *; omega)))
          have hq4 := own_frozen hb4 (b := w.heap.size) (by (first | omega | (simp only [zz] at *; omega)))
          have hlt4 : ∀ b, b < wr.heap.size → b < w4.heap.size := fun b hb => (by (first | omega | (simp only [zz] at *; omega)))
          have hc4 : ∀ b o, b < wr.heap.size → w4.cell? ⟨b, o, none⟩ = wr.cell? ⟨b, o, none⟩ := old_cell (by (repeat (first | exact Below.refl _ _ | assumption | refine below_drewN ?_ _ | refine below_drew ?_ | refine below_gr ?_ ?_ _ | refine below_alloc ?_ ?_ _ | refine Below.setCell ?_ ?_ _ | refine below_step ?_ (by assumption) ?_ | omega | (simp only [zz] at *; omega))))
          go_wp2
          exact ⟨⟨k + 1, by omega, by go_num, HN2, below_step hb (by (repeat (first | exact Below.refl _ _ | assumption | refine below_drewN ?_ _ | refine below_drew ?_ | refine below_gr ?_ ?_ _ | refine below_alloc ?_ ?_ _ | refine Below.setCell ?_ ?_ _ | refine below_step ?_ (by assumption) ?_ | omega | (simp only [zz] at *; omega)))) hz⟩, by simp [intOf]; omega⟩
    · have hke : k = 8 := by omega
      have HN : Hid (Tm.listsR.find? fG = none) := hide (by have h := HFN.out; rw [hke] at h; exact h)
      have hki : ¬ ((k : Int) < 8) := by omega
      have HR : Hid (res = []) := hide (by rw [← HRES.out, HN.out]; rfl)
      go_wp2
      go_ret2
      unfold GivesIntsL
      exact ⟨none, 0, by rw [HR.out]; rfl, grew_of (by (repeat (first | exact Below.refl _ _ | assumption | refine below_drewN ?_ _ | refine below_drew ?_ | refine below_gr ?_ ?_ _ | refine below_alloc ?_ ?_ _ | refine Below.setCell ?_ ?_ _ | refine below_step ?_ (by assumption) ?_ | omega | (simp only [zz] at *; omega)))), fun k x hk => (by rw [HR.out] at hk; cases hk)⟩
theorem rWrong_any (W : Int) (A : Option Addr) (ts : List ByteArray) (c : Nat) (w : World) (hA : Strs w A ts) (hl : ts.length ≤ 1000) (hsz : ∀ k, (h : k < ts.length) → ts[k].size ≤ 1000000) (long : Int) : Calls Try.prog 38 #[.agg #[.int .i64 W, .slice A ts.length c], .int .i64 long] w (GivesIntsL w (wrgR W ts long)) := by
  by_cases h0 : openE W ts long = 0
  · exact rwrg_ok W A ts c w hA hl hsz long h0
  · exact rwrg_bad W A ts c w hA hl hsz long h0
end Go.Proofs.Ytafncmgijbkomaa
