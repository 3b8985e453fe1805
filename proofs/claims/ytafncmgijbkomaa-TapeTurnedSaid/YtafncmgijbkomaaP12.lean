/- Proved here: which tables are right; regions in the rounds of a range: an operation that waits for nothing, quiet ones, a tail, a part of the proofs about the tape laws. Conditions: those that each theorem names, no others. -/
import Derived.Test.YtafncmgijbkomaaP11
import Derived.WalkKit
import Derived.WalkSpells
import Derived.WalkLawsBesides
import Derived.Below
import Derived.Deep.QuietTactic
import Derived.BigQuiet
import Derived.Deep.Light
import Derived.Sort.CutIn
set_option linter.unusedSimpArgs false
set_option linter.unusedVariables false
namespace Go.Proofs.Ytafncmgijbkomaa
open Go.RowKit Go.Maps Go.Shelf
attribute [local go_sem] Oper.semAt_some
theorem cells_own {β : Type} (B : Nat) (t : TypeId) (cs : Array Value) : Own (fun (_ : β) W => W.heap[B]? = some (.cells cs t (0, 0))) := fun s X Y row hs hg hrow => by
  refine (hg.block B (Array.getElem?_eq_some_iff.1 (show X.heap[B]? = _ from hs)).1 (fun e' => ?_)).trans hs
  obtain ⟨o, ho, hc⟩ := hrow B e'.symm; rw [show X.heap[B]? = _ from hs] at ho; cases ho; cases hc
theorem keepsFrom_below {B : Nat} {W W' : World} (h : Below W.heap.size W W') : KeepsFrom B W W' :=
  ⟨h.size, fun k o _ ho _ => (h.block k (Array.getElem?_eq_some_iff.1 ho).1).trans ho⟩
theorem below_frozen {n : Nat} {X Y : World} (h : Below n X Y) {b o : Nat} (hb : b < n) : Y.frozen? ⟨b, o, none⟩ = X.frozen? ⟨b, o, none⟩ := by
  unfold World.frozen?; rw [show Y.heap[(⟨b, o, none⟩ : Addr).block]? = X.heap[(⟨b, o, none⟩ : Addr).block]? from h.block b hb]
theorem put_cell {X : World} {D b : Nat} {o : Obj} {v : Value} (h : D ≠ b) (hc : X.cell? ⟨b, 0, none⟩ = some v) : (X.putObj D o).cell? ⟨b, 0, none⟩ = some v := by
  have e : (X.putObj D o).heap[b]? = _ := World.putObj_heap_other (fun e => h e.symm)
  unfold World.cell? at hc ⊢; rw [e]; exact hc
theorem tab_val {W : Int} {ts : List ByteArray} {xs : List Int} (h : tabE W ts xs = 0) : chkSet W ts = 0 ∧ xs.length = Tm.prodP (lts ts) ∧ withinB 0 24 xs = true ∧ xs.getD (xs.length - 1) 0 = 0 := by
  unfold tabE at h
  split at h
  · rename_i h1; exact absurd h h1
  · rename_i h1
    split at h
    · simp at h
    · rename_i h2
      split at h
      · simp at h
      · rename_i h3
        split at h
        · simp at h
        · rename_i h4; exact ⟨by omega, by omega, by simpa using h3, by omega⟩
set_option maxRecDepth 100000 in
set_option maxHeartbeats 1000000 in
theorem tab_ok (W : Int) (A : Option Addr) (ts : List ByteArray) (c : Nat) (w : World) (hA : Strs w A ts) (hl : ts.length ≤ 1000) (hsz : ∀ k, (h : k < ts.length) → ts[k].size ≤ 1000000) (T : Option Addr) (xs : List Int) (d : Nat) (hT : I64 w T xs) (hx : xs.length ≤ 1000) (h0 : tabE W ts xs = 0) : Calls Try.prog 27 #[.agg #[.int .i64 W, .slice A ts.length c], .slice T xs.length d] w (Gives w (tup2V (tabR W ts xs))) := by
  obtain ⟨hc, hM, hw, hl⟩ := tab_val h0
  obtain ⟨Wn, rfl⟩ : ∃ Wn : Nat, W = (Wn : Nat) := ⟨W.toNat, by have := (chk_val hc).1; omega⟩
  have h1 : (chkSet (Wn : Nat) ts != 0) = false := by simp [hc]
  obtain ⟨hW1, hW2, hp0, h3, hs, hf, _, hlo⟩ := chk_val hc
  have HMA := hide (fun (R : Nat) (w' : World) (hR : ReelAt w' R (Wn : Nat) A ts c) (hA : Strs w' A ts) => many_any R (Wn : Nat) A ts c w' hR hA h3 hf hs)
  have hpp := Tm.prod_pos (lts ts)
  have HV := hide (show tabR (Wn : Nat) ts xs = if tabAll Wn (lts ts) xs = true then (xs.getD 0 0, 0) else (0, 14) by simp [tabR, h0])
  rw [HV.out]
  clear h0 hc
  obtain ⟨m, hm⟩ : ∃ m, Tm.prodP (lts ts) = m := ⟨_, rfl⟩
  have HPM := hide hm
  rw [hm] at HMA hM hpp
  clear hm
  have hxm : xs.length < m + 1 := by omega
  have hxp : 0 < xs.length := by omega
  have hMi : (((xs.length : Nat) : Int) != ((m : Nat) : Int)) = false := by simp [hM]
  have HM := hide hM
  clear hM
  have HWI := hide (fun (w' : World) (h : I64 w' T xs) => within_any 0 24 T xs d w' h hx)
  rw [hw] at HWI
  have HRG : Hid (∀ x, x ∈ xs → 0 ≤ x ∧ x ≤ 24) := hide (by simpa [withinB, outB] using hw)
  clear hw
  have HT := hide hT
  obtain ⟨tb, tf, rfl, tl⟩ := hT.form hxp
  have cl := hT.at (k := xs.length - 1) (by omega)
  rw [show xs.getD (xs.length - 1) 0 = xs[xs.length - 1]'(by omega) by simp [List.getD_eq_getElem?_getD, List.getElem?_eq_getElem (show xs.length - 1 < xs.length by omega)]] at hl
  rw [hl] at cl
  clear hl
  have hnum : ((xs.length : Nat) : Int) - 1 = ((xs.length - 1 : Nat) : Int) := by omega
  have hlz : xs.length - 1 < xs.length := by omega
  obtain ⟨V, hV⟩ : ∃ V : Int × Int, (if tabAll Wn (lts ts) xs = true then (xs.getD 0 0, 0) else (0, 14)) = V := ⟨_, rfl⟩
  have HVV := hide hV
  rw [hV]
  clear hV HV
  unfold tup2V
  refine (callsIn_wide (n := 8)).1 ?_
  have h18 : 1 ≤ 8 := by omega
  refine callsIn_of_wp_marks Try.func27 rfl trivial ?_ rfl
  simp only [Try.ntmps27, List.size_toArray, List.length_cons, List.length_nil, Nat.reduceAdd, Nat.reduceSub, Array.replicate_succ, Array.replicate_zero, List.push_toArray, List.append_toArray, List.nil_append, List.cons_append]
  refine wpIn_wide.2 ?_
  go_wp2_with (first
    | (go_at_call 21; refine (checkSet_any (Wn : Nat) A ts c _ (hA.ext (by (repeat (first | exact Below.refl _ _ | assumption | refine below_drewN ?_ _ | refine below_drew ?_ | refine below_gr ?_ ?_ _ | refine below_alloc ?_ ?_ _ | refine Below.setCell ?_ ?_ _ | refine below_step ?_ (by assumption) ?_ | omega | (simp only [zz] at *; omega))))) hl hsz).mono ?_; rintro e w1 ⟨rfl, hb1⟩; replace hb1 := ex_below hb1; have hz1 := hb1.size; (try simp only [zz] at hz1); have hlt1 : ∀ b, b < w.heap.size → b < w1.heap.size := fun b hb => (by (first | omega | (simp only [zz] at *; omega))); have hc1 : ∀ b o, b < w.heap.size → w1.cell? ⟨b, o, none⟩ = w.cell? ⟨b, o, none⟩ := old_cell (by (repeat (first | exact Below.refl _ _ | assumption | refine below_drewN ?_ _ | refine below_drew ?_ | refine below_gr ?_ ?_ _ | refine below_alloc ?_ ?_ _ | refine Below.setCell ?_ ?_ _ | refine below_step ?_ (by assumption) ?_ | omega | (simp only [zz] at *; omega)))); have hs1a : w.heap.size < w1.heap.size := (by (first | omega | (simp only [zz] at *; omega))); have ho1a := own_cell hb1 (b := w.heap.size) (by (first | omega | (simp only [zz] at *; omega))); have hq1a := own_frozen hb1 (b := w.heap.size) (by (first | omega | (simp only [zz] at *; omega))); have hs1b : w.heap.size + 1 < w1.heap.size := (by (first | omega | (simp only [zz] at *; omega))); have ho1b := own_cell hb1 (b := w.heap.size + 1) (by (first | omega | (simp only [zz] at *; omega))); have hq1b := own_frozen hb1 (b := w.heap.size + 1) (by (first | omega | (simp only [zz] at *; omega))); have hs1c : w.heap.size + 1 + 1 < w1.heap.size := (by (first | omega | (simp only [zz] at *; omega))); have ho1c := own_cell hb1 (b := w.heap.size + 1 + 1) (by (first | omega | (simp only [zz] at *; omega))); have hq1c := own_frozen hb1 (b := w.heap.size + 1 + 1) (by (first | omega | (simp only [zz] at *; omega))); have hs1d : w.heap.size + 1 + 1 + 1 < w1.heap.size := (by (first | omega | (simp only [zz] at *; omega))); have ho1d := own_cell hb1 (b := w.heap.size + 1 + 1 + 1) (by (first | omega | (simp only [zz] at *; omega))); have hq1d := own_frozen hb1 (b := w.heap.size + 1 + 1 + 1) (by (first | omega | (simp only [zz] at *; omega))))
    | (go_at_call 55; refine (newReel_any (Wn : Nat) A ts c _ (hA.ext (by (repeat (first | exact Below.refl _ _ | assumption | refine below_drewN ?_ _ | refine below_drew ?_ | refine below_gr ?_ ?_ _ | refine below_alloc ?_ ?_ _ | refine Below.setCell ?_ ?_ _ | refine below_step ?_ (by assumption) ?_ | omega | (simp only [zz] at *; omega)))))).mono ?_; rintro e w4 ⟨R, M, rfl, hb4, hR0, hM0, hR4⟩; have hz1 := hb4.size; (try simp only [zz] at hz1); have hlt1 : ∀ b, b < w.heap.size → b < w4.heap.size := fun b hb => (by (first | omega | (simp only [zz] at *; omega))); have hc1 : ∀ b o, b < w.heap.size → w4.cell? ⟨b, o, none⟩ = w.cell? ⟨b, o, none⟩ := old_cell (by (repeat (first | exact Below.refl _ _ | assumption | refine below_drewN ?_ _ | refine below_drew ?_ | refine below_gr ?_ ?_ _ | refine below_alloc ?_ ?_ _ | refine Below.setCell ?_ ?_ _ | refine below_step ?_ (by assumption) ?_ | omega | (simp only [zz] at *; omega)))); have hs1a : w.heap.size < w4.heap.size := (by (first | omega | (simp only [zz] at *; omega))); have ho1a := own_cell hb4 (b := w.heap.size) (by (first | omega | (simp only [zz] at *; omega))); have hq1a := own_frozen hb4 (b := w.heap.size) (by (first | omega | (simp only [zz] at *; omega))); have hs1b : w.heap.size + 1 < w4.heap.size := (by (first | omega | (simp only [zz] at *; omega))); have ho1b := own_cell hb4 (b := w.heap.size + 1) (by (first | omega | (simp only [zz] at *; omega))); have hq1b := own_frozen hb4 (b := w.heap.size + 1) (by (first | omega | (simp only [zz] at *; omega))); have hs1c : w.heap.size + 1 + 1 < w4.heap.size := (by (first | omega | (simp only [zz] at *; omega))); have ho1c := own_cell hb4 (b := w.heap.size + 1 + 1) (by (first | omega | (simp only [zz] at *; omega))); have hq1c := own_frozen hb4 (b := w.heap.size + 1 + 1) (by (first | omega | (simp only [zz] at *; omega))); have hs1d : w.heap.size + 1 + 1 + 1 < w4.heap.size := (by (first | omega | (simp only [zz] at *; omega))); have ho1d := own_cell hb4 (b := w.heap.size + 1 + 1 + 1) (by (first | omega | (simp only [zz] at *; omega))); have hq1d := own_frozen hb4 (b := w.heap.size + 1 + 1 + 1) (by (first | omega | (simp only [zz] at *; omega)))))

  refine wp_region_grow (by kernel_rfl) (by kernel_rfl) ?_
  repeat (go_big_quiet_step ((go_at_call 68; exact Gives.quiet (HMA.out _ _ (hR4.rat.ext (by (repeat (first | exact Below.refl _ _ | assumption | refine below_drewN ?_ _ | refine below_drew ?_ | refine below_gr ?_ ?_ _ | refine below_alloc ?_ ?_ _ | refine Below.setCell ?_ ?_ _ | refine below_step ?_ (by assumption) ?_ | omega | (simp only [zz] at *; omega))))) (hA.ext (by (repeat (first | exact Below.refl _ _ | assumption | refine below_drewN ?_ _ | refine below_drew ?_ | refine below_gr ?_ ?_ _ | refine below_alloc ?_ ?_ _ | refine Below.setCell ?_ ?_ _ | refine below_step ?_ (by assumption) ?_ | omega | (simp only [zz] at *; omega)))))))))
  refine wpQuiet_nil ?_
  intro w5 hb1
  replace hb1 := ex_below hb1
  have hz1 := hb1.size
  (try simp only [zz] at hz1)
  have hlt1 : ∀ b, b < w.heap.size → b < w5.heap.size := fun b hb => (by (first | omega | (simp only [zz] at *; omega)))
  have hc1 : ∀ b o, b < w.heap.size → w5.cell? ⟨b, o, none⟩ = w.cell? ⟨b, o, none⟩ := old_cell (by (repeat (first | exact Below.refl _ _ | assumption | refine below_drewN ?_ _ | refine below_drew ?_ | refine below_gr ?_ ?_ _ | refine below_alloc ?_ ?_ _ | refine Below.setCell ?_ ?_ _ | refine below_step ?_ (by assumption) ?_ | omega | (simp only [zz] at *; omega))))
  have hs1a : w.heap.size < w5.heap.size := (by (first | omega | (simp only [zz] at *; omega)))
  have ho1a := own_cell hb1 (b := w.heap.size) (by (first | omega | (simp only [zz] at *; omega)))
  have hq1a := own_frozen hb1 (b := w.heap.size) (by (first | omega | (simp only [zz] at *; omega)))
  have hs1b : w.heap.size + 1 < w5.heap.size := (by (first | omega | (simp only [zz] at *; omega)))
  have ho1b := own_cell hb1 (b := w.heap.size + 1) (by (first | omega | (simp only [zz] at *; omega)))
  have hq1b := own_frozen hb1 (b := w.heap.size + 1) (by (first | omega | (simp only [zz] at *; omega)))
  have hs1c : w.heap.size + 1 + 1 < w5.heap.size := (by (first | omega | (simp only [zz] at *; omega)))
  have ho1c := own_cell hb1 (b := w.heap.size + 1 + 1) (by (first | omega | (simp only [zz] at *; omega)))
  have hq1c := own_frozen hb1 (b := w.heap.size + 1 + 1) (by (first | omega | (simp only [zz] at *; omega)))
  have hs1d : w.heap.size + 1 + 1 + 1 < w5.heap.size := (by (first | omega | (simp only [zz] at *; omega)))
  have ho1d := own_cell hb1 (b := w.heap.size + 1 + 1 + 1) (by (first | omega | (simp only [zz] at *; omega)))
  have hq1d := own_frozen hb1 (b := w.heap.size + 1 + 1 + 1) (by (first | omega | (simp only [zz] at *; omega)))
  have hs1e : w4.heap.size < w5.heap.size := (by (first | omega | (simp only [zz] at *; omega)))
  have ho1e := own_cell hb1 (b := w4.heap.size) (by (first | omega | (simp only [zz] at *; omega)))
  have hq1e := own_frozen hb1 (b := w4.heap.size) (by (first | omega | (simp only [zz] at *; omega)))
  go_wp2_with (first
    | (go_at_call 61; refine (HWI.out _ (hT.ext (by (repeat (first | exact Below.refl _ _ | assumption | refine below_drewN ?_ _ | refine below_drew ?_ | refine below_gr ?_ ?_ _ | refine below_alloc ?_ ?_ _ | refine Below.setCell ?_ ?_ _ | refine below_step ?_ (by assumption) ?_ | omega | (simp only [zz] at *; omega)))))).mono ?_; rintro e w6 ⟨rfl, hb6⟩; replace hb6 := ex_below hb6; have hz1 := hb6.size; (try simp only [zz] at hz1); have hlt1 : ∀ b, b < w.heap.size → b < w6.heap.size := fun b hb => (by (first | omega | (simp only [zz] at *; omega))); have hc1 : ∀ b o, b < w.heap.size → w6.cell? ⟨b, o, none⟩ = w.cell? ⟨b, o, none⟩ := old_cell (by (repeat (first | exact Below.refl _ _ | assumption | refine below_drewN ?_ _ | refine below_drew ?_ | refine below_gr ?_ ?_ _ | refine below_alloc ?_ ?_ _ | refine Below.setCell ?_ ?_ _ | refine below_step ?_ (by assumption) ?_ | omega | (simp only [zz] at *; omega)))); have hs1a : w.heap.size < w6.heap.size := (by (first | omega | (simp only [zz] at *; omega))); have ho1a := own_cell hb6 (b := w.heap.size) (by (first | omega | (simp only [zz] at *; omega))); have hq1a := own_frozen hb6 (b := w.heap.size) (by (first | omega | (simp only [zz] at *; omega))); have hs1b : w.heap.size + 1 < w6.heap.size := (by (first | omega | (simp only [zz] at *; omega))); have ho1b := own_cell hb6 (b := w.heap.size + 1) (by (first | omega | (simp only [zz] at *; omega))); have hq1b := own_frozen hb6 (b := w.heap.size + 1) (by (first | omega | (simp only [zz] at *; omega))); have hs1c : w.heap.size + 1 + 1 < w6.heap.size := (by (first | omega | (simp only [zz] at *; omega))); have ho1c := own_cell hb6 (b := w.heap.size + 1 + 1) (by (first | omega | (simp only [zz] at *; omega))); have hq1c := own_frozen hb6 (b := w.heap.size + 1 + 1) (by (first | omega | (simp only [zz] at *; omega))); have hs1d : w.heap.size + 1 + 1 + 1 < w6.heap.size := (by (first | omega | (simp only [zz] at *; omega))); have ho1d := own_cell hb6 (b := w.heap.size + 1 + 1 + 1) (by (first | omega | (simp only [zz] at *; omega))); have hq1d := own_frozen hb6 (b := w.heap.size + 1 + 1 + 1) (by (first | omega | (simp only [zz] at *; omega))); have hs1e : w4.heap.size < w6.heap.size := (by (first | omega | (simp only [zz] at *; omega))); have ho1e := own_cell hb6 (b := w4.heap.size) (by (first | omega | (simp only [zz] at *; omega))); have hq1e := own_frozen hb6 (b := w4.heap.size) (by (first | omega | (simp only [zz] at *; omega))))
    | (go_at_call 69; refine (places_in _ (some ⟨R, 0, none⟩)).mono ?_; rintro e w8 ⟨rfl, rfl⟩))

  have hbW : Below w.heap.size w (w6.alloc (.cells #[.pointer (some ⟨R, 0, none⟩)] 83)) := by (repeat (first | exact Below.refl _ _ | assumption | (refine below_gr ?_ (by (first | omega | (simp only [zz] at *; omega))) _) | (refine below_alloc ?_ (by (first | omega | (simp only [zz] at *; omega))) _) | (refine Below.setCell ?_ (by (first | omega | (simp only [zz] at *; omega))) _) | refine below_drewN ?_ _ | refine below_drew ?_ | (refine below_step ?_ (by assumption) (by (first | omega | (simp only [zz] at *; omega))))))
  have c2 : (w6.alloc (.cells #[.pointer (some ⟨R, 0, none⟩)] 83)).cell? ⟨w.heap.size, 0, none⟩ = some (.int .i64 (Wn : Nat)) := by simp [go_sem, *]
  have c3 : (w6.alloc (.cells #[.pointer (some ⟨R, 0, none⟩)] 83)).cell? ⟨w.heap.size + 1, 0, none⟩ = some (.slice (some ⟨tb, tf, none⟩) xs.length d) := by simp [go_sem, *]
  have c4 : (w6.alloc (.cells #[.pointer (some ⟨R, 0, none⟩)] 83)).cell? ⟨w.heap.size + 1 + 1, 0, none⟩ = some (.int .i64 0) := by simp [go_sem, *]
  have c5 : (w6.alloc (.cells #[.pointer (some ⟨R, 0, none⟩)] 83)).cell? ⟨w.heap.size + 1 + 1 + 1, 0, none⟩ = some (.int .i64 0) := by simp [go_sem, *]
  have f4 : (w6.alloc (.cells #[.pointer (some ⟨R, 0, none⟩)] 83)).frozen? ⟨w.heap.size + 1 + 1, 0, none⟩ = false := by simp [go_sem, *]
  have f5 : (w6.alloc (.cells #[.pointer (some ⟨R, 0, none⟩)] 83)).frozen? ⟨w.heap.size + 1 + 1 + 1, 0, none⟩ = false := by simp [go_sem, *]
  have c7 : (w6.alloc (.cells #[.pointer (some ⟨R, 0, none⟩)] 83)).cell? ⟨w4.heap.size, 0, none⟩ = some (.pointer (some ⟨R, 0, none⟩)) := by simp [go_sem, *]
  have cB : (w6.alloc (.cells #[.pointer (some ⟨R, 0, none⟩)] 83)).cell? ⟨w6.heap.size, 0, none⟩ = some (.pointer (some ⟨R, 0, none⟩)) := (Boxed.new w6 _ _).cell
  have s5 : w.heap.size + 1 + 1 + 1 < w6.heap.size := by omega
  have s7 : w4.heap.size < w6.heap.size := by omega
  have rat : ReelAt (w6.alloc (.cells #[.pointer (some ⟨R, 0, none⟩)] 83)) R (Wn : Nat) A ts c := hR4.rat.ext (by (repeat (first | exact Below.refl _ _ | assumption | refine below_drewN ?_ _ | refine below_drew ?_ | refine below_gr ?_ ?_ _ | refine below_alloc ?_ ?_ _ | refine Below.setCell ?_ ?_ _ | refine below_step ?_ (by assumption) ?_ | omega | (simp only [zz] at *; omega))))
  have hsz0 : (w6.alloc (.cells #[.pointer (some ⟨R, 0, none⟩)] 83)).heap.size = w6.heap.size + 1 := by simp
  obtain ⟨W0, hW0⟩ : ∃ W0, w6.alloc (.cells #[.pointer (some ⟨R, 0, none⟩)] 83) = W0 := ⟨_, rfl⟩
  rw [hW0] at hbW c2 c3 c4 c5 f4 f5 c7 cB rat hsz0 ⊢
  clear hW0
  have str : Strs W0 A ts := hA.ext hbW
  generalize w4.heap.size = B7 at *
  generalize w6.heap.size = BB at *
  have hTW : I64 W0 (some ⟨tb, tf, none⟩) xs := HT.out.ext hbW
  clear cl
  refine (wpIn_wide (n := 8)).1 ?_
  have hm1 : 1 ≤ 8 - 1 := by omega
  have hm2 : 1 ≤ 8 - 1 - 1 := by omega
  refine wpIn_rangeFunc_ownH rfl h18 (gf := 94) (lb := #[.pointer (some ⟨BB, 0, none⟩)]) rfl trivial (enters_of Try.func94 (by kernel_rfl) rfl)
    (placesM_stops 7 (by omega) BB R (Wn : Nat) A ts c W0 rat str h3 hf hs m HPM.out W0 (by omega) (Nat.le_refl _) (fun _ _ => rfl) cB) (fun h k => h.trans k) (kp_put (Nat.le_refl _) (by omega)) (Below.refl _ _) (fun _ => rfl)
    (fun pre W' => (∀ y, y ∈ pre → tabOk Wn (lts ts) xs (y % m) = true) ∧ Below W0.heap.size W0 W')
    (fun cd _ W' => cd = .ret ∧ tabAll Wn (lts ts) xs = false ∧ (W'.cell? ⟨w.heap.size + 1 + 1, 0, none⟩ = some (.int .i64 0) ∧ W'.cell? ⟨w.heap.size + 1 + 1 + 1, 0, none⟩ = some (.int .i64 14)) ∧ Below w.heap.size w W')
    ?ownI ?ownX ⟨by simp, Below.refl _ _⟩
    (fun x a' W' => ∃ Bx, BB < Bx ∧ W'.heap[Bx]? = some (.cells (plC (Tm.placeP (lts ts) (x % m))) 86 (0, 0)) ∧ a' = { tmps := #[.agg #[.int .i64 (Wn : Nat), .slice A ts.length c], .slice (some ⟨tb, tf, none⟩) xs.length d, .pointer (some ⟨w.heap.size, 0, none⟩), .pointer (some ⟨w.heap.size + 1, 0, none⟩), .pointer (some ⟨w.heap.size + 1 + 1, 0, none⟩), .pointer (some ⟨w.heap.size + 1 + 1 + 1, 0, none⟩), .int .i64 (chkSet (Wn : Nat) ts), .pointer (some ⟨B7, 0, none⟩), .int .i64 ((x % m : Nat) : Int), .pointer (some ⟨Bx, 0, none⟩), undef, .agg #[.int .i64 (Wn : Nat), .slice A ts.length c], .int .i64 (chkSet (Wn : Nat) ts), .int .i64 (chkSet (Wn : Nat) ts), .bool false, undef, .agg #[.int .i64 (Wn : Nat), .slice A ts.length c], .pointer (some ⟨R, 0, none⟩), .bool false, .slice (some ⟨tb, tf, none⟩) xs.length d, .int .i64 (xs.length : Nat), .pointer (some ⟨R, 0, none⟩), .int .i64 (m : Nat), .bool false, .bool false, .slice (some ⟨tb, tf, none⟩) xs.length d, .bool true, .bool false, .bool false, .slice (some ⟨tb, tf, none⟩) xs.length d, .slice (some ⟨tb, tf, none⟩) xs.length d, .int .i64 (xs.length : Nat), .int .i64 ((xs.length - 1 : Nat) : Int), .pointer (some ⟨tb, tf + (xs.length - 1), none⟩), .int .i64 0, .bool false, .pointer (some ⟨R, 0, none⟩), .func (.func 94) #[] #[.pointer (some ⟨BB, 0, none⟩)], .int .i64 ((x % m : Nat) : Int), .agg (plC (Tm.placeP (lts ts) (x % m))), undef, undef, undef, undef, undef, undef, undef, undef, undef, undef, undef, undef, undef, undef, undef, undef, undef, undef, undef, undef, undef, undef, undef, undef], defers := [] })
    ?ownA ?assign ?body ?done ?stop
  case ownI => exact OwnFrom.and (fun s X Y row hs _ _ => hs) (ownFrom_below (Nat.le_refl _) (Nat.le_refl _))
  case ownX =>
    intro cd
    refine OwnFrom.and (fun s X Y row hs _ _ => hs) (OwnFrom.and (fun s X Y row hs _ _ => hs) (OwnFrom.and (OwnFrom.and (ownFrom_cell (by omega)) (ownFrom_cell (by omega))) (ownFrom_below (Nat.le_refl _) (by omega))))
  case ownA =>
    rintro x a' s X Y row ⟨Bx, h1, h2, h3⟩ hg hr
    exact ⟨Bx, h1, cells_own (β := Unit) Bx _ _ () X Y row h2 hg (fun r e => (hr r e).2), h3⟩
  case assign =>
    rintro l pre x W' K ⟨b1, hBW⟩ hK
    have hz := hBW.size
    generalize x % m = y at *
    unfold encN plV
    unfold plC at *
    generalize (Tm.placeP (lts ts) y).getD 0 0 = p0 at *
    generalize (Tm.placeP (lts ts) y).getD 1 0 = p1 at *
    generalize (Tm.placeP (lts ts) y).getD 2 0 = p2 at *
    gi_wp2
    exact hK _ _ ((KeepsOthers.alloc _ _).from _) (Kp.below ((Below.refl _ W').alloc (Nat.le_refl _) _) (by omega) (by omega)) ⟨b1, hBW.alloc hz _⟩ ⟨W'.heap.size, by omega, World.alloc_heap_new W' _, rfl⟩
  case body =>
    rintro l pre x a' W' hll ⟨r, hr⟩ ⟨hpre, hBW⟩ ⟨Bx, hBx, bX, rfl⟩ hlt
    have hz := hBW.size
    have hym : x % m < m := Nat.mod_lt _ hpp
    have hpl := (Tm.place_is (ts := lts ts) (n := x % m) (by rw [HPM.out]; exact hym)).1
    have HPRE := hide hpre
    have HOK := hide (show tabOk Wn (lts ts) xs (x % m) = (List.range Wn).all fun c => decide (xs.getD (x % m) 0 ≤ xs.getD (Tm.idxP (lts ts) (Tm.nextP (lts ts) (Tm.placeP (lts ts) (x % m)) (c : Nat)) 0) 0 + 1) from rfl)
    have HALL := hide (fun (e : tabOk Wn (lts ts) xs (x % m) = false) => (show tabAll Wn (lts ts) xs = false by
      refine Bool.eq_false_iff.2 (fun g => ?_)
      unfold tabAll at g
      rw [List.all_eq_true] at g
      rw [g _ (List.mem_range.2 (by rw [HPM.out]; exact hym))] at e
      cases e))
    have hBl := (Array.getElem?_eq_some_iff.1 bX).1
    have HNX := hide (fun (k : Nat) (w' : World) (h : ReelAt w' R (Wn : Nat) A ts c) (h' : Strs w' A ts) => next_any R (Wn : Nat) A ts c (Tm.placeP (lts ts) (x % m)) (k : Int) w' h h' h3 hpl hf)
    have HIX := hide (fun (k : Nat) (w' : World) (h : ReelAt w' R (Wn : Nat) A ts c) (h' : Strs w' A ts) => index_any R (Wn : Nat) A ts c (Tm.nextP (lts ts) (Tm.placeP (lts ts) (x % m)) (k : Int)) w' h h' h3 (Tm.next_is hpl _) hs)
    have HIL := hide (fun (k : Nat) => (Tm.idx_lin (Tm.next_is hpl (k : Int)) 0).2)
    clear hpre hr
    generalize hy : x % m = y at *
    replace hy := hide hy
    have d2 := (hBW.cell (p := ⟨w.heap.size, 0, none⟩) (by show w.heap.size < _; omega)).trans c2
    have hsn : w.heap.size < W'.heap.size := by omega
    gi_wp2
    gi_loopw [42] (fun i wr => ∃ k : Nat, k ≤ Wn ∧ i = .int .i64 (k : Nat) ∧ (∀ c : Nat, c < k → xs.getD y 0 ≤ xs.getD (Tm.idxP (lts ts) (Tm.nextP (lts ts) (Tm.placeP (lts ts) y) (c : Nat)) 0) 0 + 1) ∧ Below W'.heap.size W' wr) (fun i _ => Wn - (intOf i).toNat)
    case atStart => exact ⟨0, Nat.zero_le _, rfl, fun c h => absurd h (Nat.not_lt_zero _), Below.refl _ _⟩
    case round =>
      obtain ⟨k, hk, rfl, hall, hb⟩ := hrel
      have hzr := hb.size
      have hB0 : Below W0.heap.size W0 wr := hBW.trans (hb.mono hz)
      have rr := rat.ext hB0
      have sr := str.ext hB0
      have e3 := (hB0.cell (p := ⟨w.heap.size + 1, 0, none⟩) (by show w.heap.size + 1 < _; omega)).trans c3
      have e7 := (hB0.cell (p := ⟨B7, 0, none⟩) (by show B7 < _; omega)).trans c7
      have hO := (hb.block Bx hBl).trans bX
      have hs3 : w.heap.size + 1 < wr.heap.size := by omega
      have hs7 : B7 < wr.heap.size := by omega
      have hsX : Bx < wr.heap.size := by omega
      have hst : tb < wr.heap.size := by omega
      have hTr : I64 wr (some ⟨tb, tf, none⟩) xs := hTW.ext hB0
      by_cases hlt2 : k < Wn
      · have hyx : y < xs.length := by rw [HM.out]; exact hym
        have ey := hTr.at hyx
        have hjx : Tm.idxP (lts ts) (Tm.nextP (lts ts) (Tm.placeP (lts ts) y) (k : Int)) 0 < xs.length := by rw [HM.out, ← HPM.out]; exact HIL.out k
        have ej := hTr.at hjx
        have HNK := hide (HNX.out k)
        have HIK := hide (HIX.out k)
        have HSTEP : Hid (xs[y] ≤ xs[Tm.idxP (lts ts) (Tm.nextP (lts ts) (Tm.placeP (lts ts) y) (k : Int)) 0] + 1 ↔ xs.getD y 0 ≤ xs.getD (Tm.idxP (lts ts) (Tm.nextP (lts ts) (Tm.placeP (lts ts) y) (k : Int)) 0) 0 + 1) := hide (by
          rw [List.getD_eq_getElem?_getD, List.getD_eq_getElem?_getD, List.getElem?_eq_getElem hyx, List.getElem?_eq_getElem hjx]
          exact Iff.rfl)
        have HALLK := hide hall
        clear hall hTr
        have rj := HRG.out _ (List.getElem_mem hjx)
        generalize xs[y] = vy at *
        generalize xs[Tm.idxP (lts ts) (Tm.nextP (lts ts) (Tm.placeP (lts ts) y) (k : Int)) 0] = vj at *
        generalize hj : Tm.idxP (lts ts) (Tm.nextP (lts ts) (Tm.placeP (lts ts) y) (k : Int)) 0 = j at *
        replace hj := hide hj
        generalize hqq : Tm.nextP (lts ts) (Tm.placeP (lts ts) y) (k : Int) = q at *
        replace hqq := hide hqq
        have hall : plC (Tm.placeP (lts ts) y) = #[.int .i64 ((Tm.placeP (lts ts) y).getD 0 0 : Nat), .int .i64 ((Tm.placeP (lts ts) y).getD 1 0 : Nat), .int .i64 ((Tm.placeP (lts ts) y).getD 2 0 : Nat)] := rfl
        obtain ⟨y0, y1, y2, hq⟩ : ∃ y0 y1 y2 : Nat, plC q = #[.int .i64 (y0 : Nat), .int .i64 (y1 : Nat), .int .i64 (y2 : Nat)] := ⟨_, _, _, rfl⟩
        unfold plV at HNK HIK
        rw [hq] at HNK HIK
        rw [hall] at hO HNK
        clear hall hq
        have e0 := obj_at hO 0 _ rfl
        have e1 := obj_at hO 1 _ rfl
        have e2 := obj_at hO 2 _ rfl
        gi_wp2
        refine grow_round (by kernel_rfl) (by kernel_rfl) (by kernel_rfl) ?_
        go_big_quiet_step (fail)
        repeat (go_big_quiet_step ((first | (go_at_call 56; exact Gives.quiet (HNK.out _ (rr.ext (by (repeat (first | exact Below.refl _ _ | assumption | refine below_drewN ?_ _ | refine below_drew ?_ | refine below_gr ?_ ?_ _ | refine below_alloc ?_ ?_ _ | refine Below.setCell ?_ ?_ _ | refine below_step ?_ (by assumption) ?_ | omega | (simp only [zz] at *; omega))))) (sr.ext (by (repeat (first | exact Below.refl _ _ | assumption | refine below_drewN ?_ _ | refine below_drew ?_ | refine below_gr ?_ ?_ _ | refine below_alloc ?_ ?_ _ | refine Below.setCell ?_ ?_ _ | refine below_step ?_ (by assumption) ?_ | omega | (simp only [zz] at *; omega)))))) ) | (go_at_call 70; exact Gives.quiet (HIK.out _ (rr.ext (by (repeat (first | exact Below.refl _ _ | assumption | refine below_drewN ?_ _ | refine below_drew ?_ | refine below_gr ?_ ?_ _ | refine below_alloc ?_ ?_ _ | refine Below.setCell ?_ ?_ _ | refine below_step ?_ (by assumption) ?_ | omega | (simp only [zz] at *; omega))))) (sr.ext (by (repeat (first | exact Below.refl _ _ | assumption | refine below_drewN ?_ _ | refine below_drew ?_ | refine below_gr ?_ ?_ _ | refine below_alloc ?_ ?_ _ | refine Below.setCell ?_ ?_ _ | refine below_step ?_ (by assumption) ?_ | omega | (simp only [zz] at *; omega))))))))))
        refine wpQuiet_nil ?_
        intro w9 hb9
        replace hb9 := ex_below hb9
        have hz9 := hb9.size
        have hB9 : Below W0.heap.size W0 w9 := hB0.trans (hb9.mono (by omega))
        have hb19 : Below W'.heap.size W' w9 := hb.trans (hb9.mono hzr)
        have g4 := (hB9.cell (p := ⟨w.heap.size + 1 + 1, 0, none⟩) (by show w.heap.size + 1 + 1 < _; omega)).trans c4
        have g5 := (hB9.cell (p := ⟨w.heap.size + 1 + 1 + 1, 0, none⟩) (by show w.heap.size + 1 + 1 + 1 < _; omega)).trans c5
        have k4 := (below_frozen hB9 (b := w.heap.size + 1 + 1) (by omega)).trans f4
        have k5 := (below_frozen hB9 (b := w.heap.size + 1 + 1 + 1) (by omega)).trans f5
        by_cases hgt : vj + 1 < vy
        · gi_wp2
          refine ⟨(keepsFrom_below hb19).trans (((KeepsOthers.setCell _ _ _).trans (KeepsOthers.setCell _ _ _)).from _), rfl, HALL.out ?_, ⟨by simp [go_sem, g4, g5], by simp [go_sem, g4, g5]⟩, ?_⟩
          · rw [HOK.out]
            refine Bool.eq_false_iff.2 (fun e => ?_)
            rw [List.all_eq_true] at e
            have e := of_decide_eq_true (e k (List.mem_range.2 hlt2))
            rw [hqq.out, hj.out] at e
            have := HSTEP.out.2 e
            omega
          · exact ((hbW.trans (hB9.mono hbW.size)).setCell (p := ⟨_, 0, none⟩) (by show w.heap.size ≤ w.heap.size + 1 + 1; omega) _).setCell (p := ⟨_, 0, none⟩) (by show w.heap.size ≤ w.heap.size + 1 + 1 + 1; omega) _
        · gi_wp2
          refine ⟨⟨k + 1, by omega, by go_num, ?_, hb19⟩, by simp [intOf]; omega⟩
          intro c hc
          rcases Nat.lt_or_ge c k with h | h
          · exact HALLK.out c h
          · rw [show c = k by omega, hqq.out, hj.out]
            exact HSTEP.out.1 (by omega)
      · have hkn : k = Wn := by omega
        gi_wp2
        refine ⟨keepsFrom_below hb, Kp.below hb (by omega) (by omega), ?_, hB0⟩
        intro z hzz
        rcases List.mem_append.1 hzz with hzz | hzz
        · exact HPRE.out z hzz
        · rw [List.mem_singleton.1 hzz, hy.out, HOK.out, List.all_eq_true]
          intro c hc
          exact decide_eq_true (hall c (by rw [hkn]; exact List.mem_range.1 hc))
  case done =>
    rintro D xs' W' hD rfl ⟨hpre, hBW⟩ hK
    have hz := hBW.size
    have hall : tabAll Wn (lts ts) xs = true := by
      unfold tabAll
      rw [List.all_eq_true]
      intro n hn
      rw [HPM.out, List.mem_range] at hn
      have := hpre n (by simp [downL]; exact hn)
      rwa [Nat.mod_eq_of_lt hn] at this
    have hVe : V = (xs.getD 0 0, 0) := by rw [← HVV.out, if_pos hall]
    have e3 := (hBW.cell (p := ⟨w.heap.size + 1, 0, none⟩) (by show w.heap.size + 1 < _; omega)).trans c3
    have g4 := (hBW.cell (p := ⟨w.heap.size + 1 + 1, 0, none⟩) (by show w.heap.size + 1 + 1 < _; omega)).trans c4
    have g5 := (hBW.cell (p := ⟨w.heap.size + 1 + 1 + 1, 0, none⟩) (by show w.heap.size + 1 + 1 + 1 < _; omega)).trans c5
    have k4 := (below_frozen hBW (b := w.heap.size + 1 + 1) (by omega)).trans f4
    have k5 := (below_frozen hBW (b := w.heap.size + 1 + 1 + 1) (by omega)).trans f5
    have e0 := (hTW.ext hBW).at hxp
    have hs3 : w.heap.size + 1 < W'.heap.size := by omega
    have hs4 : w.heap.size + 1 + 1 < W'.heap.size := by omega
    have hs5 : w.heap.size + 1 + 1 + 1 < W'.heap.size := by omega
    rw [List.getD_eq_getElem?_getD, List.getElem?_eq_getElem hxp] at hVe
    simp only [Option.getD_some] at hVe
    have HV2 := hide hVe
    rw [Nat.add_zero] at e0
    have HALLT := hide hall
    clear hall hVe hpre
    generalize xs[0] = x0 at *
    have hbX : Below w.heap.size w W' := hbW.trans (hBW.mono hbW.size)
    go_wp2
    obtain ⟨W3, hW3⟩ : ∃ W3, ((W'.setCell ⟨w.heap.size + 1 + 1, 0, none⟩ (.int .i64 x0)).setCell ⟨w.heap.size + 1 + 1 + 1, 0, none⟩ (.int .i64 0)) = W3 := ⟨_, rfl⟩
    have hK2 : W3.heap[D]? = some (.deferred (some [])) := by rw [← hW3]; exact ((KeepsOthers.setCell W' ⟨w.heap.size + 1 + 1, 0, none⟩ (.int .i64 x0)).trans (KeepsOthers.setCell _ ⟨w.heap.size + 1 + 1 + 1, 0, none⟩ (.int .i64 0))).same D _ hK rfl
    have v0 : W3.cell? ⟨w.heap.size + 1 + 1, 0, none⟩ = some (.int .i64 x0) := by rw [← hW3]; simp [go_sem, g4, g5]
    have v1 : W3.cell? ⟨w.heap.size + 1 + 1 + 1, 0, none⟩ = some (.int .i64 0) := by rw [← hW3]; simp [go_sem, g4, g5]
    have hb3 : Below w.heap.size w W3 := by rw [← hW3]; exact (hbX.setCell (p := ⟨_, 0, none⟩) (by show w.heap.size ≤ w.heap.size + 1 + 1; omega) _).setCell (p := ⟨_, 0, none⟩) (by show w.heap.size ≤ w.heap.size + 1 + 1 + 1; omega) _
    rw [hW3]
    clear hW3
    have p0 := put_cell (D := D) (o := .deferred none) (by omega) v0
    have p1 := put_cell (D := D) (o := .deferred none) (by omega) v1
    refine ⟨by simp, .inl ⟨_, _, rfl, run_takeDeferred hK2, ?_⟩⟩
    exact ⟨.tuple #[.int .i64 x0, .int .i64 0], by simp [results, Try.results27, go_sem, p0, p1], gives_of (by rw [HV2.out]) (hb3.trans (belowK_b (w := w) (Nat.le_refl _) W3 D _ _ (by omega) hK2 rfl rfl))⟩
  case stop =>
    rintro D cd pre W' hD _ ⟨rfl, hall, ⟨g4, g5⟩, hBW⟩ hK
    have hVe : V = (0, 14) := by rw [← HVV.out, if_neg (by rw [hall]; simp)]
    rw [hVe]
    gi_wp2
    have p0 := put_cell (D := D) (o := .deferred none) (by omega) g4
    have p1 := put_cell (D := D) (o := .deferred none) (by omega) g5
    refine ⟨by simp, .inl ⟨_, _, rfl, run_takeDeferred hK, ?_⟩⟩
    exact ⟨.tuple #[.int .i64 0, .int .i64 14], by simp [results, Try.results27, go_sem, p0, p1], gives_of rfl (hBW.trans (belowK_b (w := w) (Nat.le_refl _) W' D _ _ (by omega) hK rfl rfl))⟩
theorem CheckTable_any (W : Int) (A : Option Addr) (ts : List ByteArray) (c : Nat) (w : World) (hA : Strs w A ts) (hl : ts.length ≤ 1000) (hsz : ∀ k, (h : k < ts.length) → ts[k].size ≤ 1000000) (T : Option Addr) (xs : List Int) (d : Nat) (hT : I64 w T xs) (hx : xs.length ≤ 1000) : Calls Try.prog 27 #[.agg #[.int .i64 W, .slice A ts.length c], .slice T xs.length d] w (Gives w (tup2V (tabR W ts xs))) := by
  by_cases h0 : tabE W ts xs = 0
  · exact tab_ok W A ts c w hA hl hsz T xs d hT hx h0
  · rw [show tabR W ts xs = (0, tabE W ts xs) by simp [tabR, h0]]
    exact tab_bad W A ts c w hA hl hsz T xs d hT hx h0
end Go.Proofs.Ytafncmgijbkomaa
namespace Go.Proofs.Ytafncmgijbkomaa
open Go.RowKit
/-! a region in a round: an operation that waits for nothing, quiet ones, and a tail -/
def nrm (Q : Exit → Act → World → Prop) : Exit → Act → World → Prop
  | .normal, a, w => Q .normal a w
  | _, _, _ => False
@[go_sem] theorem nrm_normal (Q : Exit → Act → World → Prop) (a : Act) (w : World) : nrm Q .normal a w = Q .normal a w := rfl
theorem nrm_imp {Q : Exit → Act → World → Prop} : ∀ (e : Exit) (a : Act) (w : World), nrm Q e a w → Q e a w := fun e a w h => by cases e <;> first | exact h | exact (h : False).elim
theorem nrm_lets (Q : Exit → Act → World → Prop) : ¬ LetsOut (nrm Q) := fun ⟨_, _, h⟩ => h
section
variable {P : Program} {ops : Array Oper} {md : Region.Mode} {C : World → Prop}
def sinkF (md : Region.Mode) (ops : Array Oper) (k0 n : Nat) : Bool :=
  (List.range n).all fun i => decide (i < k0) || (List.range (n + 1)).any fun j => decide (i < j) && Region.waitsFor md ops j i
theorem tail_waitsF {n k0 : Nat} {listed : Array Bool} (hs : sinkF md ops k0 n = true) (hc : Region.chainB md ops n = true) (hn : n < ops.size) (inv : HeadInv md ops n listed) :
    ∀ (d i : Nat), n - i = d → i < n → k0 ≤ i → listed.getD i true = false → ∀ t, n ≤ t → t ∉ Region.ready md ops listed := by
  intro d
  induction d using Nat.strongRecOn with
  | _ d ih =>
    intro i hd hi hki hun t ht hr
    obtain ⟨_, ot, hot, hall⟩ := mem_ready.1 hr
    have htlt : t < ops.size := (Array.getElem?_eq_some_iff.1 hot).1
    by_cases htn : t = n
    · subst htn
      have h1 := List.all_eq_true.1 hs i (List.mem_range.2 hi)
      simp only [Bool.or_eq_true, decide_eq_true_eq] at h1
      have h1 := h1.resolve_left (by omega)
      obtain ⟨j, hj, hj2⟩ := List.any_eq_true.1 h1
      simp only [Bool.and_eq_true, decide_eq_true_eq] at hj2
      obtain ⟨oj, hoj, e, he, hb, hon⟩ := Region.waitsFor_spec hj2.2
      have hjle : j ≤ t := by have := List.mem_range.1 hj; omega
      by_cases hjt : j = t
      · subst hjt
        have : oj = ot := Option.some.inj (hoj.symm.trans hot)
        subst this
        have h2 := hall e he hb
        rw [hon, getD_both hun] at h2
        cases h2
      · cases hl : listed.getD j false with
        | true =>
          have h2 := inv.closed j oj hoj hl e he hb
          rw [hon, getD_both hun] at h2
          cases h2
        | false =>
          have hjs : j < listed.size := by rw [inv.size]; omega
          exact ih (t - j) (by omega) j rfl (by omega) (by omega) (getD_in hjs hl) t (Nat.le_refl _) hr
    · have h1 := List.all_eq_true.1 hc t (List.mem_range.2 htlt)
      simp only [Bool.or_eq_true, decide_eq_true_eq] at h1
      rcases h1 with h1 | h1
      · omega
      · obtain ⟨o', ho', e, he, hb, hon⟩ := Region.waitsFor_spec h1
        have : o' = ot := Option.some.inj (ho'.symm.trans hot)
        subst this
        have h2 := hall e he hb
        rw [hon, getD_both (inv.tail (t - 1) (by omega) (by omega))] at h2
        cases h2
theorem wpAnyLQ_firstF {n i k0 : Nat} {oi : Oper} {v : Value} {L : Array Bool → Act → Prop} (hi : ops[i]? = some oi) (hsel : ∀ (j : Nat) (o : Oper) cs b, ops[j]? = some o → o.op ≠ .select cs b)
    (hs : sinkF md ops k0 n = true) (hc : Region.chainB md ops n = true) (hn : n < ops.size) (hin : i < n) (hki : k0 ≤ i)
    (hdone : ∀ listed a, L listed a → ∀ j ∈ Region.ready md ops listed, n ≤ j) :
    ∀ (f : Nat) (listed : Array Bool) (a : Act), HeadInv md ops n listed →
      (∀ j oj, ops[j]? = some oj → j ≠ i → listed.getD j true = false → (∀ e ∈ oj.after, Region.binds md e = true → e.on ≠ i) → oi.apart ops oj = true) →
      i ∈ Region.ready md ops listed → YieldsIn P ops C oi v a →
      wpAnyLQ P md ops C n L f (listed.setIfInBounds i true) (a.put oi.dst v) → wpAnyLQ P md ops C n L (f + 1) listed a := by
  intro f
  induction f with
  | zero =>
    intro listed a inv _ hr hy H
    have hun := (mem_ready.1 hr).1
    refine ⟨fun h => (by rw [h] at hr; cases hr), fun j hj => ?_⟩
    have hjn : j < n := by
      rcases Nat.lt_or_ge j n with h | h
      · exact h
      · exact absurd hj (tail_waitsF hs hc hn inv _ i rfl hin hki hun j h)
    refine ⟨hjn, ?_⟩
    by_cases hji : j = i
    · subst hji; exact hy.qOp hi H
    · have := hdone _ _ H j (ready_mono hj hji)
      omega
  | succ f ih =>
    intro listed a inv hfree hr hy H
    have hun := (mem_ready.1 hr).1
    refine ⟨fun h => (by rw [h] at hr; cases hr), fun j hj => ?_⟩
    have hjn : j < n := by
      rcases Nat.lt_or_ge j n with h | h
      · exact h
      · exact absurd hj (tail_waitsF hs hc hn inv _ i rfl hin hki hun j h)
    refine ⟨hjn, ?_⟩
    by_cases hji : j = i
    · subst hji; exact hy.qOp hi H
    · have h1 := (H.2 j (ready_mono hj hji)).2
      obtain ⟨hjun, oj, hoj, hall⟩ := mem_ready.1 hj
      have hnot : ∀ e ∈ oj.after, Region.binds md e = true → e.on ≠ i := fun e he hb heq => by
        have h1 := hall e he hb
        rw [heq, getD_both hun] at h1
        cases h1
      have h2 := qOp_put hoj (hfree j oj hoj hji hjun hnot) (fun cs b => hsel i oi cs b hi) (fun cs b => hsel j oj cs b hoj) hy h1
      have hfree' : ∀ k ok, ops[k]? = some ok → k ≠ i → (listed.setIfInBounds j true).getD k true = false →
          (∀ e ∈ ok.after, Region.binds md e = true → e.on ≠ i) → oi.apart ops ok = true := fun k ok hk hki hun hno => by
        refine hfree k ok hk hki ?_ hno
        by_cases hjk : j = k
        · subst hjk; exact hjun
        · rw [getD_set_ne true hjk] at hun; exact hun
      refine qOp_mono (fun a' h3 => ih (listed.setIfInBounds j true) a' (inv.set hj hjn) hfree' (ready_mono hr (Ne.symm hji)) h3.1 ?_) h2
      rw [Array.setIfInBounds_comm _ _ hji]
      exact h3.2
theorem wpAnyLQ_lexF {n g k0 : Nat} {Lq : Act → Prop} (hsel : Region.noSelect ops = true) (hs : sinkF md ops k0 n = true) (hc : Region.chainB md ops n = true) (hn : n < ops.size) :
    ∀ (l : List Oper) (k : Nat) (listed : Array Bool) (a : Act), k0 ≤ k → (∀ j, j < l.length → l[j]? = ops[k + j]?) → k + l.length = n → HeadInv md ops n listed →
    Region.lexHead md ops g l.length k listed = true → wpQuiet P ops C Lq l a →
    wpAnyLQ P md ops C n (fun listed' a' => Region.seqB md ops g n listed' = true ∧ Lq a') l.length listed a
  | [], k, listed, a, _, _, hk, _, hB, h => by
    have : k = n := by simpa using hk
    subst this
    exact ⟨by simpa [Region.lexHead] using hB, h⟩
  | o :: l, k, listed, a, hkk, hl, hk, inv, hB, h => by
    have h0 : ops[k]? = some o := by simpa using (hl 0 (by simp)).symm
    simp only [List.length_cons, Region.lexHead, Bool.and_eq_true] at hB
    obtain ⟨⟨hr, hf⟩, hB'⟩ := hB
    have hkn : k < n := by simp only [List.length_cons] at hk; omega
    have hr' : k ∈ Region.ready md ops listed := by simpa using hr
    have hst : qOp P ops C k (wpQuiet P ops C Lq l) a := by unfold qOp; simp only [h0]; exact h
    obtain ⟨v, hy, hK⟩ := yieldsIn_of_qOp h0 hst
    exact wpAnyLQ_firstF h0 (Region.noSelect_spec hsel) hs hc hn hkn hkk (fun listed' a' hL => seqB_ready hL.1) l.length listed a inv (Region.free_spec h0 hf) hr' hy
      (wpAnyLQ_lexF hsel hs hc hn l (k + 1) _ _ (by omega) (fun j hj => by have := hl (j + 1) (by simp; omega); simpa [Nat.add_assoc, Nat.add_comm 1 j] using this) (by simp only [List.length_cons] at hk; omega) (inv.set hr' hkn) hB' hK)

theorem held_true {Q : Exit → Act → World → Prop} : ∀ (fuel : Nat) (listed : Array Bool) (a : Act) (w : World), wpAny P md ops Q fuel listed a w → wpAnyH P md ops Q (fun _ => True) fuel listed a w
  | 0, _, _, _, h => h
  | fuel + 1, _, _, _, h => ⟨h.1, fun i hi => wpOp_mono (fun a' w' h' => ⟨trivial, held_true fuel _ a' w' h'⟩) (h.2 i hi)⟩
def tailF (md : Region.Mode) (ops : Array Oper) (n : Nat) : Bool :=
  Region.noSelect ops && decide (1 < n) && decide (n < ops.size) && sinkF md ops 1 n && Region.chainB md ops n && Region.free md ops (Array.replicate ops.size false) 0 && (Region.ready md ops (Array.replicate ops.size false)).contains 0 && Region.lexHead md ops (ops.size - n) (n - 1) 1 ((Array.replicate ops.size false).setIfInBounds 0 true)
variable {Q : Exit → Act → World → Prop} {l n : Nat}
theorem region_roundN {id : Nat} {a : Act} {w : World} (hnd : noDefer ops = true) (hm : P.follows .mixedOrders = true)
    (h : wpAny P .any ops (nrm Q) ops.size (Array.replicate ops.size false) a { w with drawn := w.drawn + 1 }) : (Code.region id ops true).wpIn (Fence.wide.inRound l) n P Q a w :=
  wpIn_mono (wpIn_region_any hm (wpAny_round (nrm_lets Q) hnd _ _ _ _ h)) nrm_imp
theorem move_tail_round {id : Nat} {a : Act} {w : World} {o0 : Oper} {ol : List Oper} {v : Value} (m : Nat) (hnd : noDefer (o0 :: ol).toArray = true) (hm : P.follows .mixedOrders = true) (hB : tailF .any (o0 :: ol).toArray (m + 1) = true)
    (hy : YieldsIf P (o0 :: ol).toArray (fun _ => True) o0 v a)
    (h : wpQuiet P (o0 :: ol).toArray (fun w' => ∃ g, w' = w.grow g) (fun a' => ∀ w', (∃ g, w' = w.grow g) → wpList P (o0 :: ol).toArray (nrm Q) (ol.drop m) a' w') (ol.take m) (a.put o0.dst v)) : (Code.region id (o0 :: ol).toArray true).wpIn (Fence.wide.inRound l) n P Q a w := by
  simp only [tailF, Bool.and_eq_true, decide_eq_true_eq] at hB
  obtain ⟨⟨⟨⟨⟨⟨⟨hsel, hm1⟩, hn⟩, hs⟩, hc⟩, hfree⟩, hready⟩, hlex⟩ := hB
  have hsz : (o0 :: ol).toArray.size = ol.length + 1 := by simp
  have hn' : m < ol.length := by omega
  have htl : (ol.take m).length = m := by simp; omega
  have hdl : (ol.drop m).length = (o0 :: ol).toArray.size - (m + 1) := by simp
  have inv0 : HeadInv .any (o0 :: ol).toArray (m + 1) (Array.replicate (o0 :: ol).toArray.size false) :=
    ⟨by simp, fun j oj _ hl => (by rw [getD_replicate_false] at hl; cases hl), fun t _ ht => getD_in (by simpa using ht) (getD_replicate_false _ _)⟩
  have inv1 := inv0.set (i := 0) (by simpa using hready) (by omega)
  have H := wpAnyLQ_lexF (md := .any) (C := fun w' => ∃ g, w' = w.grow g) (g := (o0 :: ol).toArray.size - (m + 1)) (k0 := 1) hsel hs hc hn (ol.take m) 1 _ (a.put o0.dst v) (Nat.le_refl _) (fun j hj => by
    have hj' : j < m := by rw [htl] at hj; exact hj
    simp [hj', Nat.add_comm 1 j]) (by rw [htl]; omega) inv1 (by rw [htl]; exact hlex) h
  have hC : ∃ g, ({ w with drawn := w.drawn + 1 } : World) = w.grow g := ⟨⟨#[], w.drawn + 1⟩, by simp [World.grow]⟩
  refine region_roundN hnd hm ?_
  rw [hsz]
  refine wpAny_of_held _ _ _ _ (wpAnyH_take (S := fun _ => True) (i := 0) (oi := o0) (v := v) rfl hsel (by rw [← hsz]; exact hfree) (by rw [← hsz]; exact hready) (fun _ _ _ h => h) hy trivial (held_true _ _ _ _ ?_))
  have := wpAny_of_headQ (C := fun w' => ∃ g, w' = w.grow g) (Q' := nrm Q) (g := (o0 :: ol).toArray.size - (m + 1)) (fun listed a' w' hw hL => by
    have := wpAny_of_seq (md := .any) (Q' := nrm Q) (ol.drop m) (m + 1) listed a' w' (fun j => by simp [List.getElem?_drop, Nat.add_right_comm m 1 j]) (by rw [hdl]; exact hL.1) (hL.2 w' hw)
    rwa [hdl] at this) _ _ _ _ hC H
  rw [htl, show m + ((o0 :: ol).toArray.size - (m + 1)) = ol.length by rw [hsz]; omega, hsz] at this
  exact this
theorem yields_move {S : World → Prop} {o : Oper} {a : Act} {x : Operand} (ho : o.op = .move x) (hg : o.guard = none) : YieldsIf P ops S o (a.eval x) a :=
  Or.inl ⟨by simp [Region.wanted, hg], fun w _ => by unfold execOp; rw [ho]; rfl⟩
end
end Go.Proofs.Ytafncmgijbkomaa
