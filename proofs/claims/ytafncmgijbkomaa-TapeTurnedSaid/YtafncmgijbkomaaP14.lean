/- Proved here: the reference: Has, how many letters, the index of a place; the reference: the place behind another one, and what is left of tapes; the reference: letters, and impulses in a night, a part of the proofs about the tape laws. Conditions: those that each theorem names, no others. -/
import Derived.Test.YtafncmgijbkomaaP13
import Derived.WalkKit
import Derived.WalkSpells
import Derived.WalkLawsBesides
import Derived.Below
import Derived.Deep.QuietTactic
import Derived.BigQuiet
import Derived.Deep.Light
import Derived.Test.YtafncmgijbkomaaP32
set_option linter.unusedSimpArgs false
set_option linter.unusedVariables false
namespace Go.Proofs.Ytafncmgijbkomaa
open Go.RowKit Go.Maps
set_option maxRecDepth 100000 in
set_option maxHeartbeats 1000000 in
theorem rHas_any (W : Int) (A : Option Addr) (ts : List ByteArray) (c : Nat) (w : World) (hA : Strs w A ts) (hl : ts.length ≤ 1000) (hsz : ∀ k, (h : k < ts.length) → ts[k].size ≤ 1000000) (night : ByteArray) (hns : night.size ≤ 1000000) : Calls Try.prog 20 #[.agg #[.int .i64 W, .slice A ts.length c], .string night] w (Gives w (boolE (hasR W ts night))) := by
  by_cases h0 : chkSet W ts = 0
  · have h1 : (chkSet W ts != 0) = false := by simp [h0]
    have HV := hide (show hasR W ts night = if 20 < night.size then (false, (7 : Int)) else if isS W night = false then (false, 8) else (Tm.hasS (lt night) (lts ts), 0) by simp [hasR, h0])
    replace h0 := hide h0
    rw [HV.out]
    by_cases hn : 20 < night.size
    · have hni : (20 : Int) < (night.size : Nat) := by omega
      rw [if_pos hn]
      unfold boolE
      go_enter Try.func20, Try.ntmps20
      go_wp2_with (first
    | (go_at_call 22; refine (rCheckSet_any W A ts c _ (hA.ext (by (repeat (first | exact Below.refl _ _ | assumption | refine below_drewN ?_ _ | refine below_drew ?_ | refine below_gr ?_ ?_ _ | refine below_alloc ?_ ?_ _ | refine Below.setCell ?_ ?_ _ | refine below_step ?_ (by assumption) ?_ | omega | (simp only [zz] at *; omega))))) hl hsz).mono ?_; rintro e w1 ⟨rfl, hb1⟩; replace hb1 := ex_below hb1; have hz1 := hb1.size; (try simp only [zz] at hz1); have hs1 : w.heap.size < w1.heap.size := (by (first | omega | (simp only [zz] at *; omega))); have ho1 := own_cell hb1 (b := w.heap.size) (by (first | omega | (simp only [zz] at *; omega))); have hq1 := own_frozen hb1 (b := w.heap.size) (by (first | omega | (simp only [zz] at *; omega))); have hlt1 : ∀ b, b < w.heap.size → b < w1.heap.size := fun b hb => (by (first | omega | (simp only [zz] at *; omega))); have hc1 : ∀ b o, b < w.heap.size → w1.cell? ⟨b, o, none⟩ = w.cell? ⟨b, o, none⟩ := old_cell (by (repeat (first | exact Below.refl _ _ | assumption | refine below_drewN ?_ _ | refine below_drew ?_ | refine below_gr ?_ ?_ _ | refine below_alloc ?_ ?_ _ | refine Below.setCell ?_ ?_ _ | refine below_step ?_ (by assumption) ?_ | omega | (simp only [zz] at *; omega))))))

      go_ret2
      exact gives_of (rfl) (by (repeat (first | exact Below.refl _ _ | assumption | refine below_drewN ?_ _ | refine below_drew ?_ | refine below_gr ?_ ?_ _ | refine below_alloc ?_ ?_ _ | refine Below.setCell ?_ ?_ _ | refine below_step ?_ (by assumption) ?_ | omega | (simp only [zz] at *; omega))))
    · have hni : ¬ ((20 : Int) < (night.size : Nat)) := by omega
      rw [if_neg hn]
      by_cases hS : isS W night = false
      · rw [if_pos hS]
        unfold boolE
        go_enter Try.func20, Try.ntmps20
        go_wp2_with (first
    | (go_at_call 22; refine (rCheckSet_any W A ts c _ (hA.ext (by (repeat (first | exact Below.refl _ _ | assumption | refine below_drewN ?_ _ | refine below_drew ?_ | refine below_gr ?_ ?_ _ | refine below_alloc ?_ ?_ _ | refine Below.setCell ?_ ?_ _ | refine below_step ?_ (by assumption) ?_ | omega | (simp only [zz] at *; omega))))) hl hsz).mono ?_; rintro e w1 ⟨rfl, hb1⟩; replace hb1 := ex_below hb1; have hz1 := hb1.size; (try simp only [zz] at hz1); have hs1 : w.heap.size < w1.heap.size := (by (first | omega | (simp only [zz] at *; omega))); have ho1 := own_cell hb1 (b := w.heap.size) (by (first | omega | (simp only [zz] at *; omega))); have hq1 := own_frozen hb1 (b := w.heap.size) (by (first | omega | (simp only [zz] at *; omega))); have hlt1 : ∀ b, b < w.heap.size → b < w1.heap.size := fun b hb => (by (first | omega | (simp only [zz] at *; omega))); have hc1 : ∀ b o, b < w.heap.size → w1.cell? ⟨b, o, none⟩ = w.cell? ⟨b, o, none⟩ := old_cell (by (repeat (first | exact Below.refl _ _ | assumption | refine below_drewN ?_ _ | refine below_drew ?_ | refine below_gr ?_ ?_ _ | refine below_alloc ?_ ?_ _ | refine Below.setCell ?_ ?_ _ | refine below_step ?_ (by assumption) ?_ | omega | (simp only [zz] at *; omega)))))
    | (go_at_call 58; refine (rIsString_any W night _ hns).mono ?_; rintro e w1 ⟨rfl, hb1⟩; replace hb1 := ex_below hb1; have hz1 := hb1.size; (try simp only [zz] at hz1); have hs1 : w.heap.size < w1.heap.size := (by (first | omega | (simp only [zz] at *; omega))); have ho1 := own_cell hb1 (b := w.heap.size) (by (first | omega | (simp only [zz] at *; omega))); have hq1 := own_frozen hb1 (b := w.heap.size) (by (first | omega | (simp only [zz] at *; omega))); have hlt1 : ∀ b, b < w.heap.size → b < w1.heap.size := fun b hb => (by (first | omega | (simp only [zz] at *; omega))); have hc1 : ∀ b o, b < w.heap.size → w1.cell? ⟨b, o, none⟩ = w.cell? ⟨b, o, none⟩ := old_cell (by (repeat (first | exact Below.refl _ _ | assumption | refine below_drewN ?_ _ | refine below_drew ?_ | refine below_gr ?_ ?_ _ | refine below_alloc ?_ ?_ _ | refine Below.setCell ?_ ?_ _ | refine below_step ?_ (by assumption) ?_ | omega | (simp only [zz] at *; omega))))))

        go_ret2
        exact gives_of (rfl) (by (repeat (first | exact Below.refl _ _ | assumption | refine below_drewN ?_ _ | refine below_drew ?_ | refine below_gr ?_ ?_ _ | refine below_alloc ?_ ?_ _ | refine Below.setCell ?_ ?_ _ | refine below_step ?_ (by assumption) ?_ | omega | (simp only [zz] at *; omega))))
      · rw [if_neg hS]
        have hS1 : isS W night = true := by simpa using hS
        unfold boolE
        clear hS
        go_enter Try.func20, Try.ntmps20
        go_wp2_with (first
    | (go_at_call 22; refine (rCheckSet_any W A ts c _ (hA.ext (by (repeat (first | exact Below.refl _ _ | assumption | refine below_drewN ?_ _ | refine below_drew ?_ | refine below_gr ?_ ?_ _ | refine below_alloc ?_ ?_ _ | refine Below.setCell ?_ ?_ _ | refine below_step ?_ (by assumption) ?_ | omega | (simp only [zz] at *; omega))))) hl hsz).mono ?_; rintro e w1 ⟨rfl, hb1⟩; replace hb1 := ex_below hb1; have hz1 := hb1.size; (try simp only [zz] at hz1); have hs1 : w.heap.size < w1.heap.size := (by (first | omega | (simp only [zz] at *; omega))); have ho1 := own_cell hb1 (b := w.heap.size) (by (first | omega | (simp only [zz] at *; omega))); have hq1 := own_frozen hb1 (b := w.heap.size) (by (first | omega | (simp only [zz] at *; omega))); have hlt1 : ∀ b, b < w.heap.size → b < w1.heap.size := fun b hb => (by (first | omega | (simp only [zz] at *; omega))); have hc1 : ∀ b o, b < w.heap.size → w1.cell? ⟨b, o, none⟩ = w.cell? ⟨b, o, none⟩ := old_cell (by (repeat (first | exact Below.refl _ _ | assumption | refine below_drewN ?_ _ | refine below_drew ?_ | refine below_gr ?_ ?_ _ | refine below_alloc ?_ ?_ _ | refine Below.setCell ?_ ?_ _ | refine below_step ?_ (by assumption) ?_ | omega | (simp only [zz] at *; omega)))))
    | (go_at_call 58; refine (rIsString_any W night _ hns).mono ?_; rintro e w1 ⟨rfl, hb1⟩; replace hb1 := ex_below hb1; have hz1 := hb1.size; (try simp only [zz] at hz1); have hs1 : w.heap.size < w1.heap.size := (by (first | omega | (simp only [zz] at *; omega))); have ho1 := own_cell hb1 (b := w.heap.size) (by (first | omega | (simp only [zz] at *; omega))); have hq1 := own_frozen hb1 (b := w.heap.size) (by (first | omega | (simp only [zz] at *; omega))); have hlt1 : ∀ b, b < w.heap.size → b < w1.heap.size := fun b hb => (by (first | omega | (simp only [zz] at *; omega))); have hc1 : ∀ b o, b < w.heap.size → w1.cell? ⟨b, o, none⟩ = w.cell? ⟨b, o, none⟩ := old_cell (by (repeat (first | exact Below.refl _ _ | assumption | refine below_drewN ?_ _ | refine below_drew ?_ | refine below_gr ?_ ?_ _ | refine below_alloc ?_ ?_ _ | refine Below.setCell ?_ ?_ _ | refine below_step ?_ (by assumption) ?_ | omega | (simp only [zz] at *; omega)))))
    | (go_at_call 59; refine (rHasTapes_any A ts c _ (hA.ext (by (repeat (first | exact Below.refl _ _ | assumption | refine below_drewN ?_ _ | refine below_drew ?_ | refine below_gr ?_ ?_ _ | refine below_alloc ?_ ?_ _ | refine Below.setCell ?_ ?_ _ | refine below_step ?_ (by assumption) ?_ | omega | (simp only [zz] at *; omega))))) hl hsz night hns).mono ?_; rintro e w1 ⟨rfl, hb1⟩; replace hb1 := ex_below hb1; have hz1 := hb1.size; (try simp only [zz] at hz1); have hs1 : w.heap.size < w1.heap.size := (by (first | omega | (simp only [zz] at *; omega))); have ho1 := own_cell hb1 (b := w.heap.size) (by (first | omega | (simp only [zz] at *; omega))); have hq1 := own_frozen hb1 (b := w.heap.size) (by (first | omega | (simp only [zz] at *; omega))); have hlt1 : ∀ b, b < w.heap.size → b < w1.heap.size := fun b hb => (by (first | omega | (simp only [zz] at *; omega))); have hc1 : ∀ b o, b < w.heap.size → w1.cell? ⟨b, o, none⟩ = w.cell? ⟨b, o, none⟩ := old_cell (by (repeat (first | exact Below.refl _ _ | assumption | refine below_drewN ?_ _ | refine below_drew ?_ | refine below_gr ?_ ?_ _ | refine below_alloc ?_ ?_ _ | refine Below.setCell ?_ ?_ _ | refine below_step ?_ (by assumption) ?_ | omega | (simp only [zz] at *; omega))))))

        go_ret2
        exact gives_of (rfl) (by (repeat (first | exact Below.refl _ _ | assumption | refine below_drewN ?_ _ | refine below_drew ?_ | refine below_gr ?_ ?_ _ | refine below_alloc ?_ ?_ _ | refine Below.setCell ?_ ?_ _ | refine below_step ?_ (by assumption) ?_ | omega | (simp only [zz] at *; omega))))
  · have HV := hide (show hasR W ts night = (false, chkSet W ts) by simp [hasR, h0])
    have h1 : (chkSet W ts != 0) = true := by simp [h0]
    rw [HV.out]
    unfold boolE
    go_enter Try.func20, Try.ntmps20
    go_wp2_with (first
    | (go_at_call 22; refine (rCheckSet_any W A ts c _ (hA.ext (by (repeat (first | exact Below.refl _ _ | assumption | refine below_drewN ?_ _ | refine below_drew ?_ | refine below_gr ?_ ?_ _ | refine below_alloc ?_ ?_ _ | refine Below.setCell ?_ ?_ _ | refine below_step ?_ (by assumption) ?_ | omega | (simp only [zz] at *; omega))))) hl hsz).mono ?_; rintro e w1 ⟨rfl, hb1⟩; replace hb1 := ex_below hb1; have hz1 := hb1.size; (try simp only [zz] at hz1); have hs1 : w.heap.size < w1.heap.size := (by (first | omega | (simp only [zz] at *; omega))); have ho1 := own_cell hb1 (b := w.heap.size) (by (first | omega | (simp only [zz] at *; omega))); have hq1 := own_frozen hb1 (b := w.heap.size) (by (first | omega | (simp only [zz] at *; omega))); have hlt1 : ∀ b, b < w.heap.size → b < w1.heap.size := fun b hb => (by (first | omega | (simp only [zz] at *; omega))); have hc1 : ∀ b o, b < w.heap.size → w1.cell? ⟨b, o, none⟩ = w.cell? ⟨b, o, none⟩ := old_cell (by (repeat (first | exact Below.refl _ _ | assumption | refine below_drewN ?_ _ | refine below_drew ?_ | refine below_gr ?_ ?_ _ | refine below_alloc ?_ ?_ _ | refine Below.setCell ?_ ?_ _ | refine below_step ?_ (by assumption) ?_ | omega | (simp only [zz] at *; omega))))))

    go_ret2
    exact gives_of (rfl) (by (repeat (first | exact Below.refl _ _ | assumption | refine below_drewN ?_ _ | refine below_drew ?_ | refine below_gr ?_ ?_ _ | refine below_alloc ?_ ?_ _ | refine Below.setCell ?_ ?_ _ | refine below_step ?_ (by assumption) ?_ | omega | (simp only [zz] at *; omega))))
theorem many_step {s : ByteArray} {k : Nat} (h : k < s.size) (x : Int) : Tm.manyS x ((lt s).take (k + 1)) = Tm.manyS x ((lt s).take k) + if (s[k].toNat : Int) - 97 = x then 1 else 0 := by
  rw [List.take_succ_eq_append_getElem (by rw [lt_len]; exact h), lt_get s k h]
  unfold Tm.manyS
  rw [List.filter_append, List.length_append]
  by_cases e : (s[k].toNat : Int) - 97 = x <;> simp [List.filter_cons, e]
set_option maxRecDepth 100000 in
set_option maxHeartbeats 1000000 in
theorem rMany_any (s : ByteArray) (b : Nat) (w : World) (hs : s.size ≤ 1000000) (hb : b < 256) : Calls Try.prog 47 #[.string s, .int .u8 (b : Nat)] w (Gives w (.int .i64 (Tm.manyS ((b : Int) - 97) (lt s) : Nat))) := by
  have HL := hide (fun k => Nat.le_trans (Tm.manyS_le ((b : Int) - 97) ((lt s).take k)) (List.length_take_le k (lt s)))
  go_enter Try.func47, Try.ntmps47
  go_wp2
  go_loopw [5, 6] (fun n i wr => ∃ k : Nat, k ≤ s.size ∧ i = .int .i64 (k : Nat) ∧ n = .int .i64 (Tm.manyS ((b : Int) - 97) ((lt s).take k) : Nat) ∧ Grew w wr) (fun _ i _ => s.size - (intOf i).toNat)
  case atStart => exact ⟨0, Nat.zero_le _, rfl, rfl, grew_refl _⟩
  case round =>
    obtain ⟨k, hk, rfl, rfl, hb2⟩ := hrel
    replace hb2 := hb2.below
    have hzr := hb2.size
    (try simp only [zz] at hzr)
    have hltr : ∀ b, b < w.heap.size → b < wr.heap.size := fun b hb => (by (first | omega | (simp only [zz] at *; omega)))
    have hcr : ∀ b o, b < w.heap.size → wr.cell? ⟨b, o, none⟩ = w.cell? ⟨b, o, none⟩ := old_cell (by (repeat (first | exact Below.refl _ _ | assumption | refine below_drewN ?_ _ | refine below_drew ?_ | refine below_gr ?_ ?_ _ | refine below_alloc ?_ ?_ _ | refine Below.setCell ?_ ?_ _ | refine below_step ?_ (by assumption) ?_ | omega | (simp only [zz] at *; omega))))
    by_cases hlt : k < s.size
    · have HS := hide (many_step hlt ((b : Int) - 97))
      have hm := HL.out k
      generalize Tm.manyS ((b : Int) - 97) ((lt s).take k) = n at *
      by_cases he : (s[k].toNat : Int) = (b : Int)
      · have h1 : ((s[k].toNat : Int) == (b : Int)) = true := by simpa using he
        have h2 : (s[k].toNat == b) = true := by simp; omega
        replace he := hide he
        go_wp2
        exact ⟨⟨k + 1, by omega, by go_num, by rw [HS.out, if_pos (by rw [he.out])]; push_cast; rfl, grew_of hb2⟩, by simp [intOf]; omega⟩
      · have h1 : ((s[k].toNat : Int) == (b : Int)) = false := by simpa using he
        have h2 : (s[k].toNat == b) = false := by simp; omega
        replace he := hide he
        go_wp2
        exact ⟨⟨k + 1, by omega, by go_num, by rw [HS.out, if_neg (fun g => he.out (by omega))]; rfl, grew_of hb2⟩, by simp [intOf]; omega⟩
    · have hkl : k = s.size := by omega
      have H2 : Hid ((lt s).take k = lt s) := hide (by rw [hkl, ← lt_len, List.take_length])
      go_wp2
      go_ret
      exact gives_of (v_int (by rw [H2.out])) (by (repeat (first | exact Below.refl _ _ | assumption | refine below_drewN ?_ _ | refine below_drew ?_ | refine below_gr ?_ ?_ _ | refine below_alloc ?_ ?_ _ | refine Below.setCell ?_ ?_ _ | refine below_step ?_ (by assumption) ?_ | omega | (simp only [zz] at *; omega))))
theorem i64_at {w : World} {P : Option Addr} {p : List Nat} (h : I64 w P (p.map (fun x => ((x : Nat) : Int)))) (k : Nat) (hk : k < p.length) : ∃ b off, P = some ⟨b, off, none⟩ ∧ b < w.heap.size ∧ w.cell? ⟨b, off + k, none⟩ = some (.int .i64 (p.getD k 0 : Nat)) := by
  obtain ⟨b, off, e, h1, _, h2⟩ := h k ((p.getD k 0 : Nat) : Int) (by rw [List.getElem?_map, List.getElem?_eq_getElem hk, List.getD_eq_getElem?_getD, List.getElem?_eq_getElem hk]; rfl)
  exact ⟨b, off, e, h1, h2⟩
set_option maxRecDepth 100000 in
set_option maxHeartbeats 1000000 in
theorem rindex_any (A : Option Addr) (ts : List ByteArray) (c : Nat) (P : Option Addr) (p : List Nat) (d : Nat) (w : World) (hA : Strs w A ts) (hP : I64 w P (p.map (fun x => ((x : Nat) : Int)))) (h3 : ts.length ≤ 3) (hp : Tm.IsPl (lts ts) p) (hf : Small ts) :
    Calls Try.prog 72 #[.slice A ts.length c, .slice P p.length d] w (Gives w (.int .i64 (Tm.idxP (lts ts) p 0 : Nat))) := by
  have hpl : p.length = ts.length := by rw [hp.len]; simp [lts]
  have HLE := hide (fun k h => isPl_le hp k h)
  have HB := hide (fun k (hk : k ≤ ts.length) => ixK_le ts p k hk (by omega) h3 (fun j h => ⟨hf j h, Nat.le_trans (isPl_le hp j h) (hf j h)⟩))
  have HEND : Hid (ixK ts p ts.length = Tm.idxP (lts ts) p 0) := by
    have : ixK ts p ts.length = Tm.idxP (lts ts) p 0 := by
      unfold ixK; rw [List.take_of_length_le (Nat.le_refl _), List.take_of_length_le (by omega)]
    exact hide this
  have HPL := hide hpl
  have HS := hide (ixK_stepD ts p hpl)
  have h3' : (ts.length : Int) ≤ 3 := by omega
  rw [hpl]
  clear hpl hp
  go_enter Try.func72, Try.ntmps72
  go_wp2
  go_loopw [5, 6] (fun n i wr => ∃ k : Nat, k ≤ ts.length ∧ i = .int .i64 k ∧ n = .int .i64 (ixK ts p k : Nat) ∧ Grew w wr) (fun _ i _ => ts.length - (intOf i).toNat)
  case atStart => exact ⟨0, Nat.zero_le _, rfl, by simp [ixK, lts, Tm.idxP], grew_refl _⟩
  case round =>
    obtain ⟨k, hk, rfl, rfl, hb⟩ := hrel
    replace hb := hb.below
    have hzr := hb.size
    (try simp only [zz] at hzr)
    have hltr : ∀ b, b < w.heap.size → b < wr.heap.size := fun b hb => (by (first | omega | (simp only [zz] at *; omega)))
    have hcr : ∀ b o, b < w.heap.size → wr.cell? ⟨b, o, none⟩ = w.cell? ⟨b, o, none⟩ := old_cell (by (repeat (first | exact Below.refl _ _ | assumption | refine below_drewN ?_ _ | refine below_drew ?_ | refine below_gr ?_ ?_ _ | refine below_alloc ?_ ?_ _ | refine Below.setCell ?_ ?_ _ | refine below_step ?_ (by assumption) ?_ | omega | (simp only [zz] at *; omega))))
    by_cases hlt : k < ts.length
    · obtain ⟨tb, toff, rfl, tl, tl2, hs0⟩ := hA k ts[k] (by simp [hlt])
      obtain ⟨pb, po, rfl, pl, hc⟩ := i64_at hP k (by rw [HPL.out]; exact hlt)
      have hb1 := HB.out k hk
      have hb2 := HB.out (k + 1) hlt
      have hpw : 9 ^ k ≤ 729 ∧ 9 ^ (k + 1) ≤ 729 := by
        have : k = 0 ∨ k = 1 ∨ k = 2 := by omega
        rcases this with rfl | rfl | rfl <;> decide
      have hst := HS.out k hlt
      have hle := HLE.out k hlt
      have hs8 := hf k hlt
      generalize ixK ts p k = n at *
      generalize p.getD k 0 = pk at *
      generalize ts[k] = s at *
      have hm : n * (s.size + 1) ≤ 729 := by omega
      have hm0 : (n : Int) * ((s.size : Int) + 1) ≤ 729 := by exact_mod_cast hm
      have hm1 : (0 : Int) ≤ (n : Int) * ((s.size : Int) + 1) := Int.mul_nonneg (by omega) (by omega)
      have HST := hide hst
      have hki : (k : Int) < (ts.length : Nat) := by omega
      clear hst hm hb1 hb2 hpw
      go_wp2
      refine wp_region_grow (by kernel_rfl) (by kernel_rfl) ?_
      repeat (go_big_quiet_step (fail))
      refine wpQuiet_nil ?_
      intro w2 hb2
      replace hb2 := ex_below hb2
      have hz2 := hb2.size
      (try simp only [zz] at hz2)
      have hlt2 : ∀ b, b < w.heap.size → b < w2.heap.size := fun b hb => (by (first | omega | (simp only [zz] at *; omega)))
      have hc2 : ∀ b o, b < w.heap.size → w2.cell? ⟨b, o, none⟩ = w.cell? ⟨b, o, none⟩ := old_cell (by (repeat (first | exact Below.refl _ _ | assumption | refine below_drewN ?_ _ | refine below_drew ?_ | refine below_gr ?_ ?_ _ | refine below_alloc ?_ ?_ _ | refine Below.setCell ?_ ?_ _ | refine below_step ?_ (by assumption) ?_ | omega | (simp only [zz] at *; omega))))
      go_wp2
      exact ⟨⟨k + 1, by omega, by go_num, by rw [HST.out]; push_cast; rfl, grew_of (by (repeat (first | exact Below.refl _ _ | assumption | refine below_drewN ?_ _ | refine below_drew ?_ | refine below_gr ?_ ?_ _ | refine below_alloc ?_ ?_ _ | refine Below.setCell ?_ ?_ _ | refine below_step ?_ (by assumption) ?_ | omega | (simp only [zz] at *; omega))))⟩, by simp [intOf]; omega⟩
    · have hkn : k = ts.length := by omega
      go_wp2
      go_ret
      exact gives_of (v_int (by rw [hkn, HEND.out])) (by (repeat (first | exact Below.refl _ _ | assumption | refine below_drewN ?_ _ | refine below_drew ?_ | refine below_gr ?_ ?_ _ | refine below_alloc ?_ ?_ _ | refine Below.setCell ?_ ?_ _ | refine below_step ?_ (by assumption) ?_ | omega | (simp only [zz] at *; omega))))
end Go.Proofs.Ytafncmgijbkomaa
namespace Go.Proofs.Ytafncmgijbkomaa
open Go.RowKit Go.Maps
theorem und32 : Try.prog.underlying 32 = some (.slice 3) := by kernel_rfl
theorem und22 : Try.prog.underlying 22 = some (.slice 9) := by kernel_rfl
theorem infoI : (Try.prog.info? 3).map (fun i => (i.zero, i.size, i.bytes)) = some (some (.int .i64 0), 1, 8) := by kernel_rfl
theorem infoS : (Try.prog.info? 9).map (fun i => (i.zero, i.size, i.bytes)) = some (some (.string ⟨#[]⟩), 1, 16) := by kernel_rfl
theorem own_base {w : World} {B : Nat} {e : TypeId} {sz n : Nat} {v : Value} {xs : List Value} (h : w.ownsRow B e sz v n xs) : ∀ g, v.ownBlock = some g → B ≤ g := fun g hg => by
  rcases h.2 with ⟨hv, _⟩ | ⟨g', cap, cur, hv, hB, _⟩
  · subst hv; simp [Value.ownBlock] at hg
  · subst hv; simp [Value.ownBlock] at hg; omega
theorem own_at {w : World} {B : Nat} {e : TypeId} {n c : Nat} {A : Option Addr} {xs : List Value} (h : w.ownsRow B e 1 (.slice A n c) n xs) (k : Nat) (u : Value) (hu : xs[k]? = some u) : ∃ b, A = some ⟨b, 0, none⟩ ∧ b < w.heap.size ∧ w.cell? ⟨b, 0 + k, none⟩ = some u := by
  have hk : k < xs.length := (List.getElem?_eq_some_iff.1 hu).1
  have hl := h.1
  obtain ⟨g, cap, cur, hv, hB, hh, hr⟩ := h.2.resolve_left (by rintro ⟨_, h0⟩; omega)
  injection hv with hA _ _
  subst hA
  have hlt : g < w.heap.size := by
    rcases Nat.lt_or_ge g w.heap.size with h1 | h1
    · exact h1
    · rw [Array.getElem?_eq_none h1] at hh; cases hh
  have hc := h.cells (g := g) rfl k u hu
  refine ⟨g, rfl, hlt, ?_⟩
  rw [Nat.zero_add]
  unfold Addr.add at hc
  split at hc <;> simp_all
def GivesInts (w : World) (xs : List Int) (e : Ending) (w' : World) : Prop := ∃ A' c', e = .returned (.slice A' xs.length c') ∧ Grew w w' ∧ I64 w' A' xs
def GivesStrs (w : World) (ss : List ByteArray) (e : Ending) (w' : World) : Prop := ∃ A' c', e = .returned (.slice A' ss.length c') ∧ Grew w w' ∧ Strs w' A' ss
theorem own_i64 {w : World} {B : Nat} {e : TypeId} {n c : Nat} {A : Option Addr} {xs : List Int} (h : w.ownsRow B e 1 (.slice A n c) n (xs.map (Value.int .i64))) : I64 w A xs := fun k x hk => by
  obtain ⟨b, hA, hl, hc⟩ := own_at h k (.int .i64 x) (by rw [List.getElem?_map, hk]; rfl)
  exact ⟨b, 0, hA, hl, by omega, hc⟩
theorem own_strs {w : World} {B : Nat} {e : TypeId} {n c : Nat} {A : Option Addr} {ss : List ByteArray} (h : w.ownsRow B e 1 (.slice A n c) n (ss.map Value.string)) : Strs w A ss := fun k x hk => by
  obtain ⟨b, hA, hl, hc⟩ := own_at h k (.string x) (by rw [List.getElem?_map, hk]; rfl)
  exact ⟨b, 0, hA, hl, by omega, hc⟩
def natI (p : List Nat) : List Int := p.map (fun x => ((x : Nat) : Int))
theorem natI_len (p : List Nat) : (natI p).length = p.length := by simp [natI]
theorem take_natI {q : List Nat} {k : Nat} (h : k < q.length) : ((natI q).take (k + 1)).map (Value.int .i64) = ((natI q).take k).map (Value.int .i64) ++ [.int .i64 (q[k] : Nat)] := by
  rw [List.take_succ_eq_append_getElem (by rw [natI_len]; exact h), List.map_append]
  simp [natI]
set_option maxRecDepth 100000 in
set_option maxHeartbeats 1000000 in
theorem rnext_any (A : Option Addr) (ts : List ByteArray) (c : Nat) (P : Option Addr) (p : List Nat) (d : Nat) (win : Int) (w : World) (hA : Strs w A ts) (hP : I64 w P (natI p)) (h3 : ts.length ≤ 3) (hp : Tm.IsPl (lts ts) p) (hf : Fine ts) :
    Calls Try.prog 73 #[.slice A ts.length c, .slice P p.length d, .int .i64 win] w (GivesInts w (natI (Tm.nextP (lts ts) p win))) := by
  obtain ⟨i0, ih, iz, is, ib⟩ := info_parts infoI
  have hpl : p.length = ts.length := by rw [hp.len]; simp [lts]
  have hql := nextP_len (lts ts) p win hp.len
  have HLE := hide (fun k h => isPl_le hp k h)
  have HQA := hide (fun k h h1 h2 => nextP_at (lts ts) p win k h h1 h2)
  generalize Tm.nextP (lts ts) p win = q at *
  have HPL := hide hpl
  have HQL := hide hql
  rw [hpl]
  clear hpl hql hp
  unfold GivesInts
  rw [natI_len]
  go_enter Try.func73, Try.ntmps73
  go_wp2
  go_loopw [7, 8] (fun o i wr => ∃ (k : Nat) (A' : Option Addr) (c' : Nat), k ≤ ts.length ∧ i = .int .i64 (k : Nat) ∧ o = .slice A' k c' ∧ wr.ownsRow w.heap.size 3 1 (.slice A' k c') k (((natI q).take k).map (Value.int .i64)) ∧ Below w.heap.size w wr) (fun _ i _ => ts.length - (intOf i).toNat)
  case atStart => exact ⟨0, none, 0, Nat.zero_le _, rfl, rfl, World.ownsRow_nil _ _ _ _, Below.refl _ _⟩
  case round =>
    obtain ⟨k, A', c', hk, rfl, rfl, hown, hb⟩ := hrel
    have hz := hb.size
    by_cases hlt : k < ts.length
    · obtain ⟨tb, toff, rfl, tl, tl2, hs0⟩ := (hA.ext hb) k ts[k] (by simp [hlt])
      obtain ⟨pb, po, rfl, pl, hc⟩ := i64_at (hP.ext hb) k (by rw [HPL.out]; exact hlt)
      have hkp : k < p.length := by rw [HPL.out]; exact hlt
      have hkq : k < q.length := by rw [HQL.out]; exact hkp
      obtain ⟨hs1, hs2⟩ := hf k hlt
      have hle := HLE.out k hlt
      have HLA := hide (lt_at ts[k])
      have hK : q[k] = if (lt ts[k])[p.getD k 0]? = some win then p.getD k 0 + 1 else p.getD k 0 := by
        have h0 := HQA.out k hkq (by simpa [lts] using hlt) hkp
        rw [List.getD_eq_getElem?_getD, List.getElem?_eq_getElem hkp]
        simpa [lts] using h0
      have HK := hide hK
      have HTN := hide (take_natI hkq)
      have hgb := own_base hown
      clear hK
      generalize q[k] = qk at *
      generalize p.getD k 0 = pk at *
      generalize ts[k] = s at *
      have hki : (k : Int) < (ts.length : Nat) := by omega
      by_cases h2 : pk < s.size
      · have hl := HLA.out pk h2
        obtain ⟨ha, hb2⟩ := hs2 pk h2
        by_cases he : (s[pk].toNat : Int) - 97 = win
        · have hqv : qk = pk + 1 := by rw [HK.out, hl, if_pos (by rw [he])]
          have HV := hide hqv
          have heb : ((s[pk].toNat : Int) - 97 == win) = true := by simpa using he
          clear he hqv hl
          go_wp2_with (at_builtin; refine wpList_app _ rfl (.tmp 41) (.tmp 43) 32 rfl w.heap.size 3 i0 _ 1 8 und32 ih iz is ib rfl (by decide) _ k _ rfl (hown.alloc _) (some ⟨wr.heap.size, 0, none⟩) 1 1 [_] rfl (rd_new1 _ _ _) (by simp [Value.oneCell']) (by unfold maxLen; omega) (by omega) (by simp; omega) ?_; intro A5 c5 w5 hown5 hgr5)
          refine ⟨⟨k + 1, A5, c5, by omega, by go_num, rfl, by rw [HTN.out, HV.out]; exact hown5, gb_below (below_alloc hb (by omega) _) hgr5 (by simp; omega) (fun g hg => hgb g hg)⟩, by simp [intOf]; omega⟩
        · have hqv : qk = pk := by rw [HK.out, hl, if_neg (fun g => he (Option.some.inj g))]
          have HV := hide hqv
          have heb : ((s[pk].toNat : Int) - 97 == win) = false := by simpa using he
          clear he hqv hl
          go_wp2_with (at_builtin; refine wpList_app _ rfl (.tmp 41) (.tmp 43) 32 rfl w.heap.size 3 i0 _ 1 8 und32 ih iz is ib rfl (by decide) _ k _ rfl (hown.alloc _) (some ⟨wr.heap.size, 0, none⟩) 1 1 [_] rfl (rd_new1 _ _ _) (by simp [Value.oneCell']) (by unfold maxLen; omega) (by omega) (by simp; omega) ?_; intro A5 c5 w5 hown5 hgr5)
          refine ⟨⟨k + 1, A5, c5, by omega, by go_num, rfl, by rw [HTN.out, HV.out]; exact hown5, gb_below (below_alloc hb (by omega) _) hgr5 (by simp; omega) (fun g hg => hgb g hg)⟩, by simp [intOf]; omega⟩
      · have hqv : qk = pk := by rw [HK.out, List.getElem?_eq_none (by rw [lt_len]; omega), if_neg (by simp)]
        have HV := hide hqv
        clear hqv
        go_wp2_with (at_builtin; refine wpList_app _ rfl (.tmp 41) (.tmp 43) 32 rfl w.heap.size 3 i0 _ 1 8 und32 ih iz is ib rfl (by decide) _ k _ rfl (hown.alloc _) (some ⟨wr.heap.size, 0, none⟩) 1 1 [_] rfl (rd_new1 _ _ _) (by simp [Value.oneCell']) (by unfold maxLen; omega) (by omega) (by simp; omega) ?_; intro A5 c5 w5 hown5 hgr5)
        refine ⟨⟨k + 1, A5, c5, by omega, by go_num, rfl, by rw [HTN.out, HV.out]; exact hown5, gb_below (below_alloc hb (by omega) _) hgr5 (by simp; omega) (fun g hg => hgb g hg)⟩, by simp [intOf]; omega⟩
    · have hkn : k = ts.length := by omega
      have H2 : Hid ((natI q).take k = natI q) := hide (List.take_of_length_le (by rw [natI_len, HQL.out, HPL.out]; omega))
      rw [H2.out] at hown
      have hI := own_i64 hown
      go_wp2
      go_ret
      exact ⟨A', c', by rw [HQL.out, HPL.out, ← hkn]; rfl, grew_of hb, hI⟩
/-- what is left of a tape -/
def bhS (win : Int) (s : ByteArray) : ByteArray := if (lt s)[0]? = some win then s.extract 1 s.size else s
theorem lt_tail (s : ByteArray) : lt (s.extract 1 s.size) = (lt s).drop 1 := by
  unfold lt
  rw [← List.map_drop]
  congr 1
  simp only [ByteArray.data_extract, Array.toList_extract, List.extract]
  exact List.take_of_length_le (by rw [List.length_drop, Array.length_toList]; exact Nat.le_refl _)
theorem bhS_lt (win : Int) (s : ByteArray) : lt (bhS win s) = Tm.beh win (lt s) := by
  unfold bhS
  have h := Tm.drop_next (lt s) 0 win
  rw [List.drop_zero] at h
  rw [← h]
  split
  · exact lt_tail s
  · rw [List.drop_zero]
theorem bhS_le (win : Int) (s : ByteArray) : (bhS win s).size ≤ s.size := by
  unfold bhS
  split
  · rw [ByteArray.size_extract]; omega
  · exact Nat.le_refl _
def bhL (win : Int) (ts : List ByteArray) : List ByteArray := ts.map (bhS win)
theorem bhL_lts (win : Int) (ts : List ByteArray) : lts (bhL win ts) = Tm.behs win (lts ts) := by
  unfold lts bhL Tm.behs
  rw [List.map_map, List.map_map]
  congr 1
  funext s
  exact bhS_lt win s
set_option maxRecDepth 100000 in
set_option maxHeartbeats 1000000 in
theorem rBehind_any (A : Option Addr) (ts : List ByteArray) (c : Nat) (win : Int) (w : World) (hA : Strs w A ts) (h3 : ts.length ≤ 3) (hf : Fine ts) :
    Calls Try.prog 45 #[.slice A ts.length c, .int .i64 win] w (GivesStrs w (bhL win ts)) := by
  obtain ⟨i0, ih, iz, is, ib⟩ := info_parts infoS
  have HTN := hide (fun k (h : k < ts.length) => (show ((bhL win ts).take (k + 1)).map Value.string = ((bhL win ts).take k).map Value.string ++ [.string (bhS win ts[k])] by
    rw [List.take_succ_eq_append_getElem (by simpa [bhL] using h), List.map_append]; simp [bhL]))
  have HQL : Hid ((bhL win ts).length = ts.length) := hide (by simp [bhL])
  unfold GivesStrs
  go_enter Try.func45, Try.ntmps45
  go_wp2
  go_loopw [5, 6] (fun o i wr => ∃ (k : Nat) (A' : Option Addr) (c' : Nat), k ≤ ts.length ∧ i = .int .i64 (k : Nat) ∧ o = .slice A' k c' ∧ wr.ownsRow w.heap.size 9 1 (.slice A' k c') k (((bhL win ts).take k).map Value.string) ∧ Below w.heap.size w wr) (fun _ i _ => ts.length - (intOf i).toNat)
  case atStart => exact ⟨0, none, 0, Nat.zero_le _, rfl, rfl, World.ownsRow_nil _ _ _ _, Below.refl _ _⟩
  case round =>
    obtain ⟨k, A', c', hk, rfl, rfl, hown, hb⟩ := hrel
    have hz := hb.size
    by_cases hlt : k < ts.length
    · obtain ⟨tb, toff, rfl, tl, tl2, hs0⟩ := (hA.ext hb) k ts[k] (by simp [hlt])
      obtain ⟨hs1, hs2⟩ := hf k hlt
      have HLA := hide (lt_at ts[k])
      have HTK := hide (HTN.out k hlt)
      have HBS := hide (show bhS win ts[k] = if (lt ts[k])[0]? = some win then ts[k].extract 1 ts[k].size else ts[k] from rfl)
      have HSL := hide (lt_len ts[k])
      have hgb := own_base hown
      generalize bhS win ts[k] = bs at *
      generalize ts[k] = s at *
      have hki : (k : Int) < (ts.length : Nat) := by omega
      by_cases h2 : 0 < s.size
      · have hl := HLA.out 0 h2
        obtain ⟨ha, hb2⟩ := hs2 0 h2
        have h2i : (0 : Int) < (s.size : Nat) := by omega
        have hd : decide ((0 : Int) < (s.size : Nat)) = true := by simp; omega
        have hd2 : decide (0 < s.size) = true := by simp; omega
        by_cases he : (s[0].toNat : Int) - 97 = win
        · have hqv : bs = s.extract 1 s.size := by rw [HBS.out, hl, if_pos (by rw [he])]
          have HV := hide hqv
          have heb : ((s[0].toNat : Int) - 97 == win) = true := by simpa using he
          clear he hqv hl
          go_wp2_with (at_builtin; refine wpList_app _ rfl (.tmp 31) (.tmp 33) 22 rfl w.heap.size 9 i0 _ 1 16 und22 ih iz is ib rfl (by decide) _ k _ rfl (hown.alloc _) (some ⟨wr.heap.size, 0, none⟩) 1 1 [_] rfl (rd_new1 _ _ _) (by simp [Value.oneCell']) (by unfold maxLen; omega) (by omega) (by simp; omega) ?_; intro A5 c5 w5 hown5 hgr5)
          refine ⟨⟨k + 1, A5, c5, by omega, by go_num, rfl, by rw [HTK.out, HV.out]; exact hown5, gb_below (below_alloc hb (by omega) _) hgr5 (by simp; omega) (fun g hg => hgb g hg)⟩, by simp [intOf]; omega⟩
        · have hqv : bs = s := by rw [HBS.out, hl, if_neg (fun g => he (Option.some.inj g))]
          have HV := hide hqv
          have heb : ((s[0].toNat : Int) - 97 == win) = false := by simpa using he
          clear he hqv hl
          go_wp2_with (at_builtin; refine wpList_app _ rfl (.tmp 31) (.tmp 33) 22 rfl w.heap.size 9 i0 _ 1 16 und22 ih iz is ib rfl (by decide) _ k _ rfl (hown.alloc _) (some ⟨wr.heap.size, 0, none⟩) 1 1 [_] rfl (rd_new1 _ _ _) (by simp [Value.oneCell']) (by unfold maxLen; omega) (by omega) (by simp; omega) ?_; intro A5 c5 w5 hown5 hgr5)
          refine ⟨⟨k + 1, A5, c5, by omega, by go_num, rfl, by rw [HTK.out, HV.out]; exact hown5, gb_below (below_alloc hb (by omega) _) hgr5 (by simp; omega) (fun g hg => hgb g hg)⟩, by simp [intOf]; omega⟩
      · have hqv : bs = s := by rw [HBS.out, List.getElem?_eq_none (by rw [HSL.out]; omega), if_neg (by simp)]
        have HV := hide hqv
        have hd : decide ((0 : Int) < (s.size : Nat)) = false := decide_eq_false (by omega)
        have hd2 : decide (0 < s.size) = false := decide_eq_false (by omega)
        clear hqv
        go_wp2_with (at_builtin; refine wpList_app _ rfl (.tmp 31) (.tmp 33) 22 rfl w.heap.size 9 i0 _ 1 16 und22 ih iz is ib rfl (by decide) _ k _ rfl (hown.alloc _) (some ⟨wr.heap.size, 0, none⟩) 1 1 [_] rfl (rd_new1 _ _ _) (by simp [Value.oneCell']) (by unfold maxLen; omega) (by omega) (by simp; omega) ?_; intro A5 c5 w5 hown5 hgr5)
        refine ⟨⟨k + 1, A5, c5, by omega, by go_num, rfl, by rw [HTK.out, HV.out]; exact hown5, gb_below (below_alloc hb (by omega) _) hgr5 (by simp; omega) (fun g hg => hgb g hg)⟩, by simp [intOf]; omega⟩
    · have hkn : k = ts.length := by omega
      have H2 : Hid ((bhL win ts).take k = bhL win ts) := hide (List.take_of_length_le (by rw [HQL.out]; omega))
      rw [H2.out] at hown
      have hI := own_strs hown
      go_wp2
      go_ret
      exact ⟨A', c', by rw [HQL.out, ← hkn]; rfl, grew_of hb, hI⟩
end Go.Proofs.Ytafncmgijbkomaa
namespace Go.Proofs.Ytafncmgijbkomaa
open Go.RowKit Go.Maps
set_option maxRecDepth 100000 in
set_option maxHeartbeats 1000000 in
theorem rletter_any (x : Nat) (hx : x < 5) (w : World) : Calls Try.prog 79 #[.int .i64 (x : Nat)] w (Gives w (.string (unlt [((x : Nat) : Int)]))) := by
  have hc2 := back_bytes (W := w.alloc (.cells #[.int .u8 (97 + (x : Int))] 5)) (A := some ⟨w.heap.size, 0, none⟩) (c := 1) (l := [((x : Nat) : Int)]) (by
    have := rd_new1 w (.int .u8 (97 + (x : Int))) 5
    rw [show (97 : Int) + (x : Int) = (x : Int) + 97 by omega] at this ⊢
    exact this) (by simp; omega) (by simp)
  simp only [List.length_cons, List.length_nil, Nat.zero_add] at hc2
  go_enter Try.func79, Try.ntmps79
  go_wp2
  go_ret
  exact gives_of (rfl) (by (repeat (first | exact Below.refl _ _ | assumption | refine below_drewN ?_ _ | refine below_drew ?_ | refine below_gr ?_ ?_ _ | refine below_alloc ?_ ?_ _ | refine Below.setCell ?_ ?_ _ | refine below_step ?_ (by assumption) ?_ | omega | (simp only [zz] at *; omega))))
set_option maxRecDepth 100000 in
set_option maxHeartbeats 1000000 in
theorem rIsImpulse_any (W : Int) (A : Option Addr) (ts : List ByteArray) (c : Nat) (w : World) (b : Nat) (n : Int) (hb : b < 256) : Calls Try.prog 87 #[.agg #[.int .i64 W, .slice A ts.length c], .agg #[.int .u8 (b : Nat), .int .i64 n]] w (Gives w (.bool (isWin W b && (decide (1 ≤ n) && decide (n ≤ 20))))) := by
  cases hw : isWin W b with
  | false =>
    go_enter Try.func87, Try.ntmps87
    go_wp2_with (first
    | (go_at_call 82; refine (rIsWindow_any W A ts c _ b hb).mono ?_; rintro e w1 ⟨rfl, hb1⟩; replace hb1 := ex_below hb1; have hz1 := hb1.size; (try simp only [zz] at hz1); have hs1 : w.heap.size + 1 < w1.heap.size := (by (first | omega | (simp only [zz] at *; omega))); have ho1 := own_cell hb1 (b := w.heap.size + 1) (by (first | omega | (simp only [zz] at *; omega))); have hq1 := own_frozen hb1 (b := w.heap.size + 1) (by (first | omega | (simp only [zz] at *; omega))); have hlt1 : ∀ b, b < w.heap.size → b < w1.heap.size := fun b hb => (by (first | omega | (simp only [zz] at *; omega))); have hc1 : ∀ b o, b < w.heap.size → w1.cell? ⟨b, o, none⟩ = w.cell? ⟨b, o, none⟩ := old_cell (by (repeat (first | exact Below.refl _ _ | assumption | refine below_drewN ?_ _ | refine below_drew ?_ | refine below_gr ?_ ?_ _ | refine below_alloc ?_ ?_ _ | refine Below.setCell ?_ ?_ _ | refine below_step ?_ (by assumption) ?_ | omega | (simp only [zz] at *; omega))))))

    go_ret
    exact gives_of (v_bool (by simp)) (by (repeat (first | exact Below.refl _ _ | assumption | refine below_drewN ?_ _ | refine below_drew ?_ | refine below_gr ?_ ?_ _ | refine below_alloc ?_ ?_ _ | refine Below.setCell ?_ ?_ _ | refine below_step ?_ (by assumption) ?_ | omega | (simp only [zz] at *; omega))))
  | true =>
    by_cases h1 : 1 ≤ n
    all_goals
      go_enter Try.func87, Try.ntmps87
      go_wp2_with (first
    | (go_at_call 82; refine (rIsWindow_any W A ts c _ b hb).mono ?_; rintro e w1 ⟨rfl, hb1⟩; replace hb1 := ex_below hb1; have hz1 := hb1.size; (try simp only [zz] at hz1); have hs1 : w.heap.size + 1 < w1.heap.size := (by (first | omega | (simp only [zz] at *; omega))); have ho1 := own_cell hb1 (b := w.heap.size + 1) (by (first | omega | (simp only [zz] at *; omega))); have hq1 := own_frozen hb1 (b := w.heap.size + 1) (by (first | omega | (simp only [zz] at *; omega))); have hlt1 : ∀ b, b < w.heap.size → b < w1.heap.size := fun b hb => (by (first | omega | (simp only [zz] at *; omega))); have hc1 : ∀ b o, b < w.heap.size → w1.cell? ⟨b, o, none⟩ = w.cell? ⟨b, o, none⟩ := old_cell (by (repeat (first | exact Below.refl _ _ | assumption | refine below_drewN ?_ _ | refine below_drew ?_ | refine below_gr ?_ ?_ _ | refine below_alloc ?_ ?_ _ | refine Below.setCell ?_ ?_ _ | refine below_step ?_ (by assumption) ?_ | omega | (simp only [zz] at *; omega))))))

      go_ret
      exact gives_of (v_bool (by rw [Bool.eq_iff_iff]; simp; omega)) (by (repeat (first | exact Below.refl _ _ | assumption | refine below_drewN ?_ _ | refine below_drew ?_ | refine below_gr ?_ ?_ _ | refine below_alloc ?_ ?_ _ | refine Below.setCell ?_ ?_ _ | refine below_step ?_ (by assumption) ?_ | omega | (simp only [zz] at *; omega))))
theorem at_drop (x : Int) (s : ByteArray) (k : Nat) (h : k < s.size) (m : Nat) (i : Int) : Tm.atP x ((lt s).drop k) m i = if (s[k].toNat : Int) - 97 = x then (if m = 1 then i else Tm.atP x ((lt s).drop (k + 1)) (m - 1) (i + 1)) else Tm.atP x ((lt s).drop (k + 1)) m (i + 1) := by
  rw [List.drop_eq_getElem_cons (by rw [lt_len]; exact h), lt_get s k h]
  rfl
set_option maxRecDepth 100000 in
set_option maxHeartbeats 1000000 in
theorem rAt_any (s : ByteArray) (b n : Nat) (w : World) (hs : s.size ≤ 1000000) (hb : b < 256) (hn : 1 ≤ n) (hn2 : n ≤ 1000000) : Calls Try.prog 88 #[.string s, .agg #[.int .u8 (b : Nat), .int .i64 (n : Nat)]] w (Gives w (.int .i64 (Tm.atP ((b : Int) - 97) (lt s) n 0))) := by
  obtain ⟨T, hT⟩ : ∃ T, Tm.atP ((b : Int) - 97) (lt s) n 0 = T := ⟨_, rfl⟩
  have HT := hide hT
  rw [hT]
  clear hT
  have HE : Hid (∀ m i, Tm.atP ((b : Int) - 97) ((lt s).drop s.size) m i = -1) := hide (fun m i => by rw [← lt_len, List.drop_length]; rfl)
  go_enter Try.func88, Try.ntmps88
  go_wp2
  go_loopw [5, 6] (fun m i wr => ∃ (k f : Nat), k ≤ s.size ∧ f < n ∧ i = .int .i64 (k : Nat) ∧ m = .int .i64 (f : Nat) ∧ Tm.atP ((b : Int) - 97) ((lt s).drop k) (n - f) (k : Nat) = T ∧ Grew (w.alloc (.cells #[.int .u8 (b : Nat), .int .i64 (n : Nat)] 54)) wr) (fun _ i _ => s.size - (intOf i).toNat)
  case atStart => exact ⟨0, 0, Nat.zero_le _, hn, rfl, rfl, HT.out, grew_refl _⟩
  case round =>
    obtain ⟨k, f, hk, hf, rfl, rfl, hat, hbL⟩ := hrel
    replace hbL := hbL.below
    have hzr := hbL.size
    (try simp only [zz] at hzr)
    have hsr : w.heap.size < wr.heap.size := (by (first | omega | (simp only [zz] at *; omega)))
    have hor := own_cell hbL (b := w.heap.size) (by (first | omega | (simp only [zz] at *; omega)))
    have hqr := own_frozen hbL (b := w.heap.size) (by (first | omega | (simp only [zz] at *; omega)))
    have hltr : ∀ b, b < w.heap.size → b < wr.heap.size := fun b hb => (by (first | omega | (simp only [zz] at *; omega)))
    have hcr : ∀ b o, b < w.heap.size → wr.cell? ⟨b, o, none⟩ = w.cell? ⟨b, o, none⟩ := old_cell (by (repeat (first | exact Below.refl _ _ | assumption | refine below_drewN ?_ _ | refine below_drew ?_ | refine below_gr ?_ ?_ _ | refine below_alloc ?_ ?_ _ | refine Below.setCell ?_ ?_ _ | refine below_step ?_ (by assumption) ?_ | omega | (simp only [zz] at *; omega))))
    by_cases hlt : k < s.size
    · have hst := at_drop ((b : Int) - 97) s k hlt (n - f) (k : Nat)
      rw [hat] at hst
      have HST := hide hst
      clear hst hat
      have hki : (k : Int) < (s.size : Nat) := by omega
      by_cases he : (s[k].toNat : Int) = (b : Int)
      · have h1 : ((s[k].toNat : Int) == (b : Int)) = true := by simpa using he
        have h2 : (s[k].toNat == b) = true := by simp; omega
        replace he := hide he
        by_cases hfn : f + 1 = n
        · have h3 : ((f : Int) + 1 == (n : Int)) = true := by simp; omega
          replace hfn := hide hfn
          go_wp2
          refine wp_region_grow (by kernel_rfl) (by kernel_rfl) ?_
          repeat (go_big_quiet_step (fail))
          refine wpQuiet_nil ?_
          intro w2 hb2
          replace hb2 := ex_below hb2
          have hz2 := hb2.size
          (try simp only [zz] at hz2)
          have hs2 : w.heap.size < w2.heap.size := (by (first | omega | (simp only [zz] at *; omega)))
          have ho2 := own_cell hb2 (b := w.heap.size) (by (first | omega | (simp only [zz] at *; omega)))
          have hq2 := own_frozen hb2 (b := w.heap.size) (by (first | omega | (simp only [zz] at *; omega)))
          have hlt2 : ∀ b, b < w.heap.size → b < w2.heap.size := fun b hb => (by (first | omega | (simp only [zz] at *; omega)))
          have hc2 : ∀ b o, b < w.heap.size → w2.cell? ⟨b, o, none⟩ = w.cell? ⟨b, o, none⟩ := old_cell (by (repeat (first | exact Below.refl _ _ | assumption | refine below_drewN ?_ _ | refine below_drew ?_ | refine below_gr ?_ ?_ _ | refine below_alloc ?_ ?_ _ | refine Below.setCell ?_ ?_ _ | refine below_step ?_ (by assumption) ?_ | omega | (simp only [zz] at *; omega))))
          go_wp2
          go_ret
          exact gives_of (v_int (by rw [HST.out, if_pos (by rw [he.out]), if_pos (by have := hfn.out; omega)])) (by (repeat (first | exact Below.refl _ _ | assumption | refine below_drewN ?_ _ | refine below_drew ?_ | refine below_gr ?_ ?_ _ | refine below_alloc ?_ ?_ _ | refine Below.setCell ?_ ?_ _ | refine below_step ?_ (by assumption) ?_ | omega | (simp only [zz] at *; omega))))
        · have h3 : ((f : Int) + 1 == (n : Int)) = false := by simp; omega
          have hfn' := hide hfn
          clear hfn
          go_wp2
          refine wp_region_grow (by kernel_rfl) (by kernel_rfl) ?_
          repeat (go_big_quiet_step (fail))
          refine wpQuiet_nil ?_
          intro w2 hb2
          replace hb2 := ex_below hb2
          have hz2 := hb2.size
          (try simp only [zz] at hz2)
          have hs2 : w.heap.size < w2.heap.size := (by (first | omega | (simp only [zz] at *; omega)))
          have ho2 := own_cell hb2 (b := w.heap.size) (by (first | omega | (simp only [zz] at *; omega)))
          have hq2 := own_frozen hb2 (b := w.heap.size) (by (first | omega | (simp only [zz] at *; omega)))
          have hlt2 : ∀ b, b < w.heap.size → b < w2.heap.size := fun b hb => (by (first | omega | (simp only [zz] at *; omega)))
          have hc2 : ∀ b o, b < w.heap.size → w2.cell? ⟨b, o, none⟩ = w.cell? ⟨b, o, none⟩ := old_cell (by (repeat (first | exact Below.refl _ _ | assumption | refine below_drewN ?_ _ | refine below_drew ?_ | refine below_gr ?_ ?_ _ | refine below_alloc ?_ ?_ _ | refine Below.setCell ?_ ?_ _ | refine below_step ?_ (by assumption) ?_ | omega | (simp only [zz] at *; omega))))
          go_wp2
          refine ⟨⟨k + 1, f + 1, by omega, by have := hfn'.out; omega, by go_num, by go_num, ?_, grew_of (by (repeat (first | exact Below.refl _ _ | assumption | refine below_drewN ?_ _ | refine below_drew ?_ | refine below_gr ?_ ?_ _ | refine below_alloc ?_ ?_ _ | refine Below.setCell ?_ ?_ _ | refine below_step ?_ (by assumption) ?_ | omega | (simp only [zz] at *; omega))))⟩, by simp [intOf]; omega⟩
          rw [HST.out, if_pos (by rw [he.out]), if_neg (by have := hfn'.out; omega)]
          rw [show n - (f + 1) = n - f - 1 by omega]; push_cast; rfl
      · have h1 : ((s[k].toNat : Int) == (b : Int)) = false := by simpa using he
        have h2 : (s[k].toNat == b) = false := by simp; omega
        replace he := hide he
        go_wp2
        refine wp_region_grow (by kernel_rfl) (by kernel_rfl) ?_
        repeat (go_big_quiet_step (fail))
        refine wpQuiet_nil ?_
        intro w2 hb2
        replace hb2 := ex_below hb2
        have hz2 := hb2.size
        (try simp only [zz] at hz2)
        have hs2 : w.heap.size < w2.heap.size := (by (first | omega | (simp only [zz] at *; omega)))
        have ho2 := own_cell hb2 (b := w.heap.size) (by (first | omega | (simp only [zz] at *; omega)))
        have hq2 := own_frozen hb2 (b := w.heap.size) (by (first | omega | (simp only [zz] at *; omega)))
        have hlt2 : ∀ b, b < w.heap.size → b < w2.heap.size := fun b hb => (by (first | omega | (simp only [zz] at *; omega)))
        have hc2 : ∀ b o, b < w.heap.size → w2.cell? ⟨b, o, none⟩ = w.cell? ⟨b, o, none⟩ := old_cell (by (repeat (first | exact Below.refl _ _ | assumption | refine below_drewN ?_ _ | refine below_drew ?_ | refine below_gr ?_ ?_ _ | refine below_alloc ?_ ?_ _ | refine Below.setCell ?_ ?_ _ | refine below_step ?_ (by assumption) ?_ | omega | (simp only [zz] at *; omega))))
        go_wp2
        refine ⟨⟨k + 1, f, by omega, hf, by go_num, by go_num, ?_, grew_of (by (repeat (first | exact Below.refl _ _ | assumption | refine below_drewN ?_ _ | refine below_drew ?_ | refine below_gr ?_ ?_ _ | refine below_alloc ?_ ?_ _ | refine Below.setCell ?_ ?_ _ | refine below_step ?_ (by assumption) ?_ | omega | (simp only [zz] at *; omega))))⟩, by simp [intOf]; omega⟩
        rw [HST.out, if_neg (fun g => he.out (by omega))]; push_cast; rfl
    · have hkl : k = s.size := by omega
      have H2 : T = -1 := by rw [← hat, hkl]; exact HE.out _ _
      replace H2 := hide H2
      clear hat
      go_wp2
      go_ret
      exact gives_of (v_int (by rw [H2.out])) (by (repeat (first | exact Below.refl _ _ | assumption | refine below_drewN ?_ _ | refine below_drew ?_ | refine below_gr ?_ ?_ _ | refine below_alloc ?_ ?_ _ | refine Below.setCell ?_ ?_ _ | refine below_step ?_ (by assumption) ?_ | omega | (simp only [zz] at *; omega))))
def befB (s : List Int) (a : Int) (i : Nat) (b : Int) (j : Nat) : Bool := decide (0 ≤ Tm.atP a s i 0) && (decide (0 ≤ Tm.atP b s j 0) && decide (Tm.atP a s i 0 < Tm.atP b s j 0))
set_option maxRecDepth 100000 in
set_option maxHeartbeats 1000000 in
theorem rBefore_any (s : ByteArray) (a i b j : Nat) (w : World) (hs : s.size ≤ 1000000) (ha : a < 256) (hb : b < 256) (hi : 1 ≤ i) (hi2 : i ≤ 1000000) (hj : 1 ≤ j) (hj2 : j ≤ 1000000) : Calls Try.prog 49 #[.string s, .agg #[.int .u8 (a : Nat), .int .i64 (i : Nat)], .agg #[.int .u8 (b : Nat), .int .i64 (j : Nat)]] w (Gives w (.bool (befB (lt s) ((a : Int) - 97) i ((b : Int) - 97) j))) := by
  have HA := hide (fun w' => rAt_any s a i w' hs ha hi hi2)
  have HB := hide (fun w' => rAt_any s b j w' hs hb hj hj2)
  have HV := hide (show befB (lt s) ((a : Int) - 97) i ((b : Int) - 97) j = (decide (0 ≤ Tm.atP ((a : Int) - 97) (lt s) i 0) && (decide (0 ≤ Tm.atP ((b : Int) - 97) (lt s) j 0) && decide (Tm.atP ((a : Int) - 97) (lt s) i 0 < Tm.atP ((b : Int) - 97) (lt s) j 0))) from rfl)
  rw [HV.out]
  clear HV
  generalize Tm.atP ((a : Int) - 97) (lt s) i 0 = x at *
  generalize Tm.atP ((b : Int) - 97) (lt s) j 0 = y at *
  by_cases h1 : 0 ≤ x
  · have d1 : decide (0 ≤ x) = true := decide_eq_true h1
    by_cases h2 : 0 ≤ y
    · have d2 : decide (0 ≤ y) = true := decide_eq_true h2
      go_enter Try.func49, Try.ntmps49
      go_wp2
      refine wp_region_grow (by kernel_rfl) (by kernel_rfl) ?_
      repeat (go_big_quiet_step (fail))
      go_big_quiet_step ((go_at_call 88; exact Gives.quiet (HA.out _)))
      repeat (go_big_quiet_step (fail))
      go_big_quiet_step ((go_at_call 88; exact Gives.quiet (HB.out _)))
      repeat (go_big_quiet_step (fail))
      go_big_quiet_step ((go_at_call 88; exact Gives.quiet (HA.out _)))
      repeat (go_big_quiet_step (fail))
      go_big_quiet_step ((go_at_call 88; exact Gives.quiet (HB.out _)))
      repeat (go_big_quiet_step (fail))
      refine wpQuiet_nil ?_
      intro w9 hb9
      replace hb9 := ex_below hb9
      go_wp2
      go_ret
      exact gives_of (v_bool (by simp [d1, d2])) (by (repeat (first | exact Below.refl _ _ | assumption | refine below_drewN ?_ _ | refine below_drew ?_ | refine below_gr ?_ ?_ _ | refine below_alloc ?_ ?_ _ | refine Below.setCell ?_ ?_ _ | refine below_step ?_ (by assumption) ?_ | omega | (simp only [zz] at *; omega))))
    · have d2 : decide (0 ≤ y) = false := decide_eq_false h2
      go_enter Try.func49, Try.ntmps49
      go_wp2
      refine wp_region_grow (by kernel_rfl) (by kernel_rfl) ?_
      repeat (go_big_quiet_step (fail))
      go_big_quiet_step ((go_at_call 88; exact Gives.quiet (HA.out _)))
      repeat (go_big_quiet_step (fail))
      go_big_quiet_step ((go_at_call 88; exact Gives.quiet (HB.out _)))
      repeat (go_big_quiet_step (fail))
      refine wpQuiet_nil ?_
      intro w9 hb9
      replace hb9 := ex_below hb9
      go_wp2
      go_ret
      exact gives_of (v_bool (by simp [d1, d2])) (by (repeat (first | exact Below.refl _ _ | assumption | refine below_drewN ?_ _ | refine below_drew ?_ | refine below_gr ?_ ?_ _ | refine below_alloc ?_ ?_ _ | refine Below.setCell ?_ ?_ _ | refine below_step ?_ (by assumption) ?_ | omega | (simp only [zz] at *; omega))))
  · have d1 : decide (0 ≤ x) = false := decide_eq_false h1
    go_enter Try.func49, Try.ntmps49
    go_wp2
    refine wp_region_grow (by kernel_rfl) (by kernel_rfl) ?_
    repeat (go_big_quiet_step (fail))
    go_big_quiet_step ((go_at_call 88; exact Gives.quiet (HA.out _)))
    repeat (go_big_quiet_step (fail))
    refine wpQuiet_nil ?_
    intro w9 hb9
    replace hb9 := ex_below hb9
    go_wp2
    go_ret
    exact gives_of (v_bool (by simp [d1])) (by (repeat (first | exact Below.refl _ _ | assumption | refine below_drewN ?_ _ | refine below_drew ?_ | refine below_gr ?_ ?_ _ | refine below_alloc ?_ ?_ _ | refine Below.setCell ?_ ?_ _ | refine below_step ?_ (by assumption) ?_ | omega | (simp only [zz] at *; omega))))
end Go.Proofs.Ytafncmgijbkomaa
