/- Proved here: the helpers of the laws: lists, and what is too wide; which cards have too many outcomes, a part of the proofs about the box laws. Conditions: those that each theorem names, no others. -/
import Derived.Test.YtlbkaeoagdbemaaP26
import Derived.WalkKit
import Derived.WalkSpells
import Derived.WalkLawsBesides
import Derived.Below
import Derived.Deep.QuietTactic
import Derived.BigQuiet
import Derived.Deep.Light
import Derived.Deep.RegionHeld3
set_option linter.unusedSimpArgs false
set_option linter.unusedVariables false
namespace Go.Proofs.Ytlbkaeoagdbemaa
open Go.RowKit

set_option maxRecDepth 100000 in
set_option maxHeartbeats 1000000 in
theorem ints_any (P : Option Addr) (p : List Int) (c : Nat) (Q : Option Addr) (q : List Int) (d : Nat) (w : World) (hP : I64 w P p) (hQ : I64 w Q q) (hp : p.length ≤ 1000) (hq : q.length ≤ 1000) : Calls Try.prog 40 #[.slice P p.length c, .slice Q q.length d] w (Gives w (.bool (decide (p = q)))) := by
  by_cases hl : p.length = q.length
  · have hli : ((p.length : Int) != (q.length : Nat)) = false := by simp; omega
    have hli2 : (p.length != q.length) = false := by simp; omega
    have HL := hide hl
    have hq2 : q.length ≤ p.length := by omega
    have HPQ := hide (fun k (h1 : k < p.length) (h2 : k < q.length) (h3 : p[k] ≠ q[k]) => (show decide (p = q) = false from decide_eq_false (fun e => h3 (by subst e; rfl))))
    have HPE := hide (fun (h : ∀ k (h1 : k < p.length) (h2 : k < q.length), p[k] = q[k]) => (show decide (p = q) = true from decide_eq_true (List.ext_getElem hl (fun k h1 h2 => h k h1 h2))))
    clear hl
    go_enter Try.func40, Try.ntmps40
    go_wp2
    go_loopw [5] (fun i wr => ∃ k : Nat, k ≤ p.length ∧ i = .int .i64 (k : Nat) ∧ Hid (∀ j (h1 : j < p.length) (h2 : j < q.length), j < k → p[j] = q[j]) ∧ Grew w wr) (fun i _ => p.length - (intOf i).toNat)
    case atStart => exact ⟨0, Nat.zero_le _, rfl, hide (fun j _ _ h => absurd h (Nat.not_lt_zero _)), grew_refl _⟩
    case round =>
      obtain ⟨k, hk, rfl, hall, hb⟩ := hrel
      replace hb := hb.below
      have hzr := hb.size
      (try simp only [zz] at hzr)
      have hltr : ∀ b, b < w.heap.size → b < wr.heap.size := fun b hb => (by (first | omega | (simp only [zz] at *; omega)))
      have hcr : ∀ b o, b < w.heap.size → wr.cell? ⟨b, o, none⟩ = w.cell? ⟨b, o, none⟩ := old_cell (by (repeat (first | exact Below.refl _ _ | assumption | refine below_drewN ?_ _ | refine below_drew ?_ | refine below_gr ?_ ?_ _ | refine below_alloc ?_ ?_ _ | refine Below.setCell ?_ ?_ _ | refine below_step ?_ (by assumption) ?_ | omega | (simp only [zz] at *; omega))))
      by_cases hlt : k < p.length
      · have hlq : k < q.length := by rw [← HL.out]; exact hlt
        obtain ⟨pb, po, rfl, hpb⟩ := (hP.ext hb).form (by omega)
        obtain ⟨qb, qo, rfl, hqb⟩ := (hQ.ext hb).form (by omega)
        have cp := (hP.ext hb).at hlt
        have cq := (hQ.ext hb).at hlq
        have HNE := hide (HPQ.out k hlt hlq)
        have HAL : Hid (p[k] = q[k] → ∀ j (h1 : j < p.length) (h2 : j < q.length), j < k + 1 → p[j] = q[j]) := hide (fun e j h1 h2 h => by
          rcases Nat.lt_or_ge j k with g | g
          · exact hall.out j h1 h2 g
          · obtain rfl : j = k := by omega
            exact e)
        generalize p[k] = x at *
        generalize q[k] = y at *
        have hki : (k : Int) < (p.length : Nat) := by omega
        have hkq : (k : Int) < (q.length : Nat) := by omega
        have hk0 : (0 : Int) ≤ (k : Int) := by omega
        by_cases e : x = y
        · have eb : (x != y) = false := by simpa using e
          replace e := hide e
          go_wp2
          refine wp_region_grow (by kernel_rfl) (by kernel_rfl) ?_
          repeat (go_big_quiet_step (fail))
          refine wpQuiet_nil ?_
          intro w4 hb4
          replace hb4 := ex_below hb4
          have hz4 := hb4.size
          (try simp only [zz] at hz4)
          have hlt4 : ∀ b, b < wr.heap.size → b < w4.heap.size := fun b hb => (by (first | omega | (simp only [zz] at *; omega)))
          have hc4 : ∀ b o, b < wr.heap.size → w4.cell? ⟨b, o, none⟩ = wr.cell? ⟨b, o, none⟩ := old_cell (by (repeat (first | exact Below.refl _ _ | assumption | refine below_drewN ?_ _ | refine below_drew ?_ | refine below_gr ?_ ?_ _ | refine below_alloc ?_ ?_ _ | refine Below.setCell ?_ ?_ _ | refine below_step ?_ (by assumption) ?_ | omega | (simp only [zz] at *; omega))))
          go_wp2
          exact ⟨⟨k + 1, by omega, by go_num, hide (HAL.out e.out), grew_of (by (repeat (first | exact Below.refl _ _ | assumption | refine below_drewN ?_ _ | refine below_drew ?_ | refine below_gr ?_ ?_ _ | refine below_alloc ?_ ?_ _ | refine Below.setCell ?_ ?_ _ | refine below_step ?_ (by assumption) ?_ | omega | (simp only [zz] at *; omega))))⟩, by simp [intOf]; omega⟩
        · have eb : (x != y) = true := by simpa using e
          go_wp2
          refine wp_region_grow (by kernel_rfl) (by kernel_rfl) ?_
          repeat (go_big_quiet_step (fail))
          refine wpQuiet_nil ?_
          intro w4 hb4
          replace hb4 := ex_below hb4
          have hz4 := hb4.size
          (try simp only [zz] at hz4)
          have hlt4 : ∀ b, b < wr.heap.size → b < w4.heap.size := fun b hb => (by (first | omega | (simp only [zz] at *; omega)))
          have hc4 : ∀ b o, b < wr.heap.size → w4.cell? ⟨b, o, none⟩ = wr.cell? ⟨b, o, none⟩ := old_cell (by (repeat (first | exact Below.refl _ _ | assumption | refine below_drewN ?_ _ | refine below_drew ?_ | refine below_gr ?_ ?_ _ | refine below_alloc ?_ ?_ _ | refine Below.setCell ?_ ?_ _ | refine below_step ?_ (by assumption) ?_ | omega | (simp only [zz] at *; omega))))
          go_wp2
          go_ret
          exact gives_of (v_bool (HNE.out e).symm) (by (repeat (first | exact Below.refl _ _ | assumption | refine below_drewN ?_ _ | refine below_drew ?_ | refine below_gr ?_ ?_ _ | refine below_alloc ?_ ?_ _ | refine Below.setCell ?_ ?_ _ | refine below_step ?_ (by assumption) ?_ | omega | (simp only [zz] at *; omega))))
      · have hkl : k = p.length := by omega
        have HE := hide (HPE.out (fun j h1 h2 => hall.out j h1 h2 (by omega)))
        clear hkl
        go_wp2
        go_ret
        exact gives_of (v_bool HE.out.symm) (by (repeat (first | exact Below.refl _ _ | assumption | refine below_drewN ?_ _ | refine below_drew ?_ | refine below_gr ?_ ?_ _ | refine below_alloc ?_ ?_ _ | refine Below.setCell ?_ ?_ _ | refine below_step ?_ (by assumption) ?_ | omega | (simp only [zz] at *; omega))))
  · have hli : ((p.length : Int) != (q.length : Nat)) = true := by simp; omega
    have HE := hide (show decide (p = q) = false from decide_eq_false (fun e => hl (by rw [e])))
    clear hl
    go_enter Try.func40, Try.ntmps40
    go_wp2
    go_ret
    exact gives_of (v_bool HE.out.symm) (by (repeat (first | exact Below.refl _ _ | assumption | refine below_drewN ?_ _ | refine below_drew ?_ | refine below_gr ?_ ?_ _ | refine below_alloc ?_ ?_ _ | refine Below.setCell ?_ ?_ _ | refine below_step ?_ (by assumption) ?_ | omega | (simp only [zz] at *; omega))))

set_option maxRecDepth 100000 in
set_option maxHeartbeats 1000000 in
theorem in_any (P : Option Addr) (p : List Int) (c : Nat) (n : Int) (w : World) (hP : I64 w P p) (hp : p.length ≤ 1000) : Calls Try.prog 48 #[.slice P p.length c, .int .i64 n] w (Gives w (.bool (p.contains n))) := by
  go_enter Try.func48, Try.ntmps48
  go_wp2
  go_loopw [5] (fun i wr => ∃ k : Nat, k ≤ p.length ∧ i = .int .i64 (k : Nat) ∧ (p.take k).all (fun x => x != n) = true ∧ wr = w) (fun i _ => p.length - (intOf i).toNat)
  case atStart => exact ⟨0, Nat.zero_le _, rfl, rfl, rfl⟩
  case round =>
    obtain ⟨k, hk, rfl, hall, rfl⟩ := hrel
    by_cases hlt : k < p.length
    · obtain ⟨pb, po, rfl, hpb⟩ := hP.form (by omega)
      have cp := hP.at hlt
      have HG := hide (all_good (f := fun x => x != n) hlt hall)
      have HI := hide (fun h : p[k] = n => show p.contains n = true by rw [List.contains_iff_mem]; exact h ▸ List.getElem_mem hlt)
      clear hall
      generalize p[k] = x at *
      by_cases e : x = n
      · have hv := hide (HI.out e)
        have eb : (x == n) = true := by simpa using e
        clear HG HI e
        go_wp2
        go_ret
        exact gives_of (v_bool hv.out.symm) (by (repeat (first | exact Below.refl _ _ | assumption | refine below_drewN ?_ _ | refine below_drew ?_ | refine below_gr ?_ ?_ _ | refine below_alloc ?_ ?_ _ | refine Below.setCell ?_ ?_ _ | refine below_step ?_ (by assumption) ?_ | omega | (simp only [zz] at *; omega))))
      · have eb : (x == n) = false := by simpa using e
        replace HG := hide (HG.out (by simpa using e))
        clear HI e
        go_wp2
        exact ⟨⟨k + 1, by omega, by go_num, HG.out, by trivial⟩, by simp [intOf]; omega⟩
    · have hkl : k = p.length := by omega
      have hv := hide (show p.contains n = false by
        rw [hkl, List.take_length, List.all_eq_true] at hall
        rw [← Bool.not_eq_true, List.contains_iff_mem]
        intro h
        simpa using hall n h)
      clear hall hkl
      go_wp2
      go_ret
      exact gives_of (v_bool hv.out.symm) (by (repeat (first | exact Below.refl _ _ | assumption | refine below_drewN ?_ _ | refine below_drew ?_ | refine below_gr ?_ ?_ _ | refine below_alloc ?_ ?_ _ | refine Below.setCell ?_ ?_ _ | refine below_step ?_ (by assumption) ?_ | omega | (simp only [zz] at *; omega))))
/-- too many tickets, or one with too many sets -/
def wideB (ts : List Tz) (most : Int) : Bool := decide ((ts.length : Int) > most) || ts.any fun t => decide ((t.1.length : Int) > 10)
set_option maxRecDepth 100000 in
set_option maxHeartbeats 1000000 in
theorem wide_any (B : Option Addr) (ts : List Tz) (d : Nat) (most : Int) (w : World) (hB : Tks w B ts) (hl2 : ts.length ≤ 9223372036854775807) (hts : ∀ t, t ∈ ts → t.1.length ≤ 9223372036854775807) : Calls Try.prog 19 #[.slice B ts.length d, .int .i64 most] w (Gives w (.bool (wideB ts most))) := by
  have hl2' : (ts.length : Int) ≤ 9223372036854775807 := by omega
  have HX := hide (show wideB ts most = (decide ((ts.length : Int) > most) || ts.any fun t => decide ((t.1.length : Int) > 10)) from rfl)
  cases hm : decide ((ts.length : Int) > most) with
  | true =>
    have hv := hide (show wideB ts most = true by rw [HX.out, hm]; rfl)
    clear HX
    go_enter Try.func19, Try.ntmps19
    go_wp2
    go_ret
    exact gives_of (v_bool hv.out.symm) (by (repeat (first | exact Below.refl _ _ | assumption | refine below_drewN ?_ _ | refine below_drew ?_ | refine below_gr ?_ ?_ _ | refine below_alloc ?_ ?_ _ | refine Below.setCell ?_ ?_ _ | refine below_step ?_ (by assumption) ?_ | omega | (simp only [zz] at *; omega))))
  | false =>
    replace HX := hide (show wideB ts most = ts.any fun t => decide ((t.1.length : Int) > 10) by rw [HX.out, hm]; rfl)
    go_enter Try.func19, Try.ntmps19
    go_wp2
    go_loopw [5] (fun i wr => ∃ k : Nat, k ≤ ts.length ∧ i = .int .i64 (k : Nat) ∧ (ts.take k).all (fun t => !decide ((t.1.length : Int) > 10)) = true ∧ wr = w) (fun i _ => ts.length - (intOf i).toNat)
    case atStart => exact ⟨0, Nat.zero_le _, rfl, rfl, rfl⟩
    case round =>
      obtain ⟨k, hk, rfl, hall, rfl⟩ := hrel
      by_cases hlt : k < ts.length
      · obtain ⟨tb, to, rfl, htb⟩ := hB.form (by omega)
        obtain ⟨S, sc, q0, q1, q2, hSx⟩ := hB.at hlt
        have HG := hide (all_good (f := fun t : Tz => !decide ((t.1.length : Int) > 10)) hlt hall)
        have HI := hide (fun h : decide ((ts[k].1.length : Int) > 10) = true => show wideB ts most = true by rw [HX.out, List.any_eq_true]; exact ⟨_, List.getElem_mem hlt, h⟩)
        have htl := hts _ (List.getElem_mem hlt)
        clear hall hSx q1
        generalize ts[k].1.length = x at *
        cases e : decide ((x : Int) > 10) with
        | true =>
          have hv := hide (HI.out e)
          go_wp2
          go_ret
          exact gives_of (v_bool hv.out.symm) (by (repeat (first | exact Below.refl _ _ | assumption | refine below_drewN ?_ _ | refine below_drew ?_ | refine below_gr ?_ ?_ _ | refine below_alloc ?_ ?_ _ | refine Below.setCell ?_ ?_ _ | refine below_step ?_ (by assumption) ?_ | omega | (simp only [zz] at *; omega))))
        | false =>
          replace HG := hide (HG.out (by rw [e]; rfl))
          go_wp2
          exact ⟨⟨k + 1, by omega, by go_num, HG.out, by trivial⟩, by simp [intOf]; omega⟩
      · have hkl : k = ts.length := by omega
        have hv := hide (show wideB ts most = false by
          rw [hkl, List.take_length, List.all_eq_true] at hall
          rw [HX.out, List.any_eq_false]
          intro t ht
          simpa using hall t ht)
        clear hall hkl
        go_wp2
        go_ret
        exact gives_of (v_bool hv.out.symm) (by (repeat (first | exact Below.refl _ _ | assumption | refine below_drewN ?_ _ | refine below_drew ?_ | refine below_gr ?_ ?_ _ | refine below_alloc ?_ ?_ _ | refine Below.setCell ?_ ?_ _ | refine below_step ?_ (by assumption) ?_ | omega | (simp only [zz] at *; omega))))
end Go.Proofs.Ytlbkaeoagdbemaa
namespace Go.Proofs.Ytlbkaeoagdbemaa
open Go.RowKit
/-- how many outcomes a card has -/
def prodI (R : List Int) : Int := R.foldl (· * ·) 1
theorem prodI_snoc (R : List Int) (x : Int) : prodI (R ++ [x]) = prodI R * x := by simp [prodI]
theorem fold_le (R : List Int) (h : ∀ x, x ∈ R → 1 ≤ x ∧ x ≤ 6) : ∀ a b : Int, 1 ≤ a → a ≤ b → 1 ≤ R.foldl (· * ·) a ∧ R.foldl (· * ·) a ≤ b * (6 ^ R.length : Nat) := by
  induction R with
  | nil => intro a b h1 h2; simp; omega
  | cons x R ih =>
    intro a b h1 h2
    obtain ⟨g1, g2⟩ := h x (by simp)
    have q1 : 1 ≤ a * x := by have := Int.mul_le_mul h1 g1 (by omega) (by omega); simpa using this
    have q2 : a * x ≤ b * 6 := Int.mul_le_mul h2 g2 (by omega) (by omega)
    have := ih (fun y hy => h y (by simp [hy])) (a * x) (b * 6) q1 q2
    rw [List.foldl_cons, List.length_cons, Nat.pow_succ, Int.natCast_mul, Int.mul_comm ((6 ^ R.length : Nat) : Int), ← Int.mul_assoc]
    exact this
theorem prodI_le (R : List Int) (h : ∀ x, x ∈ R → 1 ≤ x ∧ x ≤ 6) : 1 ≤ prodI R ∧ prodI R ≤ (6 ^ R.length : Nat) := by
  have := fold_le R h 1 1 (by omega) (by omega)
  rwa [Int.one_mul] at this
/-- too many outcomes for a statement -/
def greatB (R : List Int) : Bool := if decide ((R.length : Int) > 10) = true then true else if chkCard R ≠ 0 then false else decide (prodI R > 400)
set_option maxRecDepth 100000 in
set_option maxHeartbeats 4000000 in
theorem great_any (A : Option Addr) (R : List Int) (c : Nat) (w : World) (hA : I64 w A R) (hl : R.length ≤ 9223372036854775807) :
    Calls Try.prog 18 #[.agg #[.slice A R.length c]] w (Gives w (.bool (greatB R))) := by
  have hl' : (R.length : Int) ≤ 9223372036854775807 := by omega
  have HX := hide (show greatB R = if decide ((R.length : Int) > 10) = true then true else if chkCard R ≠ 0 then false else decide (prodI R > 400) from rfl)
  cases hm : decide ((R.length : Int) > 10) with
  | true =>
    have hv := hide (HX.out.trans (if_pos hm))
    clear HX
    go_enter Try.func18, Try.ntmps18
    go_wp2
    go_ret
    exact gives_of (v_bool hv.out.symm) (by (repeat (first | exact Below.refl _ _ | assumption | refine below_drewN ?_ _ | refine below_drew ?_ | refine below_gr ?_ ?_ _ | refine below_alloc ?_ ?_ _ | refine Below.setCell ?_ ?_ _ | refine below_step ?_ (by assumption) ?_ | omega | (simp only [zz] at *; omega))))
  | false =>
    replace HX := hide (HX.out.trans (if_neg (by rw [hm]; simp)))
    have hl10 : R.length ≤ 10 := by simp at hm; omega
    have HC := hide (fun w' (h : I64 w' A R) => rCheckCard_any A R c w' h (by omega))
    by_cases h0 : chkCard R = 0
    · obtain ⟨h1, h5, hR⟩ := chkCard_ok h0
      replace HX := hide (HX.out.trans (if_neg (by simpa using h0)))
      rw [h0] at HC
      clear h0 hl hl'
      go_enter Try.func18, Try.ntmps18
      go_wp2_with (first
    | (go_at_call 22; refine (HC.out _ (hA.ext (by (repeat (first | exact Below.refl _ _ | assumption | refine below_drewN ?_ _ | refine below_drew ?_ | refine below_gr ?_ ?_ _ | refine below_alloc ?_ ?_ _ | refine Below.setCell ?_ ?_ _ | refine below_step ?_ (by assumption) ?_ | omega | (simp only [zz] at *; omega)))))).mono ?_; rintro e w1 ⟨rfl, hb1⟩; replace hb1 := ex_below hb1; have hz1 := hb1.size; (try simp only [zz] at hz1); have hs1 : w.heap.size < w1.heap.size := (by (first | omega | (simp only [zz] at *; omega))); have ho1 := own_cell hb1 (b := w.heap.size) (by (first | omega | (simp only [zz] at *; omega))); have hq1 := own_frozen hb1 (b := w.heap.size) (by (first | omega | (simp only [zz] at *; omega))); have hlt1 : ∀ b, b < w.heap.size → b < w1.heap.size := fun b hb => (by (first | omega | (simp only [zz] at *; omega))); have hc1 : ∀ b o, b < w.heap.size → w1.cell? ⟨b, o, none⟩ = w.cell? ⟨b, o, none⟩ := old_cell (by (repeat (first | exact Below.refl _ _ | assumption | refine below_drewN ?_ _ | refine below_drew ?_ | refine below_gr ?_ ?_ _ | refine below_alloc ?_ ?_ _ | refine Below.setCell ?_ ?_ _ | refine below_step ?_ (by assumption) ?_ | omega | (simp only [zz] at *; omega))))))

      have hbw : Below w.heap.size w w1 := by (repeat (first | exact Below.refl _ _ | assumption | (refine below_gr ?_ (by (first | omega | (simp only [zz] at *; omega))) _) | (refine below_alloc ?_ (by (first | omega | (simp only [zz] at *; omega))) _) | (refine Below.setCell ?_ (by (first | omega | (simp only [zz] at *; omega))) _) | refine below_drewN ?_ _ | refine below_drew ?_ | (refine below_step ?_ (by assumption) (by (first | omega | (simp only [zz] at *; omega))))))
      go_loopw [3, 4] (fun p i wr => ∃ k : Nat, k ≤ R.length ∧ i = .int .i64 k ∧ p = .int .i64 (prodI (R.take k)) ∧ wr = w1) (fun _ i _ => R.length - (intOf i).toNat)
      case atStart => exact ⟨0, Nat.zero_le _, rfl, rfl, rfl⟩
      case round =>
        obtain ⟨k, hk, rfl, rfl, rfl⟩ := hrel
        by_cases hlt : k < R.length
        · have hA1 := hA.ext hbw
          obtain ⟨tb, to, rfl, htb⟩ := hA1.form (by omega)
          have ht0 := hA1.at hlt
          have HS := hide (show prodI (R.take (k + 1)) = prodI (R.take k) * R[k] by rw [take_snoc R k hlt, prodI_snoc])
          obtain ⟨p1, p2⟩ := prodI_le (R.take (k + 1)) (fun x hx => by
            obtain ⟨j, hj, rfl⟩ := List.getElem_of_mem hx
            rw [List.getElem_take]; exact hR _ _)
          rw [HS.out] at p1 p2
          have p3 : (6 ^ (R.take (k + 1)).length : Nat) ≤ 6 ^ 5 := Nat.pow_le_pow_right (by omega) (by simp; omega)
          replace p2 : prodI (R.take k) * R[k] ≤ 7776 := by omega
          clear p3
          generalize prodI (R.take k) = p at *
          generalize R[k] = x at *
          go_wp2
          exact ⟨⟨k + 1, by omega, by go_num, by rw [HS.out], by trivial⟩, by simp [intOf]; omega⟩
        · have hkl : k = R.length := by omega
          have hv := hide (show greatB R = decide (prodI (R.take k) > 400) by rw [HX.out, hkl, List.take_length])
          clear hkl
          generalize prodI (R.take k) = p at *
          go_wp2
          go_ret
          exact gives_of (v_bool hv.out.symm) (by (repeat (first | exact Below.refl _ _ | assumption | refine below_drewN ?_ _ | refine below_drew ?_ | refine below_gr ?_ ?_ _ | refine below_alloc ?_ ?_ _ | refine Below.setCell ?_ ?_ _ | refine below_step ?_ (by assumption) ?_ | omega | (simp only [zz] at *; omega))))
    · have hv := hide (HX.out.trans (if_pos h0))
      have hne : (chkCard R != 0) = true := by simpa using h0
      clear HX h0
      generalize chkCard R = ec at *
      go_enter Try.func18, Try.ntmps18
      go_wp2_with (first
    | (go_at_call 22; refine (HC.out _ (hA.ext (by (repeat (first | exact Below.refl _ _ | assumption | refine below_drewN ?_ _ | refine below_drew ?_ | refine below_gr ?_ ?_ _ | refine below_alloc ?_ ?_ _ | refine Below.setCell ?_ ?_ _ | refine below_step ?_ (by assumption) ?_ | omega | (simp only [zz] at *; omega)))))).mono ?_; rintro e w1 ⟨rfl, hb1⟩; replace hb1 := ex_below hb1; have hz1 := hb1.size; (try simp only [zz] at hz1); have hs1 : w.heap.size < w1.heap.size := (by (first | omega | (simp only [zz] at *; omega))); have ho1 := own_cell hb1 (b := w.heap.size) (by (first | omega | (simp only [zz] at *; omega))); have hq1 := own_frozen hb1 (b := w.heap.size) (by (first | omega | (simp only [zz] at *; omega))); have hlt1 : ∀ b, b < w.heap.size → b < w1.heap.size := fun b hb => (by (first | omega | (simp only [zz] at *; omega))); have hc1 : ∀ b o, b < w.heap.size → w1.cell? ⟨b, o, none⟩ = w.cell? ⟨b, o, none⟩ := old_cell (by (repeat (first | exact Below.refl _ _ | assumption | refine below_drewN ?_ _ | refine below_drew ?_ | refine below_gr ?_ ?_ _ | refine below_alloc ?_ ?_ _ | refine Below.setCell ?_ ?_ _ | refine below_step ?_ (by assumption) ?_ | omega | (simp only [zz] at *; omega))))))

      go_ret
      exact gives_of (v_bool hv.out.symm) (by (repeat (first | exact Below.refl _ _ | assumption | refine below_drewN ?_ _ | refine below_drew ?_ | refine below_gr ?_ ?_ _ | refine below_alloc ?_ ?_ _ | refine Below.setCell ?_ ?_ _ | refine below_step ?_ (by assumption) ?_ | omega | (simp only [zz] at *; omega))))
end Go.Proofs.Ytlbkaeoagdbemaa
