/- Proved here: the reference: which cards are valid; the reference: which boxes are valid; the reference: which tickets are valid, a part of the proofs about the box laws. Conditions: those that each theorem names, no others. -/
import Derived.Test.YtlbkaeoagdbemaaP16
import Derived.WalkKit
import Derived.WalkSpells
import Derived.WalkLawsBesides
import Derived.Below
import Derived.Deep.QuietTactic
import Derived.BigQuiet
import Derived.Deep.Light
set_option linter.unusedSimpArgs false
set_option linter.unusedVariables false
namespace Go.Proofs.Ytlbkaeoagdbemaa
open Go.RowKit
set_option maxRecDepth 100000 in
set_option maxHeartbeats 1000000 in
theorem rCheckCard_any (A : Option Addr) (R : List Int) (c : Nat) (w : World) (hA : I64 w A R) (hl : R.length ≤ 1000000) :
    Calls Try.prog 22 #[.agg #[.slice A R.length c]] w (Gives w (.int .i64 (chkCard R))) := by
  have hl' : (R.length : Int) ≤ 1000000 := by omega
  have HX := hide (show chkCard R = if decide (1 ≤ (R.length : Int) ∧ (R.length : Int) ≤ 5) = false then 6 else if R.all (fun n => decide (1 ≤ n ∧ n ≤ 6)) = true then 0 else 3 from rfl)
  have hcase : (decide ((R.length : Int) < 1) = true) ∨ (decide ((R.length : Int) < 1) = false ∧ decide ((R.length : Int) > 5) = true) ∨ (decide ((R.length : Int) < 1) = false ∧ decide ((R.length : Int) > 5) = false ∧ 1 ≤ R.length ∧ R.length ≤ 5) := by
    simp only [decide_eq_true_eq, decide_eq_false_iff_not]; omega
  rcases hcase with h1 | ⟨h1, h2⟩ | ⟨h1, h2, h3, h4⟩
  · have hv := hide (show chkCard R = 6 by rw [HX.out, if_pos]; simp at h1 ⊢; omega)
    clear HX
    go_enter Try.func22, Try.ntmps22
    go_wp2
    go_ret
    exact gives_of (v_int hv.out.symm) (by (repeat (first | exact Below.refl _ _ | assumption | refine below_drewN ?_ _ | refine below_drew ?_ | refine below_gr ?_ ?_ _ | refine below_alloc ?_ ?_ _ | refine Below.setCell ?_ ?_ _ | refine below_step ?_ (by assumption) ?_ | omega | (simp only [zz] at *; omega))))
  · have hv := hide (show chkCard R = 6 by rw [HX.out, if_pos]; simp at h1 h2 ⊢; omega)
    clear HX
    go_enter Try.func22, Try.ntmps22
    go_wp2
    go_ret
    exact gives_of (v_int hv.out.symm) (by (repeat (first | exact Below.refl _ _ | assumption | refine below_drewN ?_ _ | refine below_drew ?_ | refine below_gr ?_ ?_ _ | refine below_alloc ?_ ?_ _ | refine Below.setCell ?_ ?_ _ | refine below_step ?_ (by assumption) ?_ | omega | (simp only [zz] at *; omega))))
  · have HY := hide (show chkCard R = if R.all (fun n => decide (1 ≤ n ∧ n ≤ 6)) = true then 0 else 3 by rw [HX.out, if_neg]; simp; omega)
    clear HX
    have hA1 : I64 (w.alloc (.cells #[.slice A R.length c] 24)) A R := hA.ext (by (repeat (first | exact Below.refl _ _ | assumption | refine below_drewN ?_ _ | refine below_drew ?_ | refine below_gr ?_ ?_ _ | refine below_alloc ?_ ?_ _ | refine Below.setCell ?_ ?_ _ | refine below_step ?_ (by assumption) ?_ | omega | (simp only [zz] at *; omega))))
    go_enter Try.func22, Try.ntmps22
    go_wp2
    go_loopw [3] (fun i wr => ∃ k : Nat, k ≤ R.length ∧ i = .int .i64 k ∧ (R.take k).all (fun n => decide (1 ≤ n ∧ n ≤ 6)) = true ∧ wr = w.alloc (.cells #[.slice A R.length c] 24)) (fun i _ => R.length - (intOf i).toNat)
    case atStart => exact ⟨0, Nat.zero_le _, rfl, rfl, rfl⟩
    case round =>
      obtain ⟨k, hk, rfl, hall, rfl⟩ := hrel
      by_cases hlt : k < R.length
      · obtain ⟨tb, toff, rfl, htl⟩ := hA1.form (by omega)
        have ht0 := hA1.at hlt
        have HG := hide (all_good (f := fun n => decide (1 ≤ n ∧ n ≤ 6)) hlt hall)
        have HB := hide (all_bad (f := fun n => decide (1 ≤ n ∧ n ≤ 6)) hlt)
        clear hall
        generalize R[k] = x at *
        have hcx : (decide (x < 1) = true) ∨ (decide (x < 1) = false ∧ decide (x > 6) = true) ∨ (decide (x < 1) = false ∧ decide (x > 6) = false) := by
          simp only [decide_eq_true_eq, decide_eq_false_iff_not]; omega
        rcases hcx with g1 | ⟨g1, g2⟩ | ⟨g1, g2⟩
        · have hv := hide (show chkCard R = 3 by rw [HY.out, HB.out (by simp at g1 ⊢; omega)]; rfl)
          go_wp2
          go_ret
          exact gives_of (v_int hv.out.symm) (by (repeat (first | exact Below.refl _ _ | assumption | refine below_drewN ?_ _ | refine below_drew ?_ | refine below_gr ?_ ?_ _ | refine below_alloc ?_ ?_ _ | refine Below.setCell ?_ ?_ _ | refine below_step ?_ (by assumption) ?_ | omega | (simp only [zz] at *; omega))))
        · have hv := hide (show chkCard R = 3 by rw [HY.out, HB.out (by simp at g1 g2 ⊢; omega)]; rfl)
          go_wp2
          go_ret
          exact gives_of (v_int hv.out.symm) (by (repeat (first | exact Below.refl _ _ | assumption | refine below_drewN ?_ _ | refine below_drew ?_ | refine below_gr ?_ ?_ _ | refine below_alloc ?_ ?_ _ | refine Below.setCell ?_ ?_ _ | refine below_step ?_ (by assumption) ?_ | omega | (simp only [zz] at *; omega))))
        · replace HG := hide (HG.out (by simp at g1 g2 ⊢; omega))
          go_wp2
          exact ⟨⟨k + 1, by omega, by go_num, HG.out, by trivial⟩, by simp [intOf]; omega⟩
      · have hkl : k = R.length := by omega
        have hv := hide (show chkCard R = 0 by rw [HY.out, show R.all (fun n => decide (1 ≤ n ∧ n ≤ 6)) = true by rw [hkl, List.take_length] at hall; exact hall]; rfl)
        clear hall
        go_wp2
        go_ret
        exact gives_of (v_int hv.out.symm) (by (repeat (first | exact Below.refl _ _ | assumption | refine below_drewN ?_ _ | refine below_drew ?_ | refine below_gr ?_ ?_ _ | refine below_alloc ?_ ?_ _ | refine Below.setCell ?_ ?_ _ | refine below_step ?_ (by assumption) ?_ | omega | (simp only [zz] at *; omega))))
end Go.Proofs.Ytlbkaeoagdbemaa
namespace Go.Proofs.Ytlbkaeoagdbemaa
open Go.RowKit
theorem neB (a b : Nat) (v : Bool) (h : decide (a ≠ b) = v) : ((a : Int) != (b : Int)) = v := by rw [← h, Bool.eq_iff_iff]; simp; omega
theorem hiX (n : Int) (h1 : 1 ≤ n) (h2 : n ≤ 6) : IntKind.i64.wrap (2 ^ n.toNat) = 2 ^ n.toNat := by
  have : n = 1 ∨ n = 2 ∨ n = 3 ∨ n = 4 ∨ n = 5 ∨ n = 6 := by omega
  rcases this with rfl | rfl | rfl | rfl | rfl | rfl <;> decide
theorem ltX (n x : Int) (h1 : 1 ≤ n) (h2 : n ≤ 6) : decide (1 ≤ x ∧ x ≤ 2 ^ n.toNat - 1) = (!decide (x < 1) && decide (x < wrap64 (2 ^ n.toNat))) := by
  have : n = 1 ∨ n = 2 ∨ n = 3 ∨ n = 4 ∨ n = 5 ∨ n = 6 := by omega
  rw [Bool.eq_iff_iff]
  rcases this with rfl | rfl | rfl | rfl | rfl | rfl <;> simp [wrap64] <;> omega
set_option maxRecDepth 100000 in
set_option maxHeartbeats 4000000 in
theorem rAreBoxes_any (A : Option Addr) (R : List Int) (c : Nat) (B : Option Addr) (ts : List Tz) (d : Nat) (w : World) (hA : I64 w A R) (hB : Tks w B ts) (hl : R.length ≤ 1000000) (hl2 : ts.length ≤ 1000000) (hts : ∀ t, t ∈ ts → t.1.length ≤ 1000000) (hR : ∀ k, (h : k < R.length) → 1 ≤ R[k] ∧ R[k] ≤ 6) :
    Calls Try.prog 60 #[.agg #[.slice A R.length c], .slice B ts.length d] w (Gives w (.int .i64 (areB R ts))) := by
  have hl' : (R.length : Int) ≤ 1000000 := by omega
  have hl2' : (ts.length : Int) ≤ 1000000 := by omega
  have HX := hide (show areB R ts = if ts.any (shortB R) = true then 15 else if ts.any (oddT R) = true then 3 else 0 from rfl)
  go_enter Try.func60, Try.ntmps60
  go_wp2
  obtain ⟨W0, hW0⟩ : ∃ W0, (w.alloc (.cells #[.slice A R.length c] 24)) = W0 := ⟨_, rfl⟩
  have hbW : Below w.heap.size w W0 := by rw [← hW0]; (repeat (first | exact Below.refl _ _ | assumption | (refine below_gr ?_ (by (first | omega | (simp only [zz] at *; omega))) _) | (refine below_alloc ?_ (by (first | omega | (simp only [zz] at *; omega))) _) | (refine Below.setCell ?_ (by (first | omega | (simp only [zz] at *; omega))) _) | refine below_drewN ?_ _ | refine below_drew ?_ | (refine below_step ?_ (by assumption) (by (first | omega | (simp only [zz] at *; omega))))))
  have hsW : W0.heap.size = w.heap.size + 1 := by rw [← hW0]; simp
  have c0 : W0.cell? ⟨w.heap.size, 0, none⟩ = some (.slice A R.length c) := by rw [← hW0]; simp [go_sem]
  rw [hW0]
  clear hW0
  replace hA := hA.ext hbW
  replace hB := hB.ext hbW
  go_loopw [5] (fun i wr => ∃ k : Nat, k ≤ ts.length ∧ i = .int .i64 k ∧ (ts.take k).all (fun t => !shortB R t) = true ∧ Below W0.heap.size W0 wr) (fun i _ => ts.length - (intOf i).toNat)
  case atStart => exact ⟨0, Nat.zero_le _, rfl, rfl, Below.refl _ _⟩
  case round =>
    obtain ⟨k, hk, rfl, hall, hb⟩ := hrel
    have hbz := hb.size
    have c1 := (hb.cell (p := ⟨w.heap.size, 0, none⟩) (by show w.heap.size < _; omega)).trans c0
    by_cases hlt : k < ts.length
    · have hB1 := hB.ext hb
      obtain ⟨tb, to, rfl, htb⟩ := hB1.form (by omega)
      obtain ⟨S, sc, q0, q1, q2, hSx⟩ := hB1.at hlt
      have HG := hide (all_good (f := fun t => !shortB R t) hlt hall)
      have HI := hide (fun h : shortB R ts[k] = true => show areB R ts = 15 by rw [HX.out, if_pos (List.any_eq_true.2 ⟨_, List.getElem_mem hlt, h⟩)])
      have hlS : (ts[k].1.length : Int) ≤ 1000000 := by have := hts _ (List.getElem_mem hlt); omega
      have hsh : ∃ v, shortB R ts[k] = v := ⟨_, rfl⟩
      clear hall HX
      generalize ts[k] = t at *
      obtain ⟨v, hsh⟩ := hsh
      have hnv := neB t.1.length R.length v hsh
      cases v with
      | true =>
        have hv := HI.out hsh
        have HV := hide hv
        clear hv hsh HI HG
        go_upto_region 4 with fail
        go_quiet (fail)
        go_wp2
        go_ret
        exact gives_of (v_int HV.out.symm) (by (repeat (first | exact Below.refl _ _ | assumption | refine below_drewN ?_ _ | refine below_drew ?_ | refine below_gr ?_ ?_ _ | refine below_alloc ?_ ?_ _ | refine Below.setCell ?_ ?_ _ | refine below_step ?_ (by assumption) ?_ | omega | (simp only [zz] at *; omega))))
      | false =>
        replace HG := hide (HG.out (by rw [hsh]; rfl))
        clear hsh HI
        go_upto_region 4 with fail
        go_quiet (fail)
        go_wp2
        exact ⟨⟨k + 1, by omega, by go_num, HG.out, by (repeat (first | exact Below.refl _ _ | assumption | (refine below_gr ?_ (by (first | omega | (simp only [zz] at *; omega))) _) | (refine below_alloc ?_ (by (first | omega | (simp only [zz] at *; omega))) _) | (refine Below.setCell ?_ (by (first | omega | (simp only [zz] at *; omega))) _) | refine below_drewN ?_ _ | refine below_drew ?_ | (refine below_step ?_ (by assumption) (by (first | omega | (simp only [zz] at *; omega))))))⟩, by simp [intOf]; omega⟩
    · have hkl : k = ts.length := by omega
      have hsh : ∀ t, t ∈ ts → t.1.length = R.length := fun t ht => by
        rw [hkl, List.take_length, List.all_eq_true] at hall
        simpa [shortB] using hall t ht
      have HY := hide (show areB R ts = if ts.any (oddT R) = true then 3 else 0 by
        rw [HX.out, if_neg]
        simp only [Bool.not_eq_true, List.any_eq_false]
        intro t ht
        simp [shortB, hsh t ht])
      have HSH := hide hsh
      clear HX hall hsh hkl
      have hnlt : ¬ k < ts.length := hlt
      go_wp2
      go_loopw [6] (fun i wz => ∃ j : Nat, j ≤ ts.length ∧ i = .int .i64 j ∧ (ts.take j).all (fun t => !oddT R t) = true ∧ Below W0.heap.size W0 wz) (fun i _ => ts.length - (intOf i).toNat)
      case atStart => exact ⟨0, Nat.zero_le _, rfl, rfl, hb⟩
      case round =>
        clear hb hbz c1
        obtain ⟨j, hj, rfl, hall, hb⟩ := hrel
        have hbz := hb.size
        by_cases hltj : j < ts.length
        · have HG := hide (all_good (f := fun t => !oddT R t) hltj hall)
          have HI := hide (fun h : oddT R ts[j] = true => show areB R ts = 3 by rw [HY.out, if_pos (List.any_eq_true.2 ⟨_, List.getElem_mem hltj, h⟩)])
          obtain ⟨tb, to, rfl, htb⟩ := hB.form (by omega)
          have HAT := hide (hB.at hltj)
          have htl := HSH.out _ (List.getElem_mem hltj)
          clear hall
          generalize ts[j] = t at *
          obtain ⟨T, U⟩ : Tz := t
          have HLT := hide htl
          have hzl := hide (show (R.zip T).length = R.length by simp at htl ⊢; omega)
          have HOD := hide (show oddT R (T, U) = !((R.zip T).all fun p => decide (1 ≤ p.2 ∧ p.2 ≤ 2 ^ p.1.toNat - 1)) from rfl)
          obtain ⟨S, sc, q0, q1, q2, hSx⟩ := HAT.out
          simp only at q0 q1 q2 hSx
          clear htl q1 HAT
          go_wp2
          go_loopw [7] (fun i wy => ∃ r : Nat, r ≤ R.length ∧ i = .int .i64 r ∧ ((R.zip T).take r).all (fun p => decide (1 ≤ p.2 ∧ p.2 ≤ 2 ^ p.1.toNat - 1)) = true ∧ Below W0.heap.size W0 wy) (fun i _ => R.length - (intOf i).toNat)
          case atStart => exact ⟨0, Nat.zero_le _, rfl, rfl, hb⟩
          case round =>
            clear hb hbz
            obtain ⟨r, hr, rfl, hall, hb⟩ := hrel
            have hbz := hb.size
            have c1 := (hb.cell (p := ⟨w.heap.size, 0, none⟩) (by show w.heap.size < _; omega)).trans c0
            by_cases hltr : r < R.length
            · have hltT : r < T.length := lt_of_lt_of_eq hltr HLT.out.symm
              have hA1 := hA.ext hb
              have hS1 := hSx.ext hb
              have q01 := (hb.cell (p := ⟨tb, to + j * 2, none⟩) htb).trans q0
              obtain ⟨ab, ao, rfl, hab⟩ := hA1.form (by omega)
              obtain ⟨sb, so, rfl, hsb⟩ := hS1.form (by omega)
              have hr0 := hA1.at hltr
              have hs0 := hS1.at hltT
              have HGr := hide (all_good (f := fun p : Int × Int => decide (1 ≤ p.2 ∧ p.2 ≤ 2 ^ p.1.toNat - 1)) (show r < (R.zip T).length by rw [hzl.out]; exact hltr) hall)
              have HBr := hide (all_bad (f := fun p : Int × Int => decide (1 ≤ p.2 ∧ p.2 ≤ 2 ^ p.1.toNat - 1)) (show r < (R.zip T).length by rw [hzl.out]; exact hltr))
              have hz0 : (R.zip T)[r]'(by rw [hzl.out]; exact hltr) = (R[r], T[r]) := by simp
              rw [hz0] at HGr HBr
              have hn := hR r hltr
              clear hz0 hall hA1 hS1
              generalize R[r] = n at *
              generalize T[r] = x at *
              obtain ⟨n1, n2⟩ := hn
              have HLX := hide (ltX n x n1 n2)
              have hcx : (decide (x < 1) = true) ∨ (decide (x < 1) = false) := by cases decide (x < 1) <;> simp
              rcases hcx with g1 | g1
              · have hv := hide (show areB R ts = 3 from HI.out (by rw [HOD.out, HBr.out (by rw [HLX.out, g1]; rfl)]; rfl))
                go_upto_region 12 with fail
                go_quiet (fail)
                go_wp2
                go_ret
                exact gives_of (v_int hv.out.symm) (by (repeat (first | exact Below.refl _ _ | assumption | refine below_drewN ?_ _ | refine below_drew ?_ | refine below_gr ?_ ?_ _ | refine below_alloc ?_ ?_ _ | refine Below.setCell ?_ ?_ _ | refine below_step ?_ (by assumption) ?_ | omega | (simp only [zz] at *; omega))))
              · go_upto_region 12 with fail
                go_quiet (fail)
                go_wp2
                · rename_i g2
                  have hv := hide (show areB R ts = 3 from HI.out (by rw [HOD.out, HBr.out (by rw [HLX.out, g1, decide_eq_false (by first | assumption | exact Int.not_lt.2 (by assumption))]; rfl)]; rfl))
                  clear g2
                  go_ret
                  exact gives_of (v_int hv.out.symm) (by (repeat (first | exact Below.refl _ _ | assumption | refine below_drewN ?_ _ | refine below_drew ?_ | refine below_gr ?_ ?_ _ | refine below_alloc ?_ ?_ _ | refine Below.setCell ?_ ?_ _ | refine below_step ?_ (by assumption) ?_ | omega | (simp only [zz] at *; omega))))
                · rename_i g2
                  replace HGr := hide (HGr.out (by rw [HLX.out, g1, decide_eq_true (by assumption)]; rfl))
                  clear g2
                  exact ⟨⟨r + 1, by omega, by go_num, HGr.out, by (repeat (first | exact Below.refl _ _ | assumption | (refine below_gr ?_ (by (first | omega | (simp only [zz] at *; omega))) _) | (refine below_alloc ?_ (by (first | omega | (simp only [zz] at *; omega))) _) | (refine Below.setCell ?_ (by (first | omega | (simp only [zz] at *; omega))) _) | refine below_drewN ?_ _ | refine below_drew ?_ | (refine below_step ?_ (by assumption) (by (first | omega | (simp only [zz] at *; omega))))))⟩, by simp [intOf]; omega⟩
            · have hrl : r = R.length := by omega
              have hg := hide (show oddT R (T, U) = false by rw [HOD.out, show (R.zip T).all _ = true by rw [hrl, ← hzl.out, List.take_length] at hall; exact hall]; rfl)
              clear hall hrl
              go_wp2
              exact ⟨⟨j + 1, by omega, by go_num, HG.out (by rw [hg.out]; rfl), hb⟩, by simp [intOf]; omega⟩
        · have hjl : j = ts.length := by omega
          have hv := hide (show areB R ts = 0 by
            rw [HY.out, if_neg]
            rw [hjl, List.take_length, List.all_eq_true] at hall
            simp only [Bool.not_eq_true, List.any_eq_false]
            intro t ht
            simpa using hall t ht)
          clear hall hjl
          go_wp2
          go_ret
          exact gives_of (v_int hv.out.symm) (by (repeat (first | exact Below.refl _ _ | assumption | refine below_drewN ?_ _ | refine below_drew ?_ | refine below_gr ?_ ?_ _ | refine below_alloc ?_ ?_ _ | refine Below.setCell ?_ ?_ _ | refine below_step ?_ (by assumption) ?_ | omega | (simp only [zz] at *; omega))))
end Go.Proofs.Ytlbkaeoagdbemaa
namespace Go.Proofs.Ytlbkaeoagdbemaa
open Go.RowKit
set_option maxRecDepth 100000 in
set_option maxHeartbeats 4000000 in
theorem rCheckTickets_any (A : Option Addr) (R : List Int) (c : Nat) (B : Option Addr) (ts : List Tz) (d : Nat) (w : World) (hA : I64 w A R) (hB : Tks w B ts) (hl : R.length ≤ 1000000) (hl2 : ts.length ≤ 1000000) (hts : ∀ t, t ∈ ts → t.1.length ≤ 1000000) :
    Calls Try.prog 24 #[.agg #[.slice A R.length c], .slice B ts.length d] w (Gives w (.int .i64 (chkT R ts))) := by
  have hl2' : (ts.length : Int) ≤ 1000000 := by omega
  have HX := hide (show chkT R ts = if chkCard R ≠ 0 then chkCard R else if 10 < (ts.length : Int) then 6 else if areB R ts ≠ 0 then areB R ts else if ts.any unfitB = true then 3 else 0 from rfl)
  have HC := hide (fun w' (h : I64 w' A R) => rCheckCard_any A R c w' h hl)
  by_cases h0 : chkCard R = 0
  · have hR := fun k h => (chkCard_ok h0).2.2 k h
    have HA := hide (fun w' (h1 : I64 w' A R) (h2 : Tks w' B ts) => rAreBoxes_any A R c B ts d w' h1 h2 hl hl2 hts hR)
    replace HX := hide (HX.out.trans (if_neg (by simpa using h0)))
    rw [h0] at HC
    clear h0 hR
    by_cases h10 : decide ((ts.length : Int) > 10) = true
    · have hv := hide (HX.out.trans (if_pos (by simpa using h10)))
      clear HX
      go_enter Try.func24, Try.ntmps24
      go_wp2_with (first
    | (go_at_call 22; refine (HC.out _ (hA.ext (by (repeat (first | exact Below.refl _ _ | assumption | refine below_drewN ?_ _ | refine below_drew ?_ | refine below_gr ?_ ?_ _ | refine below_alloc ?_ ?_ _ | refine Below.setCell ?_ ?_ _ | refine below_step ?_ (by assumption) ?_ | omega | (simp only [zz] at *; omega)))))).mono ?_; rintro e w1 ⟨rfl, hb1⟩; replace hb1 := ex_below hb1; have hz1 := hb1.size; (try simp only [zz] at hz1); have hs1 : w.heap.size < w1.heap.size := (by (first | omega | (simp only [zz] at *; omega))); have ho1 := own_cell hb1 (b := w.heap.size) (by (first | omega | (simp only [zz] at *; omega))); have hq1 := own_frozen hb1 (b := w.heap.size) (by (first | omega | (simp only [zz] at *; omega))); have hlt1 : ∀ b, b < w.heap.size → b < w1.heap.size := fun b hb => (by (first | omega | (simp only [zz] at *; omega))); have hc1 : ∀ b o, b < w.heap.size → w1.cell? ⟨b, o, none⟩ = w.cell? ⟨b, o, none⟩ := old_cell (by (repeat (first | exact Below.refl _ _ | assumption | refine below_drewN ?_ _ | refine below_drew ?_ | refine below_gr ?_ ?_ _ | refine below_alloc ?_ ?_ _ | refine Below.setCell ?_ ?_ _ | refine below_step ?_ (by assumption) ?_ | omega | (simp only [zz] at *; omega))))))

      go_ret
      exact gives_of (v_int hv.out.symm) (by (repeat (first | exact Below.refl _ _ | assumption | refine below_drewN ?_ _ | refine below_drew ?_ | refine below_gr ?_ ?_ _ | refine below_alloc ?_ ?_ _ | refine Below.setCell ?_ ?_ _ | refine below_step ?_ (by assumption) ?_ | omega | (simp only [zz] at *; omega))))
    · replace h10 : decide ((ts.length : Int) > 10) = false := by simpa using h10
      replace HX := hide (HX.out.trans (if_neg (by simpa using h10)))
      generalize hae : areB R ts = ea at HX HA
      by_cases he : ea = 0
      · subst he
        replace HX := hide (HX.out.trans (if_neg (by simp)))
        clear hae
        go_enter Try.func24, Try.ntmps24
        go_wp2_with (first
    | (go_at_call 22; refine (HC.out _ (hA.ext (by (repeat (first | exact Below.refl _ _ | assumption | refine below_drewN ?_ _ | refine below_drew ?_ | refine below_gr ?_ ?_ _ | refine below_alloc ?_ ?_ _ | refine Below.setCell ?_ ?_ _ | refine below_step ?_ (by assumption) ?_ | omega | (simp only [zz] at *; omega)))))).mono ?_; rintro e w1 ⟨rfl, hb1⟩; replace hb1 := ex_below hb1; have hz1 := hb1.size; (try simp only [zz] at hz1); have hs1 : w.heap.size < w1.heap.size := (by (first | omega | (simp only [zz] at *; omega))); have ho1 := own_cell hb1 (b := w.heap.size) (by (first | omega | (simp only [zz] at *; omega))); have hq1 := own_frozen hb1 (b := w.heap.size) (by (first | omega | (simp only [zz] at *; omega))); have hlt1 : ∀ b, b < w.heap.size → b < w1.heap.size := fun b hb => (by (first | omega | (simp only [zz] at *; omega))); have hc1 : ∀ b o, b < w.heap.size → w1.cell? ⟨b, o, none⟩ = w.cell? ⟨b, o, none⟩ := old_cell (by (repeat (first | exact Below.refl _ _ | assumption | refine below_drewN ?_ _ | refine below_drew ?_ | refine below_gr ?_ ?_ _ | refine below_alloc ?_ ?_ _ | refine Below.setCell ?_ ?_ _ | refine below_step ?_ (by assumption) ?_ | omega | (simp only [zz] at *; omega)))))
    | (go_at_call 60; refine (HA.out _ (hA.ext (by (repeat (first | exact Below.refl _ _ | assumption | refine below_drewN ?_ _ | refine below_drew ?_ | refine below_gr ?_ ?_ _ | refine below_alloc ?_ ?_ _ | refine Below.setCell ?_ ?_ _ | refine below_step ?_ (by assumption) ?_ | omega | (simp only [zz] at *; omega))))) (hB.ext (by (repeat (first | exact Below.refl _ _ | assumption | refine below_drewN ?_ _ | refine below_drew ?_ | refine below_gr ?_ ?_ _ | refine below_alloc ?_ ?_ _ | refine Below.setCell ?_ ?_ _ | refine below_step ?_ (by assumption) ?_ | omega | (simp only [zz] at *; omega)))))).mono ?_; rintro e w2 ⟨rfl, hb2⟩; replace hb2 := ex_below hb2; have hz2 := hb2.size; (try simp only [zz] at hz2); have hs2 : w.heap.size < w2.heap.size := (by (first | omega | (simp only [zz] at *; omega))); have ho2 := own_cell hb2 (b := w.heap.size) (by (first | omega | (simp only [zz] at *; omega))); have hq2 := own_frozen hb2 (b := w.heap.size) (by (first | omega | (simp only [zz] at *; omega))); have hlt2 : ∀ b, b < w.heap.size → b < w2.heap.size := fun b hb => (by (first | omega | (simp only [zz] at *; omega))); have hc2 : ∀ b o, b < w.heap.size → w2.cell? ⟨b, o, none⟩ = w.cell? ⟨b, o, none⟩ := old_cell (by (repeat (first | exact Below.refl _ _ | assumption | refine below_drewN ?_ _ | refine below_drew ?_ | refine below_gr ?_ ?_ _ | refine below_alloc ?_ ?_ _ | refine Below.setCell ?_ ?_ _ | refine below_step ?_ (by assumption) ?_ | omega | (simp only [zz] at *; omega))))))

        have hbw : Below w.heap.size w w2 := by (repeat (first | exact Below.refl _ _ | assumption | (refine below_gr ?_ (by (first | omega | (simp only [zz] at *; omega))) _) | (refine below_alloc ?_ (by (first | omega | (simp only [zz] at *; omega))) _) | (refine Below.setCell ?_ (by (first | omega | (simp only [zz] at *; omega))) _) | refine below_drewN ?_ _ | refine below_drew ?_ | (refine below_step ?_ (by assumption) (by (first | omega | (simp only [zz] at *; omega))))))
        clear hb1 hb2 hc1 hc2 hlt1 hlt2
        go_loopw [5] (fun i wr => ∃ k : Nat, k ≤ ts.length ∧ i = .int .i64 k ∧ (ts.take k).all (fun t => !unfitB t) = true ∧ wr = w2) (fun i _ => ts.length - (intOf i).toNat)
        case atStart => exact ⟨0, Nat.zero_le _, rfl, rfl, rfl⟩
        case round =>
          obtain ⟨k, hk, rfl, hall, rfl⟩ := hrel
          by_cases hlt : k < ts.length
          · have hB1 := hB.ext hbw
            obtain ⟨tb, to, rfl, htb⟩ := hB1.form (by omega)
            obtain ⟨S, sc, q0, q1, q2, hSx⟩ := hB1.at hlt
            have HG := hide (all_good (f := fun t => !unfitB t) hlt hall)
            have HI := hide (fun h : unfitB ts[k] = true => show chkT R ts = 3 by rw [HX.out, if_pos (List.any_eq_true.2 ⟨_, List.getElem_mem hlt, h⟩)])
            have HU := hide (show unfitB ts[k] = (decide (ts[k].2 < 1) || decide (ts[k].2 > 1000)) by unfold unfitB; rw [Bool.eq_iff_iff]; simp)
            clear hall hSx q0 q2
            generalize unfitB ts[k] = ub at *
            generalize ts[k].2 = x at *
            have hcx : (decide (x < 1) = true) ∨ (decide (x < 1) = false ∧ decide (x > 1000) = true) ∨ (decide (x < 1) = false ∧ decide (x > 1000) = false) := by
              simp only [decide_eq_true_eq, decide_eq_false_iff_not]; omega
            rcases hcx with g1 | ⟨g1, g2⟩ | ⟨g1, g2⟩
            · have hv := hide (HI.out (by rw [HU.out, g1]; rfl))
              go_wp2
              go_ret
              exact gives_of (v_int hv.out.symm) (by (repeat (first | exact Below.refl _ _ | assumption | refine below_drewN ?_ _ | refine below_drew ?_ | refine below_gr ?_ ?_ _ | refine below_alloc ?_ ?_ _ | refine Below.setCell ?_ ?_ _ | refine below_step ?_ (by assumption) ?_ | omega | (simp only [zz] at *; omega))))
            · have hv := hide (HI.out (by rw [HU.out, g1, g2]; rfl))
              go_wp2
              go_ret
              exact gives_of (v_int hv.out.symm) (by (repeat (first | exact Below.refl _ _ | assumption | refine below_drewN ?_ _ | refine below_drew ?_ | refine below_gr ?_ ?_ _ | refine below_alloc ?_ ?_ _ | refine Below.setCell ?_ ?_ _ | refine below_step ?_ (by assumption) ?_ | omega | (simp only [zz] at *; omega))))
            · replace HG := hide (HG.out (by rw [HU.out, g1, g2]; rfl))
              go_wp2
              exact ⟨⟨k + 1, by omega, by go_num, HG.out, by trivial⟩, by simp [intOf]; omega⟩
          · have hkl : k = ts.length := by omega
            have hv := hide (show chkT R ts = 0 by
              rw [HX.out, if_neg]
              rw [hkl, List.take_length, List.all_eq_true] at hall
              simp only [Bool.not_eq_true, List.any_eq_false]
              intro t ht
              simpa using hall t ht)
            clear hall hkl
            go_wp2
            go_ret
            exact gives_of (v_int hv.out.symm) (by (repeat (first | exact Below.refl _ _ | assumption | refine below_drewN ?_ _ | refine below_drew ?_ | refine below_gr ?_ ?_ _ | refine below_alloc ?_ ?_ _ | refine Below.setCell ?_ ?_ _ | refine below_step ?_ (by assumption) ?_ | omega | (simp only [zz] at *; omega))))
      · have hv := hide (HX.out.trans (if_pos he))
        have hne : (ea != 0) = true := by simpa using he
        clear HX hae he
        go_enter Try.func24, Try.ntmps24
        go_wp2_with (first
    | (go_at_call 22; refine (HC.out _ (hA.ext (by (repeat (first | exact Below.refl _ _ | assumption | refine below_drewN ?_ _ | refine below_drew ?_ | refine below_gr ?_ ?_ _ | refine below_alloc ?_ ?_ _ | refine Below.setCell ?_ ?_ _ | refine below_step ?_ (by assumption) ?_ | omega | (simp only [zz] at *; omega)))))).mono ?_; rintro e w1 ⟨rfl, hb1⟩; replace hb1 := ex_below hb1; have hz1 := hb1.size; (try simp only [zz] at hz1); have hs1 : w.heap.size < w1.heap.size := (by (first | omega | (simp only [zz] at *; omega))); have ho1 := own_cell hb1 (b := w.heap.size) (by (first | omega | (simp only [zz] at *; omega))); have hq1 := own_frozen hb1 (b := w.heap.size) (by (first | omega | (simp only [zz] at *; omega))); have hlt1 : ∀ b, b < w.heap.size → b < w1.heap.size := fun b hb => (by (first | omega | (simp only [zz] at *; omega))); have hc1 : ∀ b o, b < w.heap.size → w1.cell? ⟨b, o, none⟩ = w.cell? ⟨b, o, none⟩ := old_cell (by (repeat (first | exact Below.refl _ _ | assumption | refine below_drewN ?_ _ | refine below_drew ?_ | refine below_gr ?_ ?_ _ | refine below_alloc ?_ ?_ _ | refine Below.setCell ?_ ?_ _ | refine below_step ?_ (by assumption) ?_ | omega | (simp only [zz] at *; omega)))))
    | (go_at_call 60; refine (HA.out _ (hA.ext (by (repeat (first | exact Below.refl _ _ | assumption | refine below_drewN ?_ _ | refine below_drew ?_ | refine below_gr ?_ ?_ _ | refine below_alloc ?_ ?_ _ | refine Below.setCell ?_ ?_ _ | refine below_step ?_ (by assumption) ?_ | omega | (simp only [zz] at *; omega))))) (hB.ext (by (repeat (first | exact Below.refl _ _ | assumption | refine below_drewN ?_ _ | refine below_drew ?_ | refine below_gr ?_ ?_ _ | refine below_alloc ?_ ?_ _ | refine Below.setCell ?_ ?_ _ | refine below_step ?_ (by assumption) ?_ | omega | (simp only [zz] at *; omega)))))).mono ?_; rintro e w2 ⟨rfl, hb2⟩; replace hb2 := ex_below hb2; have hz2 := hb2.size; (try simp only [zz] at hz2); have hs2 : w.heap.size < w2.heap.size := (by (first | omega | (simp only [zz] at *; omega))); have ho2 := own_cell hb2 (b := w.heap.size) (by (first | omega | (simp only [zz] at *; omega))); have hq2 := own_frozen hb2 (b := w.heap.size) (by (first | omega | (simp only [zz] at *; omega))); have hlt2 : ∀ b, b < w.heap.size → b < w2.heap.size := fun b hb => (by (first | omega | (simp only [zz] at *; omega))); have hc2 : ∀ b o, b < w.heap.size → w2.cell? ⟨b, o, none⟩ = w.cell? ⟨b, o, none⟩ := old_cell (by (repeat (first | exact Below.refl _ _ | assumption | refine below_drewN ?_ _ | refine below_drew ?_ | refine below_gr ?_ ?_ _ | refine below_alloc ?_ ?_ _ | refine Below.setCell ?_ ?_ _ | refine below_step ?_ (by assumption) ?_ | omega | (simp only [zz] at *; omega))))))

        go_ret
        exact gives_of (v_int hv.out.symm) (by (repeat (first | exact Below.refl _ _ | assumption | refine below_drewN ?_ _ | refine below_drew ?_ | refine below_gr ?_ ?_ _ | refine below_alloc ?_ ?_ _ | refine Below.setCell ?_ ?_ _ | refine below_step ?_ (by assumption) ?_ | omega | (simp only [zz] at *; omega))))
  · have hv := hide (HX.out.trans (if_pos h0))
    have hne : (chkCard R != 0) = true := by simpa using h0
    clear HX h0
    generalize chkCard R = ec at *
    go_enter Try.func24, Try.ntmps24
    go_wp2_with (first
    | (go_at_call 22; refine (HC.out _ (hA.ext (by (repeat (first | exact Below.refl _ _ | assumption | refine below_drewN ?_ _ | refine below_drew ?_ | refine below_gr ?_ ?_ _ | refine below_alloc ?_ ?_ _ | refine Below.setCell ?_ ?_ _ | refine below_step ?_ (by assumption) ?_ | omega | (simp only [zz] at *; omega)))))).mono ?_; rintro e w1 ⟨rfl, hb1⟩; replace hb1 := ex_below hb1; have hz1 := hb1.size; (try simp only [zz] at hz1); have hs1 : w.heap.size < w1.heap.size := (by (first | omega | (simp only [zz] at *; omega))); have ho1 := own_cell hb1 (b := w.heap.size) (by (first | omega | (simp only [zz] at *; omega))); have hq1 := own_frozen hb1 (b := w.heap.size) (by (first | omega | (simp only [zz] at *; omega))); have hlt1 : ∀ b, b < w.heap.size → b < w1.heap.size := fun b hb => (by (first | omega | (simp only [zz] at *; omega))); have hc1 : ∀ b o, b < w.heap.size → w1.cell? ⟨b, o, none⟩ = w.cell? ⟨b, o, none⟩ := old_cell (by (repeat (first | exact Below.refl _ _ | assumption | refine below_drewN ?_ _ | refine below_drew ?_ | refine below_gr ?_ ?_ _ | refine below_alloc ?_ ?_ _ | refine Below.setCell ?_ ?_ _ | refine below_step ?_ (by assumption) ?_ | omega | (simp only [zz] at *; omega))))))

    go_ret
    exact gives_of (v_int hv.out.symm) (by (repeat (first | exact Below.refl _ _ | assumption | refine below_drewN ?_ _ | refine below_drew ?_ | refine below_gr ?_ ?_ _ | refine below_alloc ?_ ?_ _ | refine Below.setCell ?_ ?_ _ | refine below_step ?_ (by assumption) ?_ | omega | (simp only [zz] at *; omega))))
end Go.Proofs.Ytlbkaeoagdbemaa
