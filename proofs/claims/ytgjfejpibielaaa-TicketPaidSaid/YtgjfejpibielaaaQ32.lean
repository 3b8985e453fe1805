/- Proved here: the reference: whether a code fits, was sold, differs; the reference: what was sold; the reference: torn tickets; the reference: the numbers that fit, a part of the proofs about the ticket laws. Conditions: those that each theorem names, no others. -/
import Derived.Test.YtgjfejpibielaaaQ31
import Derived.WalkKit
import Derived.WalkSpells
import Derived.WalkLawsBesides
import Derived.Below
import Derived.Deep.QuietTactic
import Derived.BigQuiet
import Derived.Deep.Light
set_option linter.unusedSimpArgs false
set_option linter.unusedVariables false
namespace Go.Proofs.Ytgjfejpibielaaa
open Go.RowKit Go.Maps Go.Shelf
attribute [local go_sem] Oper.semAt_some World.cell?_setCell_far
set_option maxRecDepth 100000 in
set_option maxHeartbeats 4000000 in
theorem rFit_any (Y : Option Addr) (T : List Nat) (yc : Nat) (ws : List Nat) (w : World) (hY : I64 w Y (zs T)) (hlen : ws.length = T.length) (hT : ∀ t, t ∈ T → t < 64) (hwL : ∀ x, x ∈ ws → x < 6) (hl8 : T.length ≤ 1000) : Calls Try.prog 52 #[.slice Y T.length yc, .string (strW ws)] w (Gives w (.bool (Tt.fitsW T ws))) := by
 obtain ⟨R, hR⟩ : ∃ R, Tt.fitsW T ws = R := ⟨_, rfl⟩
 have HR := hide hR
 rw [hR]
 have HT := hide hT
 have HWL := hide hwL
 have HLEN := hide hlen
 have hsz := strW_size ws
 clear hR hT hwL hlen
 go_enter Try.func52, Try.ntmps52
 go_wp2
 go_loopw [5] (fun iv wr => ∃ k : Nat, k ≤ T.length ∧ iv = .int .i64 (k : Nat) ∧ Hid (Tt.fitsW (T.drop k) (ws.drop k) = R) ∧ Below w.heap.size w wr) (fun iv _ => T.length - (intOf iv).toNat)
 case atStart => exact ⟨0, Nat.zero_le _, rfl, hide HR.out, Below.refl _ _⟩
 case round =>
  obtain ⟨k, hk, rfl, HQ, hb⟩ := hrel
  have hzr := hb.size
  by_cases hlt : k < T.length
  · have hki : (k : Int) < (T.length : Int) := by omega
    have hkw : k < ws.length := by rw [HLEN.out]; exact hlt
    have hIr := hY.ext hb
    obtain ⟨yb, yo, rfl, hyb⟩ := hIr.form (by rw [zs_len]; omega)
    have hcy := hIr.at (k := k) (by rw [zs_len]; exact hlt)
    rw [zs_at T k hlt] at hcy
    have hbS : k < (strW ws).size := by rw [hsz]; exact hkw
    have hbSI : (k : Int) < ((strW ws).size : Int) := by omega
    have hby := strW_at (ws := ws) (fun x hx => by have := HWL.out x hx; omega) k hkw
    have hst : Tt.fitsW (T.drop k) (ws.drop k) = (T[k].testBit ws[k] && Tt.fitsW (T.drop (k + 1)) (ws.drop (k + 1))) := by
     rw [List.drop_eq_getElem_cons hlt, List.drop_eq_getElem_cons hkw]
     rfl
    have HST := hide hst
    have ht64 := HT.out _ (List.getElem_mem hlt)
    have hc6 := HWL.out _ (List.getElem_mem hkw)
    clear hst
    generalize T[k] = t at *
    generalize ws[k] = cx at *
    have hbw : IntKind.u8.wrap ((cx : Int) + 97 - 97) = (cx : Int) := u8_letter2 cx hc6
    have hbt := bBit t ht64 cx hc6
    cases htb : t.testBit cx with
    | true =>
      have HQ2 : Hid (Tt.fitsW (T.drop (k + 1)) (ws.drop (k + 1)) = R) := hide (by rw [← HQ.out, HST.out, htb]; rfl)
      rw [htb] at hbt
      simp only [if_true] at hbt
      clear htb HST HQ
      go_upto_region 4 with fail
      refine wp_region_grow (by kernel_rfl) (by kernel_rfl) ?_
      repeat (go_big_quiet_step (fail))
      refine wpQuiet_nil ?_
      intro w4 hb4
      replace hb4 := ex_below hb4
      go_wp2
      exact ⟨⟨k + 1, by omega, by go_num, HQ2, below_step hb hb4 hzr⟩, by simp [intOf]; omega⟩
    | false =>
      have HRf : Hid (R = false) := hide (by rw [← HQ.out, HST.out, htb]; rfl)
      rw [htb] at hbt
      simp only [Bool.false_eq_true, if_false] at hbt
      clear htb HST HQ
      go_upto_region 4 with fail
      refine wp_region_grow (by kernel_rfl) (by kernel_rfl) ?_
      repeat (go_big_quiet_step (fail))
      refine wpQuiet_nil ?_
      intro w4 hb4
      replace hb4 := ex_below hb4
      go_wp2
      go_ret
      exact gives_of (by rw [HRf.out]; rfl) (below_step hb hb4 hzr)
  · have hki : ¬ ((k : Int) < (T.length : Int)) := by omega
    have HRt : Hid (R = true) := hide (by rw [← HQ.out, List.drop_eq_nil_of_le (by omega)]; cases ws.drop k <;> rfl)
    clear HQ
    go_wp2
    go_ret
    exact gives_of (by rw [HRt.out]; rfl) hb
/-- what was sold, as it is handed in -/
def soldI (rs : List (Int × Int)) (x : Int) : Bool := rs.any fun r => decide (r.1 ≤ x) && decide (x ≤ r.2)
set_option maxRecDepth 100000 in
set_option maxHeartbeats 4000000 in
theorem rWasSold_any (D : Option Addr) (rs : List (Int × Int)) (dc : Nat) (x : Int) (w : World) (hD : Rng w D rs) (hl : rs.length ≤ 1000) : Calls Try.prog 71 #[.slice D rs.length dc, .int .i64 x] w (Gives w (.bool (soldI rs x))) := by
 obtain ⟨R, hR⟩ : ∃ R, soldI rs x = R := ⟨_, rfl⟩
 have HR := hide hR
 rw [hR]
 clear hR
 go_enter Try.func71, Try.ntmps71
 go_wp2
 go_loopw [5] (fun iv wr => ∃ k : Nat, k ≤ rs.length ∧ iv = .int .i64 (k : Nat) ∧ Hid (soldI (rs.drop k) x = R) ∧ wr = w) (fun iv _ => rs.length - (intOf iv).toNat)
 case atStart => exact ⟨0, Nat.zero_le _, rfl, hide HR.out, rfl⟩
 case round =>
  obtain ⟨k, hk, rfl, HQ, rfl⟩ := hrel
  by_cases hlt : k < rs.length
  · have hki : (k : Int) < (rs.length : Int) := by omega
    obtain ⟨db, do_, rfl, hdb⟩ := hD.form (by omega)
    obtain ⟨_, d0, d1⟩ := hD.at hlt
    have hst : soldI (rs.drop k) x = ((decide (rs[k].1 ≤ x) && decide (x ≤ rs[k].2)) || soldI (rs.drop (k + 1)) x) := by rw [List.drop_eq_getElem_cons hlt]; rfl
    have HST := hide hst
    clear hst
    obtain ⟨⟨lo, hi⟩, hr⟩ : ∃ v, rs[k] = v := ⟨_, rfl⟩
    rw [hr] at d0 d1 HST
    dsimp only at d0 d1 HST
    clear hr
    by_cases c1 : lo ≤ x
    · by_cases c2 : x ≤ hi
      · have HRt : Hid (R = true) := hide (by rw [← HQ.out, HST.out]; simp [c1, c2])
        clear HST HQ
        go_wp2
        go_ret
        exact gives_of (by rw [HRt.out]; rfl) (Below.refl _ _)
      · have HQ2 : Hid (soldI (rs.drop (k + 1)) x = R) := hide (by rw [← HQ.out, HST.out]; simp [c2])
        clear HST HQ
        go_wp2
        exact ⟨⟨k + 1, by omega, by go_num, HQ2, trivial⟩, by simp [intOf]; omega⟩
    · have HQ2 : Hid (soldI (rs.drop (k + 1)) x = R) := hide (by rw [← HQ.out, HST.out]; simp [c1])
      clear HST HQ
      go_wp2
      exact ⟨⟨k + 1, by omega, by go_num, HQ2, trivial⟩, by simp [intOf]; omega⟩
  · have hki : ¬ ((k : Int) < (rs.length : Int)) := by omega
    have HRf : Hid (R = false) := hide (by rw [← HQ.out, List.drop_eq_nil_of_le (by omega)]; rfl)
    clear HQ
    go_wp2
    go_ret
    exact gives_of (by rw [HRf.out]; rfl) (Below.refl _ _)
set_option maxRecDepth 100000 in
set_option maxHeartbeats 4000000 in
theorem rDiffers_any (va wb : List Nat) (w : World) (hlen : va.length = wb.length) (hv : ∀ x, x ∈ va → x < 6) (hw : ∀ x, x ∈ wb → x < 6) (hl : va.length ≤ 1000) : Calls Try.prog 53 #[.string (strW va), .string (strW wb)] w (Gives w (.int .i64 (Tt.diffN va wb : Nat))) := by
 have HVL := hide hv
 have HWL := hide hw
 have HLEN := hide hlen
 have hsz := strW_size va
 have hsz2 := strW_size wb
 go_enter Try.func53, Try.ntmps53
 go_wp2
 go_loopw [5, 6] (fun nv iv wr => ∃ (k n : Nat), k ≤ va.length ∧ iv = .int .i64 (k : Nat) ∧ nv = .int .i64 (n : Nat) ∧ n ≤ k ∧ Hid (n + Tt.diffN (va.drop k) (wb.drop k) = Tt.diffN va wb) ∧ Below w.heap.size w wr) (fun _ iv _ => va.length - (intOf iv).toNat)
 case atStart => exact ⟨0, 0, Nat.zero_le _, rfl, rfl, Nat.le_refl _, hide (Nat.zero_add _), Below.refl _ _⟩
 case round =>
  obtain ⟨k, n, hk, rfl, rfl, hnk, HQ, hb⟩ := hrel
  have hzr := hb.size
  by_cases hlt : k < va.length
  · have hki : (k : Int) < ((strW va).size : Int) := by rw [hsz]; omega
    have hkw : k < wb.length := by omega
    have hbS : k < (strW va).size := by rw [hsz]; exact hlt
    have hbS2 : k < (strW wb).size := by rw [hsz2]; exact hkw
    have hbSI2 : (k : Int) < ((strW wb).size : Int) := by omega
    have hby := strW_at (ws := va) (fun x hx => by have := HVL.out x hx; omega) k hlt
    have hby2 := strW_at (ws := wb) (fun x hx => by have := HWL.out x hx; omega) k hkw
    have hst : Tt.diffN (va.drop k) (wb.drop k) = (if va[k] = wb[k] then 0 else 1) + Tt.diffN (va.drop (k + 1)) (wb.drop (k + 1)) := by
     rw [List.drop_eq_getElem_cons hlt, List.drop_eq_getElem_cons hkw]
     rfl
    have HST := hide hst
    clear hst
    generalize va[k] = x at *
    generalize wb[k] = y at *
    by_cases hxy : x = y
    · have hxI : (((x : Int) + 97) != ((y : Int) + 97)) = false := by simp [hxy]
      have HQ2 : Hid (n + Tt.diffN (va.drop (k + 1)) (wb.drop (k + 1)) = Tt.diffN va wb) := hide (by rw [← HQ.out, HST.out, if_pos hxy]; omega)
      subst hxy
      clear HST HQ hlen
      go_upto_region 5 with fail
      refine wp_region_grow (by kernel_rfl) (by kernel_rfl) ?_
      repeat (go_big_quiet_step (fail))
      refine wpQuiet_nil ?_
      intro w4 hb4
      replace hb4 := ex_below hb4
      go_wp2
      exact ⟨⟨k + 1, n, by omega, by go_num, rfl, by omega, HQ2, below_step hb hb4 hzr⟩, by simp [intOf]; omega⟩
    · have hxI : (((x : Int) + 97) != ((y : Int) + 97)) = true := by simp; omega
      have hxJ : ¬ ((x : Int) + 97 = (y : Int) + 97) := by omega
      have HQ2 : Hid ((n + 1) + Tt.diffN (va.drop (k + 1)) (wb.drop (k + 1)) = Tt.diffN va wb) := hide (by rw [← HQ.out, HST.out, if_neg hxy]; omega)
      clear HST HQ hlen
      go_upto_region 5 with fail
      refine wp_region_grow (by kernel_rfl) (by kernel_rfl) ?_
      repeat (go_big_quiet_step (fail))
      refine wpQuiet_nil ?_
      intro w4 hb4
      replace hb4 := ex_below hb4
      go_wp2
      exact ⟨⟨k + 1, n + 1, by omega, by go_num, by go_num, by omega, HQ2, below_step hb hb4 hzr⟩, by simp [intOf]; omega⟩
  · have hki : ¬ ((k : Int) < ((strW va).size : Int)) := by rw [hsz]; omega
    have HN : Hid (n = Tt.diffN va wb) := hide (by
     have h := HQ.out
     rw [show va.drop k = [] from List.drop_eq_nil_of_le (by omega), show wb.drop k = [] from List.drop_eq_nil_of_le (by omega)] at h
     simpa [Tt.diffN] using h)
    clear HQ hlen
    go_wp2
    go_ret
    exact gives_of (by rw [← HN.out]; rfl) hb
end Go.Proofs.Ytgjfejpibielaaa
namespace Go.Proofs.Ytgjfejpibielaaa
open Go.RowKit Go.Maps Go.Shelf
attribute [local go_sem] Oper.semAt_some World.cell?_setCell_far
set_option maxRecDepth 100000 in
set_option maxHeartbeats 8000000 in
theorem rCheckSold_any (L rest : Nat) (A : Option Addr) (K : List Nat) (c : Nat)(D : Option Addr) (rs : List (Int × Int)) (dc : Nat) (w : World) (hd : OkD L rest K) (hA : I64 w A (zs K)) (hD : Rng w D rs) (hl : rs.length ≤ 1000) : Calls Try.prog 80 #[.agg #[.int .i64 (L : Nat), .int .i64 (K.length : Nat), .slice A K.length c, .int .i64 (rest : Nat)], .slice D rs.length dc] w (Gives w (.int .i64 (chkSold ((Tt.codes L rest K).length : Nat) rs))) := by
 have hn8 := hd.2.2.2.1
 have hL6 := hd.2.1
 have HRC := hide (fun w' (h : I64 w' A (zs K)) => rCodes_any L rest A K c w' hd h)
 have hcn : (Tt.codes L rest K).length ≤ 1679616 := by
  have h3 := Tt.cnt_small (L := L) (rest := rest) (ps := K.zip (Tt.fulls L K.length)) (la := -1) (s := 0) hL6 (by rw [List.length_zip]; omega)
  rwa [cnt_codes] at h3
 obtain ⟨R, hR⟩ : ∃ R, chkSold ((Tt.codes L rest K).length : Nat) rs = R := ⟨_, rfl⟩
 have HR := hide hR
 rw [hR]
 clear hR hd
 by_cases h10 : 10 < rs.length
 · have h10I : (10 : Int) < (rs.length : Int) := by omega
   have HR2 : Hid (R = 6) := hide (by rw [← HR.out]; unfold chkSold; rw [if_pos h10])
   clear HR
   go_enter Try.func80, Try.ntmps80
   go_upto_region 1 with fail
   obtain ⟨wa, hwa, hW, hX⟩ := boxed w #[.int .i64 (L : Nat), .int .i64 (K.length : Nat), .slice A K.length c, .int .i64 (rest : Nat)] 24
   rw [hwa]
   clear hwa
   replace hA := hA.ext hW
   have q0 := obj_at hX 0 _ rfl
   have q1 := obj_at hX 1 _ rfl
   have q2 := obj_at hX 2 _ rfl
   have q3 := obj_at hX 3 _ rfl
   have ql := obj_lt hX
   have hWs := hW.size
   go_wp2
   go_ret
   exact gives_of (by rw [HR2.out]; rfl) hW
 · have h10I : ¬ ((10 : Int) < (rs.length : Int)) := by omega
   have HR2 : Hid (soldE ((Tt.codes L rest K).length : Nat) 0 rs = R) := hide (by rw [← HR.out]; unfold chkSold; rw [if_neg h10])
   clear HR
   go_enter Try.func80, Try.ntmps80
   go_upto_region 1 with fail
   obtain ⟨wa, hwa, hW, hX⟩ := boxed w #[.int .i64 (L : Nat), .int .i64 (K.length : Nat), .slice A K.length c, .int .i64 (rest : Nat)] 24
   rw [hwa]
   clear hwa
   replace hA := hA.ext hW
   have q0 := obj_at hX 0 _ rfl
   have q1 := obj_at hX 1 _ rfl
   have q2 := obj_at hX 2 _ rfl
   have q3 := obj_at hX 3 _ rfl
   have ql := obj_lt hX
   have hWs := hW.size
   go_wp2_with (go_at_call 59; refine (HRC.out _ hA).mono ?_; rintro e w1 ⟨A1, c1, rfl, hb1, hO1⟩; have hz1 := hb1.size)
   have hml : ((Tt.codes L rest K).map strW).length = (Tt.codes L rest K).length := List.length_map ..
   clear hO1 hml q0 q1 q2 q3 hX
   obtain ⟨N, hN⟩ : ∃ v, (Tt.codes L rest K).length = v := ⟨_, rfl⟩
   rw [hN] at HR2 hcn ⊢
   clear hN
   go_wp2
   have hB1 := below_step hW hb1 hWs
   have hD1 : Rng w1 D rs := Rd.ext (Rd.ext hD hW) hb1
   go_loopw [6] (fun iv wr => ∃ (k : Nat) (nx : Int), k ≤ rs.length ∧ iv = .int .i64 (k : Nat) ∧ Hid (soldE (N : Nat) nx (rs.drop k) = R) ∧ Hid ((k = 0 ∧ nx = 0) ∨ ∃ h : k - 1 < rs.length, 0 < k ∧ 0 ≤ nx ∧ nx = rs[k - 1].2 + 1) ∧ Below w1.heap.size w1 wr) (fun iv _ => rs.length - (intOf iv).toNat)
   case atStart => exact ⟨0, 0, Nat.zero_le _, rfl, hide HR2.out, hide (.inl ⟨rfl, rfl⟩), Below.refl _ _⟩
   case round =>
    obtain ⟨k, nx, hk, rfl, HQ, HN, hb⟩ := hrel
    have hzr := hb.size
    have hBr := below_step hB1 hb (by omega)
    by_cases hlt : k < rs.length
    · have hki : (k : Int) < (rs.length : Int) := by omega
      have hDr : Rng wr D rs := Rd.ext hD1 hb
      obtain ⟨db, do_, rfl, hdb⟩ := hDr.form (by omega)
      obtain ⟨_, d0, d1⟩ := hDr.at hlt
      have hst : soldE (N : Nat) nx (rs.drop k) = if rs[k].1 < nx ∨ rs[k].2 < rs[k].1 ∨ (N : Int) ≤ rs[k].2 then 3 else soldE (N : Nat) (rs[k].2 + 1) (rs.drop (k + 1)) := by rw [List.drop_eq_getElem_cons hlt]; rfl
      have HST := hide hst
      have hprev : Hid (0 < k → ∃ ph : Int, 0 ≤ ph + 1 ∧ nx = ph + 1 ∧ wr.cell? ⟨db, do_ + (k - 1) * 2 + 1, none⟩ = some (.int .i64 ph)) := hide (fun h0 => by
       rcases HN.out with ⟨h1, _⟩ | ⟨h1, _, h2, h3⟩
       · omega
       · exact ⟨rs[k - 1].2, by omega, h3, (hDr.at h1).2.2⟩)
      have hnx0 : 0 ≤ nx := by rcases HN.out with ⟨_, h1⟩ | ⟨h1, _, h2, h3⟩ <;> omega
      have HK0 : Hid (k = 0 → nx = 0) := hide (fun h => by rcases HN.out with ⟨_, h1⟩ | ⟨h1, h4, h2, h3⟩ <;> omega)
      clear hst HN
      obtain ⟨⟨lo, hi⟩, hr⟩ : ∃ v, rs[k] = v := ⟨_, rfl⟩
      rw [hr] at d0 d1 HST
      dsimp only at d0 d1 HST
      have HRE := hide hr
      clear hr
      have hba : Below wr.heap.size wr (wr.alloc (.cells #[.int .i64 lo, .int .i64 hi] 74)) := below_alloc (Below.refl _ _) (Nat.le_refl _) _
      have hX : BlkAt (wr.alloc (.cells #[.int .i64 lo, .int .i64 hi] 74)) wr.heap.size #[.int .i64 lo, .int .i64 hi] 74 := heap_alloc_new _ _
      have x0 := obj_at hX 0 _ rfl
      have x1 := obj_at hX 1 _ rfl
      have xl := obj_lt hX
      by_cases c1 : lo < 0
      · have HRB : Hid (R = 3) := hide (by rw [← HQ.out, HST.out, if_pos (by omega)])
        clear HQ HST hprev HK0
        go_upto_region 8 with fail
        refine wp_region_grow (by kernel_rfl) (by kernel_rfl) ?_
        repeat (go_big_quiet_step (fail))
        refine wpQuiet_nil ?_
        intro w4 hb4
        replace hb4 := ex_below hb4
        go_wp2
        go_ret
        exact gives_of (by rw [HRB.out]; rfl) (below_step hBr (below_step hba hb4 (by simp)) (by omega))
      · by_cases c2 : (N : Int) ≤ hi
        · have HRB : Hid (R = 3) := hide (by rw [← HQ.out, HST.out, if_pos (by omega)])
          clear HQ HST hprev HK0
          go_upto_region 8 with fail
          refine wp_region_grow (by kernel_rfl) (by kernel_rfl) ?_
          repeat (go_big_quiet_step (fail))
          refine wpQuiet_nil ?_
          intro w4 hb4
          replace hb4 := ex_below hb4
          go_wp2
          go_ret
          exact gives_of (by rw [HRB.out]; rfl) (below_step hBr (below_step hba hb4 (by simp)) (by omega))
        · by_cases c3 : hi < lo
          · have HRB : Hid (R = 3) := hide (by rw [← HQ.out, HST.out, if_pos (by omega)])
            clear HQ HST hprev HK0
            go_upto_region 8 with fail
            refine wp_region_grow (by kernel_rfl) (by kernel_rfl) ?_
            repeat (go_big_quiet_step (fail))
            refine wpQuiet_nil ?_
            intro w4 hb4
            replace hb4 := ex_below hb4
            go_wp2
            go_ret
            exact gives_of (by rw [HRB.out]; rfl) (below_step hBr (below_step hba hb4 (by simp)) (by omega))
          · have HNH : Hid ((k + 1 = 0 ∧ hi + 1 = 0) ∨ ∃ h : k + 1 - 1 < rs.length, 0 < k + 1 ∧ 0 ≤ hi + 1 ∧ hi + 1 = rs[k + 1 - 1].2 + 1) := hide (.inr ⟨by omega, by omega, by omega, by simp [HRE.out]⟩)
            rcases Nat.eq_zero_or_pos k with h0 | h0
            · have h0I : ¬ ((0 : Int) < (k : Int)) := by omega
              have h0N : decide (0 < k) = false := by simp; omega
              have hn0 := HK0.out h0
              have HQ2 : Hid (soldE (N : Nat) (hi + 1) (rs.drop (k + 1)) = R) := hide (by rw [← HQ.out, HST.out, if_neg (by omega)])
              clear HQ HST hprev HK0 h0 hn0
              go_upto_region 8 with fail
              refine wp_region_grow (by kernel_rfl) (by kernel_rfl) ?_
              repeat (go_big_quiet_step (fail))
              refine wpQuiet_nil ?_
              intro w4 hb4
              replace hb4 := ex_below hb4
              go_wp2
              exact ⟨⟨k + 1, hi + 1, by omega, by go_num, HQ2, HNH, below_step hb (below_step hba hb4 (by simp)) hzr⟩, by simp [intOf]; omega⟩
            · have h0I : (0 : Int) < (k : Int) := by omega
              obtain ⟨ph, hp0, hp1, hp2⟩ := hprev.out h0
              have hkw : IntKind.i64.wrap ((k : Int) - 1) = ((k - 1 : Nat) : Int) := by rw [IntKind.wrap_i64]; omega
              have hk1 : ((k - 1 : Nat) : Int) < (rs.length : Int) := by omega
              have hpa := (hba.cell (p := ⟨db, do_ + (k - 1) * 2 + 1, none⟩) hdb).trans hp2
              have hdba : db < (wr.alloc (.cells #[.int .i64 lo, .int .i64 hi] 74)).heap.size := by simp; omega
              by_cases c4 : lo ≤ ph
              · have HRB : Hid (R = 3) := hide (by rw [← HQ.out, HST.out, if_pos (by omega)])
                clear HQ HST hprev HK0 hp2 hp1
                go_upto_region 8 with fail
                refine wp_region_grow (by kernel_rfl) (by kernel_rfl) ?_
                repeat (go_big_quiet_step (fail))
                refine wpQuiet_nil ?_
                intro w4 hb4
                replace hb4 := ex_below hb4
                go_wp2
                go_ret
                exact gives_of (by rw [HRB.out]; rfl) (below_step hBr (below_step hba hb4 (by simp)) (by omega))
              · have HQ2 : Hid (soldE (N : Nat) (hi + 1) (rs.drop (k + 1)) = R) := hide (by rw [← HQ.out, HST.out, if_neg (by omega)])
                clear HQ HST hprev HK0 hp2 hp1
                go_upto_region 8 with fail
                refine wp_region_grow (by kernel_rfl) (by kernel_rfl) ?_
                repeat (go_big_quiet_step (fail))
                refine wpQuiet_nil ?_
                intro w4 hb4
                replace hb4 := ex_below hb4
                go_wp2
                exact ⟨⟨k + 1, hi + 1, by omega, by go_num, HQ2, HNH, below_step hb (below_step hba hb4 (by simp)) hzr⟩, by simp [intOf]; omega⟩
    · have hki : ¬ ((k : Int) < (rs.length : Int)) := by omega
      have HRt : Hid (R = 0) := hide (by rw [← HQ.out, List.drop_eq_nil_of_le (by omega)]; rfl)
      clear HQ HN
      go_wp2
      go_ret
      exact gives_of (by rw [HRt.out]; rfl) hBr
end Go.Proofs.Ytgjfejpibielaaa
namespace Go.Proofs.Ytgjfejpibielaaa
open Go.RowKit Go.Maps Go.Shelf
attribute [local go_sem] Oper.semAt_some World.cell?_setCell_far
end Go.Proofs.Ytgjfejpibielaaa
namespace Go.Proofs.Ytgjfejpibielaaa
open Go.RowKit Go.Maps Go.Shelf
attribute [local go_sem] Oper.semAt_some World.cell?_setCell_far
theorem Rng.ext {w w' : World} {D : Option Addr} {rs : List (Int × Int)} (h : Rng w D rs) (hb : Below w.heap.size w w') : Rng w' D rs := Rd.ext h hb
def GivesLn (w : World) (l : List Nat) (e : Ending) (w' : World) : Prop := ∃ A c, e = .returned (.slice A l.length c) ∧ RowKit.Below w.heap.size w w' ∧ I64 w' A (zs l)
end Go.Proofs.Ytgjfejpibielaaa
