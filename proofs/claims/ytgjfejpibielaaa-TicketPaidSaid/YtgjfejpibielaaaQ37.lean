/- Proved here: the reference: the bound of a set of claims; the reference: the bound of a set, or the error; the reference: the least bound, a part of the proofs about the ticket laws. Conditions: those that each theorem names, no others. -/
import Derived.Test.YtgjfejpibielaaaQ36
import Derived.WalkKit
import Derived.WalkSpells
import Derived.WalkLawsBesides
import Derived.Below
import Derived.Deep.QuietTactic
import Derived.BigQuiet
import Derived.Deep.Light
set_option linter.unusedSimpArgs false
set_option linter.unusedVariables false
namespace Go.Proofs.Ytgjfejpibielaaa
open Go.RowKit Go.Maps Go.Shelf
attribute [local go_sem] Oper.semAt_some World.cell?_setCell_far
/-- whether the code of a number fits one of some claims -/
def anyF (L rest : Nat) (K : List Nat) (Ts : List (List Nat)) (s : List Nat) (i : Nat) : Bool := s.any fun x => fitN L rest K (Ts.getD x []) i
/-- how many codes that were sold fit one of some claims -/
def boundN (L rest : Nat) (K : List Nat) (Ts : List (List Nat)) (rs : List (Int × Int)) (s : List Nat) (n : Nat) : Nat := (List.range n).countP fun i => anyF L rest K Ts s i && soldI rs ((i : Nat) : Int)
theorem boundN_succ (L rest : Nat) (K : List Nat) (Ts : List (List Nat)) (rs : List (Int × Int)) (s : List Nat) (n : Nat) : boundN L rest K Ts rs s (n + 1) = boundN L rest K Ts rs s n + if (anyF L rest K Ts s n && soldI rs ((n : Nat) : Int)) = true then 1 else 0 := by
 unfold boundN
 rw [List.range_succ, List.countP_append]
 simp [List.countP_cons]
theorem boundN_le (L rest : Nat) (K : List Nat) (Ts : List (List Nat)) (rs : List (Int × Int)) (s : List Nat) (n : Nat) : boundN L rest K Ts rs s n ≤ n := by
 unfold boundN
 exact Nat.le_trans List.countP_le_length (by simp)
set_option maxRecDepth 100000 in
set_option maxHeartbeats 4000000 in
theorem rBound_any (L rest : Nat) (A : Option Addr) (K : List Nat) (c : Nat)(Y : Option Addr) (rows : List LRow) (yc : Nat) (Ts : List (List Nat)) (D : Option Addr) (rs : List (Int × Int)) (dc : Nat) (Sa : Option Addr) (s : List Nat) (sc : Nat) (w : World) (hd : OkD L rest K) (hA : I64 w A (zs K))(hT : Lst w Y rows) (hTs : (rows.map fun r => r.2.1) = Ts.map zs) (hTT : ∀ T, T ∈ Ts → T.length = K.length ∧ ∀ t, t ∈ T → t < 64) (hD : Rng w D rs) (hl : rs.length ≤ 1000) (hS : I64 w Sa (zs s)) (hsl : ∀ x, x ∈ s → x < rows.length) (hs6 : s.length ≤ 1000) (hr6 : rows.length ≤ 1000) : Calls Try.prog 77 #[.agg #[.int .i64 (L : Nat), .int .i64 (K.length : Nat), .slice A K.length c, .int .i64 (rest : Nat)], .slice Y rows.length yc, .slice D rs.length dc, .slice Sa s.length sc] w (Gives w (.int .i64 ((rows.length : Int) - (s.length : Int) + (boundN L rest K Ts rs s (Tt.codes L rest K).length : Nat)))) := by
 have hn8 := hd.2.2.2.1
 have hL6 := hd.2.1
 have HRC := hide (fun w' (h : I64 w' A (zs K)) => rCodes_any L rest A K c w' hd h)
 have HCM := hide (fun (x : List Nat) (h : x ∈ Tt.codes L rest K) => Tt.codes_mem h)
 have hcn : (Tt.codes L rest K).length ≤ 1679616 := by
  have h3 := Tt.cnt_small (L := L) (rest := rest) (ps := K.zip (Tt.fulls L K.length)) (la := -1) (s := 0) hL6 (by rw [List.length_zip]; omega)
  rwa [cnt_codes] at h3
 have hTl : Ts.length = rows.length := by have := congrArg List.length hTs; simpa using this.symm
 have HTL := hide hTl
 have HTS := hide hTs
 have HTT := hide hTT
 have HSL := hide hsl
 have HFN := hide (fun (T : List Nat) i (h : i < (Tt.codes L rest K).length) => (show fitN L rest K T i = Tt.fitsW T (Tt.codes L rest K)[i] by unfold fitN; rw [List.getElem?_eq_getElem h]; rfl))
 have HBS := hide (boundN_succ L rest K Ts rs s)
 have HBL := hide (boundN_le L rest K Ts rs s)
 have HB0 : Hid (boundN L rest K Ts rs s 0 = 0) := hide rfl
 have HAF := hide (fun i => (show anyF L rest K Ts s i = s.any fun x => fitN L rest K (Ts.getD x []) i from rfl))
 generalize boundN L rest K Ts rs s = bN at *
 generalize anyF L rest K Ts s = aF at *
 generalize fitN L rest K = fN at *
 clear hTl hTs hTT hsl hd
 go_enter Try.func77, Try.ntmps77
 go_upto_region 1 with fail
 obtain ⟨wa, hwa, hW, hX⟩ := boxed w #[.int .i64 (L : Nat), .int .i64 (K.length : Nat), .slice A K.length c, .int .i64 (rest : Nat)] 24
 rw [hwa]
 clear hwa
 replace hA := hA.ext hW
 have q0 := obj_at hX 0 _ rfl
 have q1 := obj_at hX 1 _ rfl
 have q2 := obj_at hX 2 _ rfl
 have q3 := obj_at hX 3 _ rfl
 have ql := obj_lt hX
 have hWs := hW.size
 go_wp2_with (go_at_call 59; refine (HRC.out _ hA).mono ?_; rintro e w1 ⟨A1, c1, rfl, hb1, hO1⟩; have hz1 := hb1.size)
 have hml : ((Tt.codes L rest K).map strW).length = (Tt.codes L rest K).length := List.length_map ..
 rw [hml] at hO1
 have hB1 := below_step hW hb1 hWs
 clear hml q0 q1 q2 q3 hX HRC
 obtain ⟨Cs, hCs⟩ : ∃ v, Tt.codes L rest K = v := ⟨_, rfl⟩
 rw [hCs] at hcn HCM HFN hO1 ⊢
 have HCSX := hide hCs
 clear hCs
 go_wp2
 go_loopw [10, 11] (fun nv iv wr => ∃ i : Nat, i ≤ Cs.length ∧ iv = .int .i64 (i : Nat) ∧ nv = .int .i64 ((rows.length : Int) - (s.length : Int) + (bN i : Nat)) ∧ Below w1.heap.size w1 wr) (fun _ iv _ => Cs.length - (intOf iv).toNat)
 case atStart => exact ⟨0, Nat.zero_le _, rfl, by rw [HB0.out]; go_num, Below.refl _ _⟩
 case round =>
  obtain ⟨i, hi, rfl, rfl, hb⟩ := hrel
  obtain ⟨wo, rfl⟩ : ∃ wo : World, wo = wr := ⟨_, rfl⟩
  have hzr := hb.size
  have hbl := HBL.out i
  by_cases hlt : i < Cs.length
  · have hki : (i : Int) < (Cs.length : Int) := by omega
    obtain ⟨ob, rfl, hob, hcell⟩ := own_at2 hO1 i (Value.string (strW Cs[i])) (by rw [List.getElem?_map, List.getElem?_map, List.getElem?_eq_getElem hlt]; rfl)
    have hce := (hb.cell (p := ⟨ob, i, none⟩) hob).trans hcell
    have hobr : ob < wo.heap.size := by omega
    obtain ⟨hm1, hm2⟩ := HCM.out _ (List.getElem_mem hlt)
    have HFX := hide (fun (T : List Nat) => HFN.out T i hlt)
    have HBI := hide (HBS.out i)
    have HAI := hide (HAF.out i)
    obtain ⟨x, hx⟩ : ∃ v, Cs[i] = v := ⟨_, rfl⟩
    rw [hx] at hce hm1 hm2
    have HFX2 : Hid (∀ T, fN T i = Tt.fitsW T x) := hide (fun T => by rw [HFX.out, hx])
    have HM1 := hide hm1
    have HM2 := hide hm2
    obtain ⟨bi, hbi⟩ : ∃ v, bN i = v := ⟨_, rfl⟩
    rw [hbi] at hbl HBI ⊢
    clear hx hcell hm1 hm2 HFX hbi
    go_wp2
    go_loopw [12, 13] (fun fv kv wr => ∃ (k : Nat) (b : Bool), k ≤ s.length ∧ kv = .int .i64 (k : Nat) ∧ fv = .bool b ∧ Hid (b = (s.take k).any fun y => fN (Ts.getD y []) i) ∧ Below w1.heap.size w1 wr ∧ wo.heap.size ≤ wr.heap.size ∧ wr.cell? ⟨ob, i, none⟩ = some (.string (strW x))) (fun _ kv _ => s.length - (intOf kv).toNat)
    case atStart => exact ⟨0, false, Nat.zero_le _, rfl, rfl, rfl, hb, Nat.le_refl _, hce⟩
    case round =>
     clear hb hzr hce
     obtain ⟨k, b, hk, rfl, rfl, HB, hb, hzo, hce⟩ := hrel
     have hzr := hb.size
     have hBr := below_step hB1 hb (by omega)
     have hobq : ob < wr.heap.size := by omega
     by_cases hks : k < s.length
     · have hkI : (k : Int) < (s.length : Int) := by omega
       have hSr := hS.ext hBr
       obtain ⟨sb, so, hse, hsb⟩ := hSr.form (by rw [zs_len]; omega)
       subst hse
       have hcs := hSr.at (k := k) (by rw [zs_len]; exact hks)
       rw [zs_at s k hks] at hcs
       have hnl := HSL.out _ (List.getElem_mem hks)
       have HTK := hide (show (s.take (k + 1)).any (fun y => fN (Ts.getD y []) i) = ((s.take k).any (fun y => fN (Ts.getD y []) i) || fN (Ts.getD s[k] []) i) by
        rw [take_snoc _ _ hks, List.any_append]; simp)
       obtain ⟨n, hn⟩ : ∃ v, s[k] = v := ⟨_, rfl⟩
       rw [hn] at hcs hnl HTK
       have hnT : n < Ts.length := by rw [HTL.out]; exact hnl
       have hnI : (n : Int) < (rows.length : Int) := by omega
       have hTe : rows[n].2.1 = zs Ts[n] := by
        have h := congrArg (fun l => l[n]?) HTS.out
        simp only [List.getElem?_map, List.getElem?_eq_getElem hnl, List.getElem?_eq_getElem hnT, Option.map_some] at h
        exact Option.some.inj h
       have hgd : Ts.getD n [] = Ts[n] := by rw [List.getD_eq_getElem?_getD, List.getElem?_eq_getElem hnT]; rfl
       rw [hgd, HFX2.out] at HTK
       obtain ⟨hTn, hTb⟩ := HTT.out _ (List.getElem_mem hnT)
       obtain ⟨T, hTT2⟩ : ∃ v, Ts[n] = v := ⟨_, rfl⟩
       rw [hTT2] at hTe hTn hTb HTK
       have hYr := hT.ext hBr
       obtain ⟨yb, yo, hye, hyb, hyc⟩ := hYr.1.2 (by omega)
       have hcy := hyc n (cellL rows[n]) (by rw [List.getElem?_map, List.getElem?_eq_getElem hnl]; rfl)
       have hYI := hYr.2 _ (List.getElem_mem hnl)
       obtain ⟨⟨yA, yT, yC⟩, hrr⟩ : ∃ v, rows[n] = v := ⟨_, rfl⟩
       rw [hrr] at hcy hTe hYI
       dsimp only at hTe hYI
       subst hTe
       subst hye
       unfold cellL at hcy
       dsimp only at hcy
       rw [zs_len] at hcy
       have HFT := hide (fun w' (h : I64 w' yA (zs T)) => rFit_any yA T yC x w' h (by rw [HM1.out, hTn]) hTb (fun y hy => by have := HM2.out y hy; omega) (by omega))
       obtain ⟨ft, hft⟩ : ∃ v, Tt.fitsW T x = v := ⟨_, rfl⟩
       rw [hft] at HTK HFT
       clear hn hgd hTT2 hrr hyc hTn hTb hYr hSr hft
       have HB2 : Hid ((b || ft) = (s.take (k + 1)).any fun y => fN (Ts.getD y []) i) := hide (by rw [HTK.out, ← HB.out])
       clear HTK HB
       cases b with
       | true =>
         have HB3 : Hid (true = (s.take (k + 1)).any fun y => fN (Ts.getD y []) i) := hide HB2.out
         clear HB2
         go_upto_region 10 with fail
         refine wp_region_grow (by kernel_rfl) (by kernel_rfl) ?_
         repeat (go_big_quiet_step ((go_at_call 52; exact Gives.quiet (HFT.out _ (hYI.ext (by (repeat (first | exact Below.refl _ _ | assumption | refine below_drewN ?_ _ | refine below_drew ?_ | refine below_gr ?_ ?_ _ | refine below_alloc ?_ ?_ _ | refine Below.setCell ?_ ?_ _ | refine below_step ?_ (by assumption) ?_ | omega | (simp only [zz] at *; omega)))))))))
         refine wpQuiet_nil ?_
         intro w4 hb4
         replace hb4 := ex_below hb4
         have hz4 := hb4.size
         have hce4 := (hb4.cell (p := ⟨ob, i, none⟩) hobq).trans hce
         go_wp2
         exact ⟨⟨k + 1, true, by omega, by go_num, rfl, HB3, below_step hb hb4 hzr, by omega, hce4⟩, by simp [intOf]; omega⟩
       | false =>
         have HB3 : Hid (ft = (s.take (k + 1)).any fun y => fN (Ts.getD y []) i) := hide HB2.out
         clear HB2
         go_upto_region 10 with fail
         refine wp_region_grow (by kernel_rfl) (by kernel_rfl) ?_
         repeat (go_big_quiet_step ((go_at_call 52; exact Gives.quiet (HFT.out _ (hYI.ext (by (repeat (first | exact Below.refl _ _ | assumption | refine below_drewN ?_ _ | refine below_drew ?_ | refine below_gr ?_ ?_ _ | refine below_alloc ?_ ?_ _ | refine Below.setCell ?_ ?_ _ | refine below_step ?_ (by assumption) ?_ | omega | (simp only [zz] at *; omega)))))))))
         refine wpQuiet_nil ?_
         intro w4 hb4
         replace hb4 := ex_below hb4
         have hz4 := hb4.size
         have hce4 := (hb4.cell (p := ⟨ob, i, none⟩) hobq).trans hce
         go_wp2
         exact ⟨⟨k + 1, ft, by omega, by go_num, rfl, HB3, below_step hb hb4 hzr, by omega, hce4⟩, by simp [intOf]; omega⟩
     · have hkI : ¬ ((k : Int) < (s.length : Int)) := by omega
       have hba : b = aF i := by rw [HB.out, HAI.out, List.take_of_length_le (by omega)]
       have HBI2 : Hid (bN (i + 1) = bi + if (b && soldI rs ((i : Nat) : Int)) = true then 1 else 0) := hide (by rw [HBI.out, hba])
       have hDr : Rng wr D rs := Rd.ext hD hBr
       obtain ⟨so2, hso⟩ : ∃ v, soldI rs ((i : Nat) : Int) = v := ⟨_, rfl⟩
       have HSO := hide hso
       rw [hso] at HBI2
       clear hba HB hso
       cases b with
       | false =>
         have HN : Hid (bN (i + 1) = bi) := hide (by rw [HBI2.out]; simp)
         clear HBI2
         go_wp2
         exact ⟨⟨i + 1, by omega, by go_num, by rw [HN.out], hb⟩, by simp [intOf]; omega⟩
       | true =>
         cases so2 with
         | false =>
           have HN : Hid (bN (i + 1) = bi) := hide (by rw [HBI2.out]; simp)
           clear HBI2
           go_wp2_with (go_at_call 71; refine (rWasSold_any D rs dc (i : Nat) _ hDr hl).mono ?_; rintro e w4 ⟨rfl, hb4⟩; replace hb4 := ex_below hb4; have hz4 := hb4.size; rw [HSO.out])
           exact ⟨⟨i + 1, by omega, by go_num, by rw [HN.out], below_step hb hb4 hzr⟩, by simp [intOf]; omega⟩
         | true =>
           have HN : Hid (bN (i + 1) = bi + 1) := hide (by rw [HBI2.out]; simp)
           clear HBI2
           go_wp2_with (go_at_call 71; refine (rWasSold_any D rs dc (i : Nat) _ hDr hl).mono ?_; rintro e w4 ⟨rfl, hb4⟩; replace hb4 := ex_below hb4; have hz4 := hb4.size; rw [HSO.out])
           exact ⟨⟨i + 1, by omega, by go_num, by rw [HN.out]; go_num, below_step hb hb4 hzr⟩, by simp [intOf]; omega⟩
  · have hki : ¬ ((i : Int) < (Cs.length : Int)) := by omega
    obtain rfl : i = Cs.length := by omega
    go_wp2
    go_ret
    exact gives_of (by rw [HCSX.out]; rfl) (below_step hB1 hb (by omega))
end Go.Proofs.Ytgjfejpibielaaa
namespace Go.Proofs.Ytgjfejpibielaaa
open Go.RowKit Go.Maps Go.Shelf
attribute [local go_sem] Oper.semAt_some World.cell?_setCell_far
/-- what the reference's CheckShort hands back, if all but the set is right -/
def chkShortR (L rest : Nat) (K : List Nat) (rs : List (Int × Int)) (Ts : List (List Nat)) (k : Nat) (ss : List Int) : Value :=
 if setB (k : Nat) 0 ss = true then .tuple #[.int .i64 ((k : Int) - (ss.length : Int) + (boundN L rest K Ts rs (ss.map Int.toNat) (Tt.codes L rest K).length : Nat)), .int .i64 0] else .tuple #[.int .i64 0, .int .i64 2]
set_option maxRecDepth 100000 in
set_option maxHeartbeats 4000000 in
theorem rCheckShort_right (L rest : Nat) (A : Option Addr) (K : List Nat) (c : Nat)(Y : Option Addr) (rows : List LRow) (yc : Nat) (Ts : List (List Nat)) (D : Option Addr) (rs : List (Int × Int)) (dc : Nat) (Sa : Option Addr) (ss : List Int) (sc : Nat) (w : World) (hd : OkD L rest K) (hA : I64 w A (zs K))(hT : Lst w Y rows) (hm6 : rows.length ≤ 6) (hTs : (rows.map fun r => r.2.1) = Ts.map zs) (hTT : ∀ T, T ∈ Ts → T.length = K.length ∧ ∀ t, t ∈ T → 1 ≤ t ∧ t < 2 ^ L) (hD : Rng w D rs) (hl : rs.length ≤ 1000) (hsd : chkSold ((Tt.codes L rest K).length : Nat) rs = 0) (hSa : I64 w Sa ss) (hsl : ss.length ≤ 1000) : Calls Try.prog 39 #[.agg #[.int .i64 (L : Nat), .int .i64 (K.length : Nat), .slice A K.length c, .int .i64 (rest : Nat)], .slice Y rows.length yc, .slice D rs.length dc, .slice Sa ss.length sc] w (Gives w (chkShortR L rest K rs Ts rows.length ss)) := by
 have hn8 := hd.2.2.2.1
 have hL6 := hd.2.1
 have hT64 : ∀ T, T ∈ Ts → T.length = K.length ∧ ∀ t, t ∈ T → t < 64 := fun T h => ⟨(hTT T h).1, fun t ht => by have := (hTT T h).2 t ht; have := two_pow L hL6; omega⟩
 have hce : (clmE ((Tt.codes L rest K).length : Nat) L K.length (rows.map fun r => r.2.1) rs) = 0 := by
  unfold clmE
  rw [List.length_map, if_neg (by omega), chkTs_zero hTs hTT, if_neg (by simp)]
  exact hsd
 have HCL := hide (fun w' (h1 : I64 w' A (zs K)) (h2 : Lst w' Y rows) (h3 : Rng w' D rs) => (show Calls Try.prog 42 #[.agg #[.int .i64 (L : Nat), .int .i64 (K.length : Nat), .slice A K.length c, .int .i64 (rest : Nat)], .slice Y rows.length yc, .slice D rs.length dc] w' (Gives w' (.int .i64 0)) by
  have h := rClaimed_ok L rest A K c Y rows yc D rs dc w' hd h1 h2 h3 hl (by omega)
  rw [hce] at h
  exact h))
 have HBO := hide (fun (s : List Nat) w' (h1 : I64 w' A (zs K)) (h2 : Lst w' Y rows) (h3 : Rng w' D rs) (h4 : I64 w' Sa (zs s)) (h5 : ∀ x, x ∈ s → x < rows.length) (h6 : s.length ≤ 1000) => rBound_any L rest A K c Y rows yc Ts D rs dc Sa s sc w' hd h1 h2 hTs hT64 h3 hl h4 h5 h6 (by omega))
 obtain ⟨R, hR⟩ : ∃ v, setB (rows.length : Nat) 0 ss = v := ⟨_, rfl⟩
 have HR := hide hR
 obtain ⟨V, hV⟩ : ∃ v, chkShortR L rest K rs Ts rows.length ss = v := ⟨_, rfl⟩
 have HVV : Hid ((if R = true then Value.tuple #[.int .i64 ((rows.length : Int) - (ss.length : Int) + (boundN L rest K Ts rs (ss.map Int.toNat) (Tt.codes L rest K).length : Nat)), .int .i64 0] else Value.tuple #[.int .i64 0, .int .i64 2]) = V) := hide (by rw [← hV, ← hR]; rfl)
 rw [hV]
 clear hR hV hsd hce hT64 hTT hTs hd
 go_enter Try.func39, Try.ntmps39
 go_upto_region 1 with fail
 obtain ⟨wa, hwa, hW, hX⟩ := boxed w #[.int .i64 (L : Nat), .int .i64 (K.length : Nat), .slice A K.length c, .int .i64 (rest : Nat)] 24
 rw [hwa]
 clear hwa
 replace hA := hA.ext hW
 have q0 := obj_at hX 0 _ rfl
 have q1 := obj_at hX 1 _ rfl
 have q2 := obj_at hX 2 _ rfl
 have q3 := obj_at hX 3 _ rfl
 have ql := obj_lt hX
 have hWs := hW.size
 have hT0 := hT.ext hW
 have hD0 : Rng wa D rs := Rd.ext hD hW
 have hS0 := hSa.ext hW
 have tok0 : True := trivial
 go_wp2_with (first
 | (clear tok0; go_at_call 42; refine (HCL.out _ hA hT0 hD0).mono ?_; rintro e u1 ⟨rfl, hb1⟩; replace hb1 := ex_below hb1; have hz1 := hb1.size; have hB1 := below_step hW hb1 (by omega); have hzB1 := hB1.size; have hA_1 := hA.ext hb1; have hT0_1 := hT0.ext hb1; have hD0_1 := Rng.ext hD0 hb1; have hS0_1 := hS0.ext hb1; have hX_1 := hX.ext hb1; clear q0 q1 q2 q3 ql; have q0 := obj_at hX_1 0 _ rfl; have q1 := obj_at hX_1 1 _ rfl; have q2 := obj_at hX_1 2 _ rfl; have q3 := obj_at hX_1 3 _ rfl; have ql := obj_lt hX_1; have tok1 : True := trivial))
 go_loopw [10] (fun iv wr => ∃ (j : Nat) (nx : Int), j ≤ ss.length ∧ iv = .int .i64 (j : Nat) ∧ Hid (setB (rows.length : Nat) nx (ss.drop j) = R) ∧ Hid ((j = 0 ∧ nx = 0) ∨ ∃ h : j - 1 < ss.length, 0 < j ∧ 0 ≤ nx ∧ nx = ss[j - 1] + 1) ∧ Below u1.heap.size u1 wr) (fun iv _ => ss.length - (intOf iv).toNat)
 case atStart => exact ⟨0, 0, Nat.zero_le _, rfl, hide HR.out, hide (.inl ⟨rfl, rfl⟩), Below.refl _ _⟩
 case round =>
  obtain ⟨j, nx, hj, rfl, HS, HN, hb⟩ := hrel
  have hzr := hb.size
  have hBr := below_step hB1 hb (by omega)
  by_cases hjl : j < ss.length
  · have hji : (j : Int) < (ss.length : Int) := by omega
    have hSr := hS0_1.ext hb
    obtain ⟨sb, so, rfl, hsb⟩ := hSr.form (by omega)
    have hcs := hSr.at hjl
    have hst : setB (rows.length : Nat) nx (ss.drop j) = (decide (nx ≤ ss[j]) && decide (ss[j] ≤ (rows.length : Int) - 1) && setB (rows.length : Nat) (ss[j] + 1) (ss.drop (j + 1))) := by rw [List.drop_eq_getElem_cons hjl]; rfl
    have HST := hide hst
    have hprev : Hid (0 < j → ∃ ph : Int, 0 ≤ ph + 1 ∧ nx = ph + 1 ∧ wr.cell? ⟨sb, so + (j - 1), none⟩ = some (.int .i64 ph)) := hide (fun h0 => by
     rcases HN.out with ⟨h1, _⟩ | ⟨h1, _, h2, h3⟩
     · omega
     · exact ⟨ss[j - 1], by omega, h3, hSr.at h1⟩)
    have hnx0 : 0 ≤ nx := by rcases HN.out with ⟨_, h1⟩ | ⟨h1, _, h2, h3⟩ <;> omega
    have HK0 : Hid (j = 0 → nx = 0) := hide (fun h => by rcases HN.out with ⟨_, h1⟩ | ⟨h1, h4, h2, h3⟩ <;> omega)
    obtain ⟨y, hy⟩ : ∃ v, ss[j] = v := ⟨_, rfl⟩
    rw [hy] at hcs HST
    have HRE := hide hy
    clear hst HN hy
    by_cases c1 : y < 0
    · have HRB : Hid (false = R) := hide (by rw [← HS.out, HST.out]; have : ¬ nx ≤ y := by omega
                                             simp [this])
      clear HS HST hprev HK0
      go_upto_region 6 with fail
      refine wp_region_grow (by kernel_rfl) (by kernel_rfl) ?_
      repeat (go_big_quiet_step (fail))
      refine wpQuiet_nil ?_
      intro w4 hb4
      replace hb4 := ex_below hb4
      go_wp2
      go_ret2
      exact gives_of (by rw [← HVV.out, ← HRB.out]; rfl) (below_step hBr hb4 (by omega))
    · by_cases c2 : (rows.length : Int) ≤ y
      · have HRB : Hid (false = R) := hide (by rw [← HS.out, HST.out]; have : ¬ y ≤ (rows.length : Int) - 1 := by omega
                                               simp [this])
        clear HS HST hprev HK0
        go_upto_region 6 with fail
        refine wp_region_grow (by kernel_rfl) (by kernel_rfl) ?_
        repeat (go_big_quiet_step (fail))
        refine wpQuiet_nil ?_
        intro w4 hb4
        replace hb4 := ex_below hb4
        go_wp2
        go_ret2
        exact gives_of (by rw [← HVV.out, ← HRB.out]; rfl) (below_step hBr hb4 (by omega))
      · have HNH : Hid ((j + 1 = 0 ∧ y + 1 = 0) ∨ ∃ h : j + 1 - 1 < ss.length, 0 < j + 1 ∧ 0 ≤ y + 1 ∧ y + 1 = ss[j + 1 - 1] + 1) := hide (.inr ⟨by omega, by omega, by omega, by simp [HRE.out]⟩)
        have HGD : Hid (nx ≤ y → setB (rows.length : Nat) (y + 1) (ss.drop (j + 1)) = R) := hide (fun h => by
         rw [← HS.out, HST.out]
         have h2 : y ≤ (rows.length : Int) - 1 := by omega
         simp [h, h2])
        rcases Nat.eq_zero_or_pos j with h0 | h0
        · have h0I : ¬ ((0 : Int) < (j : Int)) := by omega
          have h0N : decide (0 < j) = false := by simp; omega
          have HQ2 := hide (HGD.out (by have := HK0.out h0; omega))
          clear HS HST hprev HK0 h0 HGD
          go_upto_region 6 with fail
          refine wp_region_grow (by kernel_rfl) (by kernel_rfl) ?_
          repeat (go_big_quiet_step (fail))
          refine wpQuiet_nil ?_
          intro w4 hb4
          replace hb4 := ex_below hb4
          go_wp2
          exact ⟨⟨j + 1, y + 1, by omega, by go_num, HQ2, HNH, below_step hb hb4 hzr⟩, by simp [intOf]; omega⟩
        · have h0I : (0 : Int) < (j : Int) := by omega
          obtain ⟨ph, hp0, hp1, hp2⟩ := hprev.out h0
          have hkw : IntKind.i64.wrap ((j : Int) - 1) = ((j - 1 : Nat) : Int) := by rw [IntKind.wrap_i64]; omega
          have hk1 : ((j - 1 : Nat) : Int) < (ss.length : Int) := by omega
          by_cases c4 : y ≤ ph
          · have HRB : Hid (false = R) := hide (by rw [← HS.out, HST.out]; have : ¬ nx ≤ y := by omega
                                                   simp [this])
            clear HS HST hprev HK0 HGD hp1
            go_upto_region 6 with fail
            refine wp_region_grow (by kernel_rfl) (by kernel_rfl) ?_
            repeat (go_big_quiet_step (fail))
            refine wpQuiet_nil ?_
            intro w4 hb4
            replace hb4 := ex_below hb4
            go_wp2
            go_ret2
            exact gives_of (by rw [← HVV.out, ← HRB.out]; rfl) (below_step hBr hb4 (by omega))
          · have HQ2 := hide (HGD.out (by omega))
            clear HS HST hprev HK0 HGD hp1
            go_upto_region 6 with fail
            refine wp_region_grow (by kernel_rfl) (by kernel_rfl) ?_
            repeat (go_big_quiet_step (fail))
            refine wpQuiet_nil ?_
            intro w4 hb4
            replace hb4 := ex_below hb4
            go_wp2
            exact ⟨⟨j + 1, y + 1, by omega, by go_num, HQ2, HNH, below_step hb hb4 hzr⟩, by simp [intOf]; omega⟩
  · have hji : ¬ ((j : Int) < (ss.length : Int)) := by omega
    have hRt : true = R := by have h := HS.out; rw [List.drop_eq_nil_of_le (by omega)] at h; exact h
    obtain ⟨s, hse, hsl2, _, _⟩ := setB_ok (k := rows.length) (nx := 0) (by have h := HR.out; rw [← hRt] at h; exact h)
    have hSr := hS0_1.ext hb
    rw [hse] at hSr
    have hssl : ss.length = s.length := by rw [hse, zs_len]
    have hnat : ss.map Int.toNat = s := by rw [hse]; unfold zs; rw [List.map_map]; conv => rhs; rw [← List.map_id s]
                                           apply List.map_congr_left; intro x _; simp
    have HV : Hid (V = .tuple #[.int .i64 ((rows.length : Int) - (ss.length : Int) + (boundN L rest K Ts rs s (Tt.codes L rest K).length : Nat)), .int .i64 0]) := hide (by
     rw [← HVV.out, ← hRt, if_pos rfl, hnat])
    have hAr := hA_1.ext hb
    have hTr := hT0_1.ext hb
    have hDr := Rng.ext hD0_1 hb
    have HBC : Hid (Calls Try.prog 77 #[.agg #[.int .i64 (L : Nat), .int .i64 (K.length : Nat), .slice A K.length c, .int .i64 (rest : Nat)], .slice Y rows.length yc, .slice D rs.length dc, .slice Sa ss.length sc] wr (Gives wr (.int .i64 ((rows.length : Int) - (ss.length : Int) + (boundN L rest K Ts rs s (Tt.codes L rest K).length : Nat))))) := hide (by
     have h := HBO.out s wr hAr hTr hDr hSr (fun x hx => (hsl2 x hx).2) (by omega)
     rw [← hssl] at h
     exact h)
    have hXr := hX_1.ext hb
    clear q0 q1 q2 q3 ql
    have q0 := obj_at hXr 0 _ rfl
    have q1 := obj_at hXr 1 _ rfl
    have q2 := obj_at hXr 2 _ rfl
    have q3 := obj_at hXr 3 _ rfl
    have ql := obj_lt hXr
    obtain ⟨bN, hbN⟩ : ∃ v, (boundN L rest K Ts rs s (Tt.codes L rest K).length) = v := ⟨_, rfl⟩
    rw [hbN] at HV HBC
    clear hRt hse hsl2 hSr hssl hnat hbN HN HS
    go_wp2_with (go_at_call 77; refine (HBC.out).mono ?_; rintro e w2 ⟨rfl, hb5⟩; replace hb5 := ex_below hb5)
    go_ret2
    exact gives_of (by rw [HV.out]; rfl) (below_step hBr hb5 (by omega))
end Go.Proofs.Ytgjfejpibielaaa
namespace Go.Proofs.Ytgjfejpibielaaa
open Go.RowKit Go.Maps Go.Shelf
attribute [local go_sem] Oper.semAt_some World.cell?_setCell_far
/-- a set by bits -/
def bitsS (k b : Nat) : List Nat := (List.range k).filter fun i => b.testBit i
theorem bitsS_succ (k b : Nat) : bitsS (k + 1) b = if b.testBit k = true then bitsS k b ++ [k] else bitsS k b := by
 unfold bitsS
 rw [List.range_succ, List.filter_append]
 by_cases h : b.testBit k = true
 · rw [if_pos h]; simp [h]
 · rw [if_neg h]; simp [h]
theorem bitsS_len (k b : Nat) : (bitsS k b).length ≤ k := by unfold bitsS; exact Nat.le_trans (List.length_filter_le _ _) (by simp)
theorem bitsS_lt {k b : Nat} : ∀ x, x ∈ bitsS k b → x < k := fun x hx => by unfold bitsS at hx; exact List.mem_range.1 (List.mem_filter.1 hx).1
/-- the least of some bounds -/
def lstF (k : Nat) (f : Nat → Int) : Nat → Int
 | 0 => (k : Int)
 | b + 1 => if b = 0 then (k : Int) else min (lstF k f b) (f b)
theorem lstF_succ (k : Nat) (f : Nat → Int) (b : Nat) (h : 1 ≤ b) : lstF k f (b + 1) = min (lstF k f b) (f b) := by rw [lstF, if_neg (by omega)]
def bndF (L rest : Nat) (K : List Nat) (Ts : List (List Nat)) (rs : List (Int × Int)) (k b : Nat) : Int := (k : Int) - ((bitsS k b).length : Int) + (boundN L rest K Ts rs (bitsS k b) (Tt.codes L rest K).length : Nat)
theorem bndF_bd {L rest : Nat} {K : List Nat} {Ts : List (List Nat)} {rs : List (Int × Int)} {k : Nat} (h : (Tt.codes L rest K).length ≤ 1679616) (hk : k ≤ 6) (b : Nat) : 0 ≤ bndF L rest K Ts rs k b ∧ bndF L rest K Ts rs k b ≤ 1679622 := by
 have h1 := boundN_le L rest K Ts rs (bitsS k b) (Tt.codes L rest K).length
 have h2 := bitsS_len k b
 unfold bndF
 omega
theorem lstF_bd {k : Nat} {f : Nat → Int} (hk : k ≤ 6) (hf : ∀ b, 0 ≤ f b ∧ f b ≤ 1679622) (b : Nat) : 0 ≤ lstF k f b ∧ lstF k f b ≤ 6 := by
 induction b with
 | zero => simp [lstF]; omega
 | succ b ih =>
   rw [lstF]
   split
   · omega
   · have := hf b
     omega
/-- the least bound of all sets -/
def leastI (L rest : Nat) (K : List Nat) (Ts : List (List Nat)) (rs : List (Int × Int)) (k : Nat) : Int := lstF k (bndF L rest K Ts rs k) (2 ^ k)
set_option maxRecDepth 100000 in
set_option maxHeartbeats 4000000 in
theorem rLeast_any (L rest : Nat) (A : Option Addr) (K : List Nat) (c : Nat)(Y : Option Addr) (rows : List LRow) (yc : Nat) (Ts : List (List Nat)) (D : Option Addr) (rs : List (Int × Int)) (dc : Nat) (w : World) (hd : OkD L rest K) (hA : I64 w A (zs K))(hT : Lst w Y rows) (hTs : (rows.map fun r => r.2.1) = Ts.map zs) (hTT : ∀ T, T ∈ Ts → T.length = K.length ∧ ∀ t, t ∈ T → t < 64) (hm6 : rows.length ≤ 6) (hD : Rng w D rs) (hl : rs.length ≤ 1000) : Calls Try.prog 43 #[.agg #[.int .i64 (L : Nat), .int .i64 (K.length : Nat), .slice A K.length c, .int .i64 (rest : Nat)], .slice Y rows.length yc, .slice D rs.length dc] w (Gives w (.int .i64 (leastI L rest K Ts rs rows.length))) := by
 obtain ⟨ti, ih, iz, is, ib⟩ := info_parts info3k
 have hn8 := hd.2.2.2.1
 have hL6 := hd.2.1
 have hcn : (Tt.codes L rest K).length ≤ 1679616 := by
  have h3 := Tt.cnt_small (L := L) (rest := rest) (ps := K.zip (Tt.fulls L K.length)) (la := -1) (s := 0) hL6 (by rw [List.length_zip]; omega)
  rwa [cnt_codes] at h3
 have HBO := hide (fun (Sa : Option Addr) (sc : Nat) (b : Nat) w' (h1 : I64 w' A (zs K)) (h2 : Lst w' Y rows) (h3 : Rng w' D rs) (h4 : I64 w' Sa (zs (bitsS rows.length b))) => rBound_any L rest A K c Y rows yc Ts D rs dc Sa (bitsS rows.length b) sc w' hd h1 h2 hTs hTT h3 hl h4 bitsS_lt (by have := bitsS_len rows.length b; omega) (by omega))
 have HFB := hide (bndF_bd (Ts := Ts) (rs := rs) hcn hm6)
 have HFD := hide (fun b => (show bndF L rest K Ts rs rows.length b = (rows.length : Int) - ((bitsS rows.length b).length : Int) + (boundN L rest K Ts rs (bitsS rows.length b) (Tt.codes L rest K).length : Nat) from rfl))
 have HLB := hide (fun b => lstF_bd (k := rows.length) (f := bndF L rest K Ts rs rows.length) hm6 (fun b => HFB.out b) b)
 have HLS := hide (fun b h => lstF_succ rows.length (bndF L rest K Ts rs rows.length) b h)
 have HL1 : Hid (lstF rows.length (bndF L rest K Ts rs rows.length) 1 = (rows.length : Int)) := hide rfl
 obtain ⟨F, hF⟩ : ∃ v, lstF rows.length (bndF L rest K Ts rs rows.length) = v := ⟨_, rfl⟩
 rw [hF] at HLB HLS HL1
 have HFE := hide hF
 have hp2 := two_pow rows.length hm6
 obtain ⟨g2, hg2⟩ : ∃ v, 2 ^ rows.length = v := ⟨_, rfl⟩
 have HG2 := hide hg2
 rw [hg2] at hp2
 have HW2 : Hid (wrap64 ((2 : Int) ^ rows.length) = (g2 : Int)) := hide (by
  have e : ((2 : Int) ^ rows.length) = ((2 ^ rows.length : Nat) : Int) := (by push_cast; rfl)
  unfold wrap64
  rw [e, hg2]
  omega)
 have HV : Hid (F g2 = leastI L rest K Ts rs rows.length) := hide (by rw [← hF, ← hg2]; rfl)
 rw [← HV.out]
 generalize bndF L rest K Ts rs rows.length = fB at *
 clear hF hg2 hTs hTT hcn hd
 go_enter Try.func43, Try.ntmps43
 go_upto_region 1 with fail
 obtain ⟨wa, hwa, hW, hX⟩ := boxed w #[.int .i64 (L : Nat), .int .i64 (K.length : Nat), .slice A K.length c, .int .i64 (rest : Nat)] 24
 rw [hwa]
 clear hwa
 replace hA := hA.ext hW
 have q0 := obj_at hX 0 _ rfl
 have q1 := obj_at hX 1 _ rfl
 have q2 := obj_at hX 2 _ rfl
 have q3 := obj_at hX 3 _ rfl
 have ql := obj_lt hX
 have hWs := hW.size
 have hT0 := hT.ext hW
 have hD0 : Rng wa D rs := Rd.ext hD hW
 go_wp2
 go_loopw [7, 8] (fun nv bv wr => ∃ b : Nat, 1 ≤ b ∧ b ≤ g2 ∧ bv = .int .i64 (b : Nat) ∧ nv = .int .i64 (F b) ∧ Below wa.heap.size wa wr) (fun _ bv _ => g2 - (intOf bv).toNat)
 case atStart => exact ⟨1, Nat.le_refl _, hp2.1, rfl, by rw [HL1.out], Below.refl _ _⟩
 case round =>
  obtain ⟨b, hb1, hb2, rfl, rfl, hb⟩ := hrel
  obtain ⟨wo, rfl⟩ : ∃ wo : World, wo = wr := ⟨_, rfl⟩
  have hzo := hb.size
  have hlb := HLB.out b
  by_cases hbg : b < g2
  · have hbI : (b : Int) < (g2 : Int) := by omega
    have HLN := hide (HLS.out b hb1)
    have hfb := HFB.out b
    have HFV := hide (HFD.out b)
    obtain ⟨fv, hfv⟩ : ∃ v, fB b = v := ⟨_, rfl⟩
    obtain ⟨Fb, hFb⟩ : ∃ v, F b = v := ⟨_, rfl⟩
    rw [hfv] at HLN hfb HFV
    rw [hFb] at HLN hlb ⊢
    have hw2 := HW2.out
    clear hfv hFb
    go_wp2
    clear hw2
    go_loopw [9, 10] (fun v iv wr => ∃ (i : Nat) (A1 : Option Addr) (n1 c1 : Nat), i ≤ rows.length ∧ iv = .int .i64 (i : Nat) ∧ v = .slice A1 n1 c1 ∧ Hid (n1 = (bitsS i b).length) ∧ wr.ownsRow wo.heap.size 3 1 (.slice A1 n1 c1) n1 ((zs (bitsS i b)).map (Value.int .i64)) ∧ Below wo.heap.size wo wr) (fun _ iv _ => rows.length - (intOf iv).toNat)
    case atStart => exact ⟨0, none, 0, 0, Nat.zero_le _, rfl, rfl, rfl, World.ownsRow_nil _ _ _ _, Below.refl _ _⟩
    case round =>
     obtain ⟨i, A1, n1, c1, hi, rfl, rfl, HN, hO, hb3⟩ := hrel
     have hzr := hb3.size
     by_cases hil : i < rows.length
     · have hii : (i : Int) < (rows.length : Int) := by omega
       have HBS := hide (bitsS_succ i b)
       have hbl := bitsS_len i b
       rw [← HN.out] at hbl
       have hbt := bBit b (by omega) i (by omega)
       cases htb : b.testBit i with
       | true =>
         have HB2 : Hid (bitsS (i + 1) b = bitsS i b ++ [i]) := hide (by rw [HBS.out, if_pos htb])
         rw [htb] at hbt
         simp only [if_true] at hbt
         clear htb HBS
         go_wp2_with (first
 | (at_builtin; refine wpList_app _ rfl (.tmp 31) (.tmp 33) 22 rfl (wo.heap.size) 3 ti _ 1 8 und22k ih iz is ib rfl (by decide) ((.slice A1 n1 c1)) (n1) (_) rfl (hO.alloc _) (some ⟨wr.heap.size, 0, none⟩) (1) (1) ([.int .i64 (i : Nat)]) rfl (rd_new1 _ _ _) (by simp [Value.oneCell']) (by unfold maxLen; omega) (by omega) (by (first | omega | (simp only [zz]; omega) | (simp only [zz] at *; omega) | (simp; done) | (simp; omega))) ?_; intro A7 c7 u7 hown7 hgr7))
         exact ⟨⟨i + 1, A7, n1 + 1, c7, by omega, by go_num, rfl, hide (by rw [HB2.out, List.length_append, ← HN.out]; rfl), by rw [HB2.out, zs_snoc, List.map_append]; exact hown7, gb_below (below_alloc hb3 hzr _) hgr7 (by simp; omega) (fun r e => (hO.lt r e).1)⟩, by simp [intOf]; omega⟩
       | false =>
         have HB2 : Hid (bitsS (i + 1) b = bitsS i b) := hide (by rw [HBS.out, htb]; simp)
         rw [htb] at hbt
         simp only [Bool.false_eq_true, if_false] at hbt
         clear htb HBS
         go_wp2
         exact ⟨⟨i + 1, A1, n1, c1, by omega, by go_num, rfl, hide (by rw [HB2.out]; exact HN.out), by rw [HB2.out]; exact hO, hb3⟩, by simp [intOf]; omega⟩
     · have hii : ¬ ((i : Int) < (rows.length : Int)) := by omega
       obtain rfl : i = rows.length := by omega
       have hIo := own_i64 hO
       have hBw := below_step hb hb3 hzo
       have hBC : Calls Try.prog 77 #[.agg #[.int .i64 (L : Nat), .int .i64 (K.length : Nat), .slice A K.length c, .int .i64 (rest : Nat)], .slice Y rows.length yc, .slice D rs.length dc, .slice A1 n1 c1] wr (Gives wr (.int .i64 fv)) := by
        have h := HBO.out A1 c1 b wr (hA.ext hBw) (hT0.ext hBw) (Rng.ext hD0 hBw) hIo
        rw [← HN.out] at h
        rw [HFV.out, ← HN.out]
        exact h
       have HBC := hide hBC
       have hXr := hX.ext hBw
       clear q0 q1 q2 q3 ql
       have q0 := obj_at hXr 0 _ rfl
       have q1 := obj_at hXr 1 _ rfl
       have q2 := obj_at hXr 2 _ rfl
       have q3 := obj_at hXr 3 _ rfl
       have ql := obj_lt hXr
       clear hBC hIo hO hi hil
       by_cases hmin : Fb ≤ fv
       · have HM : Hid (F (b + 1) = Fb) := hide (by rw [HLN.out]; omega)
         clear HN
         go_wp2_with (go_at_call 77; refine (HBC.out).mono ?_; rintro e w2 ⟨rfl, hb5⟩; replace hb5 := ex_below hb5)
         all_goals first | (exact ⟨⟨b + 1, by omega, by omega, by go_num, by rw [HM.out], below_step hBw hb5 (by omega)⟩, by simp [intOf]; omega⟩) | (exfalso; omega)
       · have HM : Hid (F (b + 1) = fv) := hide (by rw [HLN.out]; omega)
         clear HN
         go_wp2_with (go_at_call 77; refine (HBC.out).mono ?_; rintro e w2 ⟨rfl, hb5⟩; replace hb5 := ex_below hb5)
         all_goals first | (exact ⟨⟨b + 1, by omega, by omega, by go_num, by rw [HM.out], below_step hBw hb5 (by omega)⟩, by simp [intOf]; omega⟩) | (exfalso; omega)
  · have hbI : ¬ ((b : Int) < (g2 : Int)) := by omega
    obtain rfl : b = g2 := by omega
    have hw2 := HW2.out
    go_wp2
    go_ret
    exact gives_of rfl (below_step hW hb hWs)
end Go.Proofs.Ytgjfejpibielaaa
