/- Proved here: the reference: payments, a part of the proofs about the ticket laws. Conditions: those that each theorem names, no others. -/
import Derived.Test.YtgjfejpibielaaaQ37
import Derived.WalkKit
import Derived.WalkSpells
import Derived.WalkLawsBesides
import Derived.Below
import Derived.Deep.QuietTactic
import Derived.BigQuiet
import Derived.Deep.Light
set_option linter.unusedSimpArgs false
set_option linter.unusedVariables false
namespace Go.Proofs.Ytgjfejpibielaaa
open Go.RowKit Go.Maps Go.Shelf
attribute [local go_sem] Oper.semAt_some World.cell?_setCell_far
/-- whether a number may be paid for a claim -/
def okP (L rest : Nat) (K : List Nat) (Ts : List (List Nat)) (rs : List (Int × Int)) (p : List Int) (i : Nat) : Bool :=
 decide (p.getD i (-1) = -1) || (decide (0 ≤ p.getD i (-1)) && decide (p.getD i (-1) < ((Tt.codes L rest K).length : Int)) && soldI rs (p.getD i (-1)) && fitN L rest K (Ts.getD i []) (p.getD i (-1)).toNat && (List.range i).all fun k => decide (p.getD k (-1) ≠ p.getD i (-1)))
/-- what IsPayment hands back -/
def payV (L rest : Nat) (K : List Nat) (Ts : List (List Nat)) (rs : List (Int × Int)) (k : Nat) (p : List Int) : Value :=
 if p.length = k ∧ (List.range k).all (okP L rest K Ts rs p) = true then .tuple #[.int .i64 (Tt.paidN p : Nat), .bool true] else .tuple #[.int .i64 0, .bool false]
theorem getD_at (p : List Int) (i : Nat) (h : i < p.length) : p.getD i (-1) = p[i] := by rw [List.getD_eq_getElem?_getD, List.getElem?_eq_getElem h]; rfl
set_option maxRecDepth 100000 in
set_option maxHeartbeats 4000000 in
theorem rIsPayment_any (L rest : Nat) (A : Option Addr) (K : List Nat) (c : Nat)(Y : Option Addr) (rows : List LRow) (yc : Nat) (Ts : List (List Nat)) (D : Option Addr) (rs : List (Int × Int)) (dc : Nat) (Pa : Option Addr) (p : List Int) (pc : Nat) (w : World) (hd : OkD L rest K) (hA : I64 w A (zs K))(hT : Lst w Y rows) (hTs : (rows.map fun r => r.2.1) = Ts.map zs) (hTT : ∀ T, T ∈ Ts → T.length = K.length ∧ ∀ t, t ∈ T → t < 64) (hD : Rng w D rs) (hl : rs.length ≤ 1000) (hP : I64 w Pa p) (hr6 : rows.length ≤ 1000) (hp6 : p.length ≤ 1000) : Calls Try.prog 44 #[.agg #[.int .i64 (L : Nat), .int .i64 (K.length : Nat), .slice A K.length c, .int .i64 (rest : Nat)], .slice Y rows.length yc, .slice D rs.length dc, .slice Pa p.length pc] w (Gives w (payV L rest K Ts rs rows.length p)) := by
 have hn8 := hd.2.2.2.1
 have hL6 := hd.2.1
 have HRC := hide (fun w' (h : I64 w' A (zs K)) => rCodes_any L rest A K c w' hd h)
 have HCM := hide (fun (x : List Nat) (h : x ∈ Tt.codes L rest K) => Tt.codes_mem h)
 have hcn : (Tt.codes L rest K).length ≤ 1679616 := by
  have h3 := Tt.cnt_small (L := L) (rest := rest) (ps := K.zip (Tt.fulls L K.length)) (la := -1) (s := 0) hL6 (by rw [List.length_zip]; omega)
  rwa [cnt_codes] at h3
 have hTl : Ts.length = rows.length := by have := congrArg List.length hTs; simpa using this.symm
 have HTL := hide hTl
 have HTS := hide hTs
 have HTT := hide hTT
 have HFN := hide (fun (T : List Nat) i (h : i < (Tt.codes L rest K).length) => (show fitN L rest K T i = Tt.fitsW T (Tt.codes L rest K)[i] by unfold fitN; rw [List.getElem?_eq_getElem h]; rfl))
 have HOK := hide (fun i => (show okP L rest K Ts rs p i = (decide (p.getD i (-1) = -1) || (decide (0 ≤ p.getD i (-1)) && decide (p.getD i (-1) < ((Tt.codes L rest K).length : Int)) && soldI rs (p.getD i (-1)) && fitN L rest K (Ts.getD i []) (p.getD i (-1)).toNat && (List.range i).all fun k => decide (p.getD k (-1) ≠ p.getD i (-1)))) from rfl))
 obtain ⟨V, hV⟩ : ∃ v, payV L rest K Ts rs rows.length p = v := ⟨_, rfl⟩
 rw [hV]
 unfold payV at hV
 generalize okP L rest K Ts rs p = oK at *
 generalize fitN L rest K = fN at *
 by_cases hpl : p.length = rows.length
 · have hplI : ((p.length : Int) != (rows.length : Int)) = false := by simp; omega
   have HVA : Hid (∀ i, i < p.length → oK i = false → V = .tuple #[.int .i64 0, .bool false]) := hide (fun i hi h => by
    rw [← hV, if_neg]
    rintro ⟨_, h2⟩
    rw [List.all_eq_true] at h2
    have := h2 i (List.mem_range.2 (by omega))
    rw [h] at this
    cases this)
   have HVB : Hid ((∀ i, i < p.length → oK i = true) → V = .tuple #[.int .i64 (Tt.paidN p : Nat), .bool true]) := hide (fun h => by
    rw [← hV, if_pos ⟨hpl, by rw [List.all_eq_true]; exact fun i hi => h i (by have := List.mem_range.1 hi; omega)⟩])
   have HPL := hide hpl
   clear hTl hTs hTT hd hV hpl
   go_enter Try.func44, Try.ntmps44
   go_upto_region 1 with fail
   obtain ⟨wa, hwa, hW, hX⟩ := boxed w #[.int .i64 (L : Nat), .int .i64 (K.length : Nat), .slice A K.length c, .int .i64 (rest : Nat)] 24
   rw [hwa]
   clear hwa
   replace hA := hA.ext hW
   have q0 := obj_at hX 0 _ rfl
   have q1 := obj_at hX 1 _ rfl
   have q2 := obj_at hX 2 _ rfl
   have q3 := obj_at hX 3 _ rfl
   have ql := obj_lt hX
   have hWs := hW.size
   go_wp2_with (go_at_call 59; refine (HRC.out _ hA).mono ?_; rintro e w1 ⟨A1, c1, rfl, hb1, hO1⟩; have hz1 := hb1.size)
   have hml : ((Tt.codes L rest K).map strW).length = (Tt.codes L rest K).length := List.length_map ..
   rw [hml] at hO1
   have hB1 := below_step hW hb1 hWs
   clear hml q0 q1 q2 q3 hX HRC
   obtain ⟨Cs, hCs⟩ : ∃ v, Tt.codes L rest K = v := ⟨_, rfl⟩
   rw [hCs] at hcn HCM HFN HOK hO1 ⊢
   clear hCs
   go_wp2
   go_loopw [11, 12] (fun nv iv wr => ∃ i : Nat, i ≤ p.length ∧ iv = .int .i64 (i : Nat) ∧ nv = .int .i64 (Tt.paidN (p.take i) : Nat) ∧ Hid (∀ j, j < i → oK j = true) ∧ Below w1.heap.size w1 wr) (fun _ iv _ => p.length - (intOf iv).toNat)
   case atStart => exact ⟨0, Nat.zero_le _, rfl, rfl, hide (fun j hj => by omega), Below.refl _ _⟩
   case round =>
    obtain ⟨i, hi, rfl, rfl, HG, hb⟩ := hrel
    have hzr := hb.size
    have hBr := below_step hB1 hb (by omega)
    have hnb : Tt.paidN (p.take i) ≤ i := Nat.le_trans List.countP_le_length (by rw [List.length_take]; omega)
    by_cases hil : i < p.length
    · have hii : (i : Int) < (p.length : Int) := by omega
      have hPr := hP.ext hBr
      obtain ⟨pb, po, hpe, hpb0⟩ := hP.form (by omega)
      subst hpe
      have hpb : pb < wr.heap.size := by have := hBr.size; omega
      have hcx := hPr.at hil
      have HTK := hide (show Tt.paidN (p.take (i + 1)) = Tt.paidN (p.take i) + (if p[i] = -1 then 0 else 1) by
       unfold Tt.paidN
       rw [take_snoc _ _ hil, List.countP_append]
       by_cases h : p[i] = -1 <;> simp [h])
      have hok := HOK.out i
      rw [getD_at p i hil] at hok
      have HVF0 := hide (HVA.out i hil)
      obtain ⟨x, hx⟩ : ∃ v, p[i] = v := ⟨_, rfl⟩
      rw [hx] at hcx HTK hok
      have HX := hide hx
      obtain ⟨nn, hnn⟩ : ∃ v, Tt.paidN (p.take i) = v := ⟨_, rfl⟩
      rw [hnn] at hnb HTK ⊢
      have HOKI := hide hok
      clear hx hnn hok
      by_cases hm1 : x = -1
      · have hxI : (x == -1) = true := by simp [hm1]
        have HN : Hid (Tt.paidN (p.take (i + 1)) = nn) := hide (by rw [HTK.out, if_pos hm1]; rfl)
        have HG2 : Hid (∀ j, j < i + 1 → oK j = true) := hide (fun j hj => by
         by_cases e : j = i
         · subst e; rw [HOKI.out]; simp [hm1]
         · exact HG.out j (by omega))
        clear HTK HOKI HX hm1
        go_wp2
        exact ⟨⟨i + 1, by omega, by go_num, by rw [HN.out], HG2, hb⟩, by simp [intOf]; omega⟩
      · have hxI : (x == -1) = false := by simp [hm1]
        have HN : Hid (Tt.paidN (p.take (i + 1)) = nn + 1) := hide (by rw [HTK.out, if_neg hm1])
        have HOK2 : Hid (oK i = (decide (0 ≤ x) && decide (x < (Cs.length : Int)) && soldI rs x && fN (Ts.getD i []) x.toNat && (List.range i).all fun k => decide (p.getD k (-1) ≠ x))) := hide (by rw [HOKI.out]; simp [hm1])
        have hir : i < rows.length := by rw [← HPL.out]; exact hil
        have hiT : i < Ts.length := by rw [HTL.out]; exact hir
        have hiI : (i : Int) < (rows.length : Int) := by omega
        have hTe : rows[i].2.1 = zs Ts[i] := by
         have h := congrArg (fun l => l[i]?) HTS.out
         simp only [List.getElem?_map, List.getElem?_eq_getElem hir, List.getElem?_eq_getElem hiT, Option.map_some] at h
         exact Option.some.inj h
        have hgd : Ts.getD i [] = Ts[i] := by rw [List.getD_eq_getElem?_getD, List.getElem?_eq_getElem hiT]; rfl
        obtain ⟨hTn, hTb⟩ := HTT.out _ (List.getElem_mem hiT)
        obtain ⟨T, hTT2⟩ : ∃ v, Ts[i] = v := ⟨_, rfl⟩
        have hok2 := HOK2.out
        rw [hgd] at hok2
        rw [hTT2] at hTe hTn hTb hok2
        have HOK3 := hide hok2
        have hYr := hT.ext hBr
        obtain ⟨yb, yo, hye, hyb, hyc⟩ := hYr.1.2 (by omega)
        have hcy := hyc i (cellL rows[i]) (by rw [List.getElem?_map, List.getElem?_eq_getElem hir]; rfl)
        have hYI := hYr.2 _ (List.getElem_mem hir)
        obtain ⟨⟨yA, yT, yC⟩, hrr⟩ : ∃ v, rows[i] = v := ⟨_, rfl⟩
        rw [hrr] at hcy hTe hYI
        dsimp only at hTe hYI
        subst hTe
        subst hye
        unfold cellL at hcy
        dsimp only at hcy
        rw [zs_len] at hcy
        have hDr : Rng wr D rs := Rd.ext hD hBr
        obtain ⟨so, hso⟩ : ∃ v, soldI rs x = v := ⟨_, rfl⟩
        have HWS := hide (fun w' (h : Rng w' D rs) => rWasSold_any D rs dc x w' h hl)
        rw [hso] at HWS
        have hok3 := HOK3.out
        rw [hso] at hok3
        have HOK4 := hide hok3
        have HTNN := hide hTn
        clear hgd hTT2 hrr hyc hYr hso hok2 hok3 HOKI HTK HOK2 HOK3 hTn
        by_cases c1 : x < 0
        · have HVF := hide (HVF0.out (by rw [HOK4.out]; have : ¬ 0 ≤ x := by omega
                                         simp [this]))
          have HFT : Hid (∀ w', I64 w' yA (zs T) → 0 = 0) := hide (fun _ _ => rfl)
          clear HOK4
          go_upto_region 10 with fail
          refine wp_region_grow (by kernel_rfl) (by kernel_rfl) ?_
          repeat (go_big_quiet_step (fail))
          refine wpQuiet_nil ?_
          intro w4 hb4
          replace hb4 := ex_below hb4
          go_wp2
          go_ret2
          exact gives_of (by rw [HVF.out]; rfl) (below_step hBr hb4 (by omega))
        · by_cases c2 : (Cs.length : Int) ≤ x
          · have HVF := hide (HVF0.out (by rw [HOK4.out]; have : ¬ x < (Cs.length : Int) := by omega
                                           simp [this]))
            clear HOK4
            go_upto_region 10 with fail
            refine wp_region_grow (by kernel_rfl) (by kernel_rfl) ?_
            repeat (go_big_quiet_step (fail))
            refine wpQuiet_nil ?_
            intro w4 hb4
            replace hb4 := ex_below hb4
            go_wp2
            go_ret2
            exact gives_of (by rw [HVF.out]; rfl) (below_step hBr hb4 (by omega))
          · obtain ⟨xn, rfl⟩ : ∃ xn : Nat, x = (xn : Nat) := ⟨x.toNat, by omega⟩
            have hxl : xn < Cs.length := by omega
            have hxI2 : (xn : Int) < (Cs.length : Int) := by omega
            cases so with
            | false =>
              have HVF := hide (HVF0.out (by rw [HOK4.out]; simp))
              clear HOK4
              go_upto_region 10 with fail
              refine wp_region_grow (by kernel_rfl) (by kernel_rfl) ?_
              repeat (go_big_quiet_step ((go_at_call 71; exact Gives.quiet (HWS.out _ (Rng.ext hDr (by (repeat (first | exact Below.refl _ _ | assumption | refine below_drewN ?_ _ | refine below_drew ?_ | refine below_gr ?_ ?_ _ | refine below_alloc ?_ ?_ _ | refine Below.setCell ?_ ?_ _ | refine below_step ?_ (by assumption) ?_ | omega | (simp only [zz] at *; omega)))))))))
              refine wpQuiet_nil ?_
              intro w4 hb4
              replace hb4 := ex_below hb4
              go_wp2
              go_ret2
              exact gives_of (by rw [HVF.out]; rfl) (below_step hBr hb4 (by omega))
            | true =>
              obtain ⟨ob, hobe, hob, hcell⟩ := own_at2 hO1 xn (Value.string (strW Cs[xn])) (by rw [List.getElem?_map, List.getElem?_map, List.getElem?_eq_getElem hxl]; rfl)
              subst hobe
              have hce := (hb.cell (p := ⟨ob, xn, none⟩) hob).trans hcell
              have hobr : ob < wr.heap.size := by omega
              obtain ⟨hc1, hc2⟩ := HCM.out _ (List.getElem_mem hxl)
              have hfx := HFN.out T xn hxl
              obtain ⟨cw, hcw⟩ : ∃ v, Cs[xn] = v := ⟨_, rfl⟩
              rw [hcw] at hce hc1 hc2 hfx
              have HFT := hide (fun w' (h : I64 w' yA (zs T)) => rFit_any yA T yC cw w' h (by rw [hc1, HTNN.out]) hTb (fun y hy => by have := hc2 y hy; omega) (by rw [HTNN.out]; omega))
              rw [← hfx] at HFT
              clear hcw hcell hc1 hc2 hfx
              obtain ⟨ft, hft⟩ : ∃ v, fN T xn = v := ⟨_, rfl⟩
              rw [hft] at HFT
              have hok5 := HOK4.out
              rw [Int.toNat_natCast, hft] at hok5
              have HOK5 := hide hok5
              clear hok5 HOK4 hft
              cases ft with
              | false =>
                have HVF := hide (HVF0.out (by rw [HOK5.out]; simp))
                clear HOK5
                go_upto_region 10 with fail
                refine wp_region_grow (by kernel_rfl) (by kernel_rfl) ?_
                repeat (go_big_quiet_step ((first | (go_at_call 71; exact Gives.quiet (HWS.out _ (Rng.ext hDr (by (repeat (first | exact Below.refl _ _ | assumption | refine below_drewN ?_ _ | refine below_drew ?_ | refine below_gr ?_ ?_ _ | refine below_alloc ?_ ?_ _ | refine Below.setCell ?_ ?_ _ | refine below_step ?_ (by assumption) ?_ | omega | (simp only [zz] at *; omega))))))) | (go_at_call 52; exact Gives.quiet (HFT.out _ (hYI.ext (by (repeat (first | exact Below.refl _ _ | assumption | refine below_drewN ?_ _ | refine below_drew ?_ | refine below_gr ?_ ?_ _ | refine below_alloc ?_ ?_ _ | refine Below.setCell ?_ ?_ _ | refine below_step ?_ (by assumption) ?_ | omega | (simp only [zz] at *; omega))))))))))
                refine wpQuiet_nil ?_
                intro w4 hb4
                replace hb4 := ex_below hb4
                go_wp2
                go_ret2
                exact gives_of (by rw [HVF.out]; rfl) (below_step hBr hb4 (by omega))
              | true =>
                have HOK6 : Hid (oK i = (List.range i).all fun k => decide (p.getD k (-1) ≠ (xn : Int))) := hide (by
                 rw [HOK5.out]
                 have e1 : decide ((0 : Int) ≤ (xn : Int)) = true := by simp
                 have e2 : decide ((xn : Int) < (Cs.length : Int)) = true := by simp; omega
                 rw [e1, e2]; simp)
                clear HOK5
                go_upto_region 10 with fail
                refine wp_region_grow (by kernel_rfl) (by kernel_rfl) ?_
                repeat (go_big_quiet_step ((first | (go_at_call 71; exact Gives.quiet (HWS.out _ (Rng.ext hDr (by (repeat (first | exact Below.refl _ _ | assumption | refine below_drewN ?_ _ | refine below_drew ?_ | refine below_gr ?_ ?_ _ | refine below_alloc ?_ ?_ _ | refine Below.setCell ?_ ?_ _ | refine below_step ?_ (by assumption) ?_ | omega | (simp only [zz] at *; omega))))))) | (go_at_call 52; exact Gives.quiet (HFT.out _ (hYI.ext (by (repeat (first | exact Below.refl _ _ | assumption | refine below_drewN ?_ _ | refine below_drew ?_ | refine below_gr ?_ ?_ _ | refine below_alloc ?_ ?_ _ | refine Below.setCell ?_ ?_ _ | refine below_step ?_ (by assumption) ?_ | omega | (simp only [zz] at *; omega))))))))))
                refine wpQuiet_nil ?_
                intro w4 hb4
                replace hb4 := ex_below hb4
                go_wp2
                have hb7 := below_step hb hb4 hzr
                clear hcx hPr hce hcy hYI hDr HWS HFT
                go_loopw [13] (fun kv wr => ∃ k : Nat, k ≤ i ∧ kv = .int .i64 (k : Nat) ∧ Hid (∀ j, j < k → p.getD j (-1) ≠ (xn : Int)) ∧ Below w1.heap.size w1 wr) (fun kv _ => i - (intOf kv).toNat)
                case atStart => exact ⟨0, Nat.zero_le _, rfl, hide (fun j hj => by omega), hb7⟩
                case round =>
                 obtain ⟨k, hk, rfl, HD, hb8⟩ := hrel
                 have hz8 := hb8.size
                 have hBs := below_step hB1 hb8 (by omega)
                 by_cases hki : k < i
                 · have hkiI : (k : Int) < (i : Int) := by omega
                   have hPs := hP.ext hBs
                   have hkp : k < p.length := by omega
                   have hkpI : (k : Int) < (p.length : Int) := by omega
                   have hca := hPs.at hkp
                   have hcb := hPs.at hil
                   have hpbs : pb < wr.heap.size := by have h1 := hBs.size; have h2 := hpb0; omega
                   rw [HX.out] at hcb
                   have HGK := hide (getD_at p k hkp)
                   obtain ⟨y, hy⟩ : ∃ v, p[k] = v := ⟨_, rfl⟩
                   rw [hy] at hca HGK
                   clear hy
                   by_cases hxy : y = (xn : Int)
                   · have HVF := hide (HVF0.out (by
                      rw [HOK6.out, List.all_eq_false]
                      exact ⟨k, List.mem_range.2 hki, by rw [HGK.out, hxy]; simp⟩))
                     have hxyI : (y == (xn : Int)) = true := by simp [hxy]
                     subst hxy
                     clear HOK6
                     go_upto_region 15 with fail
                     refine wp_region_grow (by kernel_rfl) (by kernel_rfl) ?_
                     repeat (go_big_quiet_step (fail))
                     refine wpQuiet_nil ?_
                     intro w9 hb9
                     replace hb9 := ex_below hb9
                     go_wp2
                     go_ret2
                     exact gives_of (by rw [HVF.out]; rfl) (below_step hBs hb9 (by omega))
                   · have hxyI : (y == (xn : Int)) = false := by simp [hxy]
                     have HD2 : Hid (∀ j, j < k + 1 → p.getD j (-1) ≠ (xn : Int)) := hide (fun j hj => by
                      by_cases e : j = k
                      · subst e; rw [HGK.out]; exact hxy
                      · exact HD.out j (by omega))
                     clear HD HGK
                     go_upto_region 15 with fail
                     refine wp_region_grow (by kernel_rfl) (by kernel_rfl) ?_
                     repeat (go_big_quiet_step (fail))
                     refine wpQuiet_nil ?_
                     intro w9 hb9
                     replace hb9 := ex_below hb9
                     go_wp2
                     exact ⟨⟨k + 1, by omega, by go_num, HD2, below_step hb8 hb9 hz8⟩, by simp [intOf]; omega⟩
                 · have hkiI : ¬ ((k : Int) < (i : Int)) := by omega
                   have HG2 : Hid (∀ j, j < i + 1 → oK j = true) := hide (fun j hj => by
                    by_cases e : j = i
                    · subst e
                      rw [HOK6.out, List.all_eq_true]
                      intro q hq
                      have := HD.out q (by have := List.mem_range.1 hq; omega)
                      simp only [decide_eq_true_eq]
                      exact this
                    · exact HG.out j (by omega))
                   clear HD HOK6
                   go_wp2
                   exact ⟨⟨i + 1, by omega, by go_num, by rw [HN.out]; go_num, HG2, hb8⟩, by simp [intOf]; omega⟩
    · have hii : ¬ ((i : Int) < (p.length : Int)) := by omega
      obtain rfl : i = p.length := by omega
      have HVF := hide (HVB.out (fun j hj => HG.out j hj))
      have hpn : Tt.paidN (p.take p.length) = Tt.paidN p := by rw [List.take_length]
      rw [hpn] at hnb ⊢
      clear hpn
      clear HG
      go_wp2
      go_ret2
      exact gives_of (by rw [HVF.out]; rfl) hBr
 · have hplI : ((p.length : Int) != (rows.length : Int)) = true := by simp; omega
   have HVF : Hid (V = .tuple #[.int .i64 0, .bool false]) := hide (by rw [← hV, if_neg (fun h => hpl h.1)])
   clear hV hpl
   go_enter Try.func44, Try.ntmps44
   go_upto_region 1 with fail
   obtain ⟨wa, hwa, hW, hX⟩ := boxed w #[.int .i64 (L : Nat), .int .i64 (K.length : Nat), .slice A K.length c, .int .i64 (rest : Nat)] 24
   rw [hwa]
   clear hwa
   replace hA := hA.ext hW
   have q0 := obj_at hX 0 _ rfl
   have q1 := obj_at hX 1 _ rfl
   have q2 := obj_at hX 2 _ rfl
   have q3 := obj_at hX 3 _ rfl
   have ql := obj_lt hX
   have hWs := hW.size
   go_wp2
   go_ret2
   exact gives_of (by rw [HVF.out]; rfl) hW
end Go.Proofs.Ytgjfejpibielaaa
