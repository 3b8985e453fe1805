/- Proved here: the reference: the sum of a word; the reference: all codes; the reference: which days are valid; the reference: words, and torn tickets, a part of the proofs about the ticket laws. Conditions: those that each theorem names, no others. -/
import Derived.Test.YtgjfejpibielaaaQ06
import Derived.Test.YtgjfejpibielaaaQ30
import Derived.WalkKit
import Derived.WalkSpells
import Derived.WalkLawsBesides
import Derived.Below
import Derived.Deep.QuietTactic
import Derived.BigQuiet
import Derived.Deep.Light
set_option linter.unusedSimpArgs false
set_option linter.unusedVariables false
namespace Go.Proofs.Ytgjfejpibielaaa
open Go.RowKit Go.Maps Go.Shelf
attribute [local go_sem] Oper.semAt_some World.cell?_setCell_far
set_option maxRecDepth 100000 in
set_option maxHeartbeats 2000000 in
theorem rChecks_any (L rest : Nat) (A : Option Addr) (K : List Nat) (c : Nat)(ws : List Nat) (w : World) (hd : OkD L rest K) (hA : I64 w A (zs K)) (hwl : ws.length = K.length) (hwL : ∀ x, x ∈ ws → x < L) : Calls Try.prog 51 #[.agg #[.int .i64 (L : Nat), .int .i64 (K.length : Nat), .slice A K.length c, .int .i64 (rest : Nat)], .string (strW ws)] w (Gives w (.bool (decide (Tt.sumW L K 0 ws = rest)))) := by
 have hn8 := hd.2.2.2.1
 have hL6 := hd.2.1
 have hL2 := hd.1
 have hK6 : Hid (∀ k, k ∈ K → k ≤ 6) := hide (fun k hk => by have := hd.2.2.2.2.1 k hk; omega)
 have hW6 : Hid (∀ c, c ∈ ws → c ≤ 6) := hide (fun x hx => by have := hwL x hx; omega)
 have HWL := hide hwL
 have hsz := strW_size ws
 obtain ⟨R, hR⟩ : ∃ v, decide (Tt.sumW L K 0 ws = rest) = v := ⟨_, rfl⟩
 have HR : Hid (decide (Tt.dotK K ws K.length % L = rest) = R) := hide (by rw [Tt.dotK_all K ws hwl.symm, ← Tt.sumW_dot (by omega) hwl.symm]; exact hR)
 rw [hR]
 have HWN := hide hwl
 clear hR hwL hd
 go_enter Try.func51, Try.ntmps51
 go_upto_region 1 with fail
 obtain ⟨wa, hwa, hW, hX⟩ := boxed w #[.int .i64 (L : Nat), .int .i64 (K.length : Nat), .slice A K.length c, .int .i64 (rest : Nat)] 24
 rw [hwa]
 clear hwa
 replace hA := hA.ext hW
 have q0 := obj_at hX 0 _ rfl
 have q1 := obj_at hX 1 _ rfl
 have q2 := obj_at hX 2 _ rfl
 have q3 := obj_at hX 3 _ rfl
 have ql := obj_lt hX
 have hWs := hW.size
 go_wp2
 go_loopw [5, 6] (fun sv iv wr => ∃ i : Nat, i ≤ K.length ∧ iv = .int .i64 (i : Nat) ∧ sv = .int .i64 (Tt.dotK K ws i : Nat) ∧ Below wa.heap.size wa wr) (fun _ iv _ => K.length - (intOf iv).toNat)
 case atStart => exact ⟨0, Nat.zero_le _, rfl, rfl, Below.refl _ _⟩
 case round =>
  obtain ⟨i, hi, rfl, rfl, hb⟩ := hrel
  have hzr := hb.size
  have hXr := hX.ext hb
  clear q0 q1 q2 q3 ql
  have q0 := obj_at hXr 0 _ rfl
  have q1 := obj_at hXr 1 _ rfl
  have q2 := obj_at hXr 2 _ rfl
  have q3 := obj_at hXr 3 _ rfl
  have ql := obj_lt hXr
  have hdl := Tt.dotK_le K ws hK6.out hW6.out i
  by_cases hlt : i < K.length
  · have hki : (i : Int) < (K.length : Int) := by omega
    have hiw : i < ws.length := by rw [HWN.out]; exact hlt
    have hIr := hA.ext hb
    obtain ⟨kb, ko, rfl, hkb⟩ := hIr.form (by rw [zs_len]; omega)
    have hck := hIr.at (k := i) (by rw [zs_len]; exact hlt)
    rw [zs_at K i hlt] at hck
    have hbS : i < (strW ws).size := by rw [hsz]; exact hiw
    have hbSI : (i : Int) < ((strW ws).size : Int) := by omega
    have hby := strW_at (ws := ws) (fun x hx => by have := HWL.out x hx; omega) i hiw
    have HDK := hide (Tt.dotK_succ K ws i hlt hiw)
    have hk6 := hK6.out _ (List.getElem_mem hlt)
    have hc6 := HWL.out _ (List.getElem_mem hiw)
    generalize K[i] = kx at *
    generalize ws[i] = cx at *
    have hbw : IntKind.u8.wrap ((cx : Int) + 97 - 97) = (cx : Int) := u8_letter2 cx (by omega)
    have hm : Hid (kx * cx ≤ 36) := hide (Nat.mul_le_mul hk6 (show cx ≤ 6 by omega))
    obtain ⟨mx, hmx⟩ : ∃ v, kx * cx = v := ⟨_, rfl⟩
    rw [hmx] at hm HDK
    have hm36 := hm.out
    have hmi : (kx : Int) * (cx : Int) = (mx : Int) := by rw [← hmx]; push_cast; rfl
    obtain ⟨D0, hD0⟩ : ∃ v, Tt.dotK K ws i = v := ⟨_, rfl⟩
    rw [hD0] at HDK hdl ⊢
    have hd3 : D0 ≤ 288 := by omega
    clear hmx hD0 hdl hm
    go_upto_region 5 with fail
    refine wp_region_grow (by kernel_rfl) (by kernel_rfl) ?_
    repeat (go_big_quiet_step (fail))
    refine wpQuiet_nil ?_
    intro w4 hb4
    replace hb4 := ex_below hb4
    go_wp2
    exact ⟨⟨i + 1, by omega, by go_num, by rw [HDK.out]; push_cast; rfl, below_step hb hb4 hzr⟩, by simp [intOf]; omega⟩
  · have hki : ¬ ((i : Int) < (K.length : Int)) := by omega
    obtain rfl : i = K.length := by omega
    obtain ⟨D0, hD0⟩ : ∃ v, Tt.dotK K ws K.length = v := ⟨_, rfl⟩
    rw [hD0] at HR hdl ⊢
    have hL0 : (L : Int) ≠ 0 := by omega
    have hLn : ¬ L = 0 := by omega
    have hrm2 : Int.tmod (D0 : Int) (L : Int) = ((D0 % L : Nat) : Int) := by rw [Int.tmod_eq_emod_of_nonneg (by omega)]; push_cast; rfl
    have hv6 : D0 % L < 6 := by have := Nat.mod_lt D0 (show 0 < L by omega); omega
    obtain ⟨v, hv⟩ : ∃ v, D0 % L = v := ⟨_, rfl⟩
    rw [hv] at hrm2 hv6 HR
    have hw4 : IntKind.i64.wrap ((v : Nat) : Int) = ((v : Nat) : Int) := by rw [IntKind.wrap_i64]; omega
    have heq : (((v : Nat) : Int) == (rest : Int)) = R := by rw [← HR.out]; by_cases h : v = rest <;> simp [h]; omega
    clear hv
    clear hD0
    go_upto_region 6 with fail
    refine wp_region_grow (by kernel_rfl) (by kernel_rfl) ?_
    repeat (go_big_quiet_step (fail))
    refine wpQuiet_nil ?_
    intro w4 hb4
    replace hb4 := ex_below hb4
    go_wp2
    go_ret
    exact gives_of rfl (below_step hW (below_step hb hb4 hzr) hWs)
end Go.Proofs.Ytgjfejpibielaaa
namespace Go.Proofs.Ytgjfejpibielaaa
open Go.RowKit Go.Maps Go.Shelf
attribute [local go_sem] Oper.semAt_some World.cell?_setCell_far
set_option maxRecDepth 100000 in
set_option maxHeartbeats 2000000 in
theorem rCodes_any (L rest : Nat) (A : Option Addr) (K : List Nat) (c : Nat)(w : World) (hd : OkD L rest K) (hA : I64 w A (zs K)) : Calls Try.prog 59 #[.agg #[.int .i64 (L : Nat), .int .i64 (K.length : Nat), .slice A K.length c, .int .i64 (rest : Nat)]] w (GivesS w ((Tt.codes L rest K).map strW)) := by
 obtain ⟨ti, ih, iz, is, ib⟩ := info_parts infoS
 have hn8 := hd.2.2.2.1
 have hL6 := hd.2.1
 have hwl6 := Tt.wordsE_small hL6 hn8
 have HME := hide (fun (x : List Nat) (h : x ∈ (Tt.wordsE L K.length)) => Tt.wordsE_mem h)
 have HCO : Hid (Tt.codes L rest K = ((Tt.wordsE L K.length)).filter (fun w => decide (Tt.sumW L K 0 w = rest))) := hide (by rw [Tt.codes_words, Tt.wordsE_eq])
 have HWD := hide (fun w' (h : I64 w' A (zs K)) => rWords_any L rest A K c w' hd h)
 have HCK := hide (fun ws w' (h : I64 w' A (zs K)) (h1 : ws.length = K.length) (h2 : ∀ x, x ∈ ws → x < L) => rChecks_any L rest A K c ws w' hd h h1 h2)
 clear hd
 go_enter Try.func59, Try.ntmps59
 go_upto_region 1 with fail
 obtain ⟨wa, hwa, hW, hX⟩ := boxed w #[.int .i64 (L : Nat), .int .i64 (K.length : Nat), .slice A K.length c, .int .i64 (rest : Nat)] 24
 rw [hwa]
 clear hwa
 replace hA := hA.ext hW
 have q0 := obj_at hX 0 _ rfl
 have q1 := obj_at hX 1 _ rfl
 have q2 := obj_at hX 2 _ rfl
 have q3 := obj_at hX 3 _ rfl
 have ql := obj_lt hX
 have hWs := hW.size
 go_wp2_with (go_at_call 81; refine (HWD.out _ hA).mono ?_; rintro e w1 ⟨A1, c1, rfl, hb1, hO1⟩; have hz1 := hb1.size; have hX1 := hX.ext hb1)
 obtain ⟨W, hWW⟩ : ∃ v, (Tt.wordsE L K.length) = v := ⟨_, rfl⟩
 rw [hWW] at hwl6 HME HCO hO1 ⊢
 have hml : (W.map strW).length = W.length := List.length_map ..
 rw [hml] at hO1
 clear hml hWW
 go_wp2
 go_loopw [4, 5] (fun o iv wr => ∃ (i : Nat) (A2 : Option Addr) (m2 c2 : Nat), i ≤ W.length ∧ iv = .int .i64 (i : Nat) ∧ o = .slice A2 m2 c2 ∧ Hid (m2 = ((W.take i).filter (fun w => decide (Tt.sumW L K 0 w = rest))).length) ∧ wr.ownsRow w1.heap.size 9 1 (.slice A2 m2 c2) m2 ((((W.take i).filter (fun w => decide (Tt.sumW L K 0 w = rest))).map strW).map Value.string) ∧ Below w1.heap.size w1 wr) (fun _ iv _ => W.length - (intOf iv).toNat)
 case atStart => exact ⟨0, none, 0, 0, Nat.zero_le _, rfl, rfl, rfl, World.ownsRow_nil _ _ _ _, Below.refl _ _⟩
 case round =>
  obtain ⟨i, A2, m2, c2, hi, rfl, rfl, HM, hO, hb⟩ := hrel
  have hzr := hb.size
  have hXr := hX1.ext hb
  clear q0 q1 q2 q3 ql
  have q0 := obj_at hXr 0 _ rfl
  have q1 := obj_at hXr 1 _ rfl
  have q2 := obj_at hXr 2 _ rfl
  have q3 := obj_at hXr 3 _ rfl
  have ql := obj_lt hXr
  by_cases hlt : i < W.length
  · have hki : (i : Int) < (W.length : Int) := by omega
    obtain ⟨ob, rfl, hob, hcell⟩ := own_at2 hO1 i (Value.string (strW W[i])) (by rw [List.getElem?_map, List.getElem?_map, List.getElem?_eq_getElem hlt]; rfl)
    have hce := (hb.cell (p := ⟨ob, i, none⟩) hob).trans hcell
    have hobr : ob < wr.heap.size := by omega
    obtain ⟨hm1, hm2⟩ := HME.out _ (List.getElem_mem hlt)
    have HTK := hide (take_snoc W i hlt)
    have hml : m2 ≤ 1679616 := by
     rw [HM.out]
     have h1 := List.length_filter_le (fun w => decide (Tt.sumW L K 0 w = rest)) (W.take i)
     have h2 : (W.take i).length ≤ W.length := by rw [List.length_take]; omega
     omega
    obtain ⟨x, hx⟩ : ∃ v, W[i] = v := ⟨_, rfl⟩
    rw [hx] at hce HTK hm1 hm2
    have HCX := hide (fun w' (h : I64 w' A (zs K)) => HCK.out x w' h hm1 hm2)
    obtain ⟨bx, hbx⟩ : ∃ v, decide (Tt.sumW L K 0 x = rest) = v := ⟨_, rfl⟩
    have HBX := hide hbx
    rw [hbx] at HCX
    clear hx hbx hcell hm1 hm2
    cases bx with
    | true =>
      have HF : Hid ((W.take (i + 1)).filter (fun w => decide (Tt.sumW L K 0 w = rest)) = (W.take i).filter (fun w => decide (Tt.sumW L K 0 w = rest)) ++ [x]) := hide (by rw [HTK.out, List.filter_append]; congr 1; rw [List.filter_cons, if_pos HBX.out]; rfl)
      clear HTK
      go_upto_region 6 with fail
      refine wp_region_grow (by kernel_rfl) (by kernel_rfl) ?_
      repeat (go_big_quiet_step ((go_at_call 51; exact Gives.quiet (HCX.out _ (((hA.ext hb1).ext hb).ext (by (repeat (first | exact Below.refl _ _ | assumption | refine below_drewN ?_ _ | refine below_drew ?_ | refine below_gr ?_ ?_ _ | refine below_alloc ?_ ?_ _ | refine Below.setCell ?_ ?_ _ | refine below_step ?_ (by assumption) ?_ | omega | (simp only [zz] at *; omega)))))))))
      refine wpQuiet_nil ?_
      intro w4 hb4
      replace hb4 := ex_below hb4
      have hce4 := (hb4.cell (p := ⟨ob, i, none⟩) hobr).trans hce
      have hz4 := hb4.size
      have hob4 : ob < w4.heap.size := by omega
      go_wp2_with (first
 | (at_builtin; refine wpList_app _ rfl (.tmp 20) (.tmp 25) 87 rfl (w1.heap.size) 9 ti _ 1 16 und87 ih iz is ib rfl (by decide) ((.slice A2 m2 c2)) (m2) (_) rfl ((own_ext hO hb4).alloc _) (some ⟨w4.heap.size, 0, none⟩) (1) (1) ([.string (strW x)]) rfl (rd_new1 _ _ _) (by simp [Value.oneCell']) (by unfold maxLen; omega) (by omega) (by (first | omega | (simp only [zz]; omega) | (simp only [zz] at *; omega) | (simp; done) | (simp; omega))) ?_; intro A7 c7 u7 hown7 hgr7))
      exact ⟨⟨i + 1, A7, m2 + 1, c7, by omega, by go_num, rfl, hide (by rw [HF.out, List.length_append, ← HM.out]; rfl), by rw [HF.out, List.map_append, List.map_append]; exact hown7, gb_below (below_alloc (below_step hb hb4 hzr) (by omega) _) hgr7 (by simp; omega) (fun r e => (hO.lt r e).1)⟩, by simp [intOf]; omega⟩
    | false =>
      have HF : Hid ((W.take (i + 1)).filter (fun w => decide (Tt.sumW L K 0 w = rest)) = (W.take i).filter (fun w => decide (Tt.sumW L K 0 w = rest))) := hide (by rw [HTK.out, List.filter_append, List.filter_cons, if_neg (by rw [HBX.out]; simp)]; simp)
      clear HTK
      go_upto_region 6 with fail
      refine wp_region_grow (by kernel_rfl) (by kernel_rfl) ?_
      repeat (go_big_quiet_step ((go_at_call 51; exact Gives.quiet (HCX.out _ (((hA.ext hb1).ext hb).ext (by (repeat (first | exact Below.refl _ _ | assumption | refine below_drewN ?_ _ | refine below_drew ?_ | refine below_gr ?_ ?_ _ | refine below_alloc ?_ ?_ _ | refine Below.setCell ?_ ?_ _ | refine below_step ?_ (by assumption) ?_ | omega | (simp only [zz] at *; omega)))))))))
      refine wpQuiet_nil ?_
      intro w4 hb4
      replace hb4 := ex_below hb4
      go_wp2
      exact ⟨⟨i + 1, A2, m2, c2, by omega, by go_num, rfl, hide (by rw [HF.out]; exact HM.out), by rw [HF.out]; exact own_ext hO hb4, below_step hb hb4 hzr⟩, by simp [intOf]; omega⟩
  · have hki : ¬ ((i : Int) < (W.length : Int)) := by omega
    obtain rfl : i = W.length := by omega
    have hcl : (W.take W.length).filter (fun w => decide (Tt.sumW L K 0 w = rest)) = Tt.codes L rest K := by rw [List.take_length, HCO.out]
    rw [hcl] at hO HM
    have hm2 : m2 = ((Tt.codes L rest K).map strW).length := by rw [List.length_map]; exact HM.out
    have HM2 := hide hm2
    clear hcl HM hm2
    go_wp2
    go_ret
    exact ⟨A2, c2, by rw [← HM2.out]; rfl, below_step (below_step hW hb1 hWs) hb (by omega), by rw [← HM2.out]; exact own_mono hO (by omega)⟩
end Go.Proofs.Ytgjfejpibielaaa
namespace Go.Proofs.Ytgjfejpibielaaa
open Go.RowKit Go.Maps Go.Shelf
attribute [local go_sem] Oper.semAt_some World.cell?_setCell_far
set_option maxRecDepth 100000 in
set_option maxHeartbeats 4000000 in
theorem rCheckDay_any (L n : Int) (A : Option Addr) (K : List Int) (c : Nat) (r : Int) (w : World) (hA : I64 w A K) (hx : K.length ≤ 1000) : Calls Try.prog 25 #[.agg #[.int .i64 L, .int .i64 n, .slice A K.length c, .int .i64 r]] w (Gives w (.int .i64 (chkDay L n K r))) := by
 obtain ⟨e0, he0⟩ : ∃ v, chkDay L n K r = v := ⟨_, rfl⟩
 have HE := hide he0
 rw [he0]
 clear he0
 have hL1 : withinB 2 6 [L] = (!decide (L < 2) && !decide (6 < L)) := by unfold withinB outB; simp
 have hn1 : withinB 2 8 [n] = (!decide (n < 2) && !decide (8 < n)) := by unfold withinB outB; simp
 by_cases c1 : L < 2
 · have c1d := c1
   have hE : e0 = 2 := by
    rw [← HE.out]
    unfold chkDay
    rw [hL1, hn1, if_pos (by simp; omega)]
   subst hE
   clear hL1 hn1 HE
   go_enter Try.func25, Try.ntmps25
   go_upto_region 1 with fail
   obtain ⟨wa, hwa, hW, hX⟩ := boxed w #[.int .i64 L, .int .i64 n, .slice A K.length c, .int .i64 r] 24
   rw [hwa]
   clear hwa
   replace hA := hA.ext hW
   have q0 := obj_at hX 0 _ rfl
   have q1 := obj_at hX 1 _ rfl
   have q2 := obj_at hX 2 _ rfl
   have q3 := obj_at hX 3 _ rfl
   have ql := obj_lt hX
   have hWs := hW.size
   go_wp2
   go_ret
   exact gives_of rfl hW
 by_cases c2 : 6 < L
 · have c1d := c1
   have hE : e0 = 2 := by
    rw [← HE.out]
    unfold chkDay
    rw [hL1, hn1, if_pos (by simp; omega)]
   subst hE
   clear hL1 hn1 HE
   go_enter Try.func25, Try.ntmps25
   go_upto_region 1 with fail
   obtain ⟨wa, hwa, hW, hX⟩ := boxed w #[.int .i64 L, .int .i64 n, .slice A K.length c, .int .i64 r] 24
   rw [hwa]
   clear hwa
   replace hA := hA.ext hW
   have q0 := obj_at hX 0 _ rfl
   have q1 := obj_at hX 1 _ rfl
   have q2 := obj_at hX 2 _ rfl
   have q3 := obj_at hX 3 _ rfl
   have ql := obj_lt hX
   have hWs := hW.size
   go_wp2
   go_ret
   exact gives_of rfl hW
 by_cases c3 : n < 2
 · have c1d := c1
   have hE : e0 = 2 := by
    rw [← HE.out]
    unfold chkDay
    rw [hL1, hn1, if_pos (by simp; omega)]
   subst hE
   clear hL1 hn1 HE
   go_enter Try.func25, Try.ntmps25
   go_upto_region 1 with fail
   obtain ⟨wa, hwa, hW, hX⟩ := boxed w #[.int .i64 L, .int .i64 n, .slice A K.length c, .int .i64 r] 24
   rw [hwa]
   clear hwa
   replace hA := hA.ext hW
   have q0 := obj_at hX 0 _ rfl
   have q1 := obj_at hX 1 _ rfl
   have q2 := obj_at hX 2 _ rfl
   have q3 := obj_at hX 3 _ rfl
   have ql := obj_lt hX
   have hWs := hW.size
   go_wp2
   go_ret
   exact gives_of rfl hW
 by_cases c4 : 8 < n
 · have c1d := c1
   have hE : e0 = 2 := by
    rw [← HE.out]
    unfold chkDay
    rw [hL1, hn1, if_pos (by simp; omega)]
   subst hE
   clear hL1 hn1 HE
   go_enter Try.func25, Try.ntmps25
   go_upto_region 1 with fail
   obtain ⟨wa, hwa, hW, hX⟩ := boxed w #[.int .i64 L, .int .i64 n, .slice A K.length c, .int .i64 r] 24
   rw [hwa]
   clear hwa
   replace hA := hA.ext hW
   have q0 := obj_at hX 0 _ rfl
   have q1 := obj_at hX 1 _ rfl
   have q2 := obj_at hX 2 _ rfl
   have q3 := obj_at hX 3 _ rfl
   have ql := obj_lt hX
   have hWs := hW.size
   go_wp2
   go_ret
   exact gives_of rfl hW
 have hLb : 2 ≤ L ∧ L ≤ 6 := by omega
 have hnb : 2 ≤ n ∧ n ≤ 8 := by omega
 have hW1 : (withinB 2 6 [L] && withinB 2 8 [n]) = true := by rw [hL1, hn1]; simp [c1, c2, c3, c4]
 clear hL1 hn1
 by_cases c5 : (K.length : Int) = n
 · have c5I : ((K.length : Int) != n) = false := by simp [c5]
   have c5J : ((K.length : Int) == n) = true := by simp [c5]
   have HE2 : Hid (e0 = if (withinB 0 (L - 1) K && withinB 0 (L - 1) [r]) = false then 3 else 0) := hide (by
    rw [← HE.out]
    unfold chkDay
    rw [hW1, if_neg (by simp), if_neg (by simp [c5])])
   clear HE hW1
   go_enter Try.func25, Try.ntmps25
   go_upto_region 1 with fail
   obtain ⟨wa, hwa, hW, hX⟩ := boxed w #[.int .i64 L, .int .i64 n, .slice A K.length c, .int .i64 r] 24
   rw [hwa]
   clear hwa
   replace hA := hA.ext hW
   have q0 := obj_at hX 0 _ rfl
   have q1 := obj_at hX 1 _ rfl
   have q2 := obj_at hX 2 _ rfl
   have q3 := obj_at hX 3 _ rfl
   have ql := obj_lt hX
   have hWs := hW.size
   go_wp2
   go_loopw [3] (fun iv wr => ∃ k : Nat, k ≤ K.length ∧ iv = .int .i64 (k : Nat) ∧ Hid (∀ j, (h : j < K.length) → j < k → 0 ≤ K[j] ∧ K[j] < L) ∧ Below wa.heap.size wa wr) (fun iv _ => K.length - (intOf iv).toNat)
   case atStart => exact ⟨0, Nat.zero_le _, rfl, hide (fun j h hj => by omega), Below.refl _ _⟩
   case round =>
    obtain ⟨k, hk, rfl, HG, hb⟩ := hrel
    have hzr := hb.size
    have hXr := hX.ext hb
    clear q0 q1 q2 q3 ql
    have q0 := obj_at hXr 0 _ rfl
    have q1 := obj_at hXr 1 _ rfl
    have q2 := obj_at hXr 2 _ rfl
    have q3 := obj_at hXr 3 _ rfl
    have ql := obj_lt hXr
    have hBr := below_step hW hb hWs
    by_cases hlt : k < K.length
    · have hki : (k : Int) < (K.length : Int) := by omega
      have hIr := hA.ext hb
      obtain ⟨kb, ko, rfl, hkb⟩ := hIr.form (by omega)
      have hck := hIr.at hlt
      have hbad : (K[k] < 0 ∨ L ≤ K[k]) → e0 = 3 := fun h => by
       rw [HE2.out, if_pos]
       have : withinB 0 (L - 1) K = false := by
        unfold withinB
        rw [Bool.not_eq_false', List.any_eq_true]
        exact ⟨K[k], List.getElem_mem hlt, by unfold outB; simp; omega⟩
       rw [this]; rfl
      have HBD := hide hbad
      have hgd : (0 ≤ K[k] ∧ K[k] < L) → ∀ j, (h : j < K.length) → j < k + 1 → 0 ≤ K[j] ∧ K[j] < L := fun h j hj hjk => by
       by_cases e : j = k
       · subst e; exact h
       · exact HG.out j hj (by omega)
      have HGD := hide hgd
      clear hbad hgd
      generalize K[k] = x at *
      by_cases d1 : x < 0
      · have hE : e0 = 3 := HBD.out (.inl d1)
        have HEE := hide hE
        clear HBD HGD hE
        go_upto_region 8 with fail
        refine wp_region_grow (by kernel_rfl) (by kernel_rfl) ?_
        repeat (go_big_quiet_step (fail))
        refine wpQuiet_nil ?_
        intro w4 hb4
        replace hb4 := ex_below hb4
        go_wp2
        go_ret
        exact gives_of (by rw [HEE.out]; rfl) (below_step hBr hb4 (by omega))
      · by_cases d2 : L ≤ x
        · have hE : e0 = 3 := HBD.out (.inr d2)
          have HEE := hide hE
          clear HBD HGD hE
          go_upto_region 8 with fail
          refine wp_region_grow (by kernel_rfl) (by kernel_rfl) ?_
          repeat (go_big_quiet_step (fail))
          refine wpQuiet_nil ?_
          intro w4 hb4
          replace hb4 := ex_below hb4
          go_wp2
          go_ret
          exact gives_of (by rw [HEE.out]; rfl) (below_step hBr hb4 (by omega))
        · have HGN := hide (HGD.out ⟨by omega, by omega⟩)
          clear HBD HGD
          go_upto_region 8 with fail
          refine wp_region_grow (by kernel_rfl) (by kernel_rfl) ?_
          repeat (go_big_quiet_step (fail))
          refine wpQuiet_nil ?_
          intro w4 hb4
          replace hb4 := ex_below hb4
          go_wp2
          exact ⟨⟨k + 1, by omega, by go_num, HGN, below_step hb hb4 hzr⟩, by simp [intOf]; omega⟩
    · have hki : ¬ ((k : Int) < (K.length : Int)) := by omega
      have hall : withinB 0 (L - 1) K = true := by
       unfold withinB
       rw [Bool.not_eq_true', List.any_eq_false]
       intro y hy
       obtain ⟨j, hj, rfl⟩ := List.getElem_of_mem hy
       have := HG.out j hj (by omega)
       unfold outB
       simp; omega
      have hE3 : e0 = if (!decide (r < 0) && !decide (L - 1 < r)) = false then 3 else 0 := by
       rw [HE2.out, hall]
       unfold withinB outB
       simp
      have HE3 := hide hE3
      clear hall hE3 HE2 HG
      by_cases d1 : r < 0
      · have HEE : Hid (e0 = 3) := hide (by rw [HE3.out, if_pos (by simp [d1])])
        clear HE3
        go_wp2
        go_ret
        exact gives_of (by rw [HEE.out]; rfl) hBr
      · by_cases d2 : L ≤ r
        · have HEE : Hid (e0 = 3) := hide (by rw [HE3.out, if_pos (by simp; omega)])
          clear HE3
          go_wp2
          go_ret
          exact gives_of (by rw [HEE.out]; rfl) hBr
        · have HEE : Hid (e0 = 0) := hide (by rw [HE3.out, if_neg (by simp; omega)])
          clear HE3
          go_wp2
          go_ret
          exact gives_of (by rw [HEE.out]; rfl) hBr
 · have c5I : ((K.length : Int) != n) = true := by simp [c5]
   have hE : e0 = 15 := by
    rw [← HE.out]
    unfold chkDay
    rw [hW1, if_neg (by simp), if_pos c5]
   subst hE
   clear HE hW1
   go_enter Try.func25, Try.ntmps25
   go_upto_region 1 with fail
   obtain ⟨wa, hwa, hW, hX⟩ := boxed w #[.int .i64 L, .int .i64 n, .slice A K.length c, .int .i64 r] 24
   rw [hwa]
   clear hwa
   replace hA := hA.ext hW
   have q0 := obj_at hX 0 _ rfl
   have q1 := obj_at hX 1 _ rfl
   have q2 := obj_at hX 2 _ rfl
   have q3 := obj_at hX 3 _ rfl
   have ql := obj_lt hX
   have hWs := hW.size
   go_wp2
   go_ret
   exact gives_of rfl hW
end Go.Proofs.Ytgjfejpibielaaa
namespace Go.Proofs.Ytgjfejpibielaaa
open Go.RowKit Go.Maps Go.Shelf
attribute [local go_sem] Oper.semAt_some World.cell?_setCell_far
set_option maxRecDepth 100000 in
set_option maxHeartbeats 4000000 in
theorem rIsWord_any (L rest : Nat) (A : Option Addr) (K : List Nat) (c : Nat)(s : ByteArray) (w : World) (hd : OkD L rest K) (hA : I64 w A (zs K)) (hs : s.size ≤ 1000) : Calls Try.prog 50 #[.agg #[.int .i64 (L : Nat), .int .i64 (K.length : Nat), .slice A K.length c, .int .i64 (rest : Nat)], .string s] w (Gives w (.bool (isW L K.length s))) := by
 have hL6 := hd.2.1
 obtain ⟨R, hR⟩ : ∃ R, isW L K.length s = R := ⟨_, rfl⟩
 have HR := hide hR
 rw [hR]
 clear hR
 go_enter Try.func50, Try.ntmps50
 go_upto_region 1 with fail
 obtain ⟨wa, hwa, hW, hX⟩ := boxed w #[.int .i64 (L : Nat), .int .i64 (K.length : Nat), .slice A K.length c, .int .i64 (rest : Nat)] 24
 rw [hwa]
 clear hwa
 replace hA := hA.ext hW
 have q0 := obj_at hX 0 _ rfl
 have q1 := obj_at hX 1 _ rfl
 have q2 := obj_at hX 2 _ rfl
 have q3 := obj_at hX 3 _ rfl
 have ql := obj_lt hX
 have hWs := hW.size
 go_wp2
 go_loopw [5] (fun iv wr => ∃ k : Nat, k ≤ s.size ∧ iv = .int .i64 (k : Nat) ∧ Hid (R = (decide (s.size = K.length) && (s.data.toList.drop k).all (okB L))) ∧ Below wa.heap.size wa wr) (fun iv _ => s.size - (intOf iv).toNat)
 case atStart => exact ⟨0, Nat.zero_le _, rfl, hide (by rw [← HR.out]; rfl), Below.refl _ _⟩
 case round =>
  obtain ⟨k, hk, rfl, HQ, hb⟩ := hrel
  have hzr := hb.size
  have hBr := below_step hW hb hWs
  have hXr := hX.ext hb
  clear q0 q1 q2 q3 ql
  have q0 := obj_at hXr 0 _ rfl
  have q1 := obj_at hXr 1 _ rfl
  have q2 := obj_at hXr 2 _ rfl
  have q3 := obj_at hXr 3 _ rfl
  have ql := obj_lt hXr
  by_cases hlt : k < s.size
  · have hki : (k : Int) < (s.size : Int) := by omega
    have hkl : k < s.data.toList.length := by simpa using hlt
    have hdr : s.data.toList.drop k = s[k] :: s.data.toList.drop (k + 1) := by rw [List.drop_eq_getElem_cons hkl]; rfl
    have hst : (s.data.toList.drop k).all (okB L) = ((decide (97 ≤ s[k].toNat) && decide (s[k].toNat < 97 + L)) && (s.data.toList.drop (k + 1)).all (okB L)) := by rw [hdr]; rfl
    have HST := hide hst
    have hu := s[k].toNat_lt
    clear hdr hst
    obtain ⟨b, hsb⟩ : ∃ v, s[k].toNat = v := ⟨_, rfl⟩
    rw [hsb] at HST hu
    by_cases h97 : b < 97
    · have h97I : (b : Int) < 97 := by omega
      have hRf : Hid (R = false) := hide (by rw [HQ.out, HST.out]; simp; omega)
      clear h97 hu
      go_upto_region 4 with fail
      refine wp_region_grow (by kernel_rfl) (by kernel_rfl) ?_
      repeat (go_big_quiet_step (fail))
      refine wpQuiet_nil ?_
      intro w4 hb4
      replace hb4 := ex_below hb4
      go_wp2
      go_ret
      exact gives_of (by rw [hRf.out]; rfl) (below_step hBr hb4 (by omega))
    · have h97I : ¬ ((b : Int) < 97) := by omega
      have hbw : IntKind.u8.wrap ((b : Int) - 97) = ((b - 97 : Nat) : Int) := u8_sub b hu (by omega)
      by_cases hbl : b < 97 + L
      · have hbI : ¬ ((L : Int) ≤ ((b - 97 : Nat) : Int)) := by omega
        have HQ2 : Hid (R = (decide (s.size = K.length) && (s.data.toList.drop (k + 1)).all (okB L))) := hide (by
         rw [HQ.out, HST.out]
         have e1 : decide (97 ≤ b) = true := by simp; omega
         have e2 : decide (b < 97 + L) = true := by simp [hbl]
         rw [e1, e2]; rfl)
        clear h97 hbl
        go_upto_region 4 with fail
        refine wp_region_grow (by kernel_rfl) (by kernel_rfl) ?_
        repeat (go_big_quiet_step (fail))
        refine wpQuiet_nil ?_
        intro w4 hb4
        replace hb4 := ex_below hb4
        go_wp2
        exact ⟨⟨k + 1, by omega, by go_num, HQ2, below_step hb hb4 hzr⟩, by simp [intOf]; omega⟩
      · have hbI : (L : Int) ≤ ((b - 97 : Nat) : Int) := by omega
        have hRf : Hid (R = false) := hide (by rw [HQ.out, HST.out]; simp [hbl])
        clear h97 hbl
        go_upto_region 4 with fail
        refine wp_region_grow (by kernel_rfl) (by kernel_rfl) ?_
        repeat (go_big_quiet_step (fail))
        refine wpQuiet_nil ?_
        intro w4 hb4
        replace hb4 := ex_below hb4
        go_wp2
        go_ret
        exact gives_of (by rw [hRf.out]; rfl) (below_step hBr hb4 (by omega))
  · have hki : ¬ ((k : Int) < (s.size : Int)) := by omega
    have hRl : Hid (R = decide (s.size = K.length)) := hide (by rw [HQ.out, List.drop_eq_nil_of_le (by rw [Array.length_toList]; exact Nat.le_of_not_lt hlt)]; simp)
    have heq : ((s.size : Int) == (K.length : Int)) = R := by rw [hRl.out]; by_cases h : s.size = K.length <;> simp [h]; omega
    clear HQ
    go_wp2
    go_ret
    exact gives_of rfl hBr
set_option maxRecDepth 100000 in
set_option maxHeartbeats 4000000 in
theorem rCheckTorn_any (L rest : Nat) (A : Option Addr) (K : List Nat) (c : Nat)(Y : Option Addr) (torn : List Int) (yc : Nat) (w : World) (hd : OkD L rest K) (hA : I64 w A (zs K)) (hY : I64 w Y torn) : Calls Try.prog 79 #[.agg #[.int .i64 (L : Nat), .int .i64 (K.length : Nat), .slice A K.length c, .int .i64 (rest : Nat)], .slice Y torn.length yc] w (Gives w (.int .i64 (chk1 L K.length torn))) := by
 have hn8 := hd.2.2.2.1
 have hL6 := hd.2.1
 obtain ⟨R, hR⟩ : ∃ R, chk1 L K.length torn = R := ⟨_, rfl⟩
 have HR := hide hR
 rw [hR]
 clear hR
 have hp0 := two_pow L hd.2.1
 obtain ⟨g, hg⟩ : ∃ g, 2 ^ L = g := ⟨_, rfl⟩
 have HG := hide hg
 rw [hg] at hp0
 have hs1 : wrap64 ((2 : Int) ^ L) = (g : Int) := by
  have e : ((2 : Int) ^ L) = ((2 ^ L : Nat) : Int) := (by push_cast; rfl)
  unfold wrap64
  rw [e, hg]
  omega
 have HS1 := hide hs1
 have HS2 : Hid (IntKind.i64.wrap ((2 : Int) ^ L) = (g : Int)) := hide (by have e : ((2 : Int) ^ L) = ((2 ^ L : Nat) : Int) := (by push_cast; rfl)
                                                                           rw [IntKind.wrap_i64, e, hg]; omega)
 clear hg hs1
 by_cases hlen : torn.length = K.length
 · have hlenI : ((torn.length : Int) != (K.length : Int)) = false := by simp; omega
   have HR2 : Hid (R = if withinB 1 ((g : Int) - 1) torn = false then 3 else 0) := hide (by rw [← HR.out]; unfold chk1; rw [if_neg (by omega), HG.out])
   have HLEN := hide hlen
   have htl : torn.length ≤ 8 := by omega
   clear HR hlen
   go_enter Try.func79, Try.ntmps79
   go_upto_region 1 with fail
   obtain ⟨wa, hwa, hW, hX⟩ := boxed w #[.int .i64 (L : Nat), .int .i64 (K.length : Nat), .slice A K.length c, .int .i64 (rest : Nat)] 24
   rw [hwa]
   clear hwa
   replace hA := hA.ext hW
   have q0 := obj_at hX 0 _ rfl
   have q1 := obj_at hX 1 _ rfl
   have q2 := obj_at hX 2 _ rfl
   have q3 := obj_at hX 3 _ rfl
   have ql := obj_lt hX
   have hWs := hW.size
   go_wp2
   go_loopw [5] (fun iv wr => ∃ k : Nat, k ≤ torn.length ∧ iv = .int .i64 (k : Nat) ∧ Hid (R = if withinB 1 ((g : Int) - 1) (torn.drop k) = false then 3 else 0) ∧ Below wa.heap.size wa wr) (fun iv _ => torn.length - (intOf iv).toNat)
   case atStart => exact ⟨0, Nat.zero_le _, rfl, hide HR2.out, Below.refl _ _⟩
   case round =>
    obtain ⟨k, hk, rfl, HQ, hb⟩ := hrel
    have hzr := hb.size
    have hBr := below_step hW hb hWs
    have hXr := hX.ext hb
    clear q0 q1 q2 q3 ql
    have q0 := obj_at hXr 0 _ rfl
    have q1 := obj_at hXr 1 _ rfl
    have q2 := obj_at hXr 2 _ rfl
    have q3 := obj_at hXr 3 _ rfl
    have ql := obj_lt hXr
    by_cases hlt : k < torn.length
    · have hki : (k : Int) < (torn.length : Int) := by omega
      have hIr := (hY.ext hW).ext hb
      obtain ⟨yb, yo, rfl, hyb⟩ := hIr.form (by omega)
      have hcy := hIr.at hlt
      have hst : withinB 1 ((g : Int) - 1) (torn.drop k) = ((!decide (torn[k] < 1) && !decide ((g : Int) - 1 < torn[k])) && withinB 1 ((g : Int) - 1) (torn.drop (k + 1))) := by
       rw [List.drop_eq_getElem_cons hlt]
       unfold withinB outB
       simp only [List.any_cons, Bool.not_or]
      have HST := hide hst
      clear hst
      generalize torn[k] = x at *
      by_cases d1 : x < 1
      · have hRf : Hid (R = 3) := hide (by rw [HQ.out, if_pos]; rw [HST.out]; simp [d1])
        have hs1 := HS1.out
        clear HQ
        go_upto_region 6 with fail
        refine wp_region_grow (by kernel_rfl) (by kernel_rfl) ?_
        repeat (go_big_quiet_step (fail))
        refine wpQuiet_nil ?_
        intro w4 hb4
        replace hb4 := ex_below hb4
        go_wp2
        go_ret
        exact gives_of (by rw [hRf.out]; rfl) (below_step hBr hb4 (by omega))
      · by_cases d2 : (g : Int) ≤ x
        · have hRf : Hid (R = 3) := hide (by rw [HQ.out, if_pos]; rw [HST.out]; have : (g : Int) - 1 < x := by omega
                                             simp [this])
          have hs1 := HS2.out
          clear HQ
          go_upto_region 6 with fail
          refine wp_region_grow (by kernel_rfl) (by kernel_rfl) ?_
          repeat (go_big_quiet_step (fail))
          refine wpQuiet_nil ?_
          intro w4 hb4
          replace hb4 := ex_below hb4
          clear hs1
          go_wp2
          go_ret
          exact gives_of (by rw [hRf.out]; rfl) (below_step hBr hb4 (by omega))
        · have HQ2 : Hid (R = if withinB 1 ((g : Int) - 1) (torn.drop (k + 1)) = false then 3 else 0) := hide (by
           rw [HQ.out, HST.out]
           have e1 : (!decide (x < 1) && !decide ((g : Int) - 1 < x)) = true := by simp; omega
           rw [e1, Bool.true_and])
          have hs1 := HS2.out
          clear HQ
          go_upto_region 6 with fail
          refine wp_region_grow (by kernel_rfl) (by kernel_rfl) ?_
          repeat (go_big_quiet_step (fail))
          refine wpQuiet_nil ?_
          intro w4 hb4
          replace hb4 := ex_below hb4
          clear hs1
          go_wp2
          exact ⟨⟨k + 1, by omega, by go_num, HQ2, below_step hb hb4 hzr⟩, by simp [intOf]; omega⟩
    · have hki : ¬ ((k : Int) < (torn.length : Int)) := by omega
      have hRl : Hid (R = 0) := hide (by rw [HQ.out, List.drop_eq_nil_of_le (by omega)]; rfl)
      clear HQ
      go_wp2
      go_ret
      exact gives_of (by rw [hRl.out]; rfl) hBr
 · have hlenI : ((torn.length : Int) != (K.length : Int)) = true := by simp; omega
   have HR2 : Hid (R = 15) := hide (by rw [← HR.out]; unfold chk1; rw [if_pos (by omega)])
   clear HR hlen
   go_enter Try.func79, Try.ntmps79
   go_upto_region 1 with fail
   obtain ⟨wa, hwa, hW, hX⟩ := boxed w #[.int .i64 (L : Nat), .int .i64 (K.length : Nat), .slice A K.length c, .int .i64 (rest : Nat)] 24
   rw [hwa]
   clear hwa
   replace hA := hA.ext hW
   have q0 := obj_at hX 0 _ rfl
   have q1 := obj_at hX 1 _ rfl
   have q2 := obj_at hX 2 _ rfl
   have q3 := obj_at hX 3 _ rfl
   have ql := obj_lt hX
   have hWs := hW.size
   go_wp2
   go_ret
   exact gives_of (by rw [HR2.out]; rfl) hW
end Go.Proofs.Ytgjfejpibielaaa
