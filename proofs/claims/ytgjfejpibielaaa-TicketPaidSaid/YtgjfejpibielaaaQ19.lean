/- Proved here: the number of a word, a part of the proofs about the ticket laws. Conditions: those that each theorem names, no others. -/
import Derived.Test.YtgjfejpibielaaaQ18
import Derived.WalkKit
import Derived.WalkSpells
import Derived.WalkLawsBesides
import Derived.Below
import Derived.Deep.QuietTactic
import Derived.BigQuiet
import Derived.Deep.Light
set_option linter.unusedSimpArgs false
set_option linter.unusedVariables false
namespace Go.Proofs.Ytgjfejpibielaaa
open Go.RowKit Go.Maps Go.Shelf
attribute [local go_sem] Oper.semAt_some World.cell?_setCell_far
/-- the letters of a string -/
def lw (s : ByteArray) : List Nat := s.data.toList.map fun b => b.toNat - 97
theorem isW_lw {L n : Nat} {s : ByteArray} (h : isW L n s = true) : s = strW (lw s) ∧ (lw s).length = n ∧ ∀ x, x ∈ lw s → x < L := by
 obtain ⟨ws, rfl, h1, h2⟩ := isW_str h
 have h3 : ∀ x, x ∈ ws → x < 100 → True := fun _ _ _ => trivial
 have hlw : (∀ x, x ∈ ws → x < 100) → lw (strW ws) = ws := fun h100 => by
  unfold lw strW
  simp only
  rw [List.map_map]
  conv => rhs; rw [← List.map_id ws]
  apply List.map_congr_left
  intro x hx
  simp only [Function.comp, id]
  rw [unb_val (h100 x hx)]
  omega
 by_cases hL : L ≤ 100
 · rw [hlw (fun x hx => by have := h2 x hx; omega)]
   exact ⟨rfl, h1, h2⟩
 · unfold isW at h
   simp only [Bool.and_eq_true, decide_eq_true_eq, List.all_eq_true] at h
   have hb : ∀ b, b ∈ (strW ws).data.toList → 97 ≤ b.toNat ∧ b.toNat < 97 + L := fun b hb => by
    have := h.2 b hb
    unfold okB at this
    simpa using this
   refine ⟨?_, ?_, ?_⟩
   · have : (lw (strW ws)).map unb = (strW ws).data.toList := by
      unfold lw
      rw [List.map_map]
      conv => rhs; rw [← List.map_id (strW ws).data.toList]
      apply List.map_congr_left
      intro b hb'
      simp only [Function.comp, id]
      unfold unb
      rw [Nat.sub_add_cancel (hb b hb').1]
      exact UInt8.ofNat_toNat
     show strW ws = ⟨((lw (strW ws)).map unb).toArray⟩
     rw [this]
   · unfold lw
     rw [List.length_map]
     exact (Array.length_toList).trans h.1
   · intro x hx
     unfold lw at hx
     obtain ⟨b, hb', rfl⟩ := List.mem_map.1 hx
     have := hb b hb'
     omega
def LastIs (ws : List Nat) (k : Nat) (la : Int) : Prop := ∀ j, ∀ h : j < ws.length, k = j + 1 → la = ((ws[j]'h : Nat) : Int)
/-- equal neighbours -/
def eqNb : Int → List Nat → Bool
 | _, [] => false
 | la, c :: w => decide ((c : Int) = la) || eqNb (c : Int) w
/-- the number of a word, or the error -/
def numV (L rest : Nat) (K : List Nat) (s : ByteArray) : Value :=
 if isW L K.length s = false then .tuple #[.int .i64 0, .int .i64 8]
 else if eqNb (-1) (lw s) = true then .tuple #[.int .i64 0, .int .i64 16]
 else if Tt.sumW L K 0 (lw s) ≠ rest then .tuple #[.int .i64 0, .int .i64 14]
 else .tuple #[.int .i64 (Tt.befA L rest (K.zip (Tt.fulls L K.length)) (-1) 0 (lw s) : Nat), .int .i64 0]
set_option maxRecDepth 100000 in
set_option maxHeartbeats 4000000 in
theorem Number_ok (L rest : Nat) (A : Option Addr) (K : List Nat) (c : Nat) (s : ByteArray) (w : World) (hd : OkD L rest K) (hA : I64 w A (zs K)) : Calls Try.prog 22 #[.agg #[.int .i64 (L : Nat), .int .i64 (K.length : Nat), .slice A K.length c, .int .i64 (rest : Nat)], .string s] w (Gives w (numV L rest K s)) := by
 have hn8 := hd.2.2.2.1
 have hn2 := hd.2.2.1
 have hL6 := hd.2.1
 have HIW := hide (fun w' (h : I64 w' A (zs K)) => isWord_any L rest A K c s w' hd h)
 unfold numV
 cases hw : isW L K.length s with
 | false =>
   rw [hw] at HIW
   rw [if_pos rfl]
   clear hw
   go_enter Try.func22, Try.ntmps22
   go_upto_region 1 with fail
   obtain ⟨wa, hwa, hW, hX⟩ := boxed w #[.int .i64 (L : Nat), .int .i64 (K.length : Nat), .slice A K.length c, .int .i64 (rest : Nat)] 24
   rw [hwa]
   clear hwa
   replace hA := hA.ext hW
   have q0 := obj_at hX 0 _ rfl
   have q1 := obj_at hX 1 _ rfl
   have q2 := obj_at hX 2 _ rfl
   have q3 := obj_at hX 3 _ rfl
   have ql := obj_lt hX
   have hWs := hW.size
   go_wp2_with (first
 | (go_at_call 57; refine (open_ok L rest A K c _ hd hA).mono ?_; rintro e u1 ⟨B, M, S, d, rfl, hb1, hB0, hM0, hm⟩; have hz1 := hb1.size; have hB1 : Below w.heap.size w u1 := below_step hW hb1 hWs; have hX1 := hX.ext hb1; clear q0 q1 q2 q3; have q0 := obj_at hX1 0 _ rfl; have q1 := obj_at hX1 1 _ rfl; have q2 := obj_at hX1 2 _ rfl; have q3 := obj_at hX1 3 _ rfl; have hA1 := hA.ext hb1)
 | (go_at_call 61; refine (HIW.out _ hA1).mono ?_; rintro e u2 ⟨rfl, hb2⟩; replace hb2 := ex_below hb2))
   go_ret2
   exact gives_of rfl (below_step hB1 hb2 (by omega))
 | true =>
   rw [hw] at HIW
   rw [if_neg (by simp)]
   obtain ⟨hs, hwl, hwL⟩ := isW_lw hw
   generalize lw s = ws at *
   subst hs
   clear hw
   have HWL := hide hwl
   have HLT := hide hwL
   have hsz : (strW ws).size = K.length := by rw [strW_size, hwl]
   have HSZ := hide hsz
   have hFT : ∀ k, (h : k < (Tt.fulls L K.length).length) → (Tt.fulls L K.length)[k] = 2 ^ L - 1 := fun k h => by simp only [Tt.fulls, List.getElem_replicate]
   have HFT := hide hFT
   have HWS : Hid (∀ k, (h : k < ws.length) → ((strW ws)[k]'(by rw [strW_size]; exact h)).toNat = ws[k] + 97) := hide (fun k h => strW_at (fun x hx => by have := hwL x hx; omega) k h)
   obtain ⟨E, hE⟩ : ∃ v, eqNb (-1) ws = v := ⟨_, rfl⟩
   obtain ⟨SM, hSM⟩ : ∃ v, Tt.sumW L K 0 ws = v := ⟨_, rfl⟩
   have HE := hide hE
   have HSM := hide hSM
   rw [hE, hSM]
   obtain ⟨BEF, hBEF⟩ : ∃ v, Tt.befA L rest (K.zip (Tt.fulls L K.length)) (-1) 0 ws = v := ⟨_, rfl⟩
   have HBEF := hide hBEF
   rw [hBEF]
   clear hBEF
   obtain ⟨V, hV⟩ : ∃ V : Value, (if E = true then .tuple #[.int .i64 0, .int .i64 16] else if SM ≠ rest then .tuple #[.int .i64 0, .int .i64 14] else .tuple #[.int .i64 (BEF : Nat), .int .i64 0]) = V := ⟨_, rfl⟩
   have HV := hide hV
   rw [hV]
   clear hE hSM hsz hwl hwL hFT hV
   go_enter Try.func22, Try.ntmps22
   go_upto_region 1 with fail
   obtain ⟨wa, hwa, hW, hX⟩ := boxed w #[.int .i64 (L : Nat), .int .i64 (K.length : Nat), .slice A K.length c, .int .i64 (rest : Nat)] 24
   rw [hwa]
   clear hwa
   replace hA := hA.ext hW
   have q0 := obj_at hX 0 _ rfl
   have q1 := obj_at hX 1 _ rfl
   have q2 := obj_at hX 2 _ rfl
   have q3 := obj_at hX 3 _ rfl
   have ql := obj_lt hX
   have hWs := hW.size
   go_upto_region 6 with (first
 | (go_at_call 57; refine (open_ok L rest A K c _ hd hA).mono ?_; rintro e u1 ⟨B, M, S, d, rfl, hb1, hB0, hM0, hm⟩; have hz1 := hb1.size; have hB1 : Below w.heap.size w u1 := below_step hW hb1 hWs; have hX1 := hX.ext hb1; clear q0 q1 q2 q3; have q0 := obj_at hX1 0 _ rfl; have q1 := obj_at hX1 1 _ rfl; have q2 := obj_at hX1 2 _ rfl; have q3 := obj_at hX1 3 _ rfl; have hA1 := hA.ext hb1)
 | (go_at_call 61; refine (HIW.out _ hA1).mono ?_; rintro e u2 ⟨rfl, hb2⟩; replace hb2 := ex_below hb2; have hz2 := hb2.size; replace hm := hm.ext hb2; have hB2 := below_step hB1 hb2 (by omega); have hX2 := hX1.ext hb2))
   go_upto_region 7 with (go_at_call 62; refine (start_raw _).mono ?_; rintro e u3 ⟨rfl, hb3⟩; replace hb3 := ex_below hb3; have hz3 := hb3.size; replace hm := hm.ext hb3; have hB3 := below_step hB2 hb3 (by omega); have hX3 := hX2.ext hb3)
   have hbA : Below u3.heap.size u3 (u3.alloc (.cells #[.int .i64 0, .int .i64 (-1), .int .i64 0] 91)) := below_alloc (Below.refl _ _) (Nat.le_refl _) _
   have hba : BlkAt (u3.alloc (.cells #[.int .i64 0, .int .i64 (-1), .int .i64 0] 91)) u3.heap.size #[.int .i64 0, .int .i64 (-1), .int .i64 0] 91 := heap_alloc_new _ _
   have hF := hm.new (Nat.le_refl _)
   replace hm := hm.ext hbA
   have hX4 := hX3.ext hbA
   have hz4 : u3.heap.size < (u3.alloc (.cells #[.int .i64 0, .int .i64 (-1), .int .i64 0] 91)).heap.size := by simp
   have hB4 := below_step hB3 hbA (by omega)
   obtain ⟨Ba, hBa⟩ : ∃ v, u3.heap.size = v := ⟨_, rfl⟩
   have hwBa : w.heap.size < Ba := by omega
   obtain ⟨u4, hu4⟩ : ∃ v, (u3.alloc (.cells #[.int .i64 0, .int .i64 (-1), .int .i64 0] 91)) = v := ⟨_, rfl⟩
   rw [hu4] at hba hm hX4 hB4 hz4 ⊢
   rw [hBa] at hba hF hz4 ⊢
   clear hu4 hBa hbA hX3 hX2 hX1 hX hb3 hb2 hb1 hA hA1 hB1 hB2 hB3 q0 q1 q2 q3
   obtain ⟨C, u5, hcv, hb5, hz5, hcell⟩ := conv_bytes u4 (strW ws)
   have hbyt : ∀ j, (h : j < ws.length) → u5.cell? ⟨u4.heap.size, j, none⟩ = some (.int .u8 ((ws[j] : Nat) + 97)) := fun j h => by
    rw [hcell j (by rw [strW_size]; exact h), HWS.out j h]
    congr 2
   have HBY := hide hbyt
   replace hm := hm.ext hb5
   replace hba := hba.ext hb5
   have hX5 := hX4.ext hb5
   have hB5 := below_step hB4 hb5 hB4.size
   clear hcell hbyt hX4 hB4
   go_wp2
   obtain ⟨Bs, hBs⟩ : ∃ v, u4.heap.size = v := ⟨_, rfl⟩
   rw [hBs] at HBY hz5 hz4 ⊢
   clear hcv hb5 hBs
   go_loopw [31] (fun i wr => ∃ (k : Nat) (la : Int) (s : Nat), k ≤ K.length ∧ i = .int .i64 (k : Nat) ∧ (-1 ≤ la ∧ la ≤ 5) ∧ s < L ∧ Hid (eqNb la (ws.drop k) = E) ∧ Hid (Tt.sumW L (K.drop k) s (ws.drop k) = SM) ∧ Hid (k = 0 → la = -1) ∧ Hid (LastIs ws k la) ∧ BlkAt wr Ba #[.int .i64 (k : Nat), .int .i64 la, .int .i64 (s : Nat)] 91 ∧ GX [Ba] u5 wr) (fun i _ => K.length - (intOf i).toNat)
   case atStart => exact ⟨0, -1, 0, Nat.zero_le _, rfl, by omega, by have := hd.1; omega, hide HE.out, hide HSM.out, hide (fun _ => rfl), hide (fun j h e => by omega), hba, GX.refl _ _⟩
   case round =>
    obtain ⟨k, la, sm, hk, rfl, hla, hsm, hE, hS, h0, hp, hbr, hG⟩ := hrel
    have hzr := hG.size
    have hmr := hm.gx hG (fun M' h => by rw [List.mem_singleton.1 h]; exact hF)
    have hXr := hX5.gx hG (by simp only [List.mem_singleton]; omega)
    have hBr := below_gx hB5 hG (fun s h => by simp at h; omega) hB5.size
    have hB5s := hB5.size
    have q0 := obj_at hXr 3 _ rfl
    have a0 := obj_at hbr 0 _ rfl
    have a1 := obj_at hbr 1 _ rfl
    have a2 := obj_at hbr 2 _ rfl
    have al := obj_lt hbr
    have xl := obj_lt hXr
    have hszI : (((strW ws).size : Nat) : Int) = (K.length : Int) := by rw [HSZ.out]
    by_cases hlt : k < K.length
    · have hki : (k : Int) < (((strW ws).size : Nat) : Int) := by rw [HSZ.out]; omega
      have hks : k < (strW ws).size := by rw [HSZ.out]; exact hlt
      have hkw : k < ws.length := by rw [HWL.out]; exact hlt
      have hbk := (World.cell?_of_block (a := ⟨Bs, k, none⟩) (hG.block Bs (by omega) (by simp; omega))).trans (HBY.out k hkw)
      have hcL := HLT.out _ (List.getElem_mem hkw)
      have hdw : ws.drop k = ws[k] :: ws.drop (k + 1) := List.drop_eq_getElem_cons hkw
      have hdk : K.drop k = K[k] :: K.drop (k + 1) := List.drop_eq_getElem_cons hlt
      have htf : k < (Tt.fulls L K.length).length := by simp [Tt.fulls]; exact hlt
      have hnx := next_any B M L rest A K c S (Tt.fulls L K.length) d k la sm ws[k] wr hmr.at_ hmr.ok hlt hla hsm hcL htf
      rw [HFT.out k htf, Nat.testBit_two_pow_sub_one] at hnx
      have hcd : decide (ws[k] < L) = true := by simpa using hcL
      rw [hcd, Bool.and_true] at hnx
      have hEk : eqNb la (ws.drop k) = (decide ((ws[k] : Int) = la) || eqNb (ws[k] : Int) (ws.drop (k + 1))) := by rw [hdw]; rfl
      have hSk : Tt.sumW L (K.drop k) sm (ws.drop k) = Tt.sumW L (K.drop (k + 1)) ((sm + K[k] * ws[k]) % L) (ws.drop (k + 1)) := by rw [hdw, hdk]; rfl
      have hsv : (sm + K[k] * ws[k]) % L < L := Nat.mod_lt _ (by omega)
      have HEK := hide hEk
      have HSK := hide hSk
      have hby1 := HWS.out k hkw
      unfold stV stC at hnx
      rw [show ((k + 1 : Nat) : Int) = (k : Int) + 1 from rfl] at hnx
      generalize hsvv : (sm + K[k] * ws[k]) % L = sv at *
      have HNX := hide hnx
      clear hEk hSk hdw hdk hnx hcd htf hsvv hszI
      by_cases hcl : ((ws[k] : Nat) : Int) = la
      · have hk0 : 0 < k := by
         rcases Nat.eq_zero_or_pos k with h | h
         · have := h0.out h; omega
         · exact h
        have hkm : k - 1 < ws.length := by omega
        have hlw : la = ((ws[k - 1] : Nat) : Int) := hp.out (k - 1) hkm (by omega)
        have hby2 := HWS.out (k - 1) hkm
        have hbe : (strW ws)[k - 1].toNat = ws[k] + 97 := by rw [hby2]; omega
        have hdd : decide (((ws[k] : Nat) : Int) ≠ la) = false := by simp [hcl]
        rw [hdd] at HNX
        have hET : true = E := by rw [← hE.out, HEK.out]; simp [hcl]
        have hVT : V = .tuple #[.int .i64 0, .int .i64 16] := by rw [← HV.out, if_pos hET.symm]
        have HVT := hide hVT
        clear hET hVT
        have hkmI : IntKind.i64.wrap ((k : Int) - 1) = ((k - 1 : Nat) : Int) := by rw [IntKind.wrap_i64]; omega
        have hkI0 : (0 : Int) < (k : Int) := by omega
        have hk1 : k - 1 < (strW ws).size := by omega
        have hk1I : ((k - 1 : Nat) : Int) < (((strW ws).size : Nat) : Int) := by omega
        have hcI : IntKind.i64.wrap ((ws[k] : Nat) : Int) = ((ws[k] : Nat) : Int) := by rw [IntKind.wrap_i64]; omega
        generalize ws[k] = cx at *
        have hbw : IntKind.u8.wrap ((cx : Int) + 97 - 97) = (cx : Int) := u8_letter2 cx (by omega)
        clear hlw hby2 hcl HEK HSK
        go_upto_region 11 with (go_at_call 63; refine HNX.out.mono ?_; rintro e w4 ⟨rfl, hb4⟩; replace hb4 := ex_below hb4; have hz4' := hb4.size)
        refine wp_region_grow (by kernel_rfl) (by kernel_rfl) ?_
        repeat (go_big_quiet_step (fail))
        refine wpQuiet_nil ?_
        intro w6 hb6
        replace hb6 := ex_below hb6
        have hb46 : Below wr.heap.size wr w6 := by (repeat (first | exact Below.refl _ _ | assumption | (refine below_gr ?_ (by (first | omega | (simp only [zz] at *; omega))) _) | (refine below_alloc ?_ (by (first | omega | (simp only [zz] at *; omega))) _) | (refine Below.setCell ?_ (by (first | omega | (simp only [zz] at *; omega))) _) | refine below_drewN ?_ _ | refine below_drew ?_ | (refine below_step ?_ (by assumption) (by (first | omega | (simp only [zz] at *; omega))))))
        go_wp2
        go_ret2
        exact gives_of HVT.out.symm (below_step hBr hb46 (by omega))
      · have hdd : decide (((ws[k] : Nat) : Int) ≠ la) = true := by simp [hcl]
        rw [hdd] at HNX
        have hE2 : eqNb ((ws[k] : Nat) : Int) (ws.drop (k + 1)) = E := by rw [← hE.out, HEK.out]; simp [hcl]
        have hS2 : Tt.sumW L (K.drop (k + 1)) sv (ws.drop (k + 1)) = SM := by rw [← hS.out, HSK.out]
        have HE2 := hide hE2
        have HS2 := hide hS2
        have hLS : LastIs ws (k + 1) ((ws[k] : Nat) : Int) := fun j h e => by
         obtain rfl : j = k := by omega
         rfl
        have HLS := hide hLS
        clear hE2 hS2 hLS hE hS HEK HSK h0 hp hdd
        generalize ws[k] = cx at *
        have hbw : IntKind.u8.wrap ((cx : Int) + 97 - 97) = (cx : Int) := u8_letter2 cx (by omega)
        clear hby1 hcl
        go_upto_region 11 with (go_at_call 63; refine HNX.out.mono ?_; rintro e w4 ⟨rfl, hb4⟩; replace hb4 := ex_below hb4; have hz4' := hb4.size)
        have hbA4 : Below w4.heap.size w4 (w4.alloc (.cells #[.int .i64 ((k : Int) + 1), .int .i64 (cx : Nat), .int .i64 (sv : Nat)] 91)) := below_alloc (Below.refl _ _) (Nat.le_refl _) _
        have hN4 : BlkAt (w4.alloc (.cells #[.int .i64 ((k : Int) + 1), .int .i64 (cx : Nat), .int .i64 (sv : Nat)] 91)) w4.heap.size #[.int .i64 ((k : Int) + 1), .int .i64 (cx : Nat), .int .i64 (sv : Nat)] 91 := heap_alloc_new _ _
        refine wp_region_grow (by kernel_rfl) (by kernel_rfl) ?_
        repeat (go_big_quiet_step (fail))
        refine wpQuiet_nil ?_
        intro w6 hb6
        replace hb6 := ex_below hb6
        have hN6 := hN4.ext hb6
        have hr6 : Below wr.heap.size wr w6 := by (repeat (first | exact Below.refl _ _ | assumption | (refine below_gr ?_ (by (first | omega | (simp only [zz] at *; omega))) _) | (refine below_alloc ?_ (by (first | omega | (simp only [zz] at *; omega))) _) | (refine Below.setCell ?_ (by (first | omega | (simp only [zz] at *; omega))) _) | refine below_drewN ?_ _ | refine below_drew ?_ | (refine below_step ?_ (by assumption) (by (first | omega | (simp only [zz] at *; omega))))))
        have hbr6 := hbr.ext hr6
        have hw6 := hr6.size
        have y0 := obj_at hN6 0 _ rfl
        have y1 := obj_at hN6 1 _ rfl
        have y2 := obj_at hN6 2 _ rfl
        have z0 := obj_at hbr6 0 _ rfl
        have z1 := obj_at hbr6 1 _ rfl
        have z2 := obj_at hbr6 2 _ rfl
        have zf0 := obj_fz hbr6 0
        have zf1 := obj_fz hbr6 1
        have zf2 := obj_fz hbr6 2
        have yl := obj_lt hN6
        have zl := obj_lt hbr6
        go_wp2
        have hgE : GX [Ba] wr (((w6.setCell ⟨Ba, 0, none⟩ (.int .i64 ((k : Int) + 1))).setCell ⟨Ba, 1, none⟩ (.int .i64 (cx : Nat))).setCell ⟨Ba, 2, none⟩ (.int .i64 (sv : Nat))) :=
         ((((GX.refl _ wr).below hr6 (Nat.le_refl _)).setCell _ _ (fun _ => by simp)).setCell _ _ (fun _ => by simp)).setCell _ _ (fun _ => by simp)
        exact ⟨⟨k + 1, ((cx : Nat) : Int), sv, by omega, by go_num, by omega, hsv, HE2, HS2, hide (fun h => by omega), HLS, set_obj (set_obj (set_obj hbr6 0 _) 1 _) 2 _, hG.trans hgE⟩, by simp [intOf]; omega⟩
    · have hki : ¬ ((k : Int) < (((strW ws).size : Nat) : Int)) := by rw [HSZ.out]; omega
      have hkn : k = K.length := by omega
      have hEf : E = false := by have h := hE.out; rw [hkn, List.drop_eq_nil_of_le (by rw [HWL.out]; exact Nat.le_refl _)] at h; exact h.symm
      have hSf : sm = SM := by have h := hS.out; rw [hkn, List.drop_length] at h; simpa [Tt.sumW] using h
      have hV2 : V = if SM ≠ rest then .tuple #[.int .i64 0, .int .i64 14] else .tuple #[.int .i64 (BEF : Nat), .int .i64 0] := by rw [← HV.out, if_neg (by rw [hEf]; simp)]
      have HV2 := hide hV2
      clear hszI hkn hEf hE hS h0 hp hV2
      rw [hSf] at a2 hbr
      clear hSf
      by_cases hsr : SM = rest
      · have hsi : (((SM : Nat) : Int) != ((rest : Nat) : Int)) = false := by simp [hsr]
        have hV3 : V = .tuple #[.int .i64 (BEF : Nat), .int .i64 0] := by rw [HV2.out, if_neg (by simpa using hsr)]
        have HV3 := hide hV3
        clear hV3 hsr
        go_wp2_with (go_at_call 64; refine (before_any B M L rest A K c S (Tt.fulls L K.length) d _ ws _ hmr.at_ hmr.ok hmr.ne hmr.km HWL.out HLT.out).mono ?_; rintro e w4 ⟨rfl, hg4, hk4⟩; rw [HBEF.out])
        go_ret2
        exact gives_of HV3.out.symm (below_far hBr hg4 (by omega) (by omega))
      · have hsi : (((SM : Nat) : Int) != ((rest : Nat) : Int)) = true := by simp; omega
        have hsj : ¬ (((SM : Nat) : Int) = ((rest : Nat) : Int)) := by omega
        have hV3 : V = .tuple #[.int .i64 0, .int .i64 14] := by rw [HV2.out, if_pos hsr]
        have HV3 := hide hV3
        clear hV3 hsr
        go_wp2
        go_ret2
        exact gives_of HV3.out.symm hBr
end Go.Proofs.Ytgjfejpibielaaa
