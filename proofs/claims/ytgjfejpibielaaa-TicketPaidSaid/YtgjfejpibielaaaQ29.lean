/- Proved here: the counter of claims that are handed in; payments and sets of claims, a part of the proofs about the ticket laws. Conditions: those that each theorem names, no others. -/
import Derived.Test.YtgjfejpibielaaaQ28
import Derived.WalkKit
import Derived.WalkSpells
import Derived.WalkLawsBesides
import Derived.Below
import Derived.Deep.QuietTactic
import Derived.BigQuiet
import Derived.Deep.Light
set_option linter.unusedSimpArgs false
set_option linter.unusedVariables false
namespace Go.Proofs.Ytgjfejpibielaaa
open Go.RowKit Go.Maps Go.Shelf
attribute [local go_sem] Oper.semAt_some World.cell?_setCell_far
theorem chkTs_zero {L n : Nat} {rows : List LRow} {Ts : List (List Nat)} (h : (rows.map fun r => r.2.1) = Ts.map zs) (hT : ∀ T, T ∈ Ts → T.length = n ∧ ∀ t, t ∈ T → 1 ≤ t ∧ t < 2 ^ L) : chkTs L n (rows.map fun r => r.2.1) = 0 := by
 rw [h]
 clear h
 induction Ts with
 | nil => rfl
 | cons T Ts ih =>
   have h1 := hT T (by simp)
   rw [List.map_cons, chkTs, if_pos (chk1_zero h1.1 h1.2)]
   exact ih (fun T' h' => hT T' (by simp [h']))
theorem zr_inj : ∀ {a b : List (Nat × Nat)}, zr a = zr b → a = b
 | [], [], _ => rfl
 | [], _ :: _, h => by cases h
 | _ :: _, [], h => by cases h
 | (a, b) :: l, (c, d) :: m, h => by
   unfold zr at h
   simp only [List.map_cons, List.cons.injEq, Prod.mk.injEq] at h
   have := zr_inj (a := l) (b := m) h.2
   subst this
   obtain ⟨⟨h1, h2⟩, _⟩ := h
   rw [Int.ofNat.inj h1, Int.ofNat.inj h2]
theorem chkSold_ok {N : Nat} {qs : List (Nat × Nat)} (h : chkSold (N : Nat) (zr qs) = 0) : Tt.okSold N 0 qs = true ∧ qs.length ≤ 10 := by
 unfold chkSold at h
 rw [zr_len] at h
 split at h
 · cases h
 · rename_i h1
   obtain ⟨q2, e1, e2⟩ := soldE_ok N (zr qs) 0 h
   rw [zr_inj e1]
   exact ⟨e2, by rw [← zr_inj e1]; omega⟩
/-- the counter of claims that are right -/
def ClaimedAt (w : World) (L rest : Nat) (A : Option Addr) (K : List Nat) (c : Nat) (Y : Option Addr) (rows : List LRow) (yc : Nat) (Ts : List (List Nat)) (D : Option Addr) (qs : List (Nat × Nat)) (dc : Nat) (e : Ending) (w' : World) : Prop :=
 ∃ (C B M : Nat) (S : Option Addr) (d : Nat), e = .returned (.tuple #[.pointer (some ⟨C, 0, none⟩), .int .i64 0]) ∧ RowKit.Below w.heap.size w w' ∧ w.heap.size ≤ M ∧ Mx w' B M L rest A K c S (Tt.fulls L K.length) d (fun x => x = stV 0 (-1) 0) ∧ CntAt w' C (.pointer (some ⟨B, 0, none⟩)) (.slice Y rows.length yc) (.slice D qs.length dc) (canL L rest K qs Ts) (Tt.payAll (canL L rest K qs Ts) (canL L rest K qs Ts).length)
set_option maxRecDepth 100000 in
set_option maxHeartbeats 1000000 in
theorem claimed_ok (L rest : Nat) (A : Option Addr) (K : List Nat) (c : Nat) (Y : Option Addr) (rows : List LRow) (yc : Nat) (Ts : List (List Nat)) (D : Option Addr) (qs : List (Nat × Nat)) (dc : Nat) (w : World) (hd : OkD L rest K) (hA : I64 w A (zs K)) (hT : Lst w Y rows) (hm6 : rows.length ≤ 6) (hTs : (rows.map fun r => r.2.1) = Ts.map zs) (hTT : ∀ T, T ∈ Ts → T.length = K.length ∧ ∀ t, t ∈ T → 1 ≤ t ∧ t < 2 ^ L) (hD : Rng w D (zr qs)) (hsd : chkSold ((Tt.cnt L rest (K.zip (Tt.fulls L K.length)) (-1) 0) : Nat) (zr qs) = 0) :
 Calls Try.prog 75 #[.agg #[.int .i64 (L : Nat), .int .i64 (K.length : Nat), .slice A K.length c, .int .i64 (rest : Nat)], .slice Y rows.length yc, .slice D qs.length dc] w (ClaimedAt w L rest A K c Y rows yc Ts D qs dc) := by
 have hmI : ¬ ((6 : Int) < (rows.length : Int)) := by omega
 have HCT : Hid (chkTs L K.length (rows.map fun r => r.2.1) = 0) := hide (chkTs_zero hTs hTT)
 have HOS : Hid (Tt.okSold (Tt.codes L rest K).length 0 qs = true) := hide (by rw [← cnt_codes]; exact (chkSold_ok hsd).1)
 have hq10 := (chkSold_ok hsd).2
 have HCSK := hide (fun (B M : Nat) (S : Option Addr) (d : Nat) w' (h1 : Mx w' B M L rest A K c S (Tt.fulls L K.length) d (fun x => x = stV 0 (-1) 0)) (h2 : Rng w' D (zr qs)) => (show Calls Try.prog 67 #[.pointer (some ⟨B, 0, none⟩), .slice D qs.length dc] w' (Gives w' (.int .i64 0)) by
  have h := checkSold_any B M L rest A K c S (Tt.fulls L K.length) d D (zr qs) dc w' h1 h2
  rw [zr_len, hsd] at h
  exact h))
 clear hsd
 go_enter Try.func75, Try.ntmps75
 go_upto_region 1 with fail
 obtain ⟨wa, hwa, hW, hX⟩ := boxed w #[.int .i64 (L : Nat), .int .i64 (K.length : Nat), .slice A K.length c, .int .i64 (rest : Nat)] 24
 rw [hwa]
 clear hwa
 replace hA := hA.ext hW
 have q0 := obj_at hX 0 _ rfl
 have q1 := obj_at hX 1 _ rfl
 have q2 := obj_at hX 2 _ rfl
 have q3 := obj_at hX 3 _ rfl
 have ql := obj_lt hX
 have hWs := hW.size
 go_wp2_with (first
 | (go_at_call 57; refine (open_ok L rest A K c _ hd hA).mono ?_; rintro e u1 ⟨B, M, S, d, rfl, hb1, hB0, hM0, hm⟩; have hz1 := hb1.size; have hB1 : Below w.heap.size w u1 := below_step hW hb1 hWs; have hX1 := hX.ext hb1; clear q0 q1 q2 q3; have q0 := obj_at hX1 0 _ rfl; have q1 := obj_at hX1 1 _ rfl; have q2 := obj_at hX1 2 _ rfl; have q3 := obj_at hX1 3 _ rfl; have hA1 := hA.ext hb1)
 | (go_at_call 86; refine (checkTorn_any L rest A K c Y rows yc _ hd hA1 ((hT.ext hW).ext hb1) (by omega)).mono ?_; rintro e u3 ⟨rfl, hb3⟩; replace hb3 := ex_below hb3; have hz3 := hb3.size; rw [HCT.out]; have hm3 := hm.ext hb3; have hX3 := hX1.ext hb3; clear q0 q1 q2 q3; have q0 := obj_at hX3 0 _ rfl; have q1 := obj_at hX3 1 _ rfl; have q2 := obj_at hX3 2 _ rfl; have q3 := obj_at hX3 3 _ rfl; have hA3 := hA1.ext hb3; have hB3 := below_step hB1 hb3 (by omega))
 | (go_at_call 67; refine (HCSK.out B M S d _ hm3 (((hD.ext hW).ext hb1).ext hb3)).mono ?_; rintro e u4 ⟨rfl, hb4⟩; replace hb4 := ex_below hb4; have hz4 := hb4.size; have hm4 := hm3.ext hb4; have hB4 := below_step hB3 hb4 (by omega))
 | (go_at_call 92; refine (newCounter_any L rest A K c B M S d Y rows yc Ts D qs dc _ hm4 (((hT.ext hW).ext hb1).ext (below_step hb3 hb4 hz3)) hTs hTT hm6 ((((hD.ext hW).ext hb1).ext hb3).ext hb4) HOS.out (by omega)).mono ?_; rintro e u5 ⟨C, rfl, hg5, hC5, hm5, hc5⟩; have hz5 := hg5.size))
 go_ret2
 have hM4 := hm4.lts.2
 exact ⟨C, B, M, S, d, rfl, below_gx hB4 hg5 (fun s hs => by rw [List.mem_singleton.1 hs]; omega) (by omega), by omega, hm5, hc5⟩
end Go.Proofs.Ytgjfejpibielaaa
namespace Go.Proofs.Ytgjfejpibielaaa
open Go.RowKit Go.Maps Go.Shelf
attribute [local go_sem] Oper.semAt_some World.cell?_setCell_far
/-- the errors of claims on a valid day -/
def clmE (N : Int) (L n : Nat) (ts : List (List Int)) (rs : List (Int × Int)) : Int := if 6 < ts.length then 6 else if chkTs L n ts ≠ 0 then chkTs L n ts else chkSold N rs
/-- a payment with as many claims as can be -/
def PaidAt (w : World) (p : List Int) (e : Ending) (w' : World) : Prop := ∃ A c, e = .returned (.tuple #[.slice A p.length c, .int .i64 0]) ∧ RowKit.Below w.heap.size w w' ∧ I64 w' A p
set_option maxRecDepth 100000 in
set_option maxHeartbeats 1000000 in
theorem Paid_ok (L rest : Nat) (A : Option Addr) (K : List Nat) (c : Nat) (Y : Option Addr) (rows : List LRow) (yc : Nat) (Ts : List (List Nat)) (D : Option Addr) (qs : List (Nat × Nat)) (dc : Nat) (w : World) (hd : OkD L rest K) (hA : I64 w A (zs K)) (hT : Lst w Y rows) (hm6 : rows.length ≤ 6) (hTs : (rows.map fun r => r.2.1) = Ts.map zs) (hTT : ∀ T, T ∈ Ts → T.length = K.length ∧ ∀ t, t ∈ T → 1 ≤ t ∧ t < 2 ^ L) (hD : Rng w D (zr qs)) (hsd : chkSold ((Tt.cnt L rest (K.zip (Tt.fulls L K.length)) (-1) 0) : Nat) (zr qs) = 0) : Calls Try.prog 41 #[.agg #[.int .i64 (L : Nat), .int .i64 (K.length : Nat), .slice A K.length c, .int .i64 (rest : Nat)], .slice Y rows.length yc, .slice D qs.length dc] w (PaidAt w (Tt.payAll (canL L rest K qs Ts) (canL L rest K qs Ts).length)) := by
 have HOK := hide (fun w' (h1 : I64 w' A (zs K)) (h2 : Lst w' Y rows) (h3 : Rng w' D (zr qs)) => claimed_ok L rest A K c Y rows yc Ts D qs dc w' hd h1 h2 hm6 hTs hTT h3 hsd)
 go_enter Try.func41, Try.ntmps41
 go_upto_region 1 with fail
 obtain ⟨wa, hwa, hW, hX⟩ := boxed w #[.int .i64 (L : Nat), .int .i64 (K.length : Nat), .slice A K.length c, .int .i64 (rest : Nat)] 24
 rw [hwa]
 clear hwa
 replace hA := hA.ext hW
 have q0 := obj_at hX 0 _ rfl
 have q1 := obj_at hX 1 _ rfl
 have q2 := obj_at hX 2 _ rfl
 have q3 := obj_at hX 3 _ rfl
 have ql := obj_lt hX
 have hWs := hW.size
 go_upto_region 4 with (go_at_call 75; refine (HOK.out _ hA (hT.ext hW) (hD.ext hW)).mono ?_; rintro e u1 ⟨C, B, M, S, d, rfl, hb1, hM1, hmx, hca⟩; have hz1 := hb1.size; have hB1 : Below w.heap.size w u1 := below_step hW hb1 hWs)
 obtain ⟨Ac, crow, cc, Ap, pc, hX, _, hpI, _⟩ := hca
 have c4 := obj_at hX 4 _ rfl
 have xl := obj_lt hX
 go_wp2
 go_ret2
 exact ⟨Ap, pc, rfl, hB1, hpI⟩
/-- a set with the least bound -/
def ShortAt (w : World) (can : List (List Int)) (p : List Int) (e : Ending) (w' : World) : Prop :=
 ∃ (m : List Nat) (A : Option Addr) (c : Nat), e = .returned (.tuple #[.slice A (Tt.outM m).length c, .int .i64 0]) ∧ RowKit.Below w.heap.size w w' ∧ I64 w' A (zs (Tt.outM m)) ∧ m.length = p.length ∧ Tt.Reach can p p.length (Tt.outM m)
set_option maxRecDepth 100000 in
set_option maxHeartbeats 1000000 in
theorem Short_ok (L rest : Nat) (A : Option Addr) (K : List Nat) (c : Nat) (Y : Option Addr) (rows : List LRow) (yc : Nat) (Ts : List (List Nat)) (D : Option Addr) (qs : List (Nat × Nat)) (dc : Nat) (w : World) (hd : OkD L rest K) (hA : I64 w A (zs K)) (hT : Lst w Y rows) (hm6 : rows.length ≤ 6) (hTs : (rows.map fun r => r.2.1) = Ts.map zs) (hTT : ∀ T, T ∈ Ts → T.length = K.length ∧ ∀ t, t ∈ T → 1 ≤ t ∧ t < 2 ^ L) (hD : Rng w D (zr qs)) (hsd : chkSold ((Tt.cnt L rest (K.zip (Tt.fulls L K.length)) (-1) 0) : Nat) (zr qs) = 0) : Calls Try.prog 40 #[.agg #[.int .i64 (L : Nat), .int .i64 (K.length : Nat), .slice A K.length c, .int .i64 (rest : Nat)], .slice Y rows.length yc, .slice D qs.length dc] w (ShortAt w (canL L rest K qs Ts) (Tt.payAll (canL L rest K qs Ts) (canL L rest K qs Ts).length)) := by
 have HOK := hide (fun w' (h1 : I64 w' A (zs K)) (h2 : Lst w' Y rows) (h3 : Rng w' D (zr qs)) => claimed_ok L rest A K c Y rows yc Ts D qs dc w' hd h1 h2 hm6 hTs hTT h3 hsd)
 have hTl : Ts.length = rows.length := by have := congrArg List.length hTs; simpa using this.symm
 have hlen : (canL L rest K qs Ts).length = rows.length := by rw [canL_len, hTl]
 have hpay := (Tt.payAll_spec (can := canL L rest K qs Ts) canL_pos _ (Nat.le_refl _)).1
 have hpl : (Tt.payAll (canL L rest K qs Ts) (canL L rest K qs Ts).length).length = rows.length := hpay.len.trans hlen
 have hcn : (Tt.codes L rest K).length ≤ 1679616 := by
  have h3 := Tt.cnt_small (L := L) (rest := rest) (ps := K.zip (Tt.fulls L K.length)) (la := -1) (s := 0) hd.2.1 (by rw [List.length_zip]; have := hd.2.2.2.1; omega)
  rwa [cnt_codes] at h3
 have HSH := hide (fun (C : Nat) (v0 v2 : Value) (w' : World) (h : CntAt w' C v0 (.slice Y rows.length yc) v2 (canL L rest K qs Ts) (Tt.payAll (canL L rest K qs Ts) (canL L rest K qs Ts).length)) => short_any C v0 v2 Y yc (canL L rest K qs Ts) _ w' (by rw [hpl]; exact h) hpay (by omega) (fun r hr => ⟨by have := (canL_row hr).1; omega, fun x hx => by have := (canL_row hr).2 x hx; omega⟩))
 clear hTl hlen hpay hpl hcn
 go_enter Try.func40, Try.ntmps40
 go_upto_region 1 with fail
 obtain ⟨wa, hwa, hW, hX⟩ := boxed w #[.int .i64 (L : Nat), .int .i64 (K.length : Nat), .slice A K.length c, .int .i64 (rest : Nat)] 24
 rw [hwa]
 clear hwa
 replace hA := hA.ext hW
 have q0 := obj_at hX 0 _ rfl
 have q1 := obj_at hX 1 _ rfl
 have q2 := obj_at hX 2 _ rfl
 have q3 := obj_at hX 3 _ rfl
 have ql := obj_lt hX
 have hWs := hW.size
 go_wp2_with (first
 | (go_at_call 75; refine (HOK.out _ hA (hT.ext hW) (hD.ext hW)).mono ?_; rintro e u1 ⟨C, B, M, S, d, rfl, hb1, hM1, hmx, hca⟩; have hz1 := hb1.size; have hB1 : Below w.heap.size w u1 := below_step hW hb1 hWs)
 | (go_at_call 78; refine (HSH.out C _ _ _ hca).mono ?_; rintro e u2 ⟨m, A2, c2, rfl, hb2, hI2, hml, hre⟩))
 go_ret2
 exact ⟨m, A2, c2, rfl, below_step hB1 hb2 (by omega), hI2, hml, hre⟩
end Go.Proofs.Ytgjfejpibielaaa
