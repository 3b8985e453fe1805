/- Proved here: the bound of a set of claims, a part of the proofs about the ticket laws. Conditions: those that each theorem names, no others. -/
import Derived.Test.YtgjfejpibielaaaQ29
import Derived.WalkKit
import Derived.WalkSpells
import Derived.WalkLawsBesides
import Derived.Below
import Derived.Deep.QuietTactic
import Derived.BigQuiet
import Derived.Deep.Light
set_option linter.unusedSimpArgs false
set_option linter.unusedVariables false
namespace Go.Proofs.Ytgjfejpibielaaa
open Go.RowKit Go.Maps Go.Shelf
attribute [local go_sem] Oper.semAt_some World.cell?_setCell_far
/-- whether a set is one of claims, in order -/
def setB (k : Int) : Int → List Int → Bool
 | _, [] => true
 | nx, x :: xs => decide (nx ≤ x) && decide (x ≤ k - 1) && setB k (x + 1) xs
theorem setB_ok {k : Nat} : ∀ {ss : List Int} {nx : Nat}, setB (k : Nat) (nx : Nat) ss = true → ∃ s : List Nat, ss = zs s ∧ (∀ x, x ∈ s → nx ≤ x ∧ x < k) ∧ s.Pairwise (· < ·) ∧ s.length + nx ≤ max k nx
 | [], nx, _ => ⟨[], rfl, fun x h => (by cases h), List.Pairwise.nil, by simp; omega⟩
 | x :: xs, nx, h => by
   unfold setB at h
   simp only [Bool.and_eq_true, decide_eq_true_eq] at h
   obtain ⟨⟨h1, h2⟩, h3⟩ := h
   obtain ⟨y, rfl⟩ : ∃ y : Nat, x = (y : Int) := ⟨x.toNat, by omega⟩
   obtain ⟨s, e1, e2, e3, e4⟩ := setB_ok (nx := y + 1) (by push_cast; exact h3)
   refine ⟨y :: s, by rw [e1]; rfl, fun z hz => ?_, List.Pairwise.cons (fun z hz => ?_) e3, by simp only [List.length_cons]; omega⟩
   · rcases List.mem_cons.1 hz with rfl | hz
     · omega
     · have := e2 z hz; omega
   · have := e2 z hz; omega
/-- the bound of a set of claims, or the error -/
def shortB (k : Nat) (U : Int) (n : Nat) : Int := (k : Int) - (n : Int) + U
theorem CntAt.ext {w w' : World} {C : Nat} {v0 v1 v2 : Value} {can : List (List Int)} {p : List Int} (h : CntAt w C v0 v1 v2 can p) (hb : Below w.heap.size w w') : CntAt w' C v0 v1 v2 can p := by
 obtain ⟨Ac, rows, cc, Ap, pc, h1, h2, h3, h4⟩ := h
 exact ⟨Ac, rows, cc, Ap, pc, h1.ext hb, h2.ext hb, h3.ext hb, h4⟩
/-- what CheckShort hands back, if day, claims and what was sold are right -/
def chkShortV (L rest : Nat) (K : List Nat) (qs : List (Nat × Nat)) (Ts : List (List Nat)) (k : Nat) (ss : List Int) : Value :=
 if setB (k : Nat) 0 ss = true then .tuple #[.int .i64 (shortB k (uniS L rest K qs (claimsOf Ts (ss.map Int.toNat)) (2 ^ ss.length)) ss.length), .int .i64 0] else .tuple #[.int .i64 0, .int .i64 2]
set_option maxRecDepth 100000 in
set_option maxHeartbeats 2000000 in
theorem CheckShort_ok (L rest : Nat) (A : Option Addr) (K : List Nat) (c : Nat) (Y : Option Addr) (rows : List LRow) (yc : Nat) (Ts : List (List Nat)) (D : Option Addr) (qs : List (Nat × Nat)) (dc : Nat) (Sa : Option Addr) (ss : List Int) (sc : Nat) (w : World) (hd : OkD L rest K) (hA : I64 w A (zs K)) (hT : Lst w Y rows) (hm6 : rows.length ≤ 6) (hTs : (rows.map fun r => r.2.1) = Ts.map zs) (hTT : ∀ T, T ∈ Ts → T.length = K.length ∧ ∀ t, t ∈ T → 1 ≤ t ∧ t < 2 ^ L) (hD : Rng w D (zr qs)) (hsd : chkSold ((Tt.cnt L rest (K.zip (Tt.fulls L K.length)) (-1) 0) : Nat) (zr qs) = 0) (hSa : I64 w Sa ss) (hsl : ss.length ≤ 1000) :
 Calls Try.prog 38 #[.agg #[.int .i64 (L : Nat), .int .i64 (K.length : Nat), .slice A K.length c, .int .i64 (rest : Nat)], .slice Y rows.length yc, .slice D qs.length dc, .slice Sa ss.length sc] w (Gives w (chkShortV L rest K qs Ts rows.length ss)) := by
 have HOK := hide (fun w' (h1 : I64 w' A (zs K)) (h2 : Lst w' Y rows) (h3 : Rng w' D (zr qs)) => claimed_ok L rest A K c Y rows yc Ts D qs dc w' hd h1 h2 hm6 hTs hTT h3 hsd)
 have hTl : Ts.length = rows.length := by have := congrArg List.length hTs; simpa using this.symm
 have hcn : (Tt.codes L rest K).length ≤ 1679616 := by
  have h3 := Tt.cnt_small (L := L) (rest := rest) (ps := K.zip (Tt.fulls L K.length)) (la := -1) (s := 0) hd.2.1 (by rw [List.length_zip]; have := hd.2.2.2.1; omega)
  rwa [cnt_codes] at h3
 have HOS : Hid (Tt.okSold (Tt.codes L rest K).length 0 qs = true) := hide (by rw [← cnt_codes]; exact (chkSold_ok hsd).1)
 have hq10 := (chkSold_ok hsd).2
 have HCN := hide hcn
 have HUN := hide (fun B M S d C can p w' (s : List Nat) (h1 : Mx w' B M L rest A K c S (Tt.fulls L K.length) d (fun x => x = stV 0 (-1) 0)) (h2 : CntAt w' C (.pointer (some ⟨B, 0, none⟩)) (.slice Y rows.length yc) (.slice D qs.length dc) can p) (h3 : Lst w' Y rows) (h4 : Rng w' D (zr qs)) (h5 : I64 w' Sa (zs s)) (h6 : s.length ≤ 6) (h7 : ∀ x, x ∈ s → x < rows.length) => union_any L rest A K c B M S d Y rows yc Ts D qs dc C can p Sa s sc w' h1 h2 h3 hTs hTT hm6 h4 HOS.out hq10 h5 h6 h7)
 obtain ⟨R, hR⟩ : ∃ v, setB (rows.length : Nat) 0 ss = v := ⟨_, rfl⟩
 have HR := hide hR
 obtain ⟨V, hV⟩ : ∃ v, chkShortV L rest K qs Ts rows.length ss = v := ⟨_, rfl⟩
 have HVV : Hid ((if R = true then Value.tuple #[.int .i64 (shortB rows.length (uniS L rest K qs (claimsOf Ts (ss.map Int.toNat)) (2 ^ ss.length)) ss.length), .int .i64 0] else Value.tuple #[.int .i64 0, .int .i64 2]) = V) := hide (by rw [← hV, ← hR]; rfl)
 rw [hV]
 clear hTl hcn hR hTs hTT hsd hq10 hV
 go_enter Try.func38, Try.ntmps38
 go_upto_region 1 with fail
 obtain ⟨wa, hwa, hW, hX⟩ := boxed w #[.int .i64 (L : Nat), .int .i64 (K.length : Nat), .slice A K.length c, .int .i64 (rest : Nat)] 24
 rw [hwa]
 clear hwa
 replace hA := hA.ext hW
 have q0 := obj_at hX 0 _ rfl
 have q1 := obj_at hX 1 _ rfl
 have q2 := obj_at hX 2 _ rfl
 have q3 := obj_at hX 3 _ rfl
 have ql := obj_lt hX
 have hWs := hW.size
 go_wp2_with (go_at_call 75; refine (HOK.out _ hA (hT.ext hW) (hD.ext hW)).mono ?_; rintro e u1 ⟨C, B, M, S, d, rfl, hb1, hM1, hmx, hca⟩; have hz1 := hb1.size; have hB1 : Below w.heap.size w u1 := below_step hW hb1 hWs)
 have hSu := (hSa.ext hW).ext hb1
 have hkw : IntKind.i64.wrap ((rows.length : Int) - 1) = (rows.length : Int) - 1 := by rw [IntKind.wrap_i64]; omega
 go_loopw [12, 27] (fun nv iv wr => ∃ (j : Nat) (x : Int), j ≤ ss.length ∧ iv = .int .i64 (j : Nat) ∧ nv = .int .i64 x ∧ (0 ≤ x ∧ x ≤ 6) ∧ Hid (setB (rows.length : Nat) x (ss.drop j) = R) ∧ Below u1.heap.size u1 wr) (fun _ iv _ => ss.length - (intOf iv).toNat)
 case atStart => exact ⟨0, 0, Nat.zero_le _, rfl, rfl, by omega, hide HR.out, Below.refl _ _⟩
 case round =>
  obtain ⟨j, x, hj, rfl, rfl, hx, HS, hb⟩ := hrel
  have hzr := hb.size
  have hBr := below_step hB1 hb (by omega)
  by_cases hjl : j < ss.length
  · have hji : (j : Int) < (ss.length : Int) := by omega
    have hSr := hSu.ext hb
    obtain ⟨sb, so, rfl, hsb⟩ := hSr.form (by omega)
    have hcs := hSr.at hjl
    have hst : setB (rows.length : Nat) x (ss.drop j) = (decide (x ≤ ss[j]) && decide (ss[j] ≤ (rows.length : Int) - 1) && setB (rows.length : Nat) (ss[j] + 1) (ss.drop (j + 1))) := by rw [List.drop_eq_getElem_cons hjl]; rfl
    have HST := hide hst
    clear hst
    obtain ⟨y, hy⟩ : ∃ v, ss[j] = v := ⟨_, rfl⟩
    rw [hy] at hcs HST
    clear hy
    have hba : Below wr.heap.size wr (wr.alloc (.cells #[.int .i64 y] 3)) := below_alloc (Below.refl _ _) (Nat.le_refl _) _
    have hI1 : I64 (wr.alloc (.cells #[.int .i64 y] 3)) (some ⟨wr.heap.size, 0, none⟩) [y] := i64_new wr [y] 3 _ rfl
    have hwi : withinB x ((rows.length : Int) - 1) [y] = (decide (x ≤ y) && decide (y ≤ (rows.length : Int) - 1)) := by
     unfold withinB outB
     simp only [List.any_cons, List.any_nil, Bool.or_false]
     by_cases h1 : x ≤ y <;> by_cases h2 : y ≤ (rows.length : Int) - 1 <;> simp [h1, h2] <;> omega
    obtain ⟨bw, hbw⟩ : ∃ v, withinB x ((rows.length : Int) - 1) [y] = v := ⟨_, rfl⟩
    have HBW := hide hbw
    rw [hbw] at hwi
    have HWI := hide hwi
    clear hbw hwi
    cases bw with
    | true =>
      have hq2 : setB (rows.length : Nat) (y + 1) (ss.drop (j + 1)) = R := by rw [← HS.out, HST.out, ← HWI.out]; rfl
      have hyb : x ≤ y ∧ y ≤ (rows.length : Int) - 1 := by have h := HWI.out; simpa using h.symm
      have HQ2 := hide hq2
      clear hq2 HST HS
      go_wp2_with (go_at_call 65; refine (within_any x ((rows.length : Int) - 1) _ [y] 1 _ hI1 (by simp)).mono ?_; rintro e w2 ⟨rfl, hb2⟩; replace hb2 := ex_below hb2; have hz2 := hb2.size; rw [HBW.out])
      exact ⟨⟨j + 1, y + 1, by omega, by go_num, rfl, by omega, HQ2, below_step hb (below_step hba hb2 hba.size) hzr⟩, by simp [intOf]; omega⟩
    | false =>
      have hq2 : false = R := by rw [← HS.out, HST.out, ← HWI.out]; rfl
      have hRf := hide hq2
      clear HST HS hq2
      go_wp2_with (go_at_call 65; refine (within_any x ((rows.length : Int) - 1) _ [y] 1 _ hI1 (by simp)).mono ?_; rintro e w2 ⟨rfl, hb2⟩; replace hb2 := ex_below hb2; have hz2 := hb2.size; rw [HBW.out])
      go_ret2
      exact gives_of (by rw [← HVV.out, ← hRf.out]; rfl) (below_step hBr (below_step hba hb2 hba.size) (by omega))
  · have hji : ¬ ((j : Int) < (ss.length : Int)) := by omega
    have hRt : true = R := by have h := HS.out; rw [List.drop_eq_nil_of_le (by omega)] at h; exact h
    obtain ⟨s, hse, hsl, _, hsn⟩ := setB_ok (k := rows.length) (nx := 0) (by have h := HR.out; rw [← hRt] at h; exact h)
    have hs6 : s.length ≤ 6 := by omega
    have hcr := (hca.ext hb)
    have hmr := hmx.ext hb
    have hTr := (((hT.ext hW).ext hb1).ext hb)
    have hDr := (((hD.ext hW).ext hb1).ext hb)
    have hSr := hSu.ext hb
    rw [hse] at hSr
    have hssl : ss.length = s.length := by rw [hse, zs_len]
    have hnat : ss.map Int.toNat = s := by rw [hse]; unfold zs; rw [List.map_map]; conv => rhs; rw [← List.map_id s]
                                           apply List.map_congr_left; intro x _; simp
    have hp2 := two_pow s.length hs6
    have hub := uniS_bd (qs := qs) (Cs := claimsOf Ts s) HCN.out (2 ^ s.length) hp2.1
    have hmr2 := hmr.lts.2
    obtain ⟨U, hU⟩ : ∃ v, uniS L rest K qs (claimsOf Ts s) (2 ^ s.length) = v := ⟨_, rfl⟩
    have HU := hide hU
    rw [hU] at hub
    have hub2 : -107495424 ≤ U ∧ U ≤ 107495424 := by
     obtain ⟨g, hg⟩ : ∃ v, 2 ^ s.length = v := ⟨_, rfl⟩
     rw [hg] at hub hp2
     omega
    have HV : Hid (V = .tuple #[.int .i64 ((rows.length : Int) - (ss.length : Int) + U), .int .i64 0]) := hide (by
     rw [← HVV.out, ← hRt, if_pos rfl, hnat, hssl, HU.out]
     rfl)
    have HUC : Hid (Calls Try.prog 76 #[.pointer (some ⟨C, 0, none⟩), .slice Sa ss.length sc] wr (UniP wr B M L rest A K c S (Tt.fulls L K.length) d U)) := hide (by
     have h := HUN.out B M S d C _ _ wr s hmr hcr hTr hDr hSr hs6 (fun x hx => (hsl x hx).2)
     rw [hU, ← hssl] at h
     exact h)
    have hsl6 : ss.length ≤ 6 := by omega
    clear hub hU hp2 hnat hsl hse hRt hs6 hssl hsn
    go_wp2_with (go_at_call 76; refine (HUC.out).mono ?_; rintro e w2 ⟨rfl, hg2, hm2⟩)
    go_ret2
    exact gives_of (by rw [HV.out]; rfl) (below_gx hBr hg2 (fun s hs => by rw [List.mem_singleton.1 hs]; omega) (by omega))
end Go.Proofs.Ytgjfejpibielaaa
