/- Proved here: the ranges of indexes of what was sold; days and their machines, a part of the proofs about the ticket laws. Conditions: those that each theorem names, no others. -/
import Derived.Test.YtgjfejpibielaaaQ15
import Derived.WalkKit
import Derived.WalkSpells
import Derived.WalkLawsBesides
import Derived.Below
import Derived.Deep.QuietTactic
import Derived.BigQuiet
import Derived.Deep.Light
set_option linter.unusedSimpArgs false
set_option linter.unusedVariables false
namespace Go.Proofs.Ytgjfejpibielaaa
open Go.RowKit Go.Maps Go.Shelf
attribute [local go_sem] Oper.semAt_some World.cell?_setCell_far
theorem infoR : (Try.prog.info? 74).map (fun i => (i.zero, i.size, i.bytes)) = some (some (.agg #[.int .i64 0, .int .i64 0]), 2, 16) := by kernel_rfl
theorem und35 : Try.prog.underlying 35 = some (.slice 74) := by kernel_rfl
theorem Mx.row {w w' : World} {B M : Nat} {L rest : Nat} {A : Option Addr} {K : List Nat} {c : Nat} {S : Option Addr} {T : List Nat} {d : Nat} {must : Value → Prop} {row : Option Nat} (h : Mx w B M L rest A K c S T d must) (hg : w.grownBy w' row) (hr : ∀ r, row = some r → FarM B M A S r) : Mx w' B M L rest A K c S T d must := by
 cases row with
 | none => exact h.far (grown_none (row := some w.heap.size) hg) (h.new (Nat.le_refl _))
 | some r => exact h.far hg (hr r rfl)
/-- what the ranges of indexes are: a new list; the maps may have turned -/
def GivesI (w : World) (L rest : Nat) (A : Option Addr) (K : List Nat) (c : Nat) (B1 N1 : Nat) (S1 : Option Addr) (T1 : List Nat) (d1 : Nat) (must1 : Value → Prop) (B2 N2 : Nat) (S2 : Option Addr) (T2 : List Nat) (d2 : Nat) (must2 : Value → Prop) (ps : List (Int × Int)) (e : Ending) (w' : World) : Prop :=
 ∃ (v : Value), e = .returned v ∧ w'.ownsRow w.heap.size 74 2 v ps.length (rngC ps) ∧ GX [N1, N2] w w' ∧ Mx w' B1 N1 L rest A K c S1 T1 d1 must1 ∧ Mx w' B2 N2 L rest A K c S2 T2 d2 must2
set_option maxRecDepth 100000 in
set_option maxHeartbeats 4000000 in
theorem indexes_any (L rest : Nat) (A : Option Addr) (K : List Nat) (c : Nat) (B1 N1 : Nat) (S1 : Option Addr) (T1 : List Nat) (d1 : Nat) (must1 : Value → Prop) (B2 N2 : Nat) (S2 : Option Addr) (T2 : List Nat) (d2 : Nat) (must2 : Value → Prop) (hx12 : FarM B1 N1 A S1 N2) (hx21 : FarM B2 N2 A S2 N1) (D : Option Addr) (rs : List (Nat × Nat)) (dc : Nat) (w : World) (h1 : Mx w B1 N1 L rest A K c S1 T1 d1 must1) (h2 : Mx w B2 N2 L rest A K c S2 T2 d2 must2) (hD : Rng w D (zr rs)) (hDf : 0 < rs.length → ∀ b o, D = some ⟨b, o, none⟩ → b ≠ N1 ∧ b ≠ N2) (hrs : ∀ r, r ∈ rs → r.1 < Tt.cnt L rest (K.zip T1) (-1) 0 ∧ r.2 < Tt.cnt L rest (K.zip T1) (-1) 0) (hl : rs.length ≤ 1000) :
 Calls Try.prog 68 #[.pointer (some ⟨B1, 0, none⟩), .pointer (some ⟨B2, 0, none⟩), .slice D rs.length dc] w (GivesI w L rest A K c B1 N1 S1 T1 d1 must1 B2 N2 S2 T2 d2 must2 (idxL L rest K T1 T2 rs)) := by
 have hN1 := h1.lts.2
 have hN2 := h2.lts.2
 have hn8 := h1.ok.2.2.2.1
 have hn2 := h1.ok.2.2.1
 have hL6 := h1.ok.2.1
 have HRS := hide hrs
 have HDF := hide hDf
 clear hrs hDf
 have HF1 := hide (fun r (h : w.heap.size ≤ r) => h1.new h)
 have HF2 := hide (fun r (h : w.heap.size ≤ r) => h2.new h)
 obtain ⟨ti, ih, iz, is, ib⟩ := info_parts infoR
 go_enter Try.func68, Try.ntmps68
 have hzl : (zr rs).length = rs.length := zr_len rs
 have HZL := hide hzl
 clear hzl
 go_wp2
 go_loopw [7, 14] (fun v i wr => ∃ k : Nat, k ≤ rs.length ∧ i = .int .i64 (k : Nat) ∧ wr.ownsRow w.heap.size 74 2 v (idxL L rest K T1 T2 (rs.take k)).length (rngC (idxL L rest K T1 T2 (rs.take k))) ∧ Mx wr B1 N1 L rest A K c S1 T1 d1 must1 ∧ Mx wr B2 N2 L rest A K c S2 T2 d2 must2 ∧ GX [N1, N2] w wr) (fun _ i _ => rs.length - (intOf i).toNat)
 case atStart => exact ⟨0, Nat.zero_le _, rfl, World.ownsRow_nil _ _ _ _, h1, h2, GX.refl _ _⟩
 case round =>
  obtain ⟨k, hk, rfl, hO, hm1, hm2, hG⟩ := hrel
  have hzw := hG.size
  by_cases hlt : k < rs.length
  · have hki : (k : Int) < (rs.length : Int) := by omega
    have hDr : Rng wr D (zr rs) := Rd.gx hD hG (fun b o e => by have := HDF.out (by omega) b o e; simp; omega)
    obtain ⟨Db, Do, rfl, hDb⟩ := hDr.form (by rw [HZL.out]; omega)
    obtain ⟨_, d0, dd1⟩ := hDr.at (k := k) (by rw [HZL.out]; exact hlt)
    have hrk := HRS.out _ (List.getElem_mem hlt)
    have htk := take_snoc rs k hlt
    have hix := idxL_snoc L rest K T1 T2 (rs.take k) rs[k]
    rw [← htk] at hix
    have hze : (zr rs)[k]'(by rw [HZL.out]; exact hlt) = ((rs[k].1 : Int), (rs[k].2 : Int)) := by unfold zr; simp
    rw [hze] at d0 dd1
    have hln : (idxL L rest K T1 T2 (rs.take k)).length ≤ 1000 := Nat.le_trans (idxL_len _ _ _ _ _ _) (by rw [List.length_take]; omega)
    generalize hrr : rs[k] = r at *
    obtain ⟨lo, hi⟩ := r
    simp only at hrk d0 dd1 hix
    obtain ⟨hlo, hhi⟩ := hrk
    clear htk hze hrr
    have hc1L := Tt.codeA_len L rest (K.zip T1) (-1) 0 lo hlo
    have hc2L := Tt.codeA_len L rest (K.zip T1) (-1) 0 hi hhi
    have hzl1 : (K.zip T1).length = K.length := by rw [List.length_zip, h1.ok.2.2.2.2.1]; omega
    have hzl2 : (K.zip T2).length = K.length := by rw [List.length_zip, h2.ok.2.2.2.2.1]; omega
    rw [hzl1] at hc1L hc2L
    have hlo2 : lo ≤ 1679616 := by have := Tt.cnt_small (L := L) (rest := rest) (ps := K.zip T1) (la := -1) (s := 0) hL6 (by omega); omega
    have hhi2 : hi ≤ 1679616 := by have := Tt.cnt_small (L := L) (rest := rest) (ps := K.zip T1) (la := -1) (s := 0) hL6 (by omega); omega
    have hb1 : Tt.befA L rest (K.zip T2) (-1) 0 (Tt.codeA L rest (K.zip T1) (-1) 0 lo) ≤ 1679616 := Nat.le_trans (Tt.bef_le L rest _ _ _ _ (by rw [hzl2]; exact hc1L.1) hc1L.2) (Tt.cnt_small hL6 (by omega))
    have hb2 : Tt.befA L rest (K.zip T2) (-1) 0 (Tt.codeA L rest (K.zip T1) (-1) 0 hi) ≤ 1679616 := Nat.le_trans (Tt.bef_le L rest _ _ _ _ (by rw [hzl2]; exact hc2L.1) hc2L.2) (Tt.cnt_small hL6 (by omega))
    clear hzl1 hzl2
    unfold idxOf at hix
    simp only at hix
    have hcc1 : Hid (Tt.codeA L rest (K.zip T1) (-1) 0 lo = Tt.codeA L rest (K.zip T1) (-1) 0 lo) := hide rfl
    obtain ⟨c1, hc1⟩ : ∃ v, Tt.codeA L rest (K.zip T1) (-1) 0 lo = v := ⟨_, rfl⟩
    obtain ⟨c2, hc2⟩ : ∃ v, Tt.codeA L rest (K.zip T1) (-1) 0 hi = v := ⟨_, rfl⟩
    rw [hc1, hc2] at hix
    rw [hc1] at hc1L hb1
    rw [hc2] at hc2L hb2
    obtain ⟨n1, hn1⟩ : ∃ v, Tt.befA L rest (K.zip T2) (-1) 0 c1 = v := ⟨_, rfl⟩
    obtain ⟨n2, hnn2⟩ : ∃ v, Tt.befA L rest (K.zip T2) (-1) 0 c2 = v := ⟨_, rfl⟩
    obtain ⟨fb, hfb⟩ : ∃ v, Tt.fitsW T2 c2 = v := ⟨_, rfl⟩
    rw [hn1, hnn2, hfb] at hix
    rw [hn1] at hb1
    rw [hnn2] at hb2
    have HC1 := hide hc1
    have HC2 := hide hc2
    have HN1 := hide hn1
    have HN2 := hide hnn2
    have HFB := hide hfb
    have HIX := hide hix
    have HCL1 := hide hc1L
    have HCL2 := hide hc2L
    clear hc1 hc2 hn1 hnn2 hfb hix hc1L hc2L hcc1
    clear h1 h2
    go_upto_region 5 with fail
    have hba : Below wr.heap.size wr (wr.alloc (.cells #[.int .i64 (lo : Nat), .int .i64 (hi : Nat)] 74)) := below_alloc (Below.refl _ _) (Nat.le_refl _) _
    have hX : BlkAt (wr.alloc (.cells #[.int .i64 (lo : Nat), .int .i64 (hi : Nat)] 74)) wr.heap.size #[.int .i64 (lo : Nat), .int .i64 (hi : Nat)] 74 := heap_alloc_new _ _
    have h1 := hm1.ext hba
    have h2 := hm2.ext hba
    replace hO := own_ext hO hba
    replace hG := hG.below hba hzw
    have hq1 := hm1.lts.2
    have hq2 := hm2.lts.2
    obtain ⟨Br, hBr⟩ : ∃ v, wr.heap.size = v := ⟨_, rfl⟩
    rw [hBr] at hX hzw hq1 hq2 hDb ⊢
    obtain ⟨u0, hu0⟩ : ∃ v, (wr.alloc (.cells #[.int .i64 (lo : Nat), .int .i64 (hi : Nat)] 74)) = v := ⟨_, rfl⟩
    rw [hu0] at hX h1 h2 hO hG ⊢
    clear hu0 hba hm1 hm2 hDr d0 dd1
    have x0 := obj_at hX 0 _ rfl
    have x1 := obj_at hX 1 _ rfl
    have xl := obj_lt hX
    have tok0 : True := trivial
    generalize (idxL L rest K T1 T2 (rs.take k)) = ps at *
    have hw1 : IntKind.i64.wrap ((n2 : Int) - 1) = (n2 : Int) - 1 := by rw [IntKind.wrap_i64]; omega
    cases fb with
    | true =>
      by_cases hle : n1 ≤ n2
      · have hlI : (n1 : Int) ≤ (n2 : Int) := by omega
        go_wp2_with (first
 | (clear tok0; go_at_call 60; refine (code_any B1 N1 L rest A K c S1 T1 d1 must1 hi _ h1.at_ h1.ok h1.ne h1.km hhi).mono ?_; rintro e u1 ⟨rfl, hg, hk⟩; have hz_u1 := hg.size; replace h1 := h1.own hg hk; replace h2 := h2.far hg hx21; replace hO := own_far hO hg (by omega); replace hG := hG.grown hg (fun r e _ => by rw [← Option.some.inj e]; simp); replace hX := hX.gx ((GX.refl [N1] _).grown hg (fun r e _ => by rw [← Option.some.inj e]; simp)) (by simp; omega); clear x0 x1 xl; have x0 := obj_at hX 0 _ rfl; have x1 := obj_at hX 1 _ rfl; have xl := obj_lt hX; clear hg hk; rw [HC2.out]; have tok1 : True := trivial)
 | (clear tok1; go_at_call 60; refine (code_any B1 N1 L rest A K c S1 T1 d1 must1 lo _ h1.at_ h1.ok h1.ne h1.km hlo).mono ?_; rintro e u2 ⟨rfl, hg, hk⟩; have hz_u2 := hg.size; replace h1 := h1.own hg hk; replace h2 := h2.far hg hx21; replace hO := own_far hO hg (by omega); replace hG := hG.grown hg (fun r e _ => by rw [← Option.some.inj e]; simp); replace hX := hX.gx ((GX.refl [N1] _).grown hg (fun r e _ => by rw [← Option.some.inj e]; simp)) (by simp; omega); clear x0 x1 xl; have x0 := obj_at hX 0 _ rfl; have x1 := obj_at hX 1 _ rfl; have xl := obj_lt hX; clear hg hk; rw [HC1.out]; have tok2 : True := trivial)
 | (clear tok2; go_at_call 64; refine (before_any B2 N2 L rest A K c S2 T2 d2 must2 c1 _ h2.at_ h2.ok h2.ne h2.km HCL1.out.1 HCL1.out.2).mono ?_; rintro e u3 ⟨rfl, hg, hk⟩; have hz_u3 := hg.size; replace h2 := h2.own hg hk; replace h1 := h1.far hg hx12; replace hO := own_far hO hg (by omega); replace hG := hG.grown hg (fun r e _ => by rw [← Option.some.inj e]; simp); replace hX := hX.gx ((GX.refl [N2] _).grown hg (fun r e _ => by rw [← Option.some.inj e]; simp)) (by simp; omega); clear x0 x1 xl; have x0 := obj_at hX 0 _ rfl; have x1 := obj_at hX 1 _ rfl; have xl := obj_lt hX; clear hg hk; rw [HN1.out]; have tok3 : True := trivial)
 | (clear tok3; go_at_call 64; refine (before_any B2 N2 L rest A K c S2 T2 d2 must2 c2 _ h2.at_ h2.ok h2.ne h2.km HCL2.out.1 HCL2.out.2).mono ?_; rintro e u4 ⟨rfl, hg, hk⟩; have hz_u4 := hg.size; replace h2 := h2.own hg hk; replace h1 := h1.far hg hx12; replace hO := own_far hO hg (by omega); replace hG := hG.grown hg (fun r e _ => by rw [← Option.some.inj e]; simp); replace hX := hX.gx ((GX.refl [N2] _).grown hg (fun r e _ => by rw [← Option.some.inj e]; simp)) (by simp; omega); clear x0 x1 xl; have x0 := obj_at hX 0 _ rfl; have x1 := obj_at hX 1 _ rfl; have xl := obj_lt hX; clear hg hk; rw [HN2.out]; have tok4 : True := trivial)
 | (clear tok4; go_at_call 87; refine (fits_any B2 N2 L rest A K c S2 T2 d2 c2 _ (h2.ext (by (repeat (first | exact Below.refl _ _ | assumption | refine below_drewN ?_ _ | refine below_drew ?_ | refine below_gr ?_ ?_ _ | refine below_alloc ?_ ?_ _ | refine Below.setCell ?_ ?_ _ | refine below_step ?_ (by assumption) ?_ | omega | (simp only [zz] at *; omega))))).at_ h2.ok HCL2.out.1 HCL2.out.2).mono ?_; rintro e u5 ⟨rfl, hb5⟩; replace hb5 := ex_below hb5; have hz5 := hb5.size; rw [World.size_alloc] at hz5; rw [HFB.out]; have hY : BlkAt u5 u4.heap.size #[.int .i64 (n1 : Nat), .int .i64 ((n2 : Int) - 1)] 74 := BlkAt.ext (heap_alloc_new _ _) hb5; have hb45 : Below u4.heap.size u4 u5 := (by (repeat (first | exact Below.refl _ _ | assumption | refine below_drewN ?_ _ | refine below_drew ?_ | refine below_gr ?_ ?_ _ | refine below_alloc ?_ ?_ _ | refine Below.setCell ?_ ?_ _ | refine below_step ?_ (by assumption) ?_ | omega | (simp only [zz] at *; omega)))); have hob : u7.ownBlock ≠ some u4.heap.size := fun e => (by have := (hO.lt _ e).2; omega); replace hO := own_ext hO hb45; replace h1 := h1.ext hb45; replace h2 := h2.ext hb45; replace hG := hG.below hb45 hG.size; have y0 := obj_at hY 0 _ rfl; have y1 := obj_at hY 1 _ rfl; have yf := obj_fz hY 1; have yl := obj_lt hY)
 | (at_builtin; refine wpList_app _ rfl (.tmp 45) (.tmp 47) 35 rfl w.heap.size 74 ti _ 2 16 und35 ih iz is ib rfl (by decide) _ _ _ rfl ((ownsRow_setCell_other (a := ⟨u4.heap.size, 1, none⟩) hO hob _).alloc _) (some ⟨u5.heap.size, 0, none⟩) 1 1 [.int .i64 (n1 : Nat), .int .i64 (n2 : Nat)] rfl (by have h := rd_new2 (u5.setCell ⟨u4.heap.size, 1, none⟩ (.int .i64 (n2 : Nat))) (.int .i64 (n1 : Nat)) (.int .i64 (n2 : Nat)) 74; rw [size_setCell] at h; exact h) (by simp [Value.oneCell']) (by unfold maxLen; omega) (by omega) (by simp; omega) ?_; intro A6 c6 u6 hown6 hgr6))
        refine ⟨⟨k + 1, by omega, by go_num, ?_, ((h1.gx ((GX.refl [u4.heap.size] u5).setCell ⟨u4.heap.size, 1, none⟩ (.int .i64 (n2 : Nat)) (fun _ => by simp)) (fun M' hm => by rw [List.mem_singleton.1 hm]; exact HF1.out _ (by omega))).ext (below_alloc (Below.refl _ _) (Nat.le_refl _) _)).row hgr6 (fun r e => HF1.out r ((hO.lt r e).1)), ((h2.gx ((GX.refl [u4.heap.size] u5).setCell ⟨u4.heap.size, 1, none⟩ (.int .i64 (n2 : Nat)) (fun _ => by simp)) (fun M' hm => by rw [List.mem_singleton.1 hm]; exact HF2.out _ (by omega))).ext (below_alloc (Below.refl _ _) (Nat.le_refl _) _)).row hgr6 (fun r e => HF2.out r ((hO.lt r e).1)), ((hG.setCell ⟨u4.heap.size, 1, none⟩ _ (fun h => by simp at h; omega)).alloc _).grown hgr6 (fun r e hlt => by have := (hO.lt r e).1; omega)⟩, by simp [intOf]; omega⟩
        rw [HIX.out, if_pos (by simp; omega), List.length_append, rngC_app]
        simpa [rngC] using hown6
      · have hlI : ¬ ((n1 : Int) ≤ (n2 : Int)) := by omega
        go_wp2_with (first
 | (clear tok0; go_at_call 60; refine (code_any B1 N1 L rest A K c S1 T1 d1 must1 hi _ h1.at_ h1.ok h1.ne h1.km hhi).mono ?_; rintro e u1 ⟨rfl, hg, hk⟩; have hz_u1 := hg.size; replace h1 := h1.own hg hk; replace h2 := h2.far hg hx21; replace hO := own_far hO hg (by omega); replace hG := hG.grown hg (fun r e _ => by rw [← Option.some.inj e]; simp); replace hX := hX.gx ((GX.refl [N1] _).grown hg (fun r e _ => by rw [← Option.some.inj e]; simp)) (by simp; omega); clear x0 x1 xl; have x0 := obj_at hX 0 _ rfl; have x1 := obj_at hX 1 _ rfl; have xl := obj_lt hX; clear hg hk; rw [HC2.out]; have tok1 : True := trivial)
 | (clear tok1; go_at_call 60; refine (code_any B1 N1 L rest A K c S1 T1 d1 must1 lo _ h1.at_ h1.ok h1.ne h1.km hlo).mono ?_; rintro e u2 ⟨rfl, hg, hk⟩; have hz_u2 := hg.size; replace h1 := h1.own hg hk; replace h2 := h2.far hg hx21; replace hO := own_far hO hg (by omega); replace hG := hG.grown hg (fun r e _ => by rw [← Option.some.inj e]; simp); replace hX := hX.gx ((GX.refl [N1] _).grown hg (fun r e _ => by rw [← Option.some.inj e]; simp)) (by simp; omega); clear x0 x1 xl; have x0 := obj_at hX 0 _ rfl; have x1 := obj_at hX 1 _ rfl; have xl := obj_lt hX; clear hg hk; rw [HC1.out]; have tok2 : True := trivial)
 | (clear tok2; go_at_call 64; refine (before_any B2 N2 L rest A K c S2 T2 d2 must2 c1 _ h2.at_ h2.ok h2.ne h2.km HCL1.out.1 HCL1.out.2).mono ?_; rintro e u3 ⟨rfl, hg, hk⟩; have hz_u3 := hg.size; replace h2 := h2.own hg hk; replace h1 := h1.far hg hx12; replace hO := own_far hO hg (by omega); replace hG := hG.grown hg (fun r e _ => by rw [← Option.some.inj e]; simp); replace hX := hX.gx ((GX.refl [N2] _).grown hg (fun r e _ => by rw [← Option.some.inj e]; simp)) (by simp; omega); clear x0 x1 xl; have x0 := obj_at hX 0 _ rfl; have x1 := obj_at hX 1 _ rfl; have xl := obj_lt hX; clear hg hk; rw [HN1.out]; have tok3 : True := trivial)
 | (clear tok3; go_at_call 64; refine (before_any B2 N2 L rest A K c S2 T2 d2 must2 c2 _ h2.at_ h2.ok h2.ne h2.km HCL2.out.1 HCL2.out.2).mono ?_; rintro e u4 ⟨rfl, hg, hk⟩; have hz_u4 := hg.size; replace h2 := h2.own hg hk; replace h1 := h1.far hg hx12; replace hO := own_far hO hg (by omega); replace hG := hG.grown hg (fun r e _ => by rw [← Option.some.inj e]; simp); replace hX := hX.gx ((GX.refl [N2] _).grown hg (fun r e _ => by rw [← Option.some.inj e]; simp)) (by simp; omega); clear x0 x1 xl; have x0 := obj_at hX 0 _ rfl; have x1 := obj_at hX 1 _ rfl; have xl := obj_lt hX; clear hg hk; rw [HN2.out]; have tok4 : True := trivial)
 | (clear tok4; go_at_call 87; refine (fits_any B2 N2 L rest A K c S2 T2 d2 c2 _ (h2.ext (by (repeat (first | exact Below.refl _ _ | assumption | refine below_drewN ?_ _ | refine below_drew ?_ | refine below_gr ?_ ?_ _ | refine below_alloc ?_ ?_ _ | refine Below.setCell ?_ ?_ _ | refine below_step ?_ (by assumption) ?_ | omega | (simp only [zz] at *; omega))))).at_ h2.ok HCL2.out.1 HCL2.out.2).mono ?_; rintro e u5 ⟨rfl, hb5⟩; replace hb5 := ex_below hb5; have hz5 := hb5.size; rw [World.size_alloc] at hz5; rw [HFB.out]; have hY : BlkAt u5 u4.heap.size #[.int .i64 (n1 : Nat), .int .i64 ((n2 : Int) - 1)] 74 := BlkAt.ext (heap_alloc_new _ _) hb5; have hb45 : Below u4.heap.size u4 u5 := (by (repeat (first | exact Below.refl _ _ | assumption | refine below_drewN ?_ _ | refine below_drew ?_ | refine below_gr ?_ ?_ _ | refine below_alloc ?_ ?_ _ | refine Below.setCell ?_ ?_ _ | refine below_step ?_ (by assumption) ?_ | omega | (simp only [zz] at *; omega)))); have hob : u7.ownBlock ≠ some u4.heap.size := fun e => (by have := (hO.lt _ e).2; omega); replace hO := own_ext hO hb45; replace h1 := h1.ext hb45; replace h2 := h2.ext hb45; replace hG := hG.below hb45 hG.size; have y0 := obj_at hY 0 _ rfl; have y1 := obj_at hY 1 _ rfl; have yf := obj_fz hY 1; have yl := obj_lt hY))
        refine ⟨⟨k + 1, by omega, by go_num, ?_, (h1.gx ((GX.refl [u4.heap.size] u5).setCell ⟨u4.heap.size, 1, none⟩ (.int .i64 (n2 : Nat)) (fun _ => by simp)) (fun M' hm => by rw [List.mem_singleton.1 hm]; exact HF1.out _ (by omega))), (h2.gx ((GX.refl [u4.heap.size] u5).setCell ⟨u4.heap.size, 1, none⟩ (.int .i64 (n2 : Nat)) (fun _ => by simp)) (fun M' hm => by rw [List.mem_singleton.1 hm]; exact HF2.out _ (by omega))), hG.setCell ⟨u4.heap.size, 1, none⟩ _ (fun h => by simp at h; omega)⟩, by simp [intOf]; omega⟩
        rw [HIX.out, if_neg (by simp; omega)]
        exact ownsRow_setCell_other hO hob _
    | false =>
      by_cases hle : n1 + 1 ≤ n2
      · have hlI : (n1 : Int) ≤ (n2 : Int) - 1 := by omega
        go_wp2_with (first
 | (clear tok0; go_at_call 60; refine (code_any B1 N1 L rest A K c S1 T1 d1 must1 hi _ h1.at_ h1.ok h1.ne h1.km hhi).mono ?_; rintro e u1 ⟨rfl, hg, hk⟩; have hz_u1 := hg.size; replace h1 := h1.own hg hk; replace h2 := h2.far hg hx21; replace hO := own_far hO hg (by omega); replace hG := hG.grown hg (fun r e _ => by rw [← Option.some.inj e]; simp); replace hX := hX.gx ((GX.refl [N1] _).grown hg (fun r e _ => by rw [← Option.some.inj e]; simp)) (by simp; omega); clear x0 x1 xl; have x0 := obj_at hX 0 _ rfl; have x1 := obj_at hX 1 _ rfl; have xl := obj_lt hX; clear hg hk; rw [HC2.out]; have tok1 : True := trivial)
 | (clear tok1; go_at_call 60; refine (code_any B1 N1 L rest A K c S1 T1 d1 must1 lo _ h1.at_ h1.ok h1.ne h1.km hlo).mono ?_; rintro e u2 ⟨rfl, hg, hk⟩; have hz_u2 := hg.size; replace h1 := h1.own hg hk; replace h2 := h2.far hg hx21; replace hO := own_far hO hg (by omega); replace hG := hG.grown hg (fun r e _ => by rw [← Option.some.inj e]; simp); replace hX := hX.gx ((GX.refl [N1] _).grown hg (fun r e _ => by rw [← Option.some.inj e]; simp)) (by simp; omega); clear x0 x1 xl; have x0 := obj_at hX 0 _ rfl; have x1 := obj_at hX 1 _ rfl; have xl := obj_lt hX; clear hg hk; rw [HC1.out]; have tok2 : True := trivial)
 | (clear tok2; go_at_call 64; refine (before_any B2 N2 L rest A K c S2 T2 d2 must2 c1 _ h2.at_ h2.ok h2.ne h2.km HCL1.out.1 HCL1.out.2).mono ?_; rintro e u3 ⟨rfl, hg, hk⟩; have hz_u3 := hg.size; replace h2 := h2.own hg hk; replace h1 := h1.far hg hx12; replace hO := own_far hO hg (by omega); replace hG := hG.grown hg (fun r e _ => by rw [← Option.some.inj e]; simp); replace hX := hX.gx ((GX.refl [N2] _).grown hg (fun r e _ => by rw [← Option.some.inj e]; simp)) (by simp; omega); clear x0 x1 xl; have x0 := obj_at hX 0 _ rfl; have x1 := obj_at hX 1 _ rfl; have xl := obj_lt hX; clear hg hk; rw [HN1.out]; have tok3 : True := trivial)
 | (clear tok3; go_at_call 64; refine (before_any B2 N2 L rest A K c S2 T2 d2 must2 c2 _ h2.at_ h2.ok h2.ne h2.km HCL2.out.1 HCL2.out.2).mono ?_; rintro e u4 ⟨rfl, hg, hk⟩; have hz_u4 := hg.size; replace h2 := h2.own hg hk; replace h1 := h1.far hg hx12; replace hO := own_far hO hg (by omega); replace hG := hG.grown hg (fun r e _ => by rw [← Option.some.inj e]; simp); replace hX := hX.gx ((GX.refl [N2] _).grown hg (fun r e _ => by rw [← Option.some.inj e]; simp)) (by simp; omega); clear x0 x1 xl; have x0 := obj_at hX 0 _ rfl; have x1 := obj_at hX 1 _ rfl; have xl := obj_lt hX; clear hg hk; rw [HN2.out]; have tok4 : True := trivial)
 | (clear tok4; go_at_call 87; refine (fits_any B2 N2 L rest A K c S2 T2 d2 c2 _ (h2.ext (by (repeat (first | exact Below.refl _ _ | assumption | refine below_drewN ?_ _ | refine below_drew ?_ | refine below_gr ?_ ?_ _ | refine below_alloc ?_ ?_ _ | refine Below.setCell ?_ ?_ _ | refine below_step ?_ (by assumption) ?_ | omega | (simp only [zz] at *; omega))))).at_ h2.ok HCL2.out.1 HCL2.out.2).mono ?_; rintro e u5 ⟨rfl, hb5⟩; replace hb5 := ex_below hb5; have hz5 := hb5.size; rw [World.size_alloc] at hz5; rw [HFB.out]; have hY : BlkAt u5 u4.heap.size #[.int .i64 (n1 : Nat), .int .i64 ((n2 : Int) - 1)] 74 := BlkAt.ext (heap_alloc_new _ _) hb5; have hb45 : Below u4.heap.size u4 u5 := (by (repeat (first | exact Below.refl _ _ | assumption | refine below_drewN ?_ _ | refine below_drew ?_ | refine below_gr ?_ ?_ _ | refine below_alloc ?_ ?_ _ | refine Below.setCell ?_ ?_ _ | refine below_step ?_ (by assumption) ?_ | omega | (simp only [zz] at *; omega)))); have hob : u7.ownBlock ≠ some u4.heap.size := fun e => (by have := (hO.lt _ e).2; omega); replace hO := own_ext hO hb45; replace h1 := h1.ext hb45; replace h2 := h2.ext hb45; replace hG := hG.below hb45 hG.size; have y0 := obj_at hY 0 _ rfl; have y1 := obj_at hY 1 _ rfl; have yf := obj_fz hY 1; have yl := obj_lt hY)
 | (at_builtin; refine wpList_app _ rfl (.tmp 45) (.tmp 47) 35 rfl w.heap.size 74 ti _ 2 16 und35 ih iz is ib rfl (by decide) _ _ _ rfl (hO.alloc _) (some ⟨u5.heap.size, 0, none⟩) 1 1 [.int .i64 (n1 : Nat), .int .i64 ((n2 : Int) - 1)] rfl (rd_new2 _ _ _ _) (by simp [Value.oneCell']) (by unfold maxLen; omega) (by omega) (by simp; omega) ?_; intro A6 c6 u6 hown6 hgr6))
        refine ⟨⟨k + 1, by omega, by go_num, ?_, (h1.ext (below_alloc (Below.refl _ _) (Nat.le_refl _) _)).row hgr6 (fun r e => HF1.out r ((hO.lt r e).1)), (h2.ext (below_alloc (Below.refl _ _) (Nat.le_refl _) _)).row hgr6 (fun r e => HF2.out r ((hO.lt r e).1)), (hG.alloc _).grown hgr6 (fun r e hlt => by have := (hO.lt r e).1; omega)⟩, by simp [intOf]; omega⟩
        rw [HIX.out, if_pos (by simp; omega), List.length_append, rngC_app]
        simpa [rngC] using hown6
      · have hlI : ¬ ((n1 : Int) ≤ (n2 : Int) - 1) := by omega
        go_wp2_with (first
 | (clear tok0; go_at_call 60; refine (code_any B1 N1 L rest A K c S1 T1 d1 must1 hi _ h1.at_ h1.ok h1.ne h1.km hhi).mono ?_; rintro e u1 ⟨rfl, hg, hk⟩; have hz_u1 := hg.size; replace h1 := h1.own hg hk; replace h2 := h2.far hg hx21; replace hO := own_far hO hg (by omega); replace hG := hG.grown hg (fun r e _ => by rw [← Option.some.inj e]; simp); replace hX := hX.gx ((GX.refl [N1] _).grown hg (fun r e _ => by rw [← Option.some.inj e]; simp)) (by simp; omega); clear x0 x1 xl; have x0 := obj_at hX 0 _ rfl; have x1 := obj_at hX 1 _ rfl; have xl := obj_lt hX; clear hg hk; rw [HC2.out]; have tok1 : True := trivial)
 | (clear tok1; go_at_call 60; refine (code_any B1 N1 L rest A K c S1 T1 d1 must1 lo _ h1.at_ h1.ok h1.ne h1.km hlo).mono ?_; rintro e u2 ⟨rfl, hg, hk⟩; have hz_u2 := hg.size; replace h1 := h1.own hg hk; replace h2 := h2.far hg hx21; replace hO := own_far hO hg (by omega); replace hG := hG.grown hg (fun r e _ => by rw [← Option.some.inj e]; simp); replace hX := hX.gx ((GX.refl [N1] _).grown hg (fun r e _ => by rw [← Option.some.inj e]; simp)) (by simp; omega); clear x0 x1 xl; have x0 := obj_at hX 0 _ rfl; have x1 := obj_at hX 1 _ rfl; have xl := obj_lt hX; clear hg hk; rw [HC1.out]; have tok2 : True := trivial)
 | (clear tok2; go_at_call 64; refine (before_any B2 N2 L rest A K c S2 T2 d2 must2 c1 _ h2.at_ h2.ok h2.ne h2.km HCL1.out.1 HCL1.out.2).mono ?_; rintro e u3 ⟨rfl, hg, hk⟩; have hz_u3 := hg.size; replace h2 := h2.own hg hk; replace h1 := h1.far hg hx12; replace hO := own_far hO hg (by omega); replace hG := hG.grown hg (fun r e _ => by rw [← Option.some.inj e]; simp); replace hX := hX.gx ((GX.refl [N2] _).grown hg (fun r e _ => by rw [← Option.some.inj e]; simp)) (by simp; omega); clear x0 x1 xl; have x0 := obj_at hX 0 _ rfl; have x1 := obj_at hX 1 _ rfl; have xl := obj_lt hX; clear hg hk; rw [HN1.out]; have tok3 : True := trivial)
 | (clear tok3; go_at_call 64; refine (before_any B2 N2 L rest A K c S2 T2 d2 must2 c2 _ h2.at_ h2.ok h2.ne h2.km HCL2.out.1 HCL2.out.2).mono ?_; rintro e u4 ⟨rfl, hg, hk⟩; have hz_u4 := hg.size; replace h2 := h2.own hg hk; replace h1 := h1.far hg hx12; replace hO := own_far hO hg (by omega); replace hG := hG.grown hg (fun r e _ => by rw [← Option.some.inj e]; simp); replace hX := hX.gx ((GX.refl [N2] _).grown hg (fun r e _ => by rw [← Option.some.inj e]; simp)) (by simp; omega); clear x0 x1 xl; have x0 := obj_at hX 0 _ rfl; have x1 := obj_at hX 1 _ rfl; have xl := obj_lt hX; clear hg hk; rw [HN2.out]; have tok4 : True := trivial)
 | (clear tok4; go_at_call 87; refine (fits_any B2 N2 L rest A K c S2 T2 d2 c2 _ (h2.ext (by (repeat (first | exact Below.refl _ _ | assumption | refine below_drewN ?_ _ | refine below_drew ?_ | refine below_gr ?_ ?_ _ | refine below_alloc ?_ ?_ _ | refine Below.setCell ?_ ?_ _ | refine below_step ?_ (by assumption) ?_ | omega | (simp only [zz] at *; omega))))).at_ h2.ok HCL2.out.1 HCL2.out.2).mono ?_; rintro e u5 ⟨rfl, hb5⟩; replace hb5 := ex_below hb5; have hz5 := hb5.size; rw [World.size_alloc] at hz5; rw [HFB.out]; have hY : BlkAt u5 u4.heap.size #[.int .i64 (n1 : Nat), .int .i64 ((n2 : Int) - 1)] 74 := BlkAt.ext (heap_alloc_new _ _) hb5; have hb45 : Below u4.heap.size u4 u5 := (by (repeat (first | exact Below.refl _ _ | assumption | refine below_drewN ?_ _ | refine below_drew ?_ | refine below_gr ?_ ?_ _ | refine below_alloc ?_ ?_ _ | refine Below.setCell ?_ ?_ _ | refine below_step ?_ (by assumption) ?_ | omega | (simp only [zz] at *; omega)))); have hob : u7.ownBlock ≠ some u4.heap.size := fun e => (by have := (hO.lt _ e).2; omega); replace hO := own_ext hO hb45; replace h1 := h1.ext hb45; replace h2 := h2.ext hb45; replace hG := hG.below hb45 hG.size; have y0 := obj_at hY 0 _ rfl; have y1 := obj_at hY 1 _ rfl; have yf := obj_fz hY 1; have yl := obj_lt hY))
        refine ⟨⟨k + 1, by omega, by go_num, ?_, h1, h2, hG⟩, by simp [intOf]; omega⟩
        rw [HIX.out, if_neg (by simp; omega)]
        exact hO
  · have hkn : k = rs.length := by omega
    have hki : ¬ ((k : Int) < (rs.length : Int)) := by omega
    have hO2 : wr.ownsRow w.heap.size 74 2 u7 (idxL L rest K T1 T2 rs).length (rngC (idxL L rest K T1 T2 rs)) := by
     have := hO; rwa [hkn, List.take_length] at this
    clear hkn
    go_wp2
    go_ret
    exact ⟨_, rfl, hO2, hG, hm1, hm2⟩
end Go.Proofs.Ytgjfejpibielaaa
namespace Go.Proofs.Ytgjfejpibielaaa
open Go.RowKit Go.Maps Go.Shelf
attribute [local go_sem] Oper.semAt_some World.cell?_setCell_far
/-- a valid day -/
def OkD (L rest : Nat) (K : List Nat) : Prop := 2 ≤ L ∧ L ≤ 6 ∧ 2 ≤ K.length ∧ K.length ≤ 8 ∧ (∀ k, k ∈ K → k < L) ∧ rest < L
theorem OkD.torn {L rest : Nat} {K T : List Nat} (h : OkD L rest K) (hl : T.length = K.length) (ht : ∀ t, t ∈ T → t < 64) : OkM L rest K T := ⟨h.1, h.2.1, h.2.2.1, h.2.2.2.1, hl, h.2.2.2.2.1, ht, h.2.2.2.2.2⟩
theorem OkD.full {L rest : Nat} {K : List Nat} (h : OkD L rest K) : OkM L rest K (Tt.fulls L K.length) := h.torn (by simp [Tt.fulls]) (fun t ht => by
 have := List.eq_of_mem_replicate ht
 have h2 := two_pow L h.2.1
 omega)
theorem chk_ok {L n r : Int} {K : List Int} (h : chkDay L n K r = 0) : ∃ (l rest : Nat) (k : List Nat), L = (l : Nat) ∧ n = (k.length : Nat) ∧ K = zs k ∧ r = (rest : Nat) ∧ OkD l rest k := by
 unfold chkDay at h
 split at h
 · cases h
 · rename_i h1
   split at h
   · cases h
   · rename_i h2
     split at h
     · cases h
     · rename_i h3
       simp only [Bool.not_eq_false, Bool.and_eq_true] at h1 h3
       have hL := within_L h1.1
       have hn := within_n h1.2
       have h2 := Decidable.not_not.1 h2
       have hr : 0 ≤ r ∧ r ≤ L - 1 := by have := h3.2; simp [withinB, outB] at this; omega
       have hK : ∀ x, x ∈ K → 0 ≤ x ∧ x ≤ L - 1 := by
        have := h3.1
        unfold withinB at this
        simp only [Bool.not_eq_true', List.any_eq_false] at this
        intro x hx
        have := this x hx
        simp [outB] at this
        omega
       refine ⟨L.toNat, r.toNat, K.map Int.toNat, by omega, by simp; omega, ?_, by omega, by omega, by omega, by simp; omega, by simp; omega, ?_, by omega⟩
       · unfold zs
         rw [List.map_map]
         conv => lhs; rw [← List.map_id K]
         apply List.map_congr_left
         intro x hx
         have := hK x hx
         simp only [id, Function.comp]
         omega
       · intro k hk
         obtain ⟨x, hx, rfl⟩ := List.mem_map.1 hk
         have := hK x hx
         omega
theorem chk_zero {L rest : Nat} {K : List Nat} (h : OkD L rest K) : chkDay (L : Nat) (K.length : Nat) (zs K) (rest : Nat) = 0 := by
 obtain ⟨h1, h2, h3, h4, h5, h6⟩ := h
 have e1 : withinB 2 6 [(L : Int)] = true := by simp [withinB, outB]; omega
 have e2 : withinB 2 8 [(K.length : Int)] = true := by simp [withinB, outB]; omega
 have e3 : withinB 0 ((L : Int) - 1) [(rest : Int)] = true := by simp [withinB, outB]; omega
 have e4 : withinB 0 ((L : Int) - 1) (zs K) = true := by
  unfold withinB
  simp only [Bool.not_eq_true', List.any_eq_false]
  intro x hx
  obtain ⟨k, hk, rfl⟩ := List.mem_map.1 hx
  have := h5 k hk
  simp [outB]
  omega
 unfold chkDay
 rw [e1, e2, e3, e4, zs_len]
 simp
/-- what open comes to -/
def OpenAt (w : World) (L rest : Nat) (A : Option Addr) (K : List Nat) (c : Nat) (e : Ending) (w' : World) : Prop := ∃ (B M : Nat) (S : Option Addr) (d : Nat), e = .returned (.tuple #[.pointer (some ⟨B, 0, none⟩), .int .i64 0]) ∧ RowKit.Below w.heap.size w w' ∧ w.heap.size ≤ B ∧ w.heap.size ≤ M ∧ Mx w' B M L rest A K c S (Tt.fulls L K.length) d (fun x => x = stV 0 (-1) 0)
theorem NewAt.mx {w : World} {L rest : Nat} {A : Option Addr} {K : List Nat} {c : Nat} {T : List Nat} {e : Ending} {w' : World} (hok : OkM L rest K T) (h : NewAt w L rest A K c T e w') : ∃ (B M : Nat) (S : Option Addr) (d : Nat), e = .returned (.pointer (some ⟨B, 0, none⟩)) ∧ RowKit.Below w.heap.size w w' ∧ w.heap.size ≤ B ∧ w.heap.size ≤ M ∧ Mx w' B M L rest A K c S T d (fun x => x = stV 0 (-1) 0) := by
 obtain ⟨B, M, S, d, h1, h2, h3, h4, h5, h6, h7⟩ := h
 exact ⟨B, M, S, d, h1, h4, h2, h3, h5, hok, h6, h7⟩
set_option maxRecDepth 100000 in
set_option maxHeartbeats 1000000 in
theorem open_ok (L rest : Nat) (A : Option Addr) (K : List Nat) (c : Nat) (w : World) (hd : OkD L rest K) (hA : I64 w A (zs K)) : Calls Try.prog 57 #[.agg #[.int .i64 (L : Nat), .int .i64 (K.length : Nat), .slice A K.length c, .int .i64 (rest : Nat)]] w (OpenAt w L rest A K c) := by
 have HC := hide (fun w' (h : I64 w' A (zs K)) => checkDay_any (L : Nat) (K.length : Nat) A (zs K) c (rest : Nat) w' h (by rw [zs_len]; have := hd.2.2.2.1; omega))
 rw [chk_zero hd, zs_len] at HC
 go_enter Try.func57, Try.ntmps57
 go_upto_region 1 with fail
 obtain ⟨wa, hwa, hW, hX⟩ := boxed w #[.int .i64 (L : Nat), .int .i64 (K.length : Nat), .slice A K.length c, .int .i64 (rest : Nat)] 24
 rw [hwa]
 clear hwa
 replace hA := hA.ext hW
 have q0 := obj_at hX 0 _ rfl
 have q1 := obj_at hX 1 _ rfl
 have q2 := obj_at hX 2 _ rfl
 have q3 := obj_at hX 3 _ rfl
 have ql := obj_lt hX
 have hWs := hW.size
 go_wp2_with (first
 | (go_at_call 24; refine (HC.out _ hA).mono ?_; rintro e u1 ⟨rfl, hb1⟩; replace hb1 := ex_below hb1; have hB1 : Below w.heap.size w u1 := below_step hW hb1 hWs; have hX1 := hX.ext hb1; have hA1 := hA.ext hb1; have p0 := obj_at hX1 0 _ rfl; have p1 := obj_at hX1 1 _ rfl; have p2 := obj_at hX1 2 _ rfl; have p3 := obj_at hX1 3 _ rfl; have hz1 := hb1.size)
 | (go_at_call 73; refine (new_nil L rest A K c _ hd.full hA1).mono ?_; intro e u2 hn; obtain ⟨B, M, S, d, rfl, hb2, hB0, hM0, hmx⟩ := hn.mx hd.full; clear hn))
 go_ret2
 exact ⟨B, M, S, d, rfl, below_step hB1 hb2 (by omega), by omega, by omega, hmx⟩
set_option maxRecDepth 100000 in
set_option maxHeartbeats 1000000 in
theorem Count_ok (L rest : Nat) (A : Option Addr) (K : List Nat) (c : Nat) (w : World) (hd : OkD L rest K) (hA : I64 w A (zs K)) : Calls Try.prog 18 #[.agg #[.int .i64 (L : Nat), .int .i64 (K.length : Nat), .slice A K.length c, .int .i64 (rest : Nat)]] w (Gives w (.tuple #[.int .i64 ((Tt.cnt L rest (K.zip (Tt.fulls L K.length)) (-1) 0) : Nat), .int .i64 0])) := by
 go_enter Try.func18, Try.ntmps18
 go_upto_region 1 with fail
 obtain ⟨wa, hwa, hW, hX⟩ := boxed w #[.int .i64 (L : Nat), .int .i64 (K.length : Nat), .slice A K.length c, .int .i64 (rest : Nat)] 24
 rw [hwa]
 clear hwa
 replace hA := hA.ext hW
 have q0 := obj_at hX 0 _ rfl
 have q1 := obj_at hX 1 _ rfl
 have q2 := obj_at hX 2 _ rfl
 have q3 := obj_at hX 3 _ rfl
 have ql := obj_lt hX
 have hWs := hW.size
 go_wp2_with (first
 | (go_at_call 57; refine (open_ok L rest A K c _ hd hA).mono ?_; rintro e u1 ⟨B, M, S, d, rfl, hb1, hB0, hM0, hm⟩; have hz1 := hb1.size; have hB1 : Below w.heap.size w u1 := below_step hW hb1 hWs)
 | (go_at_call 58; refine (many_any B M L rest A K c S (Tt.fulls L K.length) d _ hm.at_ hm.km).mono ?_; rintro e u2 ⟨rfl, hb2⟩; replace hb2 := ex_below hb2))
 go_ret2
 exact gives_of rfl (below_step hB1 hb2 (by omega))
end Go.Proofs.Ytgjfejpibielaaa
