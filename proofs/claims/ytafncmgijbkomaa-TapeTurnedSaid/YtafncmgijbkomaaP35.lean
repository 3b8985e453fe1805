/- Proved here: how many nights go on; regions whose last operations follow quiet ones, a part of the proofs about the tape laws. Conditions: those that each theorem names, no others. -/
import Derived.Test.YtafncmgijbkomaaP34
import Derived.WalkKit
import Derived.WalkSpells
import Derived.WalkLawsBesides
import Derived.Below
import Derived.Deep.QuietTactic
import Derived.BigQuiet
import Derived.Deep.Light
import Derived.Deep.RegionLaw
import Derived.StillTailTactics
import Derived.Deep.Quiet
set_option linter.unusedSimpArgs false
set_option linter.unusedVariables false
namespace Go.Proofs.Ytafncmgijbkomaa
open Go.RowKit Go.Maps
def psumC (W l : Nat) (ts : List (List Int)) (c : Nat) : Nat := ((List.range c).map (fun e => Tm.cntC W l (Tm.behs ((e : Nat) : Int) ts))).sum
theorem psumC_step (W l : Nat) (ts : List (List Int)) (c : Nat) : psumC W l ts (c + 1) = psumC W l ts c + Tm.cntC W l (Tm.behs ((c : Nat) : Int) ts) := by simp [psumC, List.range_succ]
theorem cntC_most (W l : Nat) (ts : List (List Int)) : Tm.cntC W l ts ≤ 1099511627777 := by
  rw [Tm.cntC_eq]; exact Nat.min_le_right _ _
theorem psumC_le (W l : Nat) (ts : List (List Int)) (c : Nat) : psumC W l ts c ≤ c * 1099511627777 := by
  induction c with
  | zero => simp [psumC]
  | succ c ih => rw [psumC_step]; have := cntC_most W l (Tm.behs ((c : Nat) : Int) ts); omega
theorem cntC_psum (W l : Nat) (ts : List (List Int)) : Tm.cntC W (l + 1) ts = min (psumC W l ts W) 1099511627777 := rfl
theorem zero2 (w' : World) : (zeroValue 2).run Try.prog w' = .ok (.int .i64 0) w' := by kernel_rfl
theorem und130 : Try.prog.underlying 130 = some (.map 109 2) := by kernel_rfl
theorem step_put {P : Program} {ops : Array Oper} {o : Oper} {a : Act} {w : World} {K : Act → World → Prop} {Q : Exit → Act → World → Prop} {E : Prop} (hgd : o.guard = none) (m x v : Operand) (t : TypeId) (ho : o.op = .mapUpdate t m x v)
    {b : Nat} {G : World → Prop} {key val : Value} (hm : a.eval m = .map (some b)) (hx : a.eval x = key) (hv : a.eval v = val)
    (hput : ∃ w', (Instr.mapUpdate t (.map (some b)) key val).run P w = .ok () w' ∧ G w' ∧ w.grownBy w' (some b)) (h : ∀ w', G w' → w.grownBy w' (some b) → K (a.put o.dst undef) w') :
    if Region.wanted o (yielded ops a.tmps) = true then Oper.wp P o a w K Q else E := by
  have hw : Region.wanted o (yielded ops a.tmps) = true := by simp [Region.wanted, hgd]
  rw [if_pos hw]
  obtain ⟨w', hrun, hG, hg⟩ := hput
  unfold Oper.wp
  simp [execOp, ho, hm, hx, hv, hrun, Result.andThen]
  exact h w' hG hg
theorem nonempty_gk {w : World} {M : Nat} {K : World → Prop} (hM : M < w.heap.size) (h : K w) : Nonempty (Gk w M K) :=
  let ⟨g, _⟩ := gk_mk (K := K) (w := w) (w' := w) ⟨rfl, rfl, rfl, Nat.le_refl _, fun _ _ _ => rfl⟩ hM h
  ⟨g⟩
set_option maxRecDepth 100000 in
set_option maxHeartbeats 400000 in
theorem count_succ (R M : Nat) (W : Int) (A : Option Addr) (ts : List ByteArray) (cap : Nat) (h3 : ts.length ≤ 3) (hf : Fine ts) (hs : Small ts) (hW : 1 ≤ W ∧ W ≤ 5) (l : Nat) (hl : l + 1 ≤ 20)
    (ih : ∀ (p : List Nat) (w : World), Tm.IsPl (lts ts) p → Reel R M W A ts cap w → Calls Try.prog 75 #[.pointer (some ⟨R, 0, none⟩), stV p l] w (GivesM w M (KMap 109 M (goodC W.toNat (lts ts))) (.int .i64 (Tm.cntC W.toNat l (Tm.remP (lts ts) p) : Nat))))
    (p : List Nat) (w : World) (hp : Tm.IsPl (lts ts) p) (hR : Reel R M W A ts cap w) :
    Calls Try.prog 75 #[.pointer (some ⟨R, 0, none⟩), stV p (l + 1)] w (GivesM w M (KMap 109 M (goodC W.toNat (lts ts))) (.int .i64 (Tm.cntC W.toNat (l + 1) (Tm.remP (lts ts) p) : Nat))) := by
  obtain ⟨L, hL⟩ : ∃ L : Int, ((l + 1 : Nat) : Int) = L := ⟨_, rfl⟩
  have hL1 : L - 1 = (l : Int) := by omega
  have hL2 : 1 ≤ L ∧ L ≤ 20 := by omega
  have hL0 : (L == 0) = false := by simp; omega
  obtain ⟨x0, HX0⟩ : ∃ x : Nat, Hid (p.getD 0 0 = x) := ⟨_, hide rfl⟩
  obtain ⟨x1, HX1⟩ : ∃ x : Nat, Hid (p.getD 1 0 = x) := ⟨_, hide rfl⟩
  obtain ⟨x2, HX2⟩ : ∃ x : Nat, Hid (p.getD 2 0 = x) := ⟨_, hide rfl⟩
  have hst : stV p (l + 1) = .agg #[.int .i64 (x0 : Nat), .int .i64 (x1 : Nat), .int .i64 (x2 : Nat), .int .i64 L] := by
    unfold stV stC; rw [HX0.out, HX1.out, HX2.out, hL]
  have hpl : plV p = .agg #[.int .i64 (x0 : Nat), .int .i64 (x1 : Nat), .int .i64 (x2 : Nat)] := by unfold plV plC; rw [HX0.out, HX1.out, HX2.out]
  obtain ⟨kl, hkl⟩ := keyS_of hs hp hl
  have hlook := hR.km.look2 lawS und130 zero2 hkl
  have hKb : Hid (∀ a b : World, Below a.heap.size a b → (KMap 109 M (goodC W.toNat (lts ts))) a → (KMap 109 M (goodC W.toNat (lts ts))) b) := hide (fun a b hb h => h.below hb)
  have HPUT := hide (fun (w' : World) (h : (KMap 109 M (goodC W.toNat (lts ts))) w') => h.put lawS und130 (finC (W := W.toNat) hs h3) hkl (⟨p, l + 1, hp, hl, rfl, rfl⟩ : goodC W.toNat (lts ts) (stV p (l + 1)) (.int .i64 (Tm.cntC W.toNat (l + 1) (Tm.remP (lts ts) p) : Nat))))
  have HNX : Hid (∀ (c : Nat) (w' : World), Reel R M W A ts cap w' → Calls Try.prog 56 #[.pointer (some ⟨R, 0, none⟩), .agg #[.int .i64 (x0 : Nat), .int .i64 (x1 : Nat), .int .i64 (x2 : Nat)], .int .i64 (c : Nat)] w' (Gives w' (.agg #[.int .i64 ((Tm.nextP (lts ts) p (c : Nat)).getD 0 0 : Nat), .int .i64 ((Tm.nextP (lts ts) p (c : Nat)).getD 1 0 : Nat), .int .i64 ((Tm.nextP (lts ts) p (c : Nat)).getD 2 0 : Nat)]))) := hide (fun c w' h => by
    rw [← hpl]; exact next_any R W A ts cap p (c : Nat) w' h.rat h.str h3 hp hf)
  have HIH : Hid (∀ (c : Nat) (w' : World), Reel R M W A ts cap w' → Calls Try.prog 75 #[.pointer (some ⟨R, 0, none⟩), .agg #[.int .i64 ((Tm.nextP (lts ts) p (c : Nat)).getD 0 0 : Nat), .int .i64 ((Tm.nextP (lts ts) p (c : Nat)).getD 1 0 : Nat), .int .i64 ((Tm.nextP (lts ts) p (c : Nat)).getD 2 0 : Nat), .int .i64 (l : Nat)]] w' (GivesM w' M (KMap 109 M (goodC W.toNat (lts ts))) (.int .i64 (Tm.cntC W.toNat l (Tm.behs ((c : Nat) : Int) (Tm.remP (lts ts) p)) : Nat)))) := hide (fun c w' h => by
    have := ih (Tm.nextP (lts ts) p (c : Nat)) w' (Tm.next_is hp _) h
    rw [Tm.rem_next] at this
    exact this)
  have HGV : Hid (∀ v, goodC W.toNat (lts ts) (stV p (l + 1)) v → v = .int .i64 (Tm.cntC W.toNat (l + 1) (Tm.remP (lts ts) p) : Nat)) := by
    refine hide ?_
    rintro v ⟨q, m, hq, hm, he, rfl⟩
    obtain ⟨rfl, rfl⟩ := stV_inj (by simpa [lts] using h3) hp hq he
    rfl
  have HS := hide (psumC_step W.toNat l (Tm.remP (lts ts) p))
  have HSL := hide (psumC_le W.toNat l (Tm.remP (lts ts) p))
  have HCL := hide (fun c : Nat => cntC_most W.toNat l (Tm.behs ((c : Nat) : Int) (Tm.remP (lts ts) p)))
  have HCP := hide (cntC_psum W.toNat l (Tm.remP (lts ts) p))
  have HP0 : Hid (psumC W.toNat l (Tm.remP (lts ts) p) 0 = 0) := hide rfl
  rw [hst] at hlook
  have HPUT2 := hide (fun (w' : World) (h : (KMap 109 M (goodC W.toNat (lts ts))) w') => by have := HPUT.out w' h; rw [hst] at this; exact this)
  have HGV2 := hide (by have := HGV.out; rw [hst] at this; exact this : ∀ v, goodC W.toNat (lts ts) (.agg #[.int .i64 (x0 : Nat), .int .i64 (x1 : Nat), .int .i64 (x2 : Nat), .int .i64 L]) v → v = .int .i64 (Tm.cntC W.toNat (l + 1) (Tm.remP (lts ts) p) : Nat))
  rw [hst]
  clear HGV HPUT hkl hst hpl hp ih hf hs HX0 HX1 HX2
  generalize Tm.remP (lts ts) p = rem at *
  generalize hqq : Tm.nextP (lts ts) p = nx at *
  clear hqq hL
  obtain ⟨hW1, hW2⟩ := hW
  have hW3 : (W.toNat : Int) = W := by omega
  have hMlt := hR.lt.2
  have hRlt := hR.lt.1
  have hRM := hR.ne
  have r0 := hR.rat.1
  have r2 := hR.mp
  rcases hlook with ⟨v, hg, hrun⟩ | hrun
  · have hv := HGV2.out v hg
    subst hv
    have hrun2 : ∀ g, (Instr.lookup 130 (.map (some M)) (.agg #[.int .i64 (x0 : Nat), .int .i64 (x1 : Nat), .int .i64 (x2 : Nat), .int .i64 L]) true).run Try.prog ((w.alloc (.cells #[.int .i64 (x0 : Nat), .int .i64 (x1 : Nat), .int .i64 (x2 : Nat), .int .i64 L] 109)).grow g) = .ok (.tuple #[.int .i64 (Tm.cntC W.toNat (l + 1) rem : Nat), .bool true]) ((w.alloc (.cells #[.int .i64 (x0 : Nat), .int .i64 (x1 : Nat), .int .i64 (x2 : Nat), .int .i64 L] 109)).grow g) := fun g => hrun _ (by rw [heap_grow _ _ _ (by simp; omega), Below.heap_alloc _ _ _ (by omega)])
    clear hrun
    generalize Tm.cntC W.toNat (l + 1) rem = C at *
    go_enter Try.func75, Try.ntmps75
    go_wp2
    refine wp_region_grow (by kernel_rfl) (by kernel_rfl) ?_
    repeat (go_big_quiet_step (fail))
    refine wpQuiet_nil ?_
    intro w2 hb2
    replace hb2 := ex_below hb2
    have hz2 := hb2.size
    (try simp only [zz] at hz2)
    have hs2 : w.heap.size < w2.heap.size := (by (first | omega | (simp only [zz] at *; omega)))
    have ho2 := own_cell hb2 (b := w.heap.size) (by (first | omega | (simp only [zz] at *; omega)))
    have hq2 := own_frozen hb2 (b := w.heap.size) (by (first | omega | (simp only [zz] at *; omega)))
    have hlt2 : ∀ b, b < w.heap.size → b < w2.heap.size := fun b hb => (by (first | omega | (simp only [zz] at *; omega)))
    have hc2 : ∀ b o, b < w.heap.size → w2.cell? ⟨b, o, none⟩ = w.cell? ⟨b, o, none⟩ := old_cell (by (repeat (first | exact Below.refl _ _ | assumption | refine below_drewN ?_ _ | refine below_drew ?_ | refine below_gr ?_ ?_ _ | refine below_alloc ?_ ?_ _ | refine Below.setCell ?_ ?_ _ | refine below_step ?_ (by assumption) ?_ | omega | (simp only [zz] at *; omega))))
    go_wp2
    go_ret
    exact ⟨rfl, grown_none (below_grown (by (repeat (first | exact Below.refl _ _ | assumption | refine below_drewN ?_ _ | refine below_drew ?_ | refine below_gr ?_ ?_ _ | refine below_alloc ?_ ?_ _ | refine Below.setCell ?_ ?_ _ | refine below_step ?_ (by assumption) ?_ | omega | (simp only [zz] at *; omega))))), hKb.out _ _ (by (repeat (first | exact Below.refl _ _ | assumption | refine below_drewN ?_ _ | refine below_drew ?_ | refine below_gr ?_ ?_ _ | refine below_alloc ?_ ?_ _ | refine Below.setCell ?_ ?_ _ | refine below_step ?_ (by assumption) ?_ | omega | (simp only [zz] at *; omega)))) hR.km⟩
  · have hrun2 : ∀ g, (Instr.lookup 130 (.map (some M)) (.agg #[.int .i64 (x0 : Nat), .int .i64 (x1 : Nat), .int .i64 (x2 : Nat), .int .i64 L]) true).run Try.prog ((w.alloc (.cells #[.int .i64 (x0 : Nat), .int .i64 (x1 : Nat), .int .i64 (x2 : Nat), .int .i64 L] 109)).grow g) = .ok (.tuple #[.int .i64 0, .bool false]) ((w.alloc (.cells #[.int .i64 (x0 : Nat), .int .i64 (x1 : Nat), .int .i64 (x2 : Nat), .int .i64 L] 109)).grow g) := fun g => hrun _ (by rw [heap_grow _ _ _ (by simp; omega), Below.heap_alloc _ _ _ (by omega)])
    clear hrun
    go_enter Try.func75, Try.ntmps75
    go_wp2
    refine wp_region_grow (by kernel_rfl) (by kernel_rfl) ?_
    repeat (go_big_quiet_step (fail))
    refine wpQuiet_nil ?_
    intro w2 hb2
    replace hb2 := ex_below hb2
    have hz2 := hb2.size
    (try simp only [zz] at hz2)
    have hs2 : w.heap.size < w2.heap.size := (by (first | omega | (simp only [zz] at *; omega)))
    have ho2 := own_cell hb2 (b := w.heap.size) (by (first | omega | (simp only [zz] at *; omega)))
    have hq2 := own_frozen hb2 (b := w.heap.size) (by (first | omega | (simp only [zz] at *; omega)))
    have hlt2 : ∀ b, b < w.heap.size → b < w2.heap.size := fun b hb => (by (first | omega | (simp only [zz] at *; omega)))
    have hc2 : ∀ b o, b < w.heap.size → w2.cell? ⟨b, o, none⟩ = w.cell? ⟨b, o, none⟩ := old_cell (by (repeat (first | exact Below.refl _ _ | assumption | refine below_drewN ?_ _ | refine below_drew ?_ | refine below_gr ?_ ?_ _ | refine below_alloc ?_ ?_ _ | refine Below.setCell ?_ ?_ _ | refine below_step ?_ (by assumption) ?_ | omega | (simp only [zz] at *; omega))))
    go_wp2
    have hR2 : Reel R M W A ts cap w2 := hR.below (by (repeat (first | exact Below.refl _ _ | assumption | refine below_drewN ?_ _ | refine below_drew ?_ | refine below_gr ?_ ?_ _ | refine below_alloc ?_ ?_ _ | refine Below.setCell ?_ ?_ _ | refine below_step ?_ (by assumption) ?_ | omega | (simp only [zz] at *; omega))))
    have hgw : w.grownBy w2 (some M) := grown_none (below_grown (by (repeat (first | exact Below.refl _ _ | assumption | refine below_drewN ?_ _ | refine below_drew ?_ | refine below_gr ?_ ?_ _ | refine below_alloc ?_ ?_ _ | refine Below.setCell ?_ ?_ _ | refine below_step ?_ (by assumption) ?_ | omega | (simp only [zz] at *; omega)))))
    have hbx2 : w2.heap[w.heap.size]? = some (.cells #[.int .i64 (x0 : Nat), .int .i64 (x1 : Nat), .int .i64 (x2 : Nat), .int .i64 L] 109) := (hb2.block _ (by simp)).trans (heap_alloc_new w _)
    clear ho2 hq2 hrun2 hc2 hlt2
    go_loopw [5, 7, 32] (fun n _ i wr => ∃ c : Nat, c ≤ W.toNat ∧ i = .int .i64 (c : Nat) ∧ n = .int .i64 (psumC W.toNat l rem c : Nat) ∧ w.grownBy wr (some M) ∧ wr.heap[w.heap.size]? = some (.cells #[.int .i64 (x0 : Nat), .int .i64 (x1 : Nat), .int .i64 (x2 : Nat), .int .i64 L] 109) ∧ Reel R M W A ts cap wr) (fun _ _ i _ => W.toNat - (intOf i).toNat)
    case atStart => exact ⟨0, Nat.zero_le _, rfl, by rw [HP0.out]; rfl, hgw, hbx2, hR2⟩
    case round =>
      obtain ⟨c, hc, rfl, rfl, hgr, hbx, hRr⟩ := hrel
      have hzr := hgr.size
      have q0 := hRr.rat.1
      have q2 := hRr.mp
      have hMr := hRr.lt.2
      have hRlr := hRr.lt.1
      have b0 := obj_at hbx 0 _ rfl
      have b1 := obj_at hbx 1 _ rfl
      have b2 := obj_at hbx 2 _ rfl
      have b3 := obj_at hbx 3 _ rfl
      have hbl := (Array.getElem?_eq_some_iff.1 hbx).1
      have hbne : w.heap.size ≠ M := by omega
      by_cases hlt : c < W.toNat
      · have hsl := HSL.out c
        have hcl := HCL.out c
        have HSc := hide (HS.out c)
        have HNc := hide (HNX.out c)
        have HIc := hide (HIH.out c)
        generalize Tm.cntC W.toNat l (Tm.behs ((c : Nat) : Int) rem) = C at *
        generalize psumC W.toNat l rem c = S at *
        generalize (nx (c : Nat)).getD 0 0 = y0 at *
        generalize (nx (c : Nat)).getD 1 0 = y1 at *
        generalize (nx (c : Nat)).getD 2 0 = y2 at *
        have hS5 : S ≤ 5497558138885 := by omega
        go_wp2
        haveI : Nonempty (Gk wr M (KMap 109 M (goodC W.toNat (lts ts)))) := nonempty_gk hMr hRr.km
        refine wp_region_gk (M := M) (K := (KMap 109 M (goodC W.toNat (lts ts)))) (by kernel_rfl) (by kernel_rfl) (by omega) (hKb.out wr _ (below_drew (Below.refl _ _)) hRr.km) ?_
        repeat (go_big_quiet_step (first | (go_at_call 56; refine Gives.quietK hMr hKb.out (HNc.out _ ?_); exact hRr.grown (gro_grown _ _ _) (Gk.ok (w := wr) (M := M) (K := (KMap 109 M (goodC W.toNat (lts ts)))) _)) | (go_at_call 75; refine GivesM.quiet hMr (HIc.out _ ?_); exact hRr.grown (gro_grown _ _ _) (Gk.ok (w := wr) (M := M) (K := (KMap 109 M (goodC W.toNat (lts ts)))) _))))
        refine wpQuiet_nil ?_
        rintro w3 ⟨g, hg⟩
        have hg3 : wr.grownBy w3 (some M) := by rw [hg]; exact gro_grown _ _ _
        have hK3 : (KMap 109 M (goodC W.toNat (lts ts))) w3 := by rw [hg]; exact Gk.ok (w := wr) (M := M) (K := (KMap 109 M (goodC W.toNat (lts ts)))) g
        clear hg g
        go_wp2
        go_roundw
        case measure => simp [intOf]; omega
        refine ⟨c + 1, by omega, by go_num, by rw [HSc.out]; push_cast; rfl, grown_trans hgr hg3, ?_, hRr.grown hg3 hK3⟩
        rw [hg3.block _ hbl (by simpa using hbne)]; exact hbx
      · have hcW : c = W.toNat := by omega
        have hsl := HSL.out c
        have hcp := HCP.out
        rw [hcW] at hsl
        rw [hcW]
        have HC := hide hcp
        clear hcp
        generalize Tm.cntC W.toNat (l + 1) rem = C at *
        generalize psumC W.toNat l rem W.toNat = S at *
        have hS5 : S ≤ 5497558138885 := by omega
        by_cases hmn : S ≤ 1099511627777
        · have hCe : (C : Int) = (S : Nat) := by rw [HC.out]; omega
          have hmi : (S : Int) ≤ 1099511627777 := by omega
          have HP3 := HPUT2.out
          rw [hCe] at HP3
          clear HPUT2
          have HCE := hide hCe
          clear hCe
          go_wp2
          obtain ⟨w5, hr5, hk5, hg5⟩ := HP3 wr.drew (hKb.out wr _ (below_drew (Below.refl _ _)) hRr.km)
          clear HP3
          go_region
          go_wp2
          go_ret
          exact ⟨by rw [HCE.out]; rfl, grown_trans hgr (grown_trans (grown_none (below_grown (below_drew (Below.refl _ _)))) hg5), hk5⟩
        · have hCe : (C : Int) = 1099511627777 := by rw [HC.out]; omega
          have hmi : ¬ ((S : Int) ≤ 1099511627777) := by omega
          have HP3 := HPUT2.out
          rw [hCe] at HP3
          clear HPUT2
          have HCE := hide hCe
          clear hCe
          go_wp2
          obtain ⟨w5, hr5, hk5, hg5⟩ := HP3 wr.drew (hKb.out wr _ (below_drew (Below.refl _ _)) hRr.km)
          clear HP3
          go_region
          go_wp2
          go_ret
          exact ⟨by rw [HCE.out]; rfl, grown_trans hgr (grown_trans (grown_none (below_grown (below_drew (Below.refl _ _)))) hg5), hk5⟩
theorem count_any (R M : Nat) (W : Int) (A : Option Addr) (ts : List ByteArray) (cap : Nat) (h3 : ts.length ≤ 3) (hf : Fine ts) (hs : Small ts) (hW : 1 ≤ W ∧ W ≤ 5) : ∀ (l : Nat), l ≤ 20 → ∀ (p : List Nat) (w : World), Tm.IsPl (lts ts) p → Reel R M W A ts cap w → Calls Try.prog 75 #[.pointer (some ⟨R, 0, none⟩), stV p l] w (GivesM w M (KMap 109 M (goodC W.toNat (lts ts))) (.int .i64 (Tm.cntC W.toNat l (Tm.remP (lts ts) p) : Nat)))
  | 0, _, p, w, hp, hR => (count_zero R M W A ts cap h3 hf hs hW p w hp hR).mono (by
      rintro e w' ⟨he, g, rfl⟩
      exact ⟨he, grown_none (below_grown (grow_below _ _)), hR.km.below (grow_below _ _)⟩)
  | l + 1, hl, p, w, hp, hR => count_succ R M W A ts cap h3 hf hs hW l hl (fun p w hp hR => count_any R M W A ts cap h3 hf hs hW l (by omega) p w hp hR) p w hp hR
end Go.Proofs.Ytafncmgijbkomaa
namespace Go.Proofs.Ytafncmgijbkomaa
open Go.RowKit
section
variable {P : Program} {ops : Array Oper} {md : Region.Mode} {C : World → Prop}
/-- the first operations, in whatever order; each is quiet in the class -/
def wpAnyLQ (P : Program) (md : Region.Mode) (ops : Array Oper) (C : World → Prop) (n : Nat) (L : Array Bool → Act → Prop) : Nat → Array Bool → Act → Prop
  | 0, listed, a => L listed a
  | f + 1, listed, a => Region.ready md ops listed ≠ [] ∧ ∀ i ∈ Region.ready md ops listed, i < n ∧ qOp P ops C i (wpAnyLQ P md ops C n L f (listed.setIfInBounds i true)) a
theorem wpAny_of_headQ {n g : Nat} {L : Array Bool → Act → Prop} {Q' : Exit → Act → World → Prop} (hL : ∀ listed a w, C w → L listed a → wpAny P md ops Q' g listed a w) :
    ∀ (f : Nat) (listed : Array Bool) (a : Act) (w : World), C w → wpAnyLQ P md ops C n L f listed a → wpAny P md ops Q' (f + g) listed a w
  | 0, listed, a, w, hw, h => by rw [Nat.zero_add]; exact hL _ _ _ hw h
  | f + 1, listed, a, w, hw, h => by
    rw [show f + 1 + g = (f + g) + 1 by omega]
    exact ⟨fun h0 => absurd h0 h.1, fun i hi => wpOp_of_qOp hw (fun a' w' hw' h' => wpAny_of_headQ hL f _ a' w' hw' h') (h.2 i hi).2⟩
theorem wpAnyLQ_first {n i : Nat} {oi : Oper} {v : Value} {L : Array Bool → Act → Prop} (hi : ops[i]? = some oi) (hsel : ∀ (j : Nat) (o : Oper) cs b, ops[j]? = some o → o.op ≠ .select cs b)
    (hs : Region.sinkB md ops n = true) (hc : Region.chainB md ops n = true) (hn : n < ops.size) (hin : i < n)
    (hdone : ∀ listed a, L listed a → ∀ j ∈ Region.ready md ops listed, n ≤ j) :
    ∀ (f : Nat) (listed : Array Bool) (a : Act), HeadInv md ops n listed →
      (∀ j oj, ops[j]? = some oj → j ≠ i → listed.getD j true = false → (∀ e ∈ oj.after, Region.binds md e = true → e.on ≠ i) → oi.apart ops oj = true) →
      i ∈ Region.ready md ops listed → YieldsIn P ops C oi v a →
      wpAnyLQ P md ops C n L f (listed.setIfInBounds i true) (a.put oi.dst v) → wpAnyLQ P md ops C n L (f + 1) listed a := by
  intro f
  induction f with
  | zero =>
    intro listed a inv _ hr hy H
    have hun := (mem_ready.1 hr).1
    refine ⟨fun h => (by rw [h] at hr; cases hr), fun j hj => ?_⟩
    have hjn : j < n := by
      rcases Nat.lt_or_ge j n with h | h
      · exact h
      · exact absurd hj (tail_waits hs hc hn inv _ i rfl hin hun j h)
    refine ⟨hjn, ?_⟩
    by_cases hji : j = i
    · subst hji; exact hy.qOp hi H
    · have := hdone _ _ H j (ready_mono hj hji)
      omega
  | succ f ih =>
    intro listed a inv hfree hr hy H
    have hun := (mem_ready.1 hr).1
    refine ⟨fun h => (by rw [h] at hr; cases hr), fun j hj => ?_⟩
    have hjn : j < n := by
      rcases Nat.lt_or_ge j n with h | h
      · exact h
      · exact absurd hj (tail_waits hs hc hn inv _ i rfl hin hun j h)
    refine ⟨hjn, ?_⟩
    by_cases hji : j = i
    · subst hji; exact hy.qOp hi H
    · have h1 := (H.2 j (ready_mono hj hji)).2
      obtain ⟨hjun, oj, hoj, hall⟩ := mem_ready.1 hj
      have hnot : ∀ e ∈ oj.after, Region.binds md e = true → e.on ≠ i := fun e he hb heq => by
        have h1 := hall e he hb
        rw [heq, getD_both hun] at h1
        cases h1
      have h2 := qOp_put hoj (hfree j oj hoj hji hjun hnot) (fun cs b => hsel i oi cs b hi) (fun cs b => hsel j oj cs b hoj) hy h1
      have hfree' : ∀ k ok, ops[k]? = some ok → k ≠ i → (listed.setIfInBounds j true).getD k true = false →
          (∀ e ∈ ok.after, Region.binds md e = true → e.on ≠ i) → oi.apart ops ok = true := fun k ok hk hki hun hno => by
        refine hfree k ok hk hki ?_ hno
        by_cases hjk : j = k
        · subst hjk; exact hjun
        · rw [getD_set_ne true hjk] at hun; exact hun
      refine qOp_mono (fun a' h3 => ih (listed.setIfInBounds j true) a' (inv.set hj hjn) hfree' (ready_mono hr (Ne.symm hji)) h3.1 ?_) h2
      rw [Array.setIfInBounds_comm _ _ hji]
      exact h3.2
theorem wpAnyLQ_lex {n g : Nat} {Lq : Act → Prop} (hsel : Region.noSelect ops = true) (hs : Region.sinkB md ops n = true) (hc : Region.chainB md ops n = true) (hn : n < ops.size) :
    ∀ (l : List Oper) (k : Nat) (listed : Array Bool) (a : Act), (∀ j, j < l.length → l[j]? = ops[k + j]?) → k + l.length = n → HeadInv md ops n listed →
    Region.lexHead md ops g l.length k listed = true → wpQuiet P ops C Lq l a →
    wpAnyLQ P md ops C n (fun listed' a' => Region.seqB md ops g n listed' = true ∧ Lq a') l.length listed a
  | [], k, listed, a, _, hk, _, hB, h => by
    have : k = n := by simpa using hk
    subst this
    exact ⟨by simpa [Region.lexHead] using hB, h⟩
  | o :: l, k, listed, a, hl, hk, inv, hB, h => by
    have h0 : ops[k]? = some o := by simpa using (hl 0 (by simp)).symm
    simp only [List.length_cons, Region.lexHead, Bool.and_eq_true] at hB
    obtain ⟨⟨hr, hf⟩, hB'⟩ := hB
    have hkn : k < n := by simp only [List.length_cons] at hk; omega
    have hr' : k ∈ Region.ready md ops listed := by simpa using hr
    have hst : qOp P ops C k (wpQuiet P ops C Lq l) a := by unfold qOp; simp only [h0]; exact h
    obtain ⟨v, hy, hK⟩ := yieldsIn_of_qOp h0 hst
    exact wpAnyLQ_first h0 (Region.noSelect_spec hsel) hs hc hn hkn (fun listed' a' hL => seqB_ready hL.1) l.length listed a inv (Region.free_spec h0 hf) hr' hy
      (wpAnyLQ_lex hsel hs hc hn l (k + 1) _ _ (fun j hj => by have := hl (j + 1) (by simp; omega); simpa [Nat.add_assoc, Nat.add_comm 1 j] using this) (by simp only [List.length_cons] at hk; omega) (inv.set hr' hkn) hB' hK)
/-- a region that draws its order, whose last operations, in one order, follow quiet ones -/
theorem wp_region_quiet_tail {id : Nat} {Q : Exit → Act → World → Prop} {a : Act} {w : World} {l : List Oper} (n : Nat) (hm : P.follows .mixedOrders = true) (hB : Region.lexTailB .any l.toArray n = true) (hC : C { w with drawn := w.drawn + 1 })
    (h : wpQuiet P l.toArray C (fun a' => ∀ w', C w' → wpList P l.toArray Q (l.drop n) a' w') (l.take n) a) : (Code.region id l.toArray true).wp P Q a w := by
  simp only [Region.lexTailB, Bool.and_eq_true, decide_eq_true_eq] at hB
  obtain ⟨⟨⟨⟨hsel, hn⟩, hs⟩, hc⟩, hlex⟩ := hB
  have hn' : n < l.length := by simpa using hn
  have htl : (l.take n).length = n := by simp; omega
  have hdl : (l.drop n).length = l.toArray.size - n := by simp
  have inv0 : HeadInv .any l.toArray n (Array.replicate l.toArray.size false) :=
    ⟨by simp, fun j oj _ hl => (by rw [getD_replicate_false] at hl; cases hl), fun t _ ht => getD_in (by simpa using ht) (getD_replicate_false _ _)⟩
  have H := wpAnyLQ_lex (md := .any) (C := C) (g := l.toArray.size - n) hsel hs hc hn (l.take n) 0 _ a (fun j hj => by
    have hj' : j < n := by rw [htl] at hj; exact hj
    simp [hj']) (by simpa using htl) inv0 (by rw [htl]; exact hlex) h
  refine wp_region_any hm ?_
  have := wpAny_of_headQ (C := C) (Q' := Q) (g := l.toArray.size - n) (fun listed a' w' hw hL => by
    have := wpAny_of_seq (md := .any) (Q' := Q) (l.drop n) n listed a' w' (fun j => by simp [List.getElem?_drop]) (by rw [hdl]; exact hL.1) (hL.2 w' hw)
    rwa [hdl] at this) _ _ _ _ hC H
  rw [htl, show n + (l.toArray.size - n) = l.toArray.size by omega] at this
  exact this
theorem wp_region_grow_tail {id : Nat} {Q : Exit → Act → World → Prop} {a : Act} {w : World} {l : List Oper} (n : Nat) (hm : P.follows .mixedOrders = true) (hB : Region.lexTailB .any l.toArray n = true)
    (h : wpQuiet P l.toArray (fun w' => ∃ g, w' = w.grow g) (fun a' => ∀ w', (∃ g, w' = w.grow g) → wpList P l.toArray Q (l.drop n) a' w') (l.take n) a) : (Code.region id l.toArray true).wp P Q a w :=
  wp_region_quiet_tail (C := fun w' => ∃ g, w' = w.grow g) n hm hB ⟨⟨#[], w.drawn + 1⟩, by simp [World.grow]⟩ h
end
end Go.Proofs.Ytafncmgijbkomaa
