/- Proved here: the reference: which tickets are idle; the reference: outcomes; the reference: what an outcome pays, a part of the proofs about the box laws. Conditions: those that each theorem names, no others. -/
import Derived.Test.YtlbkaeoagdbemaaP31
import Derived.WalkKit
import Derived.WalkSpells
import Derived.WalkLawsBesides
import Derived.Below
import Derived.Deep.QuietTactic
import Derived.BigQuiet
import Derived.Deep.Light
import Derived.Deep.RegionHeld3
import Derived.Test.YtlbkaeoagdbemaaP04
set_option linter.unusedSimpArgs false
set_option linter.unusedVariables false
namespace Go.Proofs.Ytlbkaeoagdbemaa
open Go.RowKit Go.Maps
theorem rowsA_cell {w w' : World} {b o k : Nat} {v : Value} (h : w.cell? ⟨b, o + k, none⟩ = some v) (hb : Below w.heap.size w w') (hl : b < w.heap.size) : w'.cell? ⟨b, o + k, none⟩ = some v := (hb.cell (p := ⟨b, o + k, none⟩) hl).trans h
set_option maxRecDepth 100000 in
set_option maxHeartbeats 8000000 in
theorem rIdle_ok (A : Option Addr) (R : List Nat) (c : Nat) (B : Option Addr) (ts : List Bm.Tk) (d : Nat) (w : World) (hA : I64 w A (zs R)) (hB : Tks w B (tz ts)) (hok : Ok R ts) :
    Calls Try.prog 39 #[.agg #[.slice A R.length c], .slice B ts.length d] w (GivesIE w (zs (Bm.idleN R ts ts.length)) 0) := by
  have HCT := hide (fun w' (h1 : I64 w' A (zs R)) (h2 : Tks w' B (tz ts)) => by
    have := rCheckTickets_any A (zs R) c B (tz ts) d w' h1 h2 hok.len.1 hok.len.2.1 hok.len.2.2
    rw [ok_chk hok, zs_len, tz_len] at this
    exact this)
  have hR5 := hok.h5
  have ht10 := hok.t10
  have ht10' : (ts.length : Int) ≤ 10 := by omega
  have HO := hide (fun w' (h : I64 w' A (zs R)) => Outcomes_any A R c w' h hok.h5 hok.r6)
  have HLE := hide (show (Bm.outs R).length ≤ 7776 by
    have h1 := Bm.outs_len_le hok.r6
    have h2 : 6 ^ R.length ≤ 6 ^ 5 := Nat.pow_le_pow_right (by omega) hR5
    omega)
  have HRL := hide (fun o' (ho : o' ∈ Bm.outs R) => (show o'.length = R.length ∧ ∀ i, i ∈ o' → i < 6 from ⟨Bm.outs_len ho, outs_lt hok.r6 ho⟩))
  have HUN := hide (fun Z zc o' w' (ho : o' ∈ Bm.outs R) (h1 : Tks w' B (tz ts)) (h2 : I64 w' Z (zs o')) => rUnits_any B ts d Z o' zc w' h1 h2 (fun t ht => ⟨by rw [(HRL.out o' ho).1, hok.htl t ht]; exact Nat.le_refl _, by rw [hok.htl t ht]; omega⟩) hok.ht6 (HRL.out o' ho).2 hok.t10 hok.hu)
  have HRW := hide (fun k (hk : k < ts.length) o (ho : o ∈ Bm.outs R) Z zc X xc w' (h1 : I64 w' Z (zs (ts[k].1))) (h2 : I64 w' X (zs o)) => rWrong_any Z ts[k].1 zc X o xc w' h1 h2 (by rw [hok.htl _ (List.getElem_mem hk), (HRL.out o ho).1]; exact Nat.le_refl _) (by rw [hok.htl _ (List.getElem_mem hk)]; omega) (hok.ht6 _ (List.getElem_mem hk)) (HRL.out o ho).2)
  have HUL := hide (fun o' => (show Bm.uni ts o' ≤ 10000 by have := Bm.uni_le hok.hu o'; omega))
  obtain ⟨i0, ih, iz, is, ib⟩ := info_parts info3
  have HIL := hide (Bm.idleN_le R ts)
  have HIS := hide (fun t (ht : t < ts.length) => (show Bm.idleN R ts (t + 1) = Bm.idleN R ts t ++ if (Bm.outs R).any (Bm.soloF ts ts[t]) = true then [] else [t] by
    rw [Bm.idleN, Bm.soloN, getD_at _ _ ht]))
  have HI0 := hide (show Bm.idleN R ts 0 = [] from rfl)
  clear hok
  generalize Bm.idleN R ts = al at *
  generalize Bm.outs R = L at *
  go_enter Try.func39, Try.ntmps39
  go_wp2_with (first
    | (go_at_call 24; refine (HCT.out _ (hA.ext (by (repeat (first | exact Below.refl _ _ | assumption | refine below_drewN ?_ _ | refine below_drew ?_ | refine below_gr ?_ ?_ _ | refine below_alloc ?_ ?_ _ | refine Below.setCell ?_ ?_ _ | refine below_step ?_ (by assumption) ?_ | omega | (simp only [zz] at *; omega))))) (hB.ext (by (repeat (first | exact Below.refl _ _ | assumption | refine below_drewN ?_ _ | refine below_drew ?_ | refine below_gr ?_ ?_ _ | refine below_alloc ?_ ?_ _ | refine Below.setCell ?_ ?_ _ | refine below_step ?_ (by assumption) ?_ | omega | (simp only [zz] at *; omega)))))).mono ?_; rintro e w1 ⟨rfl, hb1⟩; replace hb1 := ex_below hb1; have hz1 := hb1.size; (try simp only [zz] at hz1); have hs1 : w.heap.size < w1.heap.size := (by (first | omega | (simp only [zz] at *; omega))); have ho1 := own_cell hb1 (b := w.heap.size) (by (first | omega | (simp only [zz] at *; omega))); have hq1 := own_frozen hb1 (b := w.heap.size) (by (first | omega | (simp only [zz] at *; omega))); have hlt1 : ∀ b, b < w.heap.size → b < w1.heap.size := fun b hb => (by (first | omega | (simp only [zz] at *; omega))); have hc1 : ∀ b o, b < w.heap.size → w1.cell? ⟨b, o, none⟩ = w.cell? ⟨b, o, none⟩ := old_cell (by (repeat (first | exact Below.refl _ _ | assumption | refine below_drewN ?_ _ | refine below_drew ?_ | refine below_gr ?_ ?_ _ | refine below_alloc ?_ ?_ _ | refine Below.setCell ?_ ?_ _ | refine below_step ?_ (by assumption) ?_ | omega | (simp only [zz] at *; omega)))))
    | (go_at_call 64; refine (HO.out _ (hA.ext (by (repeat (first | exact Below.refl _ _ | assumption | refine below_drewN ?_ _ | refine below_drew ?_ | refine below_gr ?_ ?_ _ | refine below_alloc ?_ ?_ _ | refine Below.setCell ?_ ?_ _ | refine below_step ?_ (by assumption) ?_ | omega | (simp only [zz] at *; omega)))))).mono ?_; rintro e w2 ⟨AO, cO, rfl, hb2, hRA⟩; replace hb2 := ex_below hb2; have hz2 := hb2.size; (try simp only [zz] at hz2); have hs2 : w.heap.size < w2.heap.size := (by (first | omega | (simp only [zz] at *; omega))); have ho2 := own_cell hb2 (b := w.heap.size) (by (first | omega | (simp only [zz] at *; omega))); have hq2 := own_frozen hb2 (b := w.heap.size) (by (first | omega | (simp only [zz] at *; omega))); have hlt2 : ∀ b, b < w.heap.size → b < w2.heap.size := fun b hb => (by (first | omega | (simp only [zz] at *; omega))); have hc2 : ∀ b o, b < w.heap.size → w2.cell? ⟨b, o, none⟩ = w.cell? ⟨b, o, none⟩ := old_cell (by (repeat (first | exact Below.refl _ _ | assumption | refine below_drewN ?_ _ | refine below_drew ?_ | refine below_gr ?_ ?_ _ | refine below_alloc ?_ ?_ _ | refine Below.setCell ?_ ?_ _ | refine below_step ?_ (by assumption) ?_ | omega | (simp only [zz] at *; omega))))))

  have hbw2 : Below w.heap.size w w2 := by (repeat (first | exact Below.refl _ _ | assumption | (refine below_gr ?_ (by (first | omega | (simp only [zz] at *; omega))) _) | (refine below_alloc ?_ (by (first | omega | (simp only [zz] at *; omega))) _) | (refine Below.setCell ?_ (by (first | omega | (simp only [zz] at *; omega))) _) | refine below_drewN ?_ _ | refine below_drew ?_ | (refine below_step ?_ (by assumption) (by (first | omega | (simp only [zz] at *; omega))))))
  have hlen := HLE.out
  have hlen' : (L.length : Int) ≤ 7776 := by omega
  replace hB := hB.ext hbw2
  rw [natR_len]
  clear hb1 hb2 hc1 hc2 hlt1 hlt2 hA HO HLE HCT
  go_loopw [7, 8] (fun t7 t8 wr => ∃ (t : Nat) (O : Option Addr) (oc : Nat), t ≤ ts.length ∧ t8 = .int .i64 (t : Nat) ∧ t7 = .slice O (al t).length oc ∧ Below w2.heap.size w2 wr ∧ wr.ownsRow w2.heap.size 3 1 (.slice O (al t).length oc) (al t).length ((zs (al t)).map (Value.int .i64))) (fun _ i _ => ts.length - (intOf i).toNat)
  case atStart => exact ⟨0, none, 0, Nat.zero_le _, rfl, by rw [HI0.out]; rfl, Below.refl _ _, by rw [HI0.out]; exact World.ownsRow_nil _ _ _ _⟩
  case round =>
    obtain ⟨t, O, oc, ht, rfl, rfl, hbT, hown⟩ := hrel
    have hbzT := hbT.size
    have hfl := HIL.out t
    by_cases hltt : t < ts.length
    · have HFS := hide (HIS.out t hltt)
      have hBT := hB.ext hbT
      have hRT := hRA.ext hbT
      obtain ⟨tb, to, rfl, htb⟩ := hBT.form (by rw [tz_len]; omega)
      have HAT := hide (hBT.at (k := t) (by rw [tz_len]; exact hltt))
      have HATx := HAT.out
      simp only [tz_at _ _ hltt, zs_len] at HATx
      replace HAT := hide HATx
      clear HATx
      have HWT := hide (fun o (ho : o ∈ L) Z zc X xc w' h1 h2 => HRW.out t hltt o ho Z zc X xc w' h1 h2)
      generalize hft : ts[t] = tk at *
      clear hft
      generalize al t = fl at *
      obtain ⟨T, u⟩ : Bm.Tk := tk
      obtain ⟨S, sc, q0, q1, q2, hSx0⟩ := HAT.out
      simp only at q0 q1 q2 hSx0
      clear HAT q2
      obtain ⟨wt, rfl⟩ : ∃ wt : World, wt = wr := ⟨_, rfl⟩
      go_wp2
      go_loopw [9, 10] (fun b i wr => ∃ k : Nat, k ≤ L.length ∧ i = .int .i64 (k : Nat) ∧ b = .bool ((L.take k).any (Bm.soloF ts (T, u))) ∧ Below wt.heap.size wt wr) (fun _ i _ => L.length - (intOf i).toNat)
      case atStart => exact ⟨0, Nat.zero_le _, rfl, rfl, Below.refl _ _⟩
      case round =>
        obtain ⟨k, hk, rfl, rfl, hb⟩ := hrel
        have hbz := hb.size
        by_cases hlt : k < L.length
        · obtain ⟨ob, oo, rfl, hol2, P, dP, hcP, hIP⟩ := rowsA_at (hRT.ext hb) k hlt
          have hBo := hBT.ext hb
          have hSx := hSx0.ext hb
          have p0 := rowsA_cell q0 hb htb
          have p1 : wr.cell? ⟨tb, to + t * 2 + 1, none⟩ = some (.int .i64 (u : Nat)) := (hb.cell (p := ⟨tb, to + t * 2 + 1, none⟩) htb).trans q1
          have HUO := hide (fun Z zc w' (h1 : Tks w' (some ⟨tb, to, none⟩) (tz ts)) (h2 : I64 w' Z (zs L[k])) => HUN.out Z zc L[k] w' (List.getElem_mem hlt) h1 h2)
          have HWO := hide (fun Z zc X xc w' (h1 : I64 w' Z (zs T)) (h2 : I64 w' X (zs L[k])) => HWT.out L[k] (List.getElem_mem hlt) Z zc X xc w' h1 h2)
          have hul := HUL.out L[k]
          have hki : (k : Int) < (L.length : Int) := by omega
          have htr : tb < wr.heap.size := by omega
          have HAN := hide (Bm.any_step L (Bm.soloF ts (T, u)) k hlt)
          have HSO := hide (show Bm.soloF ts (T, u) L[k] = (decide (Bm.wrongN T L[k] = 0) && decide (Bm.uni ts L[k] = u)) from rfl)
          generalize (L.take k).any (Bm.soloF ts (T, u)) = bv at *
          generalize L[k] = p at *
          generalize Bm.wrongN T p = m at *
          generalize Bm.uni ts p = n at *
          rw [HSO.out] at HAN
          by_cases hm0 : m = 0
          · subst hm0
            have hex := eqN n u
            by_cases hnu : n = u
            · rw [decide_eq_true hnu] at hex
              replace HAN := hide (HAN.out.trans (by rw [decide_eq_true hnu]))
              clear hnu
              go_wp2
              refine wp_region_grow (by kernel_rfl) (by kernel_rfl) ?_
              repeat (go_big_quiet_step ((first | (go_at_call 51; exact Gives.quiet (HWO.out _ _ _ _ _ (hSx.ext (by (repeat (first | exact Below.refl _ _ | assumption | refine below_drewN ?_ _ | refine below_drew ?_ | refine below_gr ?_ ?_ _ | refine below_alloc ?_ ?_ _ | refine Below.setCell ?_ ?_ _ | refine below_step ?_ (by assumption) ?_ | omega | (simp only [zz] at *; omega))))) (hIP.ext (by (repeat (first | exact Below.refl _ _ | assumption | refine below_drewN ?_ _ | refine below_drew ?_ | refine below_gr ?_ ?_ _ | refine below_alloc ?_ ?_ _ | refine Below.setCell ?_ ?_ _ | refine below_step ?_ (by assumption) ?_ | omega | (simp only [zz] at *; omega))))))) | (go_at_call 52; exact Gives.quiet (HUO.out _ _ _ (hBo.ext (by (repeat (first | exact Below.refl _ _ | assumption | refine below_drewN ?_ _ | refine below_drew ?_ | refine below_gr ?_ ?_ _ | refine below_alloc ?_ ?_ _ | refine Below.setCell ?_ ?_ _ | refine below_step ?_ (by assumption) ?_ | omega | (simp only [zz] at *; omega))))) (hIP.ext (by (repeat (first | exact Below.refl _ _ | assumption | refine below_drewN ?_ _ | refine below_drew ?_ | refine below_gr ?_ ?_ _ | refine below_alloc ?_ ?_ _ | refine Below.setCell ?_ ?_ _ | refine below_step ?_ (by assumption) ?_ | omega | (simp only [zz] at *; omega))))))))))
              refine wpQuiet_nil ?_
              intro w5 hb5
              replace hb5 := ex_below hb5
              have hz5 := hb5.size
              (try simp only [zz] at hz5)
              have hlt5 : ∀ b, b < wr.heap.size → b < w5.heap.size := fun b hb => (by (first | omega | (simp only [zz] at *; omega)))
              have hc5 : ∀ b o, b < wr.heap.size → w5.cell? ⟨b, o, none⟩ = wr.cell? ⟨b, o, none⟩ := old_cell (by (repeat (first | exact Below.refl _ _ | assumption | refine below_drewN ?_ _ | refine below_drew ?_ | refine below_gr ?_ ?_ _ | refine below_alloc ?_ ?_ _ | refine Below.setCell ?_ ?_ _ | refine below_step ?_ (by assumption) ?_ | omega | (simp only [zz] at *; omega))))
              go_wp2
              exact ⟨⟨k + 1, by omega, by go_num, by rw [HAN.out]; cases bv <;> rfl, hb.trans (hb5.mono hbz)⟩, by simp [intOf]; omega⟩
            · rw [decide_eq_false hnu] at hex
              replace HAN := hide (HAN.out.trans (by rw [decide_eq_false hnu]))
              clear hnu
              go_wp2
              refine wp_region_grow (by kernel_rfl) (by kernel_rfl) ?_
              repeat (go_big_quiet_step ((first | (go_at_call 51; exact Gives.quiet (HWO.out _ _ _ _ _ (hSx.ext (by (repeat (first | exact Below.refl _ _ | assumption | refine below_drewN ?_ _ | refine below_drew ?_ | refine below_gr ?_ ?_ _ | refine below_alloc ?_ ?_ _ | refine Below.setCell ?_ ?_ _ | refine below_step ?_ (by assumption) ?_ | omega | (simp only [zz] at *; omega))))) (hIP.ext (by (repeat (first | exact Below.refl _ _ | assumption | refine below_drewN ?_ _ | refine below_drew ?_ | refine below_gr ?_ ?_ _ | refine below_alloc ?_ ?_ _ | refine Below.setCell ?_ ?_ _ | refine below_step ?_ (by assumption) ?_ | omega | (simp only [zz] at *; omega))))))) | (go_at_call 52; exact Gives.quiet (HUO.out _ _ _ (hBo.ext (by (repeat (first | exact Below.refl _ _ | assumption | refine below_drewN ?_ _ | refine below_drew ?_ | refine below_gr ?_ ?_ _ | refine below_alloc ?_ ?_ _ | refine Below.setCell ?_ ?_ _ | refine below_step ?_ (by assumption) ?_ | omega | (simp only [zz] at *; omega))))) (hIP.ext (by (repeat (first | exact Below.refl _ _ | assumption | refine below_drewN ?_ _ | refine below_drew ?_ | refine below_gr ?_ ?_ _ | refine below_alloc ?_ ?_ _ | refine Below.setCell ?_ ?_ _ | refine below_step ?_ (by assumption) ?_ | omega | (simp only [zz] at *; omega))))))))))
              refine wpQuiet_nil ?_
              intro w5 hb5
              replace hb5 := ex_below hb5
              have hz5 := hb5.size
              (try simp only [zz] at hz5)
              have hlt5 : ∀ b, b < wr.heap.size → b < w5.heap.size := fun b hb => (by (first | omega | (simp only [zz] at *; omega)))
              have hc5 : ∀ b o, b < wr.heap.size → w5.cell? ⟨b, o, none⟩ = wr.cell? ⟨b, o, none⟩ := old_cell (by (repeat (first | exact Below.refl _ _ | assumption | refine below_drewN ?_ _ | refine below_drew ?_ | refine below_gr ?_ ?_ _ | refine below_alloc ?_ ?_ _ | refine Below.setCell ?_ ?_ _ | refine below_step ?_ (by assumption) ?_ | omega | (simp only [zz] at *; omega))))
              go_wp2
              exact ⟨⟨k + 1, by omega, by go_num, by rw [HAN.out]; cases bv <;> rfl, hb.trans (hb5.mono hbz)⟩, by simp [intOf]; omega⟩
          · have hmb : (((m : Nat) : Int) == 0) = false := by simp; omega
            replace HAN := hide (HAN.out.trans (by rw [decide_eq_false hm0]))
            clear hm0
            go_wp2
            refine wp_region_grow (by kernel_rfl) (by kernel_rfl) ?_
            repeat (go_big_quiet_step ((first | (go_at_call 51; exact Gives.quiet (HWO.out _ _ _ _ _ (hSx.ext (by (repeat (first | exact Below.refl _ _ | assumption | refine below_drewN ?_ _ | refine below_drew ?_ | refine below_gr ?_ ?_ _ | refine below_alloc ?_ ?_ _ | refine Below.setCell ?_ ?_ _ | refine below_step ?_ (by assumption) ?_ | omega | (simp only [zz] at *; omega))))) (hIP.ext (by (repeat (first | exact Below.refl _ _ | assumption | refine below_drewN ?_ _ | refine below_drew ?_ | refine below_gr ?_ ?_ _ | refine below_alloc ?_ ?_ _ | refine Below.setCell ?_ ?_ _ | refine below_step ?_ (by assumption) ?_ | omega | (simp only [zz] at *; omega))))))) | (go_at_call 52; exact Gives.quiet (HUO.out _ _ _ (hBo.ext (by (repeat (first | exact Below.refl _ _ | assumption | refine below_drewN ?_ _ | refine below_drew ?_ | refine below_gr ?_ ?_ _ | refine below_alloc ?_ ?_ _ | refine Below.setCell ?_ ?_ _ | refine below_step ?_ (by assumption) ?_ | omega | (simp only [zz] at *; omega))))) (hIP.ext (by (repeat (first | exact Below.refl _ _ | assumption | refine below_drewN ?_ _ | refine below_drew ?_ | refine below_gr ?_ ?_ _ | refine below_alloc ?_ ?_ _ | refine Below.setCell ?_ ?_ _ | refine below_step ?_ (by assumption) ?_ | omega | (simp only [zz] at *; omega))))))))))
            refine wpQuiet_nil ?_
            intro w5 hb5
            replace hb5 := ex_below hb5
            have hz5 := hb5.size
            (try simp only [zz] at hz5)
            have hlt5 : ∀ b, b < wr.heap.size → b < w5.heap.size := fun b hb => (by (first | omega | (simp only [zz] at *; omega)))
            have hc5 : ∀ b o, b < wr.heap.size → w5.cell? ⟨b, o, none⟩ = wr.cell? ⟨b, o, none⟩ := old_cell (by (repeat (first | exact Below.refl _ _ | assumption | refine below_drewN ?_ _ | refine below_drew ?_ | refine below_gr ?_ ?_ _ | refine below_alloc ?_ ?_ _ | refine Below.setCell ?_ ?_ _ | refine below_step ?_ (by assumption) ?_ | omega | (simp only [zz] at *; omega))))
            go_wp2
            exact ⟨⟨k + 1, by omega, by go_num, by rw [HAN.out]; cases bv <;> rfl, hb.trans (hb5.mono hbz)⟩, by simp [intOf]; omega⟩
        · have hkl : k = L.length := by omega
          rw [show (L.take k).any (Bm.soloF ts (T, u)) = L.any (Bm.soloF ts (T, u)) by rw [hkl, List.take_length]]
          clear hkl
          have hown5 := (ownsRow_grows hown hb)
          have hb15 := hbT.trans (hb.mono hbzT)
          have hz5 := hb15.size
          generalize L.any (Bm.soloF ts (T, u)) = bv at *
          cases bv with
          | true =>
            replace HFS := hide (HFS.out.trans (by rw [if_pos rfl, List.append_nil]))
            go_wp2
            exact ⟨⟨t + 1, O, oc, by omega, by go_num, by rw [HFS.out], hb15, by rw [HFS.out]; exact hown5⟩, by simp [intOf]; omega⟩
          | false =>
            replace HFS := hide (HFS.out.trans (by rw [if_neg (by simp)]))
            replace hown5 := hown5.alloc (.cells #[.int .i64 (t : Nat)] 3)
            go_wp2_with (at_builtin; refine wpList_appN _ rfl (.tmp 59) (.tmp 61) 22 rfl (w2.heap.size) 3 i0 _ 1 8 und22 ih iz is ib rfl (by decide) (_) (fl.length) ((zs fl).map (Value.int .i64)) rfl (hown5) (some ⟨wr.heap.size, 0, none⟩) (1) (1) ([.int .i64 (t : Nat)]) rfl (rd_new1 _ _ _) (by simp [Value.oneCell']) (by unfold maxLen; omega) (by omega) (by (first | omega | (simp only [zz]; omega) | (simp only [zz] at *; omega) | (simp; done) | (simp; omega))) ?_; intro A6 c6 w6 hown6 hgr6 far6)
            have hb6 := gb_below (below_alloc hb15 (by omega) _) hgr6 (by simp; omega) (fun k hk => (hown5.lt k hk).1)
            refine ⟨⟨t + 1, A6, c6, by omega, by go_num, by rw [HFS.out, List.length_append]; rfl, hb6, ?_⟩, by simp [intOf]; omega⟩
            rw [HFS.out, List.length_append]
            simpa [zs] using hown6
    · have hkn : t = ts.length := by omega
      rw [hkn] at hown
      have hown2 := own_i64 (xs := zs (al ts.length)) (c := oc) (by rw [zs_len]; exact hown)
      have HO := hide hown2
      rw [show al t = al ts.length by rw [hkn]]
      have hnl2 : ¬ t < ts.length := hltt
      generalize al ts.length = fl at *
      clear hown hown2 hfl hkn
      go_wp2
      go_ret2
      exact ⟨O, oc, by rw [zs_len]; rfl, below_grow (hbw2.trans (hbT.mono hbw2.size)), HO.out.1, HO.out.2.1⟩
end Go.Proofs.Ytlbkaeoagdbemaa
namespace Go.Proofs.Ytlbkaeoagdbemaa
open Go.RowKit Go.Maps
/-- the errors of an outcome -/
def isoE (R : List Nat) (won : List Int) : Int := if won.length ≠ R.length then 15 else if runB R won = false then 3 else 0
set_option maxRecDepth 100000 in
set_option maxHeartbeats 4000000 in
theorem rIsOutcome_any (A : Option Addr) (R : List Nat) (c : Nat) (X : Option Addr) (won : List Int) (xc : Nat) (w : World) (hA : I64 w A (zs R)) (hX : I64 w X won) (hw : won.length ≤ 1000000) (hl : R.length ≤ 1000000) :
    Calls Try.prog 50 #[.agg #[.slice A R.length c], .slice X won.length xc] w (Gives w (.int .i64 (isoE R won))) := by
  have HX := hide (show isoE R won = if won.length ≠ R.length then 15 else if runB R won = false then 3 else 0 from rfl)
  have hwi : (won.length : Int) ≤ 1000000 := by omega
  by_cases hne : won.length = R.length
  · have HV := hide (show isoE R won = if (won.zip (zs R)).all (fun p : Int × Int => decide (0 ≤ p.1 ∧ p.1 < p.2)) = false then 3 else 0 by rw [HX.out, if_neg (by simpa using hne)]; rfl)
    have hnb : (((won.length : Nat) : Int) != ((R.length : Nat) : Int)) = false := neB _ _ _ (by simpa using hne)
    have hle : won.length ≤ R.length := by omega
    have hRi : (R.length : Int) ≤ 1000000 := by omega
    clear HX
    have HNE := hide hne
    clear hne
    go_enter Try.func50, Try.ntmps50
    go_wp2
    obtain ⟨W0, hW0⟩ : ∃ W0, (w.alloc (.cells #[.slice A R.length c] 24)) = W0 := ⟨_, rfl⟩
    have hbW : Below w.heap.size w W0 := by rw [← hW0]; (repeat (first | exact Below.refl _ _ | assumption | (refine below_gr ?_ (by (first | omega | (simp only [zz] at *; omega))) _) | (refine below_alloc ?_ (by (first | omega | (simp only [zz] at *; omega))) _) | (refine Below.setCell ?_ (by (first | omega | (simp only [zz] at *; omega))) _) | refine below_drewN ?_ _ | refine below_drew ?_ | (refine below_step ?_ (by assumption) (by (first | omega | (simp only [zz] at *; omega))))))
    have hn1 : w.heap.size < W0.heap.size := by rw [← hW0]; simp
    have e0 : W0.cell? ⟨w.heap.size, 0, none⟩ = some (.slice A R.length c) := by rw [← hW0]; simp [go_sem]
    rw [hW0]
    clear hW0
    replace hA := hA.ext hbW
    replace hX := hX.ext hbW
    go_loopw [5] (fun i wr => ∃ k : Nat, k ≤ won.length ∧ i = .int .i64 (k : Nat) ∧ ((won.zip (zs R)).take k).all (fun p : Int × Int => decide (0 ≤ p.1 ∧ p.1 < p.2)) = true ∧ Below W0.heap.size W0 wr) (fun i _ => won.length - (intOf i).toNat)
    case atStart => exact ⟨0, Nat.zero_le _, rfl, rfl, Below.refl _ _⟩
    case round =>
      obtain ⟨k, hk, rfl, hall, hb⟩ := hrel
      have hbz := hb.size
      have e1 := Below.blk hb hn1 e0
      have hnr : w.heap.size < wr.heap.size := by omega
      by_cases hlt : k < won.length
      · have hltR : k < R.length := by omega
        have hX1 := hX.ext hb
        have hA1 := hA.ext hb
        obtain ⟨ab, ao, rfl, hab⟩ := zsF hA1 (by omega)
        obtain ⟨xb, xo, rfl, hxb⟩ := hX1.form (by omega)
        have hr0 := zsI hA1 hltR
        have hx0 := hX1.at hlt
        have hlz : k < (won.zip (zs R)).length := by simp [zs_len]; omega
        have HGr := hide (all_good (f := fun p : Int × Int => decide (0 ≤ p.1 ∧ p.1 < p.2)) hlz hall)
        have HBr := hide (fun h => HV.out.trans (if_pos (all_bad (f := fun p : Int × Int => decide (0 ≤ p.1 ∧ p.1 < p.2)) hlz h)))
        have hz0 : (won.zip (zs R))[k] = (won[k], ((R[k] : Nat) : Int)) := by simp [zs_at _ _ hltR]
        rw [hz0] at HGr HBr
        clear hz0 hall hlz hX1 hA1
        generalize R[k] = n at *
        generalize won[k] = x at *
        have hcx : decide (x < 0) = true ∨ (decide (x < 0) = false ∧ ¬ x < (n : Int)) ∨ (decide (x < 0) = false ∧ x < (n : Int)) := by
          simp only [decide_eq_true_eq, decide_eq_false_iff_not]; omega
        rcases hcx with g1 | ⟨g1, g2⟩ | ⟨g1, g2⟩
        · have hv := hide (HBr.out (by simp at g1 ⊢; omega))
          go_upto_region 6 with fail
          go_quiet (fail)
          go_wp2
          go_ret
          exact gives_of (v_int hv.out.symm) (by (repeat (first | exact Below.refl _ _ | assumption | refine below_drewN ?_ _ | refine below_drew ?_ | refine below_gr ?_ ?_ _ | refine below_alloc ?_ ?_ _ | refine Below.setCell ?_ ?_ _ | refine below_step ?_ (by assumption) ?_ | omega | (simp only [zz] at *; omega))))
        · have hv := hide (HBr.out (by simp at g1 ⊢; omega))
          go_upto_region 6 with fail
          go_quiet (fail)
          go_wp2
          go_ret
          exact gives_of (v_int hv.out.symm) (by (repeat (first | exact Below.refl _ _ | assumption | refine below_drewN ?_ _ | refine below_drew ?_ | refine below_gr ?_ ?_ _ | refine below_alloc ?_ ?_ _ | refine Below.setCell ?_ ?_ _ | refine below_step ?_ (by assumption) ?_ | omega | (simp only [zz] at *; omega))))
        · replace HGr := hide (HGr.out (by simp at g1 ⊢; omega))
          go_upto_region 6 with fail
          go_quiet (fail)
          go_wp2
          exact ⟨⟨k + 1, by omega, by go_num, HGr.out, by (repeat (first | exact Below.refl _ _ | assumption | (refine below_gr ?_ (by (first | omega | (simp only [zz] at *; omega))) _) | (refine below_alloc ?_ (by (first | omega | (simp only [zz] at *; omega))) _) | (refine Below.setCell ?_ (by (first | omega | (simp only [zz] at *; omega))) _) | refine below_drewN ?_ _ | refine below_drew ?_ | (refine below_step ?_ (by assumption) (by (first | omega | (simp only [zz] at *; omega))))))⟩, by simp [intOf]; omega⟩
      · have hkl : k = won.length := by omega
        have hv := hide (HV.out.trans (if_neg (by rw [hkl, show (won.zip (zs R)).take won.length = won.zip (zs R) from List.take_of_length_le (by simp [zs_len]; omega)] at hall; rw [hall]; simp)))
        clear hall hkl
        go_wp2
        go_ret
        exact gives_of (v_int hv.out.symm) (by (repeat (first | exact Below.refl _ _ | assumption | refine below_drewN ?_ _ | refine below_drew ?_ | refine below_gr ?_ ?_ _ | refine below_alloc ?_ ?_ _ | refine Below.setCell ?_ ?_ _ | refine below_step ?_ (by assumption) ?_ | omega | (simp only [zz] at *; omega))))
  · have hv := hide (show isoE R won = 15 by rw [HX.out, if_pos hne])
    have hnb : (((won.length : Nat) : Int) != ((R.length : Nat) : Int)) = true := neB _ _ _ (by simpa using hne)
    clear HX hne
    go_enter Try.func50, Try.ntmps50
    go_wp2
    go_ret
    exact gives_of (v_int hv.out.symm) (by (repeat (first | exact Below.refl _ _ | assumption | refine below_drewN ?_ _ | refine below_drew ?_ | refine below_gr ?_ ?_ _ | refine below_alloc ?_ ?_ _ | refine Below.setCell ?_ ?_ _ | refine below_step ?_ (by assumption) ?_ | omega | (simp only [zz] at *; omega))))
end Go.Proofs.Ytlbkaeoagdbemaa
namespace Go.Proofs.Ytlbkaeoagdbemaa
open Go.RowKit Go.Maps
set_option maxRecDepth 100000 in
set_option maxHeartbeats 4000000 in
theorem rPays_bad (A : Option Addr) (R : List Int) (c : Nat) (B : Option Addr) (ts : List Tz) (d : Nat) (w : World) (hA : I64 w A R) (hB : Tks w B ts) (hl : R.length ≤ 1000000) (hl2 : ts.length ≤ 1000000) (hts : ∀ t, t ∈ ts → t.1.length ≤ 1000000) (h0 : chkT R ts ≠ 0) (X : Option Addr) (n xc : Nat) (p : Int) :
    Calls Try.prog 42 #[.agg #[.slice A R.length c], .slice B ts.length d, .int .i64 p, .slice X n xc] w (Gives w (.tuple #[.int .i64 0, .int .i64 0, .int .i64 (chkT R ts)])) := by
  have HCT := hide (fun w' (h1 : I64 w' A R) (h2 : Tks w' B ts) => rCheckTickets_any A R c B ts d w' h1 h2 hl hl2 hts)
  have hne : (chkT R ts != 0) = true := by simpa using h0
  generalize chkT R ts = ec at *
  clear h0
  go_enter Try.func42, Try.ntmps42
  go_wp2_with (first
    | (go_at_call 24; refine (HCT.out _ (hA.ext (by (repeat (first | exact Below.refl _ _ | assumption | refine below_drewN ?_ _ | refine below_drew ?_ | refine below_gr ?_ ?_ _ | refine below_alloc ?_ ?_ _ | refine Below.setCell ?_ ?_ _ | refine below_step ?_ (by assumption) ?_ | omega | (simp only [zz] at *; omega))))) (hB.ext (by (repeat (first | exact Below.refl _ _ | assumption | refine below_drewN ?_ _ | refine below_drew ?_ | refine below_gr ?_ ?_ _ | refine below_alloc ?_ ?_ _ | refine Below.setCell ?_ ?_ _ | refine below_step ?_ (by assumption) ?_ | omega | (simp only [zz] at *; omega)))))).mono ?_; rintro e w1 ⟨rfl, hb1⟩; replace hb1 := ex_below hb1; have hz1 := hb1.size; (try simp only [zz] at hz1); have hs1 : w.heap.size < w1.heap.size := (by (first | omega | (simp only [zz] at *; omega))); have ho1 := own_cell hb1 (b := w.heap.size) (by (first | omega | (simp only [zz] at *; omega))); have hq1 := own_frozen hb1 (b := w.heap.size) (by (first | omega | (simp only [zz] at *; omega))); have hlt1 : ∀ b, b < w.heap.size → b < w1.heap.size := fun b hb => (by (first | omega | (simp only [zz] at *; omega))); have hc1 : ∀ b o, b < w.heap.size → w1.cell? ⟨b, o, none⟩ = w.cell? ⟨b, o, none⟩ := old_cell (by (repeat (first | exact Below.refl _ _ | assumption | refine below_drewN ?_ _ | refine below_drew ?_ | refine below_gr ?_ ?_ _ | refine below_alloc ?_ ?_ _ | refine Below.setCell ?_ ?_ _ | refine below_step ?_ (by assumption) ?_ | omega | (simp only [zz] at *; omega))))))

  go_wp2_with (first
    | (go_at_call 24; refine (HCT.out _ (hA.ext (by (repeat (first | exact Below.refl _ _ | assumption | refine below_drewN ?_ _ | refine below_drew ?_ | refine below_gr ?_ ?_ _ | refine below_alloc ?_ ?_ _ | refine Below.setCell ?_ ?_ _ | refine below_step ?_ (by assumption) ?_ | omega | (simp only [zz] at *; omega))))) (hB.ext (by (repeat (first | exact Below.refl _ _ | assumption | refine below_drewN ?_ _ | refine below_drew ?_ | refine below_gr ?_ ?_ _ | refine below_alloc ?_ ?_ _ | refine Below.setCell ?_ ?_ _ | refine below_step ?_ (by assumption) ?_ | omega | (simp only [zz] at *; omega)))))).mono ?_; rintro e w2 ⟨rfl, hb2⟩; replace hb2 := ex_below hb2; have hz2 := hb2.size; (try simp only [zz] at hz2); have hs2 : w.heap.size < w2.heap.size := (by (first | omega | (simp only [zz] at *; omega))); have ho2 := own_cell hb2 (b := w.heap.size) (by (first | omega | (simp only [zz] at *; omega))); have hq2 := own_frozen hb2 (b := w.heap.size) (by (first | omega | (simp only [zz] at *; omega))); have hlt2 : ∀ b, b < w.heap.size → b < w2.heap.size := fun b hb => (by (first | omega | (simp only [zz] at *; omega))); have hc2 : ∀ b o, b < w.heap.size → w2.cell? ⟨b, o, none⟩ = w.cell? ⟨b, o, none⟩ := old_cell (by (repeat (first | exact Below.refl _ _ | assumption | refine below_drewN ?_ _ | refine below_drew ?_ | refine below_gr ?_ ?_ _ | refine below_alloc ?_ ?_ _ | refine Below.setCell ?_ ?_ _ | refine below_step ?_ (by assumption) ?_ | omega | (simp only [zz] at *; omega))))))

  go_ret3
  exact gives_of (rfl) (by (repeat (first | exact Below.refl _ _ | assumption | refine below_drewN ?_ _ | refine below_drew ?_ | refine below_gr ?_ ?_ _ | refine below_alloc ?_ ?_ _ | refine Below.setCell ?_ ?_ _ | refine below_step ?_ (by assumption) ?_ | omega | (simp only [zz] at *; omega))))
set_option maxRecDepth 100000 in
set_option maxHeartbeats 4000000 in
theorem rPays_ok (A : Option Addr) (R : List Nat) (c : Nat) (B : Option Addr) (ts : List Bm.Tk) (d : Nat) (X : Option Addr) (won : List Int) (xc : Nat) (p : Int) (w : World) (hA : I64 w A (zs R)) (hB : Tks w B (tz ts)) (hX : I64 w X won) (hw : won.length ≤ 1000000) (hok : Ok R ts) :
    Calls Try.prog 42 #[.agg #[.slice A R.length c], .slice B ts.length d, .int .i64 p, .slice X won.length xc] w (Gives w (payV R ts p won)) := by
  have HCT := hide (fun w' (h1 : I64 w' A (zs R)) (h2 : Tks w' B (tz ts)) => by
    have := rCheckTickets_any A (zs R) c B (tz ts) d w' h1 h2 hok.len.1 hok.len.2.1 hok.len.2.2
    rw [ok_chk hok, zs_len, tz_len] at this
    exact this)
  have hR5 := hok.h5
  have HPV := hide (show payV R ts p won = if ¬(0 ≤ p ∧ p ≤ 1099511627776) then .tuple #[.int .i64 0, .int .i64 0, .int .i64 3]
    else if won.length ≠ R.length then .tuple #[.int .i64 0, .int .i64 0, .int .i64 15]
    else if runB R won = false then .tuple #[.int .i64 0, .int .i64 0, .int .i64 3]
    else if Bm.uni ts (won.map Int.toNat) = 0 then .tuple #[.int .i64 0, .int .i64 p, .int .i64 0]
    else .tuple #[.int .i64 (p / (Bm.uni ts (won.map Int.toNat) : Nat)), .int .i64 (p % (Bm.uni ts (won.map Int.toNat) : Nat)), .int .i64 0] from rfl)
  by_cases hp : 0 ≤ p ∧ p ≤ 1099511627776
  · replace HPV := hide (HPV.out.trans (if_neg (by simpa using hp)))
    have g1 : decide (p < 0) = false := by simp; omega
    have g2 : decide (p > 1099511627776) = false := by simp; omega
    have HIS := hide (fun w' (h1 : I64 w' A (zs R)) (h2 : I64 w' X won) => rIsOutcome_any A R c X won xc w' h1 h2 hw (by omega))
    have HIE := hide (show isoE R won = if won.length ≠ R.length then 15 else if runB R won = false then 3 else 0 from rfl)
    by_cases hi : isoE R won = 0
    · have hwl : won.length = R.length := by
        rcases Decidable.em (won.length = R.length) with h | h
        · exact h
        · rw [HIE.out, if_pos h] at hi; cases hi
      have hr : runB R won = true := by
        rw [HIE.out, if_neg (by simpa using hwl)] at hi
        cases h : runB R won with
        | true => rfl
        | false => rw [h] at hi; simp at hi
      replace HPV := hide (HPV.out.trans ((if_neg (by simpa using hwl)).trans (if_neg (by simp [hr]))))
      rw [hi] at HIS
      obtain ⟨o, hwo, hol, holt⟩ := runB_zs R won (by omega) hr
      have hzn : won.map Int.toNat = o := by rw [hwo, zs_nat]
      rw [hzn] at HPV
      have hoR : o.length = R.length := hol.trans hwl
      have ho6 : ∀ i, i ∈ o → i < 6 := fun i hi => by
        obtain ⟨k, hk, rfl⟩ := List.getElem_of_mem hi
        have h1 := holt k hk
        have h2 : R[k]'(by omega) ≤ 6 := hok.r6 _ (List.getElem_mem _)
        rw [getD_at _ _ hk, getD_at _ _ (by omega : k < R.length)] at h1
        omega
      have HUX := hide (fun w' (h1 : Tks w' B (tz ts)) (h2 : I64 w' X won) => by
        have := rUnits_any B ts d X o xc w' h1 (by rw [← hwo]; exact h2) (fun t ht => ⟨by rw [hok.htl t ht]; omega, by rw [hok.htl t ht]; omega⟩) hok.ht6 ho6 hok.t10 hok.hu
        rw [hol] at this
        exact this)
      have hwi : (won.length : Int) ≤ 5 := by omega
      clear hi HIE hwl hr hwo hzn hoR ho6 hol holt hok
      by_cases hn : Bm.uni ts o = 0
      · replace HPV := hide (HPV.out.trans (if_pos hn))
        rw [hn] at HUX
        clear hn
        rw [HPV.out]
        go_enter Try.func42, Try.ntmps42
        go_wp2_with (first
    | (go_at_call 24; refine (HCT.out _ (hA.ext (by (repeat (first | exact Below.refl _ _ | assumption | refine below_drewN ?_ _ | refine below_drew ?_ | refine below_gr ?_ ?_ _ | refine below_alloc ?_ ?_ _ | refine Below.setCell ?_ ?_ _ | refine below_step ?_ (by assumption) ?_ | omega | (simp only [zz] at *; omega))))) (hB.ext (by (repeat (first | exact Below.refl _ _ | assumption | refine below_drewN ?_ _ | refine below_drew ?_ | refine below_gr ?_ ?_ _ | refine below_alloc ?_ ?_ _ | refine Below.setCell ?_ ?_ _ | refine below_step ?_ (by assumption) ?_ | omega | (simp only [zz] at *; omega)))))).mono ?_; rintro e w1 ⟨rfl, hb1⟩; replace hb1 := ex_below hb1; have hz1 := hb1.size; (try simp only [zz] at hz1); have hs1 : w.heap.size < w1.heap.size := (by (first | omega | (simp only [zz] at *; omega))); have ho1 := own_cell hb1 (b := w.heap.size) (by (first | omega | (simp only [zz] at *; omega))); have hq1 := own_frozen hb1 (b := w.heap.size) (by (first | omega | (simp only [zz] at *; omega))); have hlt1 : ∀ b, b < w.heap.size → b < w1.heap.size := fun b hb => (by (first | omega | (simp only [zz] at *; omega))); have hc1 : ∀ b o, b < w.heap.size → w1.cell? ⟨b, o, none⟩ = w.cell? ⟨b, o, none⟩ := old_cell (by (repeat (first | exact Below.refl _ _ | assumption | refine below_drewN ?_ _ | refine below_drew ?_ | refine below_gr ?_ ?_ _ | refine below_alloc ?_ ?_ _ | refine Below.setCell ?_ ?_ _ | refine below_step ?_ (by assumption) ?_ | omega | (simp only [zz] at *; omega)))))
    | (go_at_call 50; refine (HIS.out _ (hA.ext (by (repeat (first | exact Below.refl _ _ | assumption | refine below_drewN ?_ _ | refine below_drew ?_ | refine below_gr ?_ ?_ _ | refine below_alloc ?_ ?_ _ | refine Below.setCell ?_ ?_ _ | refine below_step ?_ (by assumption) ?_ | omega | (simp only [zz] at *; omega))))) (hX.ext (by (repeat (first | exact Below.refl _ _ | assumption | refine below_drewN ?_ _ | refine below_drew ?_ | refine below_gr ?_ ?_ _ | refine below_alloc ?_ ?_ _ | refine Below.setCell ?_ ?_ _ | refine below_step ?_ (by assumption) ?_ | omega | (simp only [zz] at *; omega)))))).mono ?_; rintro e w2 ⟨rfl, hb2⟩; replace hb2 := ex_below hb2; have hz2 := hb2.size; (try simp only [zz] at hz2); have hs2 : w.heap.size < w2.heap.size := (by (first | omega | (simp only [zz] at *; omega))); have ho2 := own_cell hb2 (b := w.heap.size) (by (first | omega | (simp only [zz] at *; omega))); have hq2 := own_frozen hb2 (b := w.heap.size) (by (first | omega | (simp only [zz] at *; omega))); have hlt2 : ∀ b, b < w.heap.size → b < w2.heap.size := fun b hb => (by (first | omega | (simp only [zz] at *; omega))); have hc2 : ∀ b o, b < w.heap.size → w2.cell? ⟨b, o, none⟩ = w.cell? ⟨b, o, none⟩ := old_cell (by (repeat (first | exact Below.refl _ _ | assumption | refine below_drewN ?_ _ | refine below_drew ?_ | refine below_gr ?_ ?_ _ | refine below_alloc ?_ ?_ _ | refine Below.setCell ?_ ?_ _ | refine below_step ?_ (by assumption) ?_ | omega | (simp only [zz] at *; omega)))))
    | (go_at_call 52; refine (HUX.out _ (hB.ext (by (repeat (first | exact Below.refl _ _ | assumption | refine below_drewN ?_ _ | refine below_drew ?_ | refine below_gr ?_ ?_ _ | refine below_alloc ?_ ?_ _ | refine Below.setCell ?_ ?_ _ | refine below_step ?_ (by assumption) ?_ | omega | (simp only [zz] at *; omega))))) (hX.ext (by (repeat (first | exact Below.refl _ _ | assumption | refine below_drewN ?_ _ | refine below_drew ?_ | refine below_gr ?_ ?_ _ | refine below_alloc ?_ ?_ _ | refine Below.setCell ?_ ?_ _ | refine below_step ?_ (by assumption) ?_ | omega | (simp only [zz] at *; omega)))))).mono ?_; rintro e w3 ⟨rfl, hb3⟩; replace hb3 := ex_below hb3; have hz3 := hb3.size; (try simp only [zz] at hz3); have hs3 : w.heap.size < w3.heap.size := (by (first | omega | (simp only [zz] at *; omega))); have ho3 := own_cell hb3 (b := w.heap.size) (by (first | omega | (simp only [zz] at *; omega))); have hq3 := own_frozen hb3 (b := w.heap.size) (by (first | omega | (simp only [zz] at *; omega))); have hlt3 : ∀ b, b < w.heap.size → b < w3.heap.size := fun b hb => (by (first | omega | (simp only [zz] at *; omega))); have hc3 : ∀ b o, b < w.heap.size → w3.cell? ⟨b, o, none⟩ = w.cell? ⟨b, o, none⟩ := old_cell (by (repeat (first | exact Below.refl _ _ | assumption | refine below_drewN ?_ _ | refine below_drew ?_ | refine below_gr ?_ ?_ _ | refine below_alloc ?_ ?_ _ | refine Below.setCell ?_ ?_ _ | refine below_step ?_ (by assumption) ?_ | omega | (simp only [zz] at *; omega))))))

        go_ret3
        exact gives_of (rfl) (by (repeat (first | exact Below.refl _ _ | assumption | refine below_drewN ?_ _ | refine below_drew ?_ | refine below_gr ?_ ?_ _ | refine below_alloc ?_ ?_ _ | refine Below.setCell ?_ ?_ _ | refine below_step ?_ (by assumption) ?_ | omega | (simp only [zz] at *; omega))))
      · replace HPV := hide (HPV.out.trans (if_neg hn))
        rw [HPV.out]
        have hf := fit p hp (Bm.uni ts o) (by omega)
        generalize Bm.uni ts o = n at *
        have hnb : ((n : Int) == 0) = false := by simp; omega
        have hn0 : (n : Int) ≠ 0 := by omega
        have hqd : (p).tdiv (n : Int) = p / (n : Int) := Int.tdiv_eq_ediv_of_nonneg hp.1
        have hqm : (p).tmod (n : Int) = p % (n : Int) := Int.tmod_eq_emod_of_nonneg hp.1
        go_enter Try.func42, Try.ntmps42
        go_wp2_with (first
    | (go_at_call 24; refine (HCT.out _ (hA.ext (by (repeat (first | exact Below.refl _ _ | assumption | refine below_drewN ?_ _ | refine below_drew ?_ | refine below_gr ?_ ?_ _ | refine below_alloc ?_ ?_ _ | refine Below.setCell ?_ ?_ _ | refine below_step ?_ (by assumption) ?_ | omega | (simp only [zz] at *; omega))))) (hB.ext (by (repeat (first | exact Below.refl _ _ | assumption | refine below_drewN ?_ _ | refine below_drew ?_ | refine below_gr ?_ ?_ _ | refine below_alloc ?_ ?_ _ | refine Below.setCell ?_ ?_ _ | refine below_step ?_ (by assumption) ?_ | omega | (simp only [zz] at *; omega)))))).mono ?_; rintro e w1 ⟨rfl, hb1⟩; replace hb1 := ex_below hb1; have hz1 := hb1.size; (try simp only [zz] at hz1); have hs1 : w.heap.size < w1.heap.size := (by (first | omega | (simp only [zz] at *; omega))); have ho1 := own_cell hb1 (b := w.heap.size) (by (first | omega | (simp only [zz] at *; omega))); have hq1 := own_frozen hb1 (b := w.heap.size) (by (first | omega | (simp only [zz] at *; omega))); have hlt1 : ∀ b, b < w.heap.size → b < w1.heap.size := fun b hb => (by (first | omega | (simp only [zz] at *; omega))); have hc1 : ∀ b o, b < w.heap.size → w1.cell? ⟨b, o, none⟩ = w.cell? ⟨b, o, none⟩ := old_cell (by (repeat (first | exact Below.refl _ _ | assumption | refine below_drewN ?_ _ | refine below_drew ?_ | refine below_gr ?_ ?_ _ | refine below_alloc ?_ ?_ _ | refine Below.setCell ?_ ?_ _ | refine below_step ?_ (by assumption) ?_ | omega | (simp only [zz] at *; omega)))))
    | (go_at_call 50; refine (HIS.out _ (hA.ext (by (repeat (first | exact Below.refl _ _ | assumption | refine below_drewN ?_ _ | refine below_drew ?_ | refine below_gr ?_ ?_ _ | refine below_alloc ?_ ?_ _ | refine Below.setCell ?_ ?_ _ | refine below_step ?_ (by assumption) ?_ | omega | (simp only [zz] at *; omega))))) (hX.ext (by (repeat (first | exact Below.refl _ _ | assumption | refine below_drewN ?_ _ | refine below_drew ?_ | refine below_gr ?_ ?_ _ | refine below_alloc ?_ ?_ _ | refine Below.setCell ?_ ?_ _ | refine below_step ?_ (by assumption) ?_ | omega | (simp only [zz] at *; omega)))))).mono ?_; rintro e w2 ⟨rfl, hb2⟩; replace hb2 := ex_below hb2; have hz2 := hb2.size; (try simp only [zz] at hz2); have hs2 : w.heap.size < w2.heap.size := (by (first | omega | (simp only [zz] at *; omega))); have ho2 := own_cell hb2 (b := w.heap.size) (by (first | omega | (simp only [zz] at *; omega))); have hq2 := own_frozen hb2 (b := w.heap.size) (by (first | omega | (simp only [zz] at *; omega))); have hlt2 : ∀ b, b < w.heap.size → b < w2.heap.size := fun b hb => (by (first | omega | (simp only [zz] at *; omega))); have hc2 : ∀ b o, b < w.heap.size → w2.cell? ⟨b, o, none⟩ = w.cell? ⟨b, o, none⟩ := old_cell (by (repeat (first | exact Below.refl _ _ | assumption | refine below_drewN ?_ _ | refine below_drew ?_ | refine below_gr ?_ ?_ _ | refine below_alloc ?_ ?_ _ | refine Below.setCell ?_ ?_ _ | refine below_step ?_ (by assumption) ?_ | omega | (simp only [zz] at *; omega)))))
    | (go_at_call 52; refine (HUX.out _ (hB.ext (by (repeat (first | exact Below.refl _ _ | assumption | refine below_drewN ?_ _ | refine below_drew ?_ | refine below_gr ?_ ?_ _ | refine below_alloc ?_ ?_ _ | refine Below.setCell ?_ ?_ _ | refine below_step ?_ (by assumption) ?_ | omega | (simp only [zz] at *; omega))))) (hX.ext (by (repeat (first | exact Below.refl _ _ | assumption | refine below_drewN ?_ _ | refine below_drew ?_ | refine below_gr ?_ ?_ _ | refine below_alloc ?_ ?_ _ | refine Below.setCell ?_ ?_ _ | refine below_step ?_ (by assumption) ?_ | omega | (simp only [zz] at *; omega)))))).mono ?_; rintro e w3 ⟨rfl, hb3⟩; replace hb3 := ex_below hb3; have hz3 := hb3.size; (try simp only [zz] at hz3); have hs3 : w.heap.size < w3.heap.size := (by (first | omega | (simp only [zz] at *; omega))); have ho3 := own_cell hb3 (b := w.heap.size) (by (first | omega | (simp only [zz] at *; omega))); have hq3 := own_frozen hb3 (b := w.heap.size) (by (first | omega | (simp only [zz] at *; omega))); have hlt3 : ∀ b, b < w.heap.size → b < w3.heap.size := fun b hb => (by (first | omega | (simp only [zz] at *; omega))); have hc3 : ∀ b o, b < w.heap.size → w3.cell? ⟨b, o, none⟩ = w.cell? ⟨b, o, none⟩ := old_cell (by (repeat (first | exact Below.refl _ _ | assumption | refine below_drewN ?_ _ | refine below_drew ?_ | refine below_gr ?_ ?_ _ | refine below_alloc ?_ ?_ _ | refine Below.setCell ?_ ?_ _ | refine below_step ?_ (by assumption) ?_ | omega | (simp only [zz] at *; omega))))))

        refine wp_region_grow (by kernel_rfl) (by kernel_rfl) ?_
        repeat (go_big_quiet_step (fail))
        refine wpQuiet_nil ?_
        intro w6 hb6
        replace hb6 := ex_below hb6
        have hz6 := hb6.size
        (try simp only [zz] at hz6)
        have hlt6 : ∀ b, b < w.heap.size → b < w6.heap.size := fun b hb => (by (first | omega | (simp only [zz] at *; omega)))
        have hc6 : ∀ b o, b < w.heap.size → w6.cell? ⟨b, o, none⟩ = w.cell? ⟨b, o, none⟩ := old_cell (by (repeat (first | exact Below.refl _ _ | assumption | refine below_drewN ?_ _ | refine below_drew ?_ | refine below_gr ?_ ?_ _ | refine below_alloc ?_ ?_ _ | refine Below.setCell ?_ ?_ _ | refine below_step ?_ (by assumption) ?_ | omega | (simp only [zz] at *; omega))))
        go_wp2
        go_ret3
        exact gives_of (rfl) (by (repeat (first | exact Below.refl _ _ | assumption | refine below_drewN ?_ _ | refine below_drew ?_ | refine below_gr ?_ ?_ _ | refine below_alloc ?_ ?_ _ | refine Below.setCell ?_ ?_ _ | refine below_step ?_ (by assumption) ?_ | omega | (simp only [zz] at *; omega))))
    · have hv := hide (show payV R ts p won = .tuple #[.int .i64 0, .int .i64 0, .int .i64 (isoE R won)] by
        rw [HPV.out, HIE.out]
        by_cases h : won.length = R.length
        · rw [if_neg (show ¬ won.length ≠ R.length by simpa using h), if_neg (show ¬ won.length ≠ R.length by simpa using h)]
          cases h2 : runB R won with
          | true => exfalso; apply hi; rw [HIE.out, if_neg (by simpa using h), h2]; simp
          | false => simp
        · rw [if_pos h, if_pos h])
      rw [hv.out]
      have hne : (isoE R won != 0) = true := by simpa using hi
      clear hv HPV HIE hi
      generalize isoE R won = ie at *
      go_enter Try.func42, Try.ntmps42
      go_wp2_with (first
    | (go_at_call 24; refine (HCT.out _ (hA.ext (by (repeat (first | exact Below.refl _ _ | assumption | refine below_drewN ?_ _ | refine below_drew ?_ | refine below_gr ?_ ?_ _ | refine below_alloc ?_ ?_ _ | refine Below.setCell ?_ ?_ _ | refine below_step ?_ (by assumption) ?_ | omega | (simp only [zz] at *; omega))))) (hB.ext (by (repeat (first | exact Below.refl _ _ | assumption | refine below_drewN ?_ _ | refine below_drew ?_ | refine below_gr ?_ ?_ _ | refine below_alloc ?_ ?_ _ | refine Below.setCell ?_ ?_ _ | refine below_step ?_ (by assumption) ?_ | omega | (simp only [zz] at *; omega)))))).mono ?_; rintro e w1 ⟨rfl, hb1⟩; replace hb1 := ex_below hb1; have hz1 := hb1.size; (try simp only [zz] at hz1); have hs1 : w.heap.size < w1.heap.size := (by (first | omega | (simp only [zz] at *; omega))); have ho1 := own_cell hb1 (b := w.heap.size) (by (first | omega | (simp only [zz] at *; omega))); have hq1 := own_frozen hb1 (b := w.heap.size) (by (first | omega | (simp only [zz] at *; omega))); have hlt1 : ∀ b, b < w.heap.size → b < w1.heap.size := fun b hb => (by (first | omega | (simp only [zz] at *; omega))); have hc1 : ∀ b o, b < w.heap.size → w1.cell? ⟨b, o, none⟩ = w.cell? ⟨b, o, none⟩ := old_cell (by (repeat (first | exact Below.refl _ _ | assumption | refine below_drewN ?_ _ | refine below_drew ?_ | refine below_gr ?_ ?_ _ | refine below_alloc ?_ ?_ _ | refine Below.setCell ?_ ?_ _ | refine below_step ?_ (by assumption) ?_ | omega | (simp only [zz] at *; omega)))))
    | (go_at_call 50; refine (HIS.out _ (hA.ext (by (repeat (first | exact Below.refl _ _ | assumption | refine below_drewN ?_ _ | refine below_drew ?_ | refine below_gr ?_ ?_ _ | refine below_alloc ?_ ?_ _ | refine Below.setCell ?_ ?_ _ | refine below_step ?_ (by assumption) ?_ | omega | (simp only [zz] at *; omega))))) (hX.ext (by (repeat (first | exact Below.refl _ _ | assumption | refine below_drewN ?_ _ | refine below_drew ?_ | refine below_gr ?_ ?_ _ | refine below_alloc ?_ ?_ _ | refine Below.setCell ?_ ?_ _ | refine below_step ?_ (by assumption) ?_ | omega | (simp only [zz] at *; omega)))))).mono ?_; rintro e w2 ⟨rfl, hb2⟩; replace hb2 := ex_below hb2; have hz2 := hb2.size; (try simp only [zz] at hz2); have hs2 : w.heap.size < w2.heap.size := (by (first | omega | (simp only [zz] at *; omega))); have ho2 := own_cell hb2 (b := w.heap.size) (by (first | omega | (simp only [zz] at *; omega))); have hq2 := own_frozen hb2 (b := w.heap.size) (by (first | omega | (simp only [zz] at *; omega))); have hlt2 : ∀ b, b < w.heap.size → b < w2.heap.size := fun b hb => (by (first | omega | (simp only [zz] at *; omega))); have hc2 : ∀ b o, b < w.heap.size → w2.cell? ⟨b, o, none⟩ = w.cell? ⟨b, o, none⟩ := old_cell (by (repeat (first | exact Below.refl _ _ | assumption | refine below_drewN ?_ _ | refine below_drew ?_ | refine below_gr ?_ ?_ _ | refine below_alloc ?_ ?_ _ | refine Below.setCell ?_ ?_ _ | refine below_step ?_ (by assumption) ?_ | omega | (simp only [zz] at *; omega))))))

      go_ret3
      exact gives_of (rfl) (by (repeat (first | exact Below.refl _ _ | assumption | refine below_drewN ?_ _ | refine below_drew ?_ | refine below_gr ?_ ?_ _ | refine below_alloc ?_ ?_ _ | refine Below.setCell ?_ ?_ _ | refine below_step ?_ (by assumption) ?_ | omega | (simp only [zz] at *; omega))))
  · rw [HPV.out, if_pos hp]
    have hcase : decide (p < 0) = true ∨ (decide (p < 0) = false ∧ decide (p > 1099511627776) = true) := by
      simp only [decide_eq_true_eq, decide_eq_false_iff_not]; omega
    clear HPV hp
    rcases hcase with g1 | ⟨g1, g2⟩
    all_goals
      go_enter Try.func42, Try.ntmps42
      go_wp2_with (first
    | (go_at_call 24; refine (HCT.out _ (hA.ext (by (repeat (first | exact Below.refl _ _ | assumption | refine below_drewN ?_ _ | refine below_drew ?_ | refine below_gr ?_ ?_ _ | refine below_alloc ?_ ?_ _ | refine Below.setCell ?_ ?_ _ | refine below_step ?_ (by assumption) ?_ | omega | (simp only [zz] at *; omega))))) (hB.ext (by (repeat (first | exact Below.refl _ _ | assumption | refine below_drewN ?_ _ | refine below_drew ?_ | refine below_gr ?_ ?_ _ | refine below_alloc ?_ ?_ _ | refine Below.setCell ?_ ?_ _ | refine below_step ?_ (by assumption) ?_ | omega | (simp only [zz] at *; omega)))))).mono ?_; rintro e w1 ⟨rfl, hb1⟩; replace hb1 := ex_below hb1; have hz1 := hb1.size; (try simp only [zz] at hz1); have hs1 : w.heap.size < w1.heap.size := (by (first | omega | (simp only [zz] at *; omega))); have ho1 := own_cell hb1 (b := w.heap.size) (by (first | omega | (simp only [zz] at *; omega))); have hq1 := own_frozen hb1 (b := w.heap.size) (by (first | omega | (simp only [zz] at *; omega))); have hlt1 : ∀ b, b < w.heap.size → b < w1.heap.size := fun b hb => (by (first | omega | (simp only [zz] at *; omega))); have hc1 : ∀ b o, b < w.heap.size → w1.cell? ⟨b, o, none⟩ = w.cell? ⟨b, o, none⟩ := old_cell (by (repeat (first | exact Below.refl _ _ | assumption | refine below_drewN ?_ _ | refine below_drew ?_ | refine below_gr ?_ ?_ _ | refine below_alloc ?_ ?_ _ | refine Below.setCell ?_ ?_ _ | refine below_step ?_ (by assumption) ?_ | omega | (simp only [zz] at *; omega))))))

      go_ret3
      exact gives_of (rfl) (by (repeat (first | exact Below.refl _ _ | assumption | refine below_drewN ?_ _ | refine below_drew ?_ | refine below_gr ?_ ?_ _ | refine below_alloc ?_ ?_ _ | refine Below.setCell ?_ ?_ _ | refine below_step ?_ (by assumption) ?_ | omega | (simp only [zz] at *; omega))))
end Go.Proofs.Ytlbkaeoagdbemaa
