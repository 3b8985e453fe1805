/- Proved here: the least value behind all races, a part of the proofs about the box laws. Conditions: those that each theorem names, no others. -/
import Derived.Test.YtlbkaeoagdbemaaP18
import Derived.WalkKit
import Derived.WalkSpells
import Derived.WalkLawsBesides
import Derived.Below
import Derived.Deep.QuietTactic
import Derived.BigQuiet
import Derived.Deep.Light
set_option linter.unusedSimpArgs false
set_option linter.unusedVariables false
namespace Go.Proofs.Ytlbkaeoagdbemaa
open Go.RowKit Go.Maps
set_option maxRecDepth 100000 in
set_option maxHeartbeats 4000000 in
theorem least_end (s : Nat) (A : Option Addr) (R : List Nat) (rc : Nat) (B : Option Addr) (ts : List Bm.Tk) (d : Nat) (F : Nat) (v : Nat → Int) (bs bv bk bn bl bu M : Nat) (hok : Ok R ts) (hv : ∀ n, n ≤ 10000 → ∀ w, Calls Try.prog F #[.int .i64 (n : Nat)] w (Gives w (.int .i64 (v n)))) (hF : F = 75 ∨ F = 77) (r : Nat) (hr : r = R.length) (al : List Bool) (w : World) (hE : Env s A R rc B ts d F v bs bv bk bn bl bu M w) :
    Calls Try.prog 93 #[.agg (mkP r al), .pointer (some ⟨bs, 0, none⟩), .pointer (some ⟨bv, 0, none⟩), .pointer (some ⟨bk, 0, none⟩), .pointer (some ⟨bu, 0, none⟩)] w (GivesM w M (goodP ts.length R.length (leastP R ts v)) (.int .i64 (leastP R ts v r al))) := by
  have hr5 := hok.h5
  have HLE := hide (leastP_end (ts := ts) (v := v) (al := al) (show R.length ≤ r by omega))
  have HVA := hide (fun w' (h : SheetAt w' s A (zs R) rc B (tz ts) d) => value_any s A R rc B ts d w' h hok.h5 hok.r6 hok.t10 hok.hu al)
  have hub : Bm.vals ts al ≤ 10000 := by
    rw [Bm.vals_sumTo]
    have := Bm.sumTo_le (fun k => if al.getD k false = true then (ts.getD k ([], 0)).2 else 0) ts.length 1000 (fun k hk => by
      split
      · rw [getD_at _ _ hk]; exact hok.hu _ (List.getElem_mem hk)
      · omega)
    have := hok.t10
    omega
  have HF := hide (fun w' => hv (Bm.vals ts al) hub w')
  generalize Bm.vals ts al = u at *
  have hE0 := hide hE
  obtain ⟨sh, cs, cv, ck, cn, cl, cu, km⟩ := hE
  have SH := hide sh
  obtain ⟨r0, r1, rl, hA, hB⟩ := sh
  rw [zs_len] at r0
  have l1 := cell_lt cs
  have l2 := cell_lt cv
  have hlt1 : ∀ b, b < w.heap.size → b < w.heap.size + 1 := fun b h => by omega
  have hg : ((r : Int) == (R.length : Int)) = true := by simp [hr]
  have HKM := hide km
  clear hv km ck cn cl cu hr hub
  rcases hF with rfl | rfl
  all_goals
    go_enter Try.func93, Try.ntmps93
    go_wp2
    refine wp_region_grow (by kernel_rfl) (by kernel_rfl) ?_
    repeat (go_big_quiet_step (fail))
    refine wpQuiet_nil ?_
    intro w2 hb2
    replace hb2 := ex_below hb2
    have hz2 := hb2.size
    (try simp only [zz] at hz2)
    have hs2 : w.heap.size < w2.heap.size := (by (first | omega | (simp only [zz] at *; omega)))
    have ho2 := own_cell hb2 (b := w.heap.size) (by (first | omega | (simp only [zz] at *; omega)))
    have hq2 := own_frozen hb2 (b := w.heap.size) (by (first | omega | (simp only [zz] at *; omega)))
    have hlt2 : ∀ b, b < w.heap.size → b < w2.heap.size := fun b hb => (by (first | omega | (simp only [zz] at *; omega)))
    have hc2 : ∀ b o, b < w.heap.size → w2.cell? ⟨b, o, none⟩ = w.cell? ⟨b, o, none⟩ := old_cell (by (repeat (first | exact Below.refl _ _ | assumption | refine below_drewN ?_ _ | refine below_drew ?_ | refine below_gr ?_ ?_ _ | refine below_alloc ?_ ?_ _ | refine Below.setCell ?_ ?_ _ | refine below_step ?_ (by assumption) ?_ | omega | (simp only [zz] at *; omega))))
    have hbw : Below w.heap.size w w2 := by (repeat (first | exact Below.refl _ _ | assumption | (refine below_gr ?_ (by (first | omega | (simp only [zz] at *; omega))) _) | (refine below_alloc ?_ (by (first | omega | (simp only [zz] at *; omega))) _) | (refine Below.setCell ?_ (by (first | omega | (simp only [zz] at *; omega))) _) | refine below_drewN ?_ _ | refine below_drew ?_ | (refine below_step ?_ (by assumption) (by (first | omega | (simp only [zz] at *; omega))))))
    have hS2 := SH.out.ext hbw
    go_wp2
    refine wp_region_grow (by kernel_rfl) (by kernel_rfl) ?_
    repeat (go_big_quiet_step ((first | (go_at_call 94; exact Gives.quiet (HVA.out _ (hS2.ext (by (repeat (first | exact Below.refl _ _ | assumption | refine below_drewN ?_ _ | refine below_drew ?_ | refine below_gr ?_ ?_ _ | refine below_alloc ?_ ?_ _ | refine Below.setCell ?_ ?_ _ | refine below_step ?_ (by assumption) ?_ | omega | (simp only [zz] at *; omega))))))) | ((first | go_at_call 75 | go_at_call 77); exact Gives.quiet (HF.out _)))))
    refine wpQuiet_nil ?_
    intro w3 hb3
    replace hb3 := ex_below hb3
    have hz3 := hb3.size
    (try simp only [zz] at hz3)
    have hs3 : w.heap.size < w3.heap.size := (by (first | omega | (simp only [zz] at *; omega)))
    have ho3 := own_cell hb3 (b := w.heap.size) (by (first | omega | (simp only [zz] at *; omega)))
    have hq3 := own_frozen hb3 (b := w.heap.size) (by (first | omega | (simp only [zz] at *; omega)))
    have hlt3 : ∀ b, b < w.heap.size → b < w3.heap.size := fun b hb => (by (first | omega | (simp only [zz] at *; omega)))
    have hc3 : ∀ b o, b < w.heap.size → w3.cell? ⟨b, o, none⟩ = w.cell? ⟨b, o, none⟩ := old_cell (by (repeat (first | exact Below.refl _ _ | assumption | refine below_drewN ?_ _ | refine below_drew ?_ | refine below_gr ?_ ?_ _ | refine below_alloc ?_ ?_ _ | refine Below.setCell ?_ ?_ _ | refine below_step ?_ (by assumption) ?_ | omega | (simp only [zz] at *; omega))))
    have hbw3 : Below w.heap.size w w3 := by (repeat (first | exact Below.refl _ _ | assumption | (refine below_gr ?_ (by (first | omega | (simp only [zz] at *; omega))) _) | (refine below_alloc ?_ (by (first | omega | (simp only [zz] at *; omega))) _) | (refine Below.setCell ?_ (by (first | omega | (simp only [zz] at *; omega))) _) | refine below_drewN ?_ _ | refine below_drew ?_ | (refine below_step ?_ (by assumption) (by (first | omega | (simp only [zz] at *; omega))))))
    go_wp2
    go_ret
    exact ⟨by rw [HLE.out]; rfl, grown_none (below_grown hbw3), HKM.out.below hbw3⟩
set_option maxRecDepth 100000 in
set_option maxHeartbeats 4000000 in
theorem least_mid (s : Nat) (A : Option Addr) (R : List Nat) (rc : Nat) (B : Option Addr) (ts : List Bm.Tk) (d : Nat) (F : Nat) (v : Nat → Int) (bs bv bk bn bl bu M : Nat) (hok : Ok R ts) (r : Nat) (hr : r < R.length) (al : List Bool) (w : World) (hal : al.length = ts.length) (hE : Env s A R rc B ts d F v bs bv bk bn bl bu M w)
    (HVS : ∀ w, Env s A R rc B ts d F v bs bv bk bn bl bu M w → Calls Try.prog 92 #[.agg (mkP r al), .pointer (some ⟨bs, 0, none⟩), .pointer (some ⟨bl, 0, none⟩), .pointer (some ⟨bn, 0, none⟩)] w (GivesMI w M (goodP ts.length R.length (leastP R ts v)) (valuesP R ts v r al))) :
    Calls Try.prog 93 #[.agg (mkP r al), .pointer (some ⟨bs, 0, none⟩), .pointer (some ⟨bv, 0, none⟩), .pointer (some ⟨bk, 0, none⟩), .pointer (some ⟨bu, 0, none⟩)] w (GivesM w M (goodP ts.length R.length (leastP R ts v)) (.int .i64 (leastP R ts v r al))) := by
  have hr5 := hok.h5
  have ht10 := hok.t10
  have HLS := hide (leastP_step (ts := ts) (v := v) (al := al) hr)
  have hn1 : 1 ≤ R[r] := hok.r1 _ (List.getElem_mem hr)
  have hn6 : R[r] ≤ 6 := hok.r6 _ (List.getElem_mem hr)
  have hvl : (valuesP R ts v r al).length = R[r] := by unfold valuesP; rw [List.length_map, List.length_range, getD_at _ _ hr]
  have HBB := hide ((Bm.best_spec (valuesP R ts v r al) (valuesP R ts v r al).length (by omega)).1)
  have hvl6 : (valuesP R ts v r al).length ≤ 6 := by omega
  have hvl1 : 1 ≤ (valuesP R ts v r al).length := by omega
  obtain ⟨kl, hkl⟩ := keyP r al (by omega)
  have HPUT := hide (fun W' (h : KMap 110 M (goodP ts.length R.length (leastP R ts v)) W') => h.put law110 und114 (good_fin ts.length R.length ht10 hr5 (leastP R ts v)) hkl (show (goodP ts.length R.length (leastP R ts v)) (.agg (mkP r al)) (.int .i64 (leastP R ts v r al)) from ⟨r, al, hr, hal, rfl, rfl⟩))
  have HGA := hide (fun x (h : (goodP ts.length R.length (leastP R ts v)) (.agg (mkP r al)) x) => good_at h hal ht10)
  have HLK := hide (fun W' (h : KMap 110 M (goodP ts.length R.length (leastP R ts v)) W') => h.look law110 und114 (z := .int .i64 0) (show (zeroValue 2).run Try.prog W' = .ok (.int .i64 0) W' by
    obtain ⟨i0, ih, iz, is, ib⟩ := info_parts info64
    simp [zeroValue, typeInfo, ih, iz]) hkl)
  have hE0 := hide hE
  obtain ⟨sh, cs, cv, ck, cn, cl, cu, km⟩ := hE
  obtain ⟨r0, r1, rl, hA, hB⟩ := sh
  rw [zs_len] at r0
  have l1 := cell_lt cs
  have l2 := cell_lt ck
  have l3 := cell_lt cu
  have hlt1 : ∀ b, b < w.heap.size → b < w.heap.size + 1 := fun b h => by omega
  have hg : ((r : Int) == (R.length : Int)) = false := by simp; omega
  have HKM := hide km
  have HVS' := hide HVS
  generalize valuesP R ts v r al = vl at *
  clear km cn cl cv hkl hA hB HVS hvl
  go_enter Try.func93, Try.ntmps93
  go_wp2
  refine wp_region_grow (by kernel_rfl) (by kernel_rfl) ?_
  repeat (go_big_quiet_step (fail))
  refine wpQuiet_nil ?_
  intro w2 hb2
  replace hb2 := ex_below hb2
  have hz2 := hb2.size
  (try simp only [zz] at hz2)
  have hs2 : w.heap.size < w2.heap.size := (by (first | omega | (simp only [zz] at *; omega)))
  have ho2 := own_cell hb2 (b := w.heap.size) (by (first | omega | (simp only [zz] at *; omega)))
  have hq2 := own_frozen hb2 (b := w.heap.size) (by (first | omega | (simp only [zz] at *; omega)))
  have hlt2 : ∀ b, b < w.heap.size → b < w2.heap.size := fun b hb => (by (first | omega | (simp only [zz] at *; omega)))
  have hc2 : ∀ b o, b < w.heap.size → w2.cell? ⟨b, o, none⟩ = w.cell? ⟨b, o, none⟩ := old_cell (by (repeat (first | exact Below.refl _ _ | assumption | refine below_drewN ?_ _ | refine below_drew ?_ | refine below_gr ?_ ?_ _ | refine below_alloc ?_ ?_ _ | refine Below.setCell ?_ ?_ _ | refine below_step ?_ (by assumption) ?_ | omega | (simp only [zz] at *; omega))))
  have hbw : Below w.heap.size w w2 := by (repeat (first | exact Below.refl _ _ | assumption | (refine below_gr ?_ (by (first | omega | (simp only [zz] at *; omega))) _) | (refine below_alloc ?_ (by (first | omega | (simp only [zz] at *; omega))) _) | (refine Below.setCell ?_ (by (first | omega | (simp only [zz] at *; omega))) _) | refine below_drewN ?_ _ | refine below_drew ?_ | (refine below_step ?_ (by assumption) (by (first | omega | (simp only [zz] at *; omega))))))
  have hbx : Below (w.heap.size + 1) (w.alloc (.cells (mkP r al) 110)) w2 := hb2.mono (by simp)
  have hP2 : w2.heap[w.heap.size]? = some (.cells (mkP r al) 110 (0, 0)) := (hbx.block _ (by omega)).trans (heap_alloc_new w _)
  have hE2 := hE0.out.below hbw
  rcases HLK.out w2 hE2.km with ⟨x, hrun, hgx⟩ | hrun
  · have hx := HGA.out x hgx
    subst hx
    have HM2 := hide hE2.km
    clear hE2 hgx
    go_wp2
    go_ret
    exact ⟨rfl, grown_none (below_grown hbw), HM2.out⟩
  · have hce : ∀ o, w2.cell? ⟨w.heap.size, o, none⟩ = (mkP r al)[o]? := fun o => cell_of_row _ _ _ _ _ _ hP2
    have HE2 := hide hE2
    have hlP := obj_lt hP2
    clear hE2 hb2 hbx ho2 hq2
    go_wp2_with (first
      | (go_at_call 92; refine (HVS'.out _ HE2.out).mono ?_; rintro e w3 ⟨O, oc, rfl, hg3, hm3, hO3⟩; have k3 := keeps_M HE2.out.km hg3; have hO := hide hO3; obtain ⟨ob, oo, rfl, hob⟩ := hO3.form (by omega); have hq := HBB.out; have x0 := hO3.at hq; have P3 := k3.2 _ _ hP2 rfl; have hck3 := cell_keeps (hc2 _ 0 l2 ▸ ck) k3.2; have hlP3 := obj_lt P3; have hce3 : (∀ o, w3.cell? ⟨w.heap.size, o, none⟩ = (mkP r al)[o]?) := (fun o => cell_of_row _ _ _ _ _ _ P3); have hlk3 := cell_lt hck3; have z3 := k3.1; have G3 := hide hg3; have M3 := hide hm3; clear k3 hg3 hm3 hO3)
      | (go_at_call 95; refine (best_any (some ⟨ob, oo, none⟩) vl oc _ hO.out (by omega)).mono ?_; rintro e w4 ⟨rfl, hb4⟩; replace hb4 := ex_below hb4; have hz4 := hb4.size; have hc4 := old_cell hb4; have HL2 := hide (show leastP R ts v r al = vl[Bm.bestP vl vl.length] from (by rw [HLS.out, getD_at _ _ hq])); obtain ⟨w5, hup, hm5, hg5⟩ := HPUT.out w4 (M3.out.below hb4); rw [HL2.out] at hup; have G5 := hide hg5; have M5 := hide hm5; clear hg5 hm5))
    go_ret
    exact ⟨by rw [HL2.out]; rfl, grown_trans (grown_none (below_grown hbw)) (grown_trans G3.out (grown_trans (grown_none (below_grown (by assumption : Below w3.heap.size w3 w4))) G5.out)), M5.out⟩
end Go.Proofs.Ytlbkaeoagdbemaa
