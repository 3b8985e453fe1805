/- Proved here: idle tickets, a part of the proofs about the box laws. Conditions: those that each theorem names, no others. -/
import Derived.Test.YtlbkaeoagdbemaaP16
import Derived.WalkKit
import Derived.WalkSpells
import Derived.WalkLawsBesides
import Derived.Below
import Derived.Deep.QuietTactic
import Derived.BigQuiet
import Derived.Deep.Light
set_option linter.unusedSimpArgs false
set_option linter.unusedVariables false
namespace Go.Proofs.Ytlbkaeoagdbemaa
open Go.RowKit Go.Maps Go.Shelf
attribute [local go_sem] Oper.semAt_some
def idleStep (ts : List Bm.Tk) (al : List Nat) (p : Bm.Tk) : List Nat :=
  match ts.findIdx? (fun t => hasB t.1 p.1) with
  | none => al
  | some i => if (ts.getD i ([], 0)).2 = p.2 then al.set i 1 else al
def aloneP (ts : List Bm.Tk) (l : List Bm.Tk) : List Nat := l.foldl (idleStep ts) (List.replicate ts.length 0)
theorem idleStep_len (ts : List Bm.Tk) (al : List Nat) (p : Bm.Tk) : (idleStep ts al p).length = al.length := by
  unfold idleStep
  split
  · rfl
  · split <;> simp
theorem aloneP_len (ts : List Bm.Tk) (l : List Bm.Tk) : (aloneP ts l).length = ts.length := by
  unfold aloneP
  have key : ∀ (l : List Bm.Tk) (al : List Nat), (l.foldl (idleStep ts) al).length = al.length := fun l => by
    induction l with
    | nil => intro al; rfl
    | cons a l ih => intro al; rw [List.foldl_cons, ih, idleStep_len]
  rw [key]; simp
theorem aloneP_snoc (ts : List Bm.Tk) (l : List Bm.Tk) (p : Bm.Tk) : aloneP ts (l ++ [p]) = idleStep ts (aloneP ts l) p := by simp [aloneP]
theorem find_at (ts : List Bm.Tk) (f : Bm.Tk → Bool) (k : Nat) (h : k < ts.length) (hn : (ts.take k).all (fun x => !f x) = true) (hk : f ts[k] = true) : ts.findIdx? f = some k := by
  rw [List.findIdx?_eq_some_iff_getElem]
  refine ⟨h, hk, fun j hj => ?_⟩
  rw [List.all_eq_true] at hn
  have := hn ts[j] (List.mem_take_iff_getElem.2 ⟨j, by omega, rfl⟩)
  simpa using this
theorem find_no (ts : List Bm.Tk) (f : Bm.Tk → Bool) (hn : ts.all (fun x => !f x) = true) : ts.findIdx? f = none := by
  rw [List.findIdx?_eq_none_iff]
  intro x hx
  rw [List.all_eq_true] at hn
  simpa using hn x hx
def idleTo (al : List Nat) (k : Nat) : List Nat := (List.range k).filter fun i => decide (al.getD i 0 = 0)
theorem idleTo_succ (al : List Nat) (k : Nat) : idleTo al (k + 1) = idleTo al k ++ if al.getD k 0 = 0 then [k] else [] := by
  unfold idleTo
  rw [List.range_succ, List.filter_append]
  congr 1
  by_cases h : al.getD k 0 = 0
  · rw [if_pos h, List.filter_cons_of_pos (by rw [decide_eq_true h])]; rfl
  · rw [if_neg h, List.filter_cons_of_neg (by rw [decide_eq_false h]; simp)]; rfl
theorem idleTo_le (al : List Nat) (k : Nat) : (idleTo al k).length ≤ k := by
  have := List.length_filter_le (fun i => decide (al.getD i 0 = 0)) (List.range k)
  unfold idleTo
  simpa using this
def idleP (R : List Nat) (ts : List Bm.Tk) : List Nat := idleTo (aloneP ts (allParts R ts)) ts.length
set_option maxRecDepth 100000 in
set_option maxHeartbeats 4000000 in
theorem idle_ok (A : Option Addr) (R : List Nat) (rc : Nat) (B : Option Addr) (ts : List Bm.Tk) (d : Nat) (w : World) (hA : I64 w A (zs R)) (hB : Tks w B (tz ts)) (hok : Ok R ts) : Calls Try.prog 38 #[.agg #[.slice A R.length rc], .slice B ts.length d] w (GivesIE w (zs (idleP R ts)) 0) := by
  have HOP := hide (fun w' (h1 : I64 w' A (zs R)) (h2 : Tks w' B (tz ts)) => opens_n A R rc B ts d w' h1 h2 hok)
  have hmk := make_zeros ts.length (by have := hok.t10; omega)
  have htl' : (ts.length : Int) ≤ 10 := by have := hok.t10; omega
  refine (callsIn_wide (n := 8)).1 ?_
  refine callsIn_of_wp_marks Try.func38 rfl trivial ?_ rfl
  simp only [Try.ntmps38, List.size_toArray, List.length_cons, List.length_nil, Nat.reduceAdd, Nat.reduceSub, Array.replicate_succ, Array.replicate_zero, List.push_toArray, List.append_toArray, List.nil_append, List.cons_append]
  refine wpIn_wide.2 ?_
  go_wp2
  go_step3
  go_wp2_with (first
    | (go_at_call 61; refine (HOP.out _ (hA.ext (by (repeat (first | exact Below.refl _ _ | assumption | refine below_drewN ?_ _ | refine below_drew ?_ | refine below_gr ?_ ?_ _ | refine below_alloc ?_ ?_ _ | refine Below.setCell ?_ ?_ _ | refine below_step ?_ (by assumption) ?_ | omega | (simp only [zz] at *; omega))))) (hB.ext (by (repeat (first | exact Below.refl _ _ | assumption | refine below_drewN ?_ _ | refine below_drew ?_ | refine below_gr ?_ ?_ _ | refine below_alloc ?_ ?_ _ | refine Below.setCell ?_ ?_ _ | refine below_step ?_ (by assumption) ?_ | omega | (simp only [zz] at *; omega)))))).mono ?_; rintro e w1 ⟨s, rfl, hb1, hs1, hS1⟩; replace hb1 := ex_below hb1; have hz1 := hb1.size; simp only [World.size_alloc] at hz1; have hc1 := own_cell hb1 (b := w.heap.size + 1) (by (first | omega | (simp only [zz]; omega) | (simp only [zz] at *; omega) | (simp; done) | (simp; omega))); have hl1 : w.heap.size + 1 < w1.heap.size := by omega)
    | (go_at_call 65; refine (parts_any (some ⟨s, 0, none⟩) _).mono ?_; rintro e w3 ⟨rfl, rfl⟩))
  go_step3
  go_wp2_with (go_at_call 65; refine (parts_any (some ⟨s, 0, none⟩) _).mono ?_; rintro e w3 ⟨rfl, rfl⟩)
  have hbW0 : Below w1.heap.size w1 (((w1.alloc (.cells (Array.replicate ts.length (.int .i64 0)) 3)).alloc (.cells #[.slice (some ⟨w1.heap.size, 0, none⟩) ts.length ts.length] 22)).alloc (.cells #[.pointer (some ⟨s, 0, none⟩)] 80)) := by (repeat (first | exact Below.refl _ _ | assumption | (refine below_gr ?_ (by (first | omega | (simp only [zz] at *; omega))) _) | (refine below_alloc ?_ (by (first | omega | (simp only [zz] at *; omega))) _) | (refine Below.setCell ?_ (by (first | omega | (simp only [zz] at *; omega))) _) | refine below_drewN ?_ _ | refine below_drew ?_ | (refine below_step ?_ (by assumption) (by (first | omega | (simp only [zz] at *; omega))))))
  have qA : (((w1.alloc (.cells (Array.replicate ts.length (.int .i64 0)) 3)).alloc (.cells #[.slice (some ⟨w1.heap.size, 0, none⟩) ts.length ts.length] 22)).alloc (.cells #[.pointer (some ⟨s, 0, none⟩)] 80)).heap[w1.heap.size]? = some (.cells (Array.replicate ts.length (.int .i64 0)) 3 (0, 0)) := by rw [Below.heap_alloc _ _ _ (by simp; omega), heap_a]
  have q3 : (((w1.alloc (.cells (Array.replicate ts.length (.int .i64 0)) 3)).alloc (.cells #[.slice (some ⟨w1.heap.size, 0, none⟩) ts.length ts.length] 22)).alloc (.cells #[.pointer (some ⟨s, 0, none⟩)] 80)).heap[w1.heap.size + 1]? = some (.cells #[.slice (some ⟨w1.heap.size, 0, none⟩) ts.length ts.length] 22 (0, 0)) := by
    have := heap_a (w1.alloc (.cells (Array.replicate ts.length (.int .i64 0)) 3)) (.cells #[.slice (some ⟨w1.heap.size, 0, none⟩) ts.length ts.length] 22) (.cells #[.pointer (some ⟨s, 0, none⟩)] 80)
    simpa using this
  have qB : (((w1.alloc (.cells (Array.replicate ts.length (.int .i64 0)) 3)).alloc (.cells #[.slice (some ⟨w1.heap.size, 0, none⟩) ts.length ts.length] 22)).alloc (.cells #[.pointer (some ⟨s, 0, none⟩)] 80)).cell? ⟨w1.heap.size + 1 + 1, 0, none⟩ = some (.pointer (some ⟨s, 0, none⟩)) := by
    have := obj_at (heap_b (w1.alloc (.cells (Array.replicate ts.length (.int .i64 0)) 3)) (.cells #[.slice (some ⟨w1.heap.size, 0, none⟩) ts.length ts.length] 22) (.cells #[.pointer (some ⟨s, 0, none⟩)] 80)) 0 _ rfl
    simpa using this
  have hsz0 : (((w1.alloc (.cells (Array.replicate ts.length (.int .i64 0)) 3)).alloc (.cells #[.slice (some ⟨w1.heap.size, 0, none⟩) ts.length ts.length] 22)).alloc (.cells #[.pointer (some ⟨s, 0, none⟩)] 80)).heap.size = w1.heap.size + 1 + 1 + 1 := by simp
  obtain ⟨W0, hW0⟩ : ∃ W0, (((w1.alloc (.cells (Array.replicate ts.length (.int .i64 0)) 3)).alloc (.cells #[.slice (some ⟨w1.heap.size, 0, none⟩) ts.length ts.length] 22)).alloc (.cells #[.pointer (some ⟨s, 0, none⟩)] 80)) = W0 := ⟨_, rfl⟩
  rw [hW0] at hbW0 qA q3 qB hsz0 ⊢
  clear hW0 hmk
  have hb1w : Below w.heap.size w w1 := by (repeat (first | exact Below.refl _ _ | assumption | (refine below_gr ?_ (by (first | omega | (simp only [zz] at *; omega))) _) | (refine below_alloc ?_ (by (first | omega | (simp only [zz] at *; omega))) _) | (refine Below.setCell ?_ (by (first | omega | (simp only [zz] at *; omega))) _) | refine below_drewN ?_ _ | refine below_drew ?_ | (refine below_step ?_ (by assumption) (by (first | omega | (simp only [zz] at *; omega))))))
  have t3 : w1.cell? ⟨w.heap.size + 1, 0, none⟩ = some (.slice B ts.length d) := by
    rw [hc1]
    have := obj_at (heap_b w (.cells #[.slice A R.length rc] 24) (.cells #[.slice B ts.length d] 25)) 0 _ rfl
    exact this
  refine (wpIn_wide (n := 8)).1 ?_
  refine range_parts s A R rc B ts d w1 hS1 hok.h5 hok.r6 hok.t10 hok.hu hok.htl hok.ht6 (w1.heap.size + 1 + 1) rfl rfl (fun b hb => hbW0.block b hb) (by omega) (by omega) qB
    (fun pre W => (W.heap[w1.heap.size]? = some (.cells ((zs (aloneP ts pre)).map (Value.int .i64)).toArray 3 (0, 0)) ∧ W.heap[w1.heap.size + 1]? = some (.cells #[.slice (some ⟨w1.heap.size, 0, none⟩) ts.length ts.length] 22 (0, 0))) ∧ Below w1.heap.size w1 W)
    (((ownP_block (by omega)).and (ownP_block (f := fun _ => _) (by omega))).and (ownP_below (by omega) (Nat.le_refl _))) ⟨⟨by rw [qA]; simp [aloneP, zs], q3⟩, hbW0⟩
    (fun x y => { tmps := #[.agg #[.slice A R.length rc], .slice B ts.length d, .pointer (some ⟨w.heap.size, 0, none⟩), .pointer (some ⟨w.heap.size + 1, 0, none⟩), .slice none 0 0, .int .i64 0, .pointer (some ⟨s, 0, none⟩), .int .i64 0, .pointer (some ⟨w1.heap.size + 1, 0, none⟩), x, y, undef, undef, undef, undef, undef, .tuple #[.pointer (some ⟨s, 0, none⟩), .int .i64 0], .agg #[.slice A R.length rc], .slice B ts.length d, .tuple #[.pointer (some ⟨s, 0, none⟩), .int .i64 0], .pointer (some ⟨s, 0, none⟩), .int .i64 0, .int .i64 0, .bool false, undef, .slice B ts.length d, .int .i64 ts.length, .slice (some ⟨w1.heap.size, 0, none⟩) ts.length ts.length, .pointer (some ⟨s, 0, none⟩), .func (.func 88) #[] #[.pointer (some ⟨w1.heap.size + 1 + 1, 0, none⟩)], x, y, undef, undef, undef, undef, undef, undef, undef, undef, undef, undef, undef, undef, undef, undef, undef, undef, undef, undef, undef, undef, undef, undef, undef, undef, undef, undef, undef, undef, undef, undef, undef, undef, undef, undef], defers := [] }) ?assign ?body ?done
  case assign =>
    intro l x y W K hK
    gi_wp2
    exact hK
  case done =>
    rintro D W ⟨⟨iA, i3⟩, ib⟩ hD hk hDw
    obtain ⟨i0, ih, iz, is, ib0⟩ := info_parts info3
    have HID := hide (show idleP R ts = idleTo (aloneP ts (allParts R ts)) ts.length from rfl)
    have HAL := hide (aloneP_len ts (allParts R ts))
    generalize aloneP ts (allParts R ts) = al at *
    have hl3 := obj_lt i3
    have hlA := obj_lt iA
    have c3 := obj_at i3 0 _ rfl
    have hb2w : Below w.heap.size w W := hb1w.trans (ib.mono (by omega))
    have hlW : w.heap.size ≤ W.heap.size := hb2w.size
    have HD := hide hD
    clear hD qA q3 qB t3 hc1
    go_wp2
    go_loopw [13, 14, 15, 53] (fun t13 _ _ t53 wr => ∃ (k : Nat) (O : Option Addr) (c : Nat), k ≤ ts.length ∧ t53 = .int .i64 k ∧ t13 = .slice O (idleTo al k).length c ∧ Below W.heap.size W wr ∧ wr.ownsRow W.heap.size 3 1 (.slice O (idleTo al k).length c) (idleTo al k).length ((zs (idleTo al k)).map (Value.int .i64))) (fun _ _ _ t53 _ => ts.length - (intOf t53).toNat)
    case atStart => exact ⟨0, none, 0, Nat.zero_le _, rfl, rfl, Below.refl _ _, World.ownsRow_nil _ _ _ _⟩
    case round =>
      obtain ⟨k, O, c, hk2, rfl, rfl, hb, hown⟩ := hrel
      have hzr := hb.size
      have HFS := hide (idleTo_succ al k)
      have hfl := idleTo_le al k
      by_cases hlt : k < ts.length
      · have iAr := (hb.block _ hlA).trans iA
        have hak := obj_at iAr k (.int .i64 (al.getD k 0 : Nat)) (by simp [zs, List.getD_eq_getElem?_getD, List.getElem?_eq_getElem (show k < al.length by rw [HAL.out]; exact hlt)])
        have hlAr := obj_lt iAr
        generalize idleTo al k = fl at *
        generalize al.getD k 0 = ak at *
        by_cases ha : ak = 0
        · rw [if_pos ha] at HFS
          rw [ha] at hak
          clear ha
          go_wp2_with (at_builtin; refine wpList_append_own _ rfl (.tmp 60) (.tmp 62) 22 rfl W.heap.size 3 i0 _ 1 8 und22 ih iz is ib0 rfl (by decide) _ fl.length _ rfl (hown.alloc _) ⟨wr.heap.size, 0, none⟩ 1 1 [.int .i64 (k : Nat)] rfl rfl ?c1 (by simp [Value.oneCell']) (by unfold maxLen; omega) (by omega) (by simp; omega) ?_)
          case c1 => exact cells_new wr [.int .i64 (k : Nat)] _ _ (by simp)
          intro v' w5 hown' hgr' _
          obtain ⟨A2, c2, rfl⟩ := own_form hown'
          have hge := own_ge hown
          have hb2 := gb_below (below_alloc hb (by omega) _) hgr' (by simp; omega) (fun k hk => by have := hge k hk; omega)
          have hown2 : w5.ownsRow W.heap.size 3 1 (.slice A2 (fl.length + 1) c2) (fl.length + 1) ((zs (fl ++ [k])).map (Value.int .i64)) := by
            simpa [zs] using hown'
          clear hgr' hge hown hown'
          go_wp2
          refine ⟨⟨k + 1, A2, c2, by omega, by go_num, by rw [HFS.out, List.length_append]; rfl, hb2, ?_⟩, by simp [intOf]; omega⟩
          rw [HFS.out, List.length_append]
          exact hown2
        · have hab : ((ak : Int) == 0) = false := by simp; omega
          rw [if_neg ha, List.append_nil] at HFS
          clear ha
          go_wp2
          exact ⟨⟨k + 1, O, c, by omega, by go_num, by rw [HFS.out], hb, by rw [HFS.out]; exact hown⟩, by simp [intOf]; omega⟩
      · have hkn : k = ts.length := by omega
        rw [hkn, ← HID.out] at hown
        have HKN := hide hkn
        have hown2 := own_i64 (xs := zs (idleP R ts)) (c := c) (by rw [zs_len]; exact hown)
        have HO := hide hown2
        have hDr := hide ((hb.block _ (obj_lt HD.out)).trans HD.out)
        have hDlt := obj_lt HD.out
        rw [show idleTo al k = idleP R ts by rw [HKN.out, HID.out]]
        clear hown hown2 hfl HFS
        go_wp2
        rw [Exit.noGoto_ret]
        refine ⟨by simp, .inl ⟨_, _, rfl, run_takeDeferred hDr.out, ?_⟩⟩
        refine ⟨.tuple #[.slice O (idleP R ts).length c, .int .i64 0], by simp [results, Try.results38, go_sem], O, c, by rw [zs_len], below_grow ?_, ?_, HO.out.2.1⟩
        · exact (hb2w.trans (hb.mono hlW)).trans (belowK_b (w := w) (Nat.le_refl _) wr D _ _ (by omega) hDr.out rfl rfl)
        · exact HO.out.1.cells (keeps_row (grownBy_putObj' wr D _) (fun r e => by cases e; exact ⟨_, hDr.out, rfl⟩)).1 (keeps_row (grownBy_putObj' wr D _) (fun r e => by cases e; exact ⟨_, hDr.out, rfl⟩)).2
  case body =>
    rintro l pre S u Y yc W hpre ⟨⟨iA, i3⟩, ib⟩ hO hz hY hSl hyc hYh
    have hmem : (S, u) ∈ allParts R ts := hpre.subset (by simp)
    have hS64 := box64 hok.r6 (allParts_box hok.r1 hmem)
    have HSN := hide (aloneP_snoc ts pre (S, u))
    have HAL := hide (aloneP_len ts pre)
    generalize aloneP ts pre = al at *
    have hl3 := obj_lt i3
    have hlA := obj_lt iA
    have c3 := obj_at i3 0 _ rfl
    have ct := (ib.cell (p := ⟨w.heap.size + 1, 0, none⟩) hl1).trans t3
    have hBW := hB.ext (hb1w.trans (ib.mono (by omega)))
    have HSL := hide hSl
    have hlW : w.heap.size + 1 < W.heap.size := by omega
    clear hmem hSl t3 qA q3 qB hc1
    gi_wp2
    gi_loopw [11, 12, 34] (fun _ _ t34 wr => ∃ k : Nat, k ≤ ts.length ∧ t34 = .int .i64 k ∧ (ts.take k).all (fun t => !hasB t.1 S) = true ∧ Below W.heap.size W wr) (fun _ _ t34 _ => ts.length - (intOf t34).toNat)
    case atStart => exact ⟨0, Nat.zero_le _, rfl, rfl, Below.refl _ _⟩
    case round =>
      obtain ⟨k, hk, rfl, hall, hb⟩ := hrel
      have hzr := hb.size
      have iAr := (hb.block _ hlA).trans iA
      have i3r := (hb.block _ hl3).trans i3
      have c3r := (hb.cell (p := ⟨w1.heap.size + 1, 0, none⟩) hl3).trans c3
      have hl3r := obj_lt i3r
      have hlAr := obj_lt iAr
      by_cases hlt : k < ts.length
      · have hB1 := hBW.ext hb
        obtain ⟨tb, to, rfl, htb⟩ := hB1.form (by rw [tz_len]; omega)
        obtain ⟨Sk, sc, q0, q1, q2, hSx⟩ := hB1.at (k := k) (by rw [tz_len]; exact hlt)
        simp only [tz_at _ _ hlt, zs_len] at q0 q1 q2 hSx
        have h61 := hok.ht6 ts[k] (List.getElem_mem hlt)
        have hll := hide (hok.htl ts[k] (List.getElem_mem hlt))
        have hle := hok.hu ts[k] (List.getElem_mem hlt)
        have HH := hide (fun w' (h1 : I64 w' Sk (zs ts[k].1)) (h2 : I64 w' Y (zs S)) => has_any Sk ts[k].1 sc Y S yc w' h1 h2 (by rw [hll.out, HSL.out]; exact Nat.le_refl _) (by have := hok.h5; rw [HSL.out]; omega) h61 hS64)
        have HFA := hide (find_at ts (fun t => hasB t.1 S) k hlt hall)
        have HG := hide (all_good (f := fun t : Bm.Tk => !hasB t.1 S) hlt hall)
        have HGD := hide (getD_at ts k hlt ([], 0))
        have hYr := hY.ext hb
        have hak := obj_at iAr k (.int .i64 (al.getD k 0 : Nat)) (by simp [zs, List.getD_eq_getElem?_getD, List.getElem?_eq_getElem (show k < al.length by rw [HAL.out]; exact hlt)])
        have hfa := obj_fz iAr k
        have HZ := hide (zs_set al k 1)
        generalize al.getD k 0 = ak at *
        have hhas : hasB ts[k].1 S = true ∨ hasB ts[k].1 S = false := by cases hasB ts[k].1 S <;> simp
        clear hall h61
        rcases hhas with hhas | hhas
        · rw [hhas] at HH
          have HFK := HFA.out hhas
          have HST := hide (show idleStep ts al (S, u) = if ts[k].2 = u then al.set k 1 else al by unfold idleStep; simp only; rw [HFK]; simp only; rw [HGD.out])
          clear HFK HFA HG hhas
          generalize hu2 : ts[k].2 = u2 at *
          generalize ts[k].1 = tS at *
          clear hu2
          by_cases hue : u2 = u
          · have hub : ((u2 : Int) == (u : Int)) = true := by simp [hue]
            have HSE := hide (show idleStep ts al (S, u) = al.set k 1 by rw [HST.out, if_pos hue])
            clear hue HST
            gi_wp2_with (refine ⟨trivial, ?_⟩; gi_at_call 70; refine (calls_round (HH.out _ (hSx.ext (by (repeat (first | exact Below.refl _ _ | assumption | refine below_drewN ?_ _ | refine below_drew ?_ | refine below_gr ?_ ?_ _ | refine below_alloc ?_ ?_ _ | refine Below.setCell ?_ ?_ _ | refine below_step ?_ (by assumption) ?_ | omega | (simp only [zz] at *; omega))))) (hYr.ext (by (repeat (first | exact Below.refl _ _ | assumption | refine below_drewN ?_ _ | refine below_drew ?_ | refine below_gr ?_ ?_ _ | refine below_alloc ?_ ?_ _ | refine Below.setCell ?_ ?_ _ | refine below_step ?_ (by assumption) ?_ | omega | (simp only [zz] at *; omega))))))).mono ?_; rintro e w5 ⟨rfl, hb5⟩; replace hb5 := ex_below hb5; have hz5 := hb5.size; (try simp only [World.size_alloc] at hz5); have hc5 := old_cell (hb5.mono (show wr.heap.size ≤ _ by simp)); have hd5 := own_cell hb5 (b := wr.heap.size) (by (first | omega | (simp only [zz]; omega) | (simp only [zz] at *; omega) | (simp; done) | (simp; omega))); have hs5 : wr.heap.size < w5.heap.size := (by omega); have hb55 : Below wr.heap.size wr w5 := (by (repeat (first | exact Below.refl _ _ | assumption | refine below_drewN ?_ _ | refine below_drew ?_ | refine below_gr ?_ ?_ _ | refine below_alloc ?_ ?_ _ | refine Below.setCell ?_ ?_ _ | refine below_step ?_ (by assumption) ?_ | omega | (simp only [zz] at *; omega)))); have nA := (hb55.block _ hlAr).trans iAr; have nf := obj_fz nA k)
            have hbW5 : Below W.heap.size W w5 := hb.trans (hb55.mono hzr)
            refine ⟨(ko_below hbW5).trans (KeepsOthers.setCell _ _ _), (KpR.below hbW5).trans (KpR.setCell _ (by omega) (by omega) _), ⟨?_, ?_⟩, ?_⟩
            · rw [HSN.out, HSE.out, ← HZ.out]; exact set_obj nA k _
            · rw [Below.heap_setCell _ _ _ _ (by show w1.heap.size + 1 ≠ w1.heap.size; omega)]
              exact (hb55.block _ hl3r).trans i3r
            · exact Below.setCell (p := ⟨w1.heap.size, k, none⟩) (ib.trans (hbW5.mono ib.size)) (Nat.le_refl _) _
          · have hub : ((u2 : Int) == (u : Int)) = false := by simp; omega
            have HSE := hide (show idleStep ts al (S, u) = al by rw [HST.out, if_neg hue])
            clear hue HST
            gi_wp2_with (refine ⟨trivial, ?_⟩; gi_at_call 70; refine (calls_round (HH.out _ (hSx.ext (by (repeat (first | exact Below.refl _ _ | assumption | refine below_drewN ?_ _ | refine below_drew ?_ | refine below_gr ?_ ?_ _ | refine below_alloc ?_ ?_ _ | refine Below.setCell ?_ ?_ _ | refine below_step ?_ (by assumption) ?_ | omega | (simp only [zz] at *; omega))))) (hYr.ext (by (repeat (first | exact Below.refl _ _ | assumption | refine below_drewN ?_ _ | refine below_drew ?_ | refine below_gr ?_ ?_ _ | refine below_alloc ?_ ?_ _ | refine Below.setCell ?_ ?_ _ | refine below_step ?_ (by assumption) ?_ | omega | (simp only [zz] at *; omega))))))).mono ?_; rintro e w5 ⟨rfl, hb5⟩; replace hb5 := ex_below hb5; have hz5 := hb5.size; (try simp only [World.size_alloc] at hz5); have hd5 := own_cell hb5 (b := wr.heap.size) (by (first | omega | (simp only [zz]; omega) | (simp only [zz] at *; omega) | (simp; done) | (simp; omega))); have hs5 : wr.heap.size < w5.heap.size := (by omega); have hb55 : Below wr.heap.size wr w5 := (by (repeat (first | exact Below.refl _ _ | assumption | refine below_drewN ?_ _ | refine below_drew ?_ | refine below_gr ?_ ?_ _ | refine below_alloc ?_ ?_ _ | refine Below.setCell ?_ ?_ _ | refine below_step ?_ (by assumption) ?_ | omega | (simp only [zz] at *; omega)))))
            have hbW5 : Below W.heap.size W w5 := hb.trans (hb55.mono hzr)
            refine ⟨ko_below hbW5, KpR.below hbW5, ⟨?_, (hb55.block _ hl3r).trans i3r⟩, ib.trans (hbW5.mono ib.size)⟩
            rw [HSN.out, HSE.out]
            exact (hb55.block _ hlAr).trans iAr
        · rw [hhas] at HH
          replace HG := hide (HG.out (by rw [hhas]; rfl))
          clear HFA hhas
          generalize ts[k].2 = u2 at *
          generalize ts[k].1 = tS at *
          gi_wp2_with (refine ⟨trivial, ?_⟩; gi_at_call 70; refine (calls_round (HH.out _ (hSx.ext (by (repeat (first | exact Below.refl _ _ | assumption | refine below_drewN ?_ _ | refine below_drew ?_ | refine below_gr ?_ ?_ _ | refine below_alloc ?_ ?_ _ | refine Below.setCell ?_ ?_ _ | refine below_step ?_ (by assumption) ?_ | omega | (simp only [zz] at *; omega))))) (hYr.ext (by (repeat (first | exact Below.refl _ _ | assumption | refine below_drewN ?_ _ | refine below_drew ?_ | refine below_gr ?_ ?_ _ | refine below_alloc ?_ ?_ _ | refine Below.setCell ?_ ?_ _ | refine below_step ?_ (by assumption) ?_ | omega | (simp only [zz] at *; omega))))))).mono ?_; rintro e w5 ⟨rfl, hb5⟩; replace hb5 := ex_below hb5; have hz5 := hb5.size; (try simp only [World.size_alloc] at hz5); have hb55 : Below wr.heap.size wr w5 := (by (repeat (first | exact Below.refl _ _ | assumption | refine below_drewN ?_ _ | refine below_drew ?_ | refine below_gr ?_ ?_ _ | refine below_alloc ?_ ?_ _ | refine Below.setCell ?_ ?_ _ | refine below_step ?_ (by assumption) ?_ | omega | (simp only [zz] at *; omega)))))
          exact ⟨⟨k + 1, by omega, by go_num, HG.out, hb.trans (hb55.mono hzr)⟩, by simp [intOf]; omega⟩
      · have hkn : k = ts.length := by omega
        have HF := hide (show idleStep ts al (S, u) = al by
          unfold idleStep
          rw [find_no ts (fun t => hasB t.1 S) (by rw [hkn, List.take_length] at hall; exact hall)])
        clear hall
        gi_wp2
        refine ⟨ko_below hb, KpR.below hb, ⟨?_, i3r⟩, ib.trans (hb.mono ib.size)⟩
        rw [HSN.out, HF.out]
        exact iAr
end Go.Proofs.Ytlbkaeoagdbemaa
