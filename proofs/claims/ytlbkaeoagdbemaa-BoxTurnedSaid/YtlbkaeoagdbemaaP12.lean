/- Proved here: boxes are cut into parts, a part of the proofs about the box laws. Conditions: those that each theorem names, no others. -/
import Derived.Test.YtlbkaeoagdbemaaP11
import Derived.WalkKit
import Derived.WalkSpells
import Derived.WalkLawsBesides
import Derived.Below
import Derived.Deep.QuietTactic
import Derived.BigQuiet
import Derived.Deep.Light
set_option linter.unusedSimpArgs false
set_option linter.unusedVariables false
namespace Go.Proofs.Ytlbkaeoagdbemaa
open Go.RowKit Go.Maps Go.Shelf
attribute [local go_sem] Oper.semAt_some
set_option maxRecDepth 100000 in
set_option maxHeartbeats 1000000 in
theorem cut_stop (s : Nat) (A : Option Addr) (R : List Nat) (rc : Nat) (B : Option Addr) (ts : List Bm.Tk) (d : Nat) (base : World) (hS : SheetAt base s A (zs R) rc B (tz ts) d) (hR5 : R.length ≤ 5) (hR6 : ∀ n, n ∈ R → n ≤ 6) (ht10 : ts.length ≤ 10) (hu : ∀ t, t ∈ ts → t.2 ≤ 1000) (htl : ∀ t, t ∈ ts → t.1.length = R.length) (ht6 : ∀ t, t ∈ ts → ∀ x, x ∈ t.1 → x < 64) (l : Nat) (J : List Bm.Tk → World → Prop) (hi : Nat) (full : List Bm.Tk) (hJ : ∀ pre W W', J pre W → Grew W W' → J pre W') (hY : RoundP J base.heap.size hi l full base R.length) (S : List Nat) (r : Nat) (al : List Bool) (pre : List Bm.Tk) (X : Option Addr) (xc : Nat) (w : World) (hO : OldB base w hi) (hX : I64 w X (zs S)) (hXh : ∀ b o, X = some ⟨b, o, none⟩ → hi ≤ b) (hSl : S.length = R.length) (hxc : S.length ≤ xc) (hal : al.length = ts.length) (hSd : S.drop r = (R.drop r).map fun n => 2 ^ n - 1) (hJ0 : J pre w) (hpre : pre ++ Bm.partsC R ts S r al <+: full) (hr : r ≤ R.length) (hstop : R.length ≤ r ∨ al.any id = false) :
    Calls Try.prog 89 #[.pointer (some ⟨s, 0, none⟩), .slice X S.length xc, .agg (mkP r al), .func (.yield l) #[] #[]] w (CutPost J base.heap.size hi (pre ++ Bm.partsC R ts S r al) w) := by
  rw [Bm.partsC_stop hSd hstop] at hpre ⊢
  have HVA := hide (fun w' (h : SheetAt w' s A (zs R) rc B (tz ts) d) => value_any s A R rc B ts d w' h hR5 hR6 ht10 hu al)
  have hSw := hS.old hO.old
  have hS0 := hide hSw
  obtain ⟨r0, r1, rl, hA, hB⟩ := hSw
  rw [zs_len] at r0
  rw [tz_len] at r1
  have hSL := hide hSl
  have HXC := hide hxc
  have hsm := sameM_nil (al := al) (by omega)
  have HSM := hide hsm
  clear hsm hSl hxc hSd
  have hOb := hide hO
  have hho := hO.hi
  clear hO hR6 hu htl ht6
  have rl2 : s < w.heap.size + 1 := by omega
  have hlt1 : ∀ b, b < w.heap.size → b < w.heap.size + 1 := fun b h => by omega
  have HFIN := hide (fun (W1 : World) (hb : Below w.heap.size w W1) => hY pre S (Bm.vals ts al) X xc W1 hpre (hJ _ _ _ hJ0 (grew_of hb)) (hOb.out.below hb) (hX.ext hb) hSL.out HXC.out hXh)
  generalize Bm.vals ts al = u at *
  have key : ∀ (hgr : ((r : Int) == (R.length : Int)) = true ∨ (((r : Int) == (R.length : Int)) = false ∧ sameM al [] = true)), Calls Try.prog 89 #[.pointer (some ⟨s, 0, none⟩), .slice X S.length xc, .agg (mkP r al), .func (.yield l) #[] #[]] w (CutPost J base.heap.size hi (pre ++ [(S, u)]) w) := by
    intro hgr
    refine (callsIn_wide (n := 8)).1 ?_
    have h18 : 1 ≤ 8 := by omega
    refine callsIn_of_wp Try.func89 rfl trivial ?_ rfl
    simp only [Try.ntmps89, List.size_toArray, List.length_cons, List.length_nil, Nat.reduceAdd, Nat.reduceSub, Array.replicate_succ, Array.replicate_zero, List.push_toArray, List.append_toArray, List.nil_append, List.cons_append]
    refine wpIn_wide.2 ?_
    rcases hgr with hgr | ⟨hgr, hsm⟩
    all_goals
      go_wp2
      refine wp_region_grow (by kernel_rfl) (by kernel_rfl) ?_
      repeat (go_big_quiet_step (fail))
      refine wpQuiet_nil ?_
      intro w2 hb2
      replace hb2 := ex_below hb2
      have hz2 := hb2.size
      (try simp only [zz] at hz2)
      have hs2 : w.heap.size < w2.heap.size := (by (first | omega | (simp only [zz] at *; omega)))
      have ho2 := own_cell hb2 (b := w.heap.size) (by (first | omega | (simp only [zz] at *; omega)))
      have hq2 := own_frozen hb2 (b := w.heap.size) (by (first | omega | (simp only [zz] at *; omega)))
      have hlt2 : ∀ b, b < w.heap.size → b < w2.heap.size := fun b hb => (by (first | omega | (simp only [zz] at *; omega)))
      have hc2 : ∀ b o, b < w.heap.size → w2.cell? ⟨b, o, none⟩ = w.cell? ⟨b, o, none⟩ := old_cell (by (repeat (first | exact Below.refl _ _ | assumption | refine below_drewN ?_ _ | refine below_drew ?_ | refine below_gr ?_ ?_ _ | refine below_alloc ?_ ?_ _ | refine Below.setCell ?_ ?_ _ | refine below_step ?_ (by assumption) ?_ | omega | (simp only [zz] at *; omega))))
      have hbw : Below w.heap.size w w2 := by (repeat (first | exact Below.refl _ _ | assumption | (refine below_gr ?_ (by (first | omega | (simp only [zz] at *; omega))) _) | (refine below_alloc ?_ (by (first | omega | (simp only [zz] at *; omega))) _) | (refine Below.setCell ?_ (by (first | omega | (simp only [zz] at *; omega))) _) | refine below_drewN ?_ _ | refine below_drew ?_ | (refine below_step ?_ (by assumption) (by (first | omega | (simp only [zz] at *; omega))))))
      rename_i hK
      refine hK _ _ ?_
      clear hK
      refine (wpIn_wide (n := 8)).1 ?_
      gi_wp2_with (refine ⟨trivial, ?_⟩; gi_at_call 94; refine (callsIn_wide.2 (HVA.out _ (hS0.out.ext hbw))).mono ?_; rintro e w3 ⟨rfl, hb3⟩; replace hb3 := ex_below hb3)
      obtain ⟨fn, tmps, assign, body, hy, hRR⟩ := HFIN.out w3 (by (repeat (first | exact Below.refl _ _ | assumption | refine below_drewN ?_ _ | refine below_drew ?_ | refine below_gr ?_ ?_ _ | refine below_alloc ?_ ?_ _ | refine Below.setCell ?_ ?_ _ | refine below_step ?_ (by assumption) ?_ | omega | (simp only [zz] at *; omega))))
      gi_wp2
      rw [hy]
      gi_wp2
      refine hRR.mono ?_
      rintro e W3 ⟨rfl, hJ4, hk3⟩
      gi_wp2
      go_ret
      exact ⟨rfl, hJ4, (KpR.below (by (repeat (first | exact Below.refl _ _ | assumption | refine below_drewN ?_ _ | refine below_drew ?_ | refine below_gr ?_ ?_ _ | refine below_alloc ?_ ?_ _ | refine Below.setCell ?_ ?_ _ | refine below_step ?_ (by assumption) ?_ | omega | (simp only [zz] at *; omega))))).trans hk3⟩
  by_cases hrl : r = R.length
  · exact key (.inl (by simp [hrl]))
  · refine key (.inr ⟨by simp; omega, ?_⟩)
    rw [HSM.out, hstop.resolve_left (by omega)]; rfl
end Go.Proofs.Ytlbkaeoagdbemaa
