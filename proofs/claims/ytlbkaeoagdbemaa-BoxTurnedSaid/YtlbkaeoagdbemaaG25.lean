/- Proved here: what is turned about comes to the same, a part of the proofs about the box laws. Conditions: those that each theorem names, no others. -/
import Derived.Test.YtlbkaeoagdbemaaP38
import Derived.WalkKit
import Derived.WalkSpells
import Derived.WalkLawsBesides
import Derived.Below
import Derived.Deep.QuietTactic
import Derived.BigQuiet
import Derived.Deep.Light
import Derived.Test.YtlbkaeoagdbemaaG9
import Derived.Test.YtlbkaeoagdbemaaG17
set_option linter.unusedSimpArgs false
set_option linter.unusedVariables false
namespace Go.Proofs.Ytlbkaeoagdbemaa
open Go.RowKit Go.Maps
def turnX (a b : Nat) (t : Bm.Tk) : Bm.Tk := (Bm.swapL t.1 a b, t.2)
def turnY (a p q : Nat) (t : Bm.Tk) : Bm.Tk := (t.1.set a (Bm.swb p q (t.1.getD a 0)), t.2)
theorem map_getD9 {ts : List Bm.Tk} (f : Bm.Tk → Bm.Tk) {i : Nat} (hi : i < ts.length) : (ts.map f).getD i ([], 0) = f (ts.getD i ([], 0)) := by
  rw [getD_at _ _ (by rw [List.length_map]; exact hi), getD_at _ _ hi, List.getElem_map]
theorem mem_swapL {l : List Nat} {a b x : Nat} (ha : a < l.length) (hb : b < l.length) (h : x ∈ Bm.swapL l a b) : x ∈ l := by
  unfold Bm.swapL at h
  rcases List.mem_or_eq_of_mem_set h with h | rfl
  · rcases List.mem_or_eq_of_mem_set h with h | rfl
    · exact h
    · rw [getD_at _ _ hb]; exact List.getElem_mem hb
  · rw [getD_at _ _ ha]; exact List.getElem_mem ha
/-- two cards with tickets that come to the same -/
structure Alike (R Q : List Nat) (ts xs : List Bm.Tk) : Prop where
  ok : Ok Q xs
  rl : Q.length = R.length
  tl : xs.length = ts.length
  cov : Bm.afterN Q xs [] = Bm.afterN R ts []
  most : Bm.uni xs (deepO Q xs) = Bm.uni ts (deepO R ts)
  idle : Bm.idleN Q xs xs.length = Bm.idleN R ts ts.length
  win : ∀ i, (h : i < ts.length) → (h2 : i < xs.length) → ∀ m, Bm.withinN Q xs[i].1 m = Bm.withinN R ts[i].1 m
theorem alike_of {R Q : List Nat} {f g : List Nat → List Nat} {ts xs : List Bm.Tk} (h : Bm.Turn R Q f g) (hs : Bm.Same R f ts xs) (hok : Ok R ts) (hokx : Ok Q xs) (hl : Q.length = R.length) : Alike R Q ts xs where
  ok := hokx
  rl := hl
  tl := hs.1
  cov := h.cov hs
  most := h.most hs (deep_mem hok) (deep_mem hokx) (fun x hx => deep_most hok hx) (fun x hx => deep_most hokx hx)
  idle := by rw [hs.1]; exact h.idle hs _ (Nat.le_refl _)
  win := fun i hi h2 m => by
    have := (hs.2 i hi).2
    rw [getD_at _ _ hi, getD_at _ _ h2] at this
    exact h.within hok.r6 hokx.r6 (hok.tb _ (List.getElem_mem hi)) (hokx.tb _ (List.getElem_mem h2)) this m
theorem turnX_alike {R : List Nat} {ts : List Bm.Tk} (hok : Ok R ts) {a b : Nat} (ha : a < R.length) (hb : b < R.length) : Alike R (Bm.swapL R a b) ts (ts.map (turnX a b)) := by
  refine alike_of (Bm.swap_turn ha hb) ⟨List.length_map _, fun i hi => ?_⟩ hok ?_ (Bm.swapL_len _ _ _)
  · rw [map_getD9 _ hi]
    refine ⟨rfl, fun o ho => ?_⟩
    have hol := Bm.outs_len ho
    have hsl := Bm.isBox_len (hok.tb _ (List.getElem_mem hi))
    rw [getD_at _ _ hi]
    exact Bm.swap_wrong (by omega) (by omega) (by omega)
  · refine { h1 := by rw [Bm.swapL_len]; exact hok.h1, h5 := by rw [Bm.swapL_len]; exact hok.h5, r1 := fun n hn => hok.r1 n (mem_swapL ha hb hn), r6 := fun n hn => hok.r6 n (mem_swapL ha hb hn), t10 := by rw [List.length_map]; exact hok.t10, tb := fun t ht => ?_, tu := fun t ht => ?_ }
    · obtain ⟨x, hx, rfl⟩ := List.mem_map.1 ht; exact Bm.swap_box ha hb (hok.tb x hx)
    · obtain ⟨x, hx, rfl⟩ := List.mem_map.1 ht; exact hok.tu x hx
theorem turnY_alike {R : List Nat} {ts : List Bm.Tk} (hok : Ok R ts) {a p q : Nat} (ha : a < R.length) (hp : p < R.getD a 0) (hq : q < R.getD a 0) : Alike R R ts (ts.map (turnY a p q)) := by
  refine alike_of (Bm.swr_turn ha hp hq) ⟨List.length_map _, fun i hi => ?_⟩ hok ?_ rfl
  · rw [map_getD9 _ hi]
    refine ⟨rfl, fun o ho => ?_⟩
    rw [getD_at _ _ hi]
    exact Bm.swr_wrong hok.r6 (hok.tb _ (List.getElem_mem hi)) ho ha hp hq
  · refine { h1 := hok.h1, h5 := hok.h5, r1 := hok.r1, r6 := hok.r6, t10 := by rw [List.length_map]; exact hok.t10, tb := fun t ht => ?_, tu := fun t ht => ?_ }
    · obtain ⟨x, hx, rfl⟩ := List.mem_map.1 ht; exact Bm.swr_box hok.r6 (hok.tb x hx) ha hp hq
    · obtain ⟨x, hx, rfl⟩ := List.mem_map.1 ht; exact hok.tu x hx
/-- one ticket of valid ones -/
theorem ok_one9 {R : List Nat} {ts : List Bm.Tk} (hok : Ok R ts) {i : Nat} (hi : i < ts.length) : Ok R [(ts[i].1, ts[i].2)] :=
  { h1 := hok.h1, h5 := hok.h5, r1 := hok.r1, r6 := hok.r6, t10 := by simp, tb := fun x hx => by rw [List.mem_singleton.1 hx]; exact hok.tb _ (List.getElem_mem hi), tu := fun x hx => by rw [List.mem_singleton.1 hx]; exact hok.tu _ (List.getElem_mem hi) }
theorem within_le9 {R : List Nat} {ts : List Bm.Tk} (hok : Ok R ts) {S : List Nat} (hb : Bm.isBox R S = true) {m : Nat} (hm : m ≤ R.length) : Bm.withinN R S m ≤ 7776 := by
  have h0 := Bm.within_up hok.r6 hb hm
  rw [Bm.within_all hok.r6 hb, ← outs_total] at h0
  have h2 := Bm.outs_len_le hok.r6
  have h3 : 6 ^ R.length ≤ 6 ^ 5 := Nat.pow_le_pow_right (by omega) hok.h5
  omega
theorem al_cov {R Q : List Nat} {ts xs : List Bm.Tk} (h : Alike R Q ts xs) (A : Option Addr) (c : Nat) (B : Option Addr) (d : Nat) (w : World) (hA : I64 w A (zs Q)) (hB : Tks w B (tz xs)) (m : Nat) (hm : xs.length = m) : Calls Try.prog 32 #[.agg #[.slice A R.length c], .slice B m d] w (Gives w (.tuple #[.int .i64 (Bm.afterN R ts [] : Nat), .int .i64 0])) := by
  have h1 := o_cov A Q c B xs d w hA hB h.ok
  rw [h.cov, h.rl, hm] at h1
  exact h1
theorem al_deep {R Q : List Nat} {ts xs : List Bm.Tk} (h : Alike R Q ts xs) (A : Option Addr) (c : Nat) (B : Option Addr) (d : Nat) (w : World) (hA : I64 w A (zs Q)) (hB : Tks w B (tz xs)) (m : Nat) (hm : xs.length = m) : Calls Try.prog 36 #[.agg #[.slice A R.length c], .slice B m d] w (GivesA w (Bm.uni ts (deepO R ts) : Nat) (zs (deepO Q xs)) 0) := by
  have h1 := o_deep A Q c B xs d w hA hB h.ok
  rw [h.most, h.rl, hm] at h1
  exact h1
theorem al_idle {R Q : List Nat} {ts xs : List Bm.Tk} (h : Alike R Q ts xs) (A : Option Addr) (c : Nat) (B : Option Addr) (d : Nat) (w : World) (hA : I64 w A (zs Q)) (hB : Tks w B (tz xs)) (m : Nat) (hm : xs.length = m) : Calls Try.prog 38 #[.agg #[.slice A R.length c], .slice B m d] w (GivesB w (zs (Bm.idleN R ts ts.length)) 0) := by
  have h1 := o_idle A Q c B xs d w hA hB h.ok
  rw [h.idle, h.rl, hm] at h1
  exact h1
theorem al_win {R Q : List Nat} {ts xs : List Bm.Tk} (h : Alike R Q ts xs) (A : Option Addr) (c : Nat) (Y : Option Addr) (yc : Nat) (w : World) (y : Nat) (hy : y < ts.length) (hy2 : y < xs.length) (hA : I64 w A (zs Q)) (hY : I64 w Y (zs xs[y].1)) (hyc : xs[y].1.length ≤ yc) (v : Nat) (hv : v ≤ R.length) : Calls Try.prog 27 #[.agg #[.slice A R.length c], .agg #[.slice Y xs[y].1.length yc, .int .i64 (xs[y].2 : Nat)], .int .i64 (v : Nat)] w (Gives w (.tuple #[.int .i64 (Bm.withinN R ts[y].1 v : Nat), .int .i64 0])) := by
  have h1 := within_ok A Q c Y xs[y].1 yc xs[y].2 v w hA hY hyc (ok_one9 h.ok hy2) (by rw [h.rl]; exact hv)
  rw [h.win y hy hy2, h.rl] at h1
  exact h1
end Go.Proofs.Ytlbkaeoagdbemaa
