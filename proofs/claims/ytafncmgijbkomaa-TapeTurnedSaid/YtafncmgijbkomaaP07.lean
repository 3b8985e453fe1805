/- Proved here: how many letters of a window nights have, a part of the proofs about the tape laws. Conditions: those that each theorem names, no others. -/
import Derived.Test.YtafncmgijbkomaaP06
import Derived.WalkKit
import Derived.WalkSpells
import Derived.WalkLawsBesides
import Derived.Below
import Derived.Deep.QuietTactic
import Derived.BigQuiet
import Derived.Deep.Light
import Derived.Test.YtafncmgijbkomaaP33
import Derived.Deep.RegionHeld3
import Derived.Deep.RegionLaw
import Derived.Deep.DeepCutAuto
import Derived.Deep.CutBlock
import Derived.Test.YtafncmgijbkomaaP36
set_option linter.unusedSimpArgs false
set_option linter.unusedVariables false
namespace Go.Proofs.Ytafncmgijbkomaa
open Go.RowKit Go.Maps
def DuoIs (b : Nat) (x y : Value) (w : World) : Prop := w.cell? ⟨b, 0, none⟩ = some x ∧ w.cell? ⟨b, 1, none⟩ = some y
theorem duo_keep {b o : Nat} {v : Value} {w w' : World} (hb : Below w.heap.size w w') (h : w.cell? ⟨b, o, none⟩ = some v) : w'.cell? ⟨b, o, none⟩ = some v := by
  have hl : b < w.heap.size := by
    unfold World.cell? at h
    rcases Nat.lt_or_ge b w.heap.size with h1 | h1
    · exact h1
    · simp [Array.getElem?_eq_none h1] at h
  exact (hb.cell (p := ⟨b, o, none⟩) hl).trans h
theorem DuoIs.ext {b : Nat} {x y : Value} {w w' : World} (h : DuoIs b x y w) (hb : Below w.heap.size w w') : DuoIs b x y w' := ⟨duo_keep hb h.1, duo_keep hb h.2⟩
theorem DuoIs.set {b B k : Nat} {x y u : Value} {w : World} (h : DuoIs b x y w) (hne : b ≠ B) : DuoIs b x y (w.setCell ⟨B, k, none⟩ u) := ⟨(World.cell?_of_block (a := ⟨b, 0, none⟩) (Below.heap_setCell _ _ _ _ hne)).trans h.1, (World.cell?_of_block (a := ⟨b, 1, none⟩) (Below.heap_setCell _ _ _ _ hne)).trans h.2⟩
theorem set_two {w : World} {b : Nat} {x y u v : Value} {t : TypeId} (h : w.heap[b]? = some (.cells #[x, y] t (0, 0))) : ((w.setCell ⟨b, 0, none⟩ u).setCell ⟨b, 1, none⟩ v).heap[b]? = some (.cells #[u, v] t (0, 0)) := set_obj (set_obj h 0 _) 1 _
theorem und117 : Try.prog.underlying 117 = some (.map 109 47) := by kernel_rfl
theorem zero47 (w' : World) : (zeroValue 47).run Try.prog w' = .ok (.agg #[.int .i64 0, .int .i64 0]) w' := by kernel_rfl
set_option maxRecDepth 100000 in
set_option maxHeartbeats 1000000 in
theorem pulls_zero (R M : Nat) (W : Int) (A : Option Addr) (ts : List ByteArray) (cap : Nat) (h3 : ts.length ≤ 3) (hf : Fine ts) (hs : Small ts) (hW : 1 ≤ W ∧ W ≤ 5) (win : Int) (K : Nat) (hKM : K ≠ M) (hRK : R ≠ K) (hAK : ∀ (k : Nat) (s : ByteArray), ts[k]? = some s → ∃ b o, A = some ⟨b, o, none⟩ ∧ b ≠ K) (p : List Nat) (w : World) (hp : Tm.IsPl (lts ts) p) (hR : Reel R M W A ts cap w) (hK : (KMap 109 K (goodR W.toNat win (lts ts))) w) :
    Calls Try.prog 81 #[.pointer (some ⟨R, 0, none⟩), stV p 0, .int .i64 win, .map (some K)] w (Gives2 w M K (fun w' => (KMap 109 M (goodC W.toNat (lts ts))) w' ∧ (KMap 109 K (goodR W.toNat win (lts ts))) w') (rngV (Tm.pullsP W.toNat win 0 (Tm.remP (lts ts) p)))) := by
  obtain ⟨x0, HX0⟩ : ∃ x : Nat, Hid (p.getD 0 0 = x) := ⟨_, hide rfl⟩
  obtain ⟨x1, HX1⟩ : ∃ x : Nat, Hid (p.getD 1 0 = x) := ⟨_, hide rfl⟩
  obtain ⟨x2, HX2⟩ : ∃ x : Nat, Hid (p.getD 2 0 = x) := ⟨_, hide rfl⟩
  have hst : stV p 0 = .agg #[.int .i64 (x0 : Nat), .int .i64 (x1 : Nat), .int .i64 (x2 : Nat), .int .i64 0] := by unfold stV stC; rw [HX0.out, HX1.out, HX2.out]; rfl
  rw [hst]
  clear hst
  go_enter Try.func81, Try.ntmps81
  go_wp2
  refine bodyPost_ret (v := .agg #[.int .i64 0, .int .i64 0]) (by simp [results, Try.results81, go_sem]) rfl ⟨rfl, Grown2.below (by (repeat (first | exact Below.refl _ _ | assumption | refine below_drewN ?_ _ | refine below_drew ?_ | refine below_gr ?_ ?_ _ | refine below_alloc ?_ ?_ _ | refine Below.setCell ?_ ?_ _ | refine below_step ?_ (by assumption) ?_ | omega | (simp only [zz] at *; omega)))), hR.km.below (by (repeat (first | exact Below.refl _ _ | assumption | refine below_drewN ?_ _ | refine below_drew ?_ | refine below_gr ?_ ?_ _ | refine below_alloc ?_ ?_ _ | refine Below.setCell ?_ ?_ _ | refine below_step ?_ (by assumption) ?_ | omega | (simp only [zz] at *; omega)))), hK.below (by (repeat (first | exact Below.refl _ _ | assumption | refine below_drewN ?_ _ | refine below_drew ?_ | refine below_gr ?_ ?_ _ | refine below_alloc ?_ ?_ _ | refine Below.setCell ?_ ?_ _ | refine below_step ?_ (by assumption) ?_ | omega | (simp only [zz] at *; omega))))⟩
set_option maxRecDepth 100000 in
set_option maxHeartbeats 8000000 in
theorem pulls_succ (R M : Nat) (W : Int) (A : Option Addr) (ts : List ByteArray) (cap : Nat) (h3 : ts.length ≤ 3) (hf : Fine ts) (hs : Small ts) (hW : 1 ≤ W ∧ W ≤ 5) (win : Int) (K : Nat) (hKM : K ≠ M) (hRK : R ≠ K) (hAK : ∀ (k : Nat) (s : ByteArray), ts[k]? = some s → ∃ b o, A = some ⟨b, o, none⟩ ∧ b ≠ K) (l : Nat) (hl : l + 1 ≤ 20)
    (ih : ∀ (p : List Nat) (w : World), Tm.IsPl (lts ts) p → Reel R M W A ts cap w → (KMap 109 K (goodR W.toNat win (lts ts))) w → Calls Try.prog 81 #[.pointer (some ⟨R, 0, none⟩), stV p l, .int .i64 win, .map (some K)] w (Gives2 w M K (fun w' => (KMap 109 M (goodC W.toNat (lts ts))) w' ∧ (KMap 109 K (goodR W.toNat win (lts ts))) w') (rngV (Tm.pullsP W.toNat win l (Tm.remP (lts ts) p)))))
    (p : List Nat) (w : World) (hp : Tm.IsPl (lts ts) p) (hR : Reel R M W A ts cap w) (hK : (KMap 109 K (goodR W.toNat win (lts ts))) w) :
    Calls Try.prog 81 #[.pointer (some ⟨R, 0, none⟩), stV p (l + 1), .int .i64 win, .map (some K)] w (Gives2 w M K (fun w' => (KMap 109 M (goodC W.toNat (lts ts))) w' ∧ (KMap 109 K (goodR W.toNat win (lts ts))) w') (rngV (Tm.pullsP W.toNat win (l + 1) (Tm.remP (lts ts) p)))) := by
  obtain ⟨L, hL⟩ : ∃ L : Int, ((l + 1 : Nat) : Int) = L := ⟨_, rfl⟩
  have hL1 : L - 1 = (l : Int) := by omega
  have hL2 : 1 ≤ L ∧ L ≤ 20 := by omega
  have hL0 : (L == 0) = false := by simp; omega
  obtain ⟨hW1, hW2⟩ := hW
  have hlt3 : (lts ts).length ≤ 3 := by simpa [lts] using h3
  obtain ⟨x0, HX0⟩ : ∃ x : Nat, Hid (p.getD 0 0 = x) := ⟨_, hide rfl⟩
  obtain ⟨x1, HX1⟩ : ∃ x : Nat, Hid (p.getD 1 0 = x) := ⟨_, hide rfl⟩
  obtain ⟨x2, HX2⟩ : ∃ x : Nat, Hid (p.getD 2 0 = x) := ⟨_, hide rfl⟩
  have hst : stV p (l + 1) = .agg #[.int .i64 (x0 : Nat), .int .i64 (x1 : Nat), .int .i64 (x2 : Nat), .int .i64 L] := by unfold stV stC; rw [HX0.out, HX1.out, HX2.out, hL]
  have hplv : plV p = .agg #[.int .i64 (x0 : Nat), .int .i64 (x1 : Nat), .int .i64 (x2 : Nat)] := by unfold plV plC; rw [HX0.out, HX1.out, HX2.out]
  obtain ⟨kl, hkl⟩ := keyS_of hs hp hl
  have hlook := hK.look2 lawS und117 zero47 hkl
  have HN : Hid (∀ (c : Nat) (w' : World), Reel R M W A ts cap w' → Calls Try.prog 56 #[.pointer (some ⟨R, 0, none⟩), .agg #[.int .i64 (x0 : Nat), .int .i64 (x1 : Nat), .int .i64 (x2 : Nat)], .int .i64 (c : Nat)] w' (Gives w' (.agg #[.int .i64 ((Tm.nextP (lts ts) p (c : Nat)).getD 0 0 : Nat), .int .i64 ((Tm.nextP (lts ts) p (c : Nat)).getD 1 0 : Nat), .int .i64 ((Tm.nextP (lts ts) p (c : Nat)).getD 2 0 : Nat)]))) := hide (fun c w' h => by
    have := next_any R W A ts cap p (c : Nat) w' h.rat h.str h3 hp hf; rw [hplv] at this; exact this)
  have HC : Hid (∀ (c : Nat) (w' : World), Reel R M W A ts cap w' → Calls Try.prog 75 #[.pointer (some ⟨R, 0, none⟩), .agg #[.int .i64 ((Tm.nextP (lts ts) p (c : Nat)).getD 0 0 : Nat), .int .i64 ((Tm.nextP (lts ts) p (c : Nat)).getD 1 0 : Nat), .int .i64 ((Tm.nextP (lts ts) p (c : Nat)).getD 2 0 : Nat), .int .i64 (l : Nat)]] w' (GivesM w' M (KMap 109 M (goodC W.toNat (lts ts))) (.int .i64 (Tm.cntC W.toNat l (Tm.behs ((c : Nat) : Int) (Tm.remP (lts ts) p)) : Nat)))) := hide (fun c w' h => by
    have := count_any R M W A ts cap h3 hf hs ⟨hW1, hW2⟩ l (by omega) (Tm.nextP (lts ts) p (c : Nat)) w' (Tm.next_is hp _) h
    rw [Tm.rem_next] at this
    exact this)
  have HPU : Hid (∀ (c : Nat) (w' : World), Reel R M W A ts cap w' → (KMap 109 K (goodR W.toNat win (lts ts))) w' → Calls Try.prog 81 #[.pointer (some ⟨R, 0, none⟩), .agg #[.int .i64 ((Tm.nextP (lts ts) p (c : Nat)).getD 0 0 : Nat), .int .i64 ((Tm.nextP (lts ts) p (c : Nat)).getD 1 0 : Nat), .int .i64 ((Tm.nextP (lts ts) p (c : Nat)).getD 2 0 : Nat), .int .i64 (l : Nat)], .int .i64 win, .map (some K)] w' (Gives2 w' M K (fun w' => (KMap 109 M (goodC W.toNat (lts ts))) w' ∧ (KMap 109 K (goodR W.toNat win (lts ts))) w') (.agg #[.int .i64 (Tm.pullsP W.toNat win l (Tm.behs ((c : Nat) : Int) (Tm.remP (lts ts) p))).1, .int .i64 (Tm.pullsP W.toNat win l (Tm.behs ((c : Nat) : Int) (Tm.remP (lts ts) p))).2]))) := hide (fun c w' h hk => by
    have := ih (Tm.nextP (lts ts) p (c : Nat)) w' (Tm.next_is hp _) h hk
    rw [Tm.rem_next] at this
    exact this)
  have HDEL : Hid (∀ (c : Nat) (w' : World) (ty : TypeId), (KMap 109 M (goodC W.toNat (lts ts))) w' → ∃ w'', (Builtin.delete_ #[130, 109] ty #[.map (some M), .agg #[.int .i64 ((Tm.nextP (lts ts) p (c : Nat)).getD 0 0 : Nat), .int .i64 ((Tm.nextP (lts ts) p (c : Nat)).getD 1 0 : Nat), .int .i64 ((Tm.nextP (lts ts) p (c : Nat)).getD 2 0 : Nat), .int .i64 (l : Nat)]]).run Try.prog w' = .ok (.tuple #[]) w'' ∧ (KMap 109 M (goodC W.toNat (lts ts))) w'' ∧ w'.grownBy w'' (some M)) := hide (fun c w' ty h => by
    obtain ⟨kl2, hkl2⟩ := keyS_of hs (Tm.next_is hp ((c : Nat) : Int)) (show l ≤ 20 by omega)
    exact h.del lawS und130 ty hkl2)
  have HPUT := hide (fun (w' : World) (h : (KMap 109 K (goodR W.toNat win (lts ts))) w') => h.put lawS und117 (finR (W := W.toNat) (win := win) hs h3) hkl (⟨p, l + 1, hp, hl, rfl, rfl⟩ : goodR W.toNat win (lts ts) (stV p (l + 1)) (rngV (Tm.pullsP W.toNat win (l + 1) (Tm.remP (lts ts) p)))))
  have HGV : ∀ v, goodR W.toNat win (lts ts) (stV p (l + 1)) v → v = rngV (Tm.pullsP W.toNat win (l + 1) (Tm.remP (lts ts) p)) := by
    rintro v ⟨q, m, hq, hm, he, rfl⟩
    obtain ⟨rfl, rfl⟩ := stV_inj hlt3 hp hq he
    rfl
  have HPUT2 := HPUT.out
  rw [hst] at hlook HGV HPUT2
  replace HPUT2 := hide HPUT2
  replace HGV := hide HGV
  have HCP : Hid (∀ c : Nat, Tm.cntC W.toNat l (Tm.behs ((c : Nat) : Int) (Tm.remP (lts ts) p)) = 0 ↔ Tm.hasN W.toNat l (Tm.behs ((c : Nat) : Int) (Tm.remP (lts ts) p)) = false) := hide (fun c => by
    have := Tm.cntC_pos W.toNat l (Tm.behs ((c : Nat) : Int) (Tm.remP (lts ts) p))
    cases h : Tm.hasN W.toNat l (Tm.behs ((c : Nat) : Int) (Tm.remP (lts ts) p)) <;> rw [h] at this <;> simp at this ⊢ <;> omega)
  have HST := hide (pfold_step W.toNat win l (Tm.remP (lts ts) p))
  have HPF := hide (pulls_fold W.toNat win l (Tm.remP (lts ts) p))
  have HBD := hide (fun c : Nat => pulls_bd W.toNat win l (Tm.behs ((c : Nat) : Int) (Tm.remP (lts ts) p)))
  have HFB := hide (pfold_bd W.toNat win l (Tm.remP (lts ts) p))
  have HFB2 := hide (pulls_bd W.toNat win (l + 1) (Tm.remP (lts ts) p))
  have HPE : Hid (∀ o c, pstep W.toNat win l (Tm.remP (lts ts) p) o c = if Tm.hasN W.toNat l (Tm.behs ((c : Nat) : Int) (Tm.remP (lts ts) p)) = true then (min o.1 ((Tm.pullsP W.toNat win l (Tm.behs ((c : Nat) : Int) (Tm.remP (lts ts) p))).1 + if ((c : Nat) : Int) = win then 1 else 0), max o.2 ((Tm.pullsP W.toNat win l (Tm.behs ((c : Nat) : Int) (Tm.remP (lts ts) p))).2 + if ((c : Nat) : Int) = win then 1 else 0)) else o) := hide (fun _ _ => rfl)
  rw [hst]
  clear hst hplv hkl HPUT ih hp hf hs hL HX0 HX1 HX2
  generalize Tm.remP (lts ts) p = rem at *
  generalize hqq : Tm.nextP (lts ts) p = nx at *
  clear hqq
  have hMlt := hR.lt.2
  have hRlt := hR.lt.1
  have hRM := hR.ne
  have hKlt := hK.lt
  have r0 := hR.rat.1
  have r2 := hR.mp
  have hAlow := strs_low hR.str
  have HAT : Hid (∀ (k : Nat) (s : ByteArray), ts[k]? = some s → ∃ b o, A = some ⟨b, o, none⟩ ∧ b ≠ w.heap.size + 1 + 1 + 1) := hide (fun k s hks => by obtain ⟨b, o, e, hb⟩ := hAlow k s hks; exact ⟨b, o, e, by omega⟩)
  clear hAlow
  have m0 : R ≠ w.heap.size := by omega
  have m1 : R ≠ w.heap.size + 1 := by omega
  have m2 : R ≠ w.heap.size + 1 + 1 := by omega
  have m3 : R ≠ w.heap.size + 1 + 1 + 1 := by omega
  unfold rngV at *
  rcases hlook with ⟨v, hg, hrun⟩ | hrun
  · have hv := HGV.out v hg
    subst hv
    have hrun2 := hrun ((w.alloc (.cells #[.int .i64 (x0 : Nat), .int .i64 (x1 : Nat), .int .i64 (x2 : Nat), .int .i64 L] 109)).alloc (.cells #[.int .i64 0, .int .i64 0] 47)) (by rw [Below.heap_alloc _ _ _ (by simp; omega), Below.heap_alloc _ _ _ (by omega)])
    clear hrun
    have hfb2 := HFB2.out
    generalize Tm.pullsP W.toNat win (l + 1) rem = q at *
    obtain ⟨lo, hi⟩ := q
    simp only at hrun2 hfb2 ⊢
    go_enter Try.func81, Try.ntmps81
    go_wp2
    refine bodyPost_ret (v := .agg #[.int .i64 lo, .int .i64 hi]) (by simp [results, Try.results81, go_sem]) rfl ⟨rfl, Grown2.below (by (repeat (first | exact Below.refl _ _ | assumption | refine below_drewN ?_ _ | refine below_drew ?_ | refine below_gr ?_ ?_ _ | refine below_alloc ?_ ?_ _ | refine Below.setCell ?_ ?_ _ | refine below_step ?_ (by assumption) ?_ | omega | (simp only [zz] at *; omega)))), hR.km.below (by (repeat (first | exact Below.refl _ _ | assumption | refine below_drewN ?_ _ | refine below_drew ?_ | refine below_gr ?_ ?_ _ | refine below_alloc ?_ ?_ _ | refine Below.setCell ?_ ?_ _ | refine below_step ?_ (by assumption) ?_ | omega | (simp only [zz] at *; omega)))), hK.below (by (repeat (first | exact Below.refl _ _ | assumption | refine below_drewN ?_ _ | refine below_drew ?_ | refine below_gr ?_ ?_ _ | refine below_alloc ?_ ?_ _ | refine Below.setCell ?_ ?_ _ | refine below_step ?_ (by assumption) ?_ | omega | (simp only [zz] at *; omega))))⟩
  · have hrun2 := hrun ((w.alloc (.cells #[.int .i64 (x0 : Nat), .int .i64 (x1 : Nat), .int .i64 (x2 : Nat), .int .i64 L] 109)).alloc (.cells #[.int .i64 0, .int .i64 0] 47)) (by rw [Below.heap_alloc _ _ _ (by simp; omega), Below.heap_alloc _ _ _ (by omega)])
    clear hrun
    go_enter Try.func81, Try.ntmps81
    go_upto_region 7 with fail
    have hB4 : Below w.heap.size w ((((w.alloc (.cells #[.int .i64 (x0 : Nat), .int .i64 (x1 : Nat), .int .i64 (x2 : Nat), .int .i64 L] 109)).alloc (.cells #[.int .i64 0, .int .i64 0] 47)).alloc (.cells #[.int .i64 0, .int .i64 0] 47)).alloc (.cells #[.int .i64 20, .int .i64 (-1)] 47)) := by (repeat (first | exact Below.refl _ _ | assumption | (refine below_gr ?_ (by (first | omega | (simp only [zz] at *; omega))) _) | (refine below_alloc ?_ (by (first | omega | (simp only [zz] at *; omega))) _) | (refine Below.setCell ?_ (by (first | omega | (simp only [zz] at *; omega))) _) | refine below_drewN ?_ _ | refine below_drew ?_ | (refine below_step ?_ (by assumption) (by (first | omega | (simp only [zz] at *; omega))))))
    have hS4 : ((((w.alloc (.cells #[.int .i64 (x0 : Nat), .int .i64 (x1 : Nat), .int .i64 (x2 : Nat), .int .i64 L] 109)).alloc (.cells #[.int .i64 0, .int .i64 0] 47)).alloc (.cells #[.int .i64 0, .int .i64 0] 47)).alloc (.cells #[.int .i64 20, .int .i64 (-1)] 47)).heap[w.heap.size]? = some (.cells #[.int .i64 (x0 : Nat), .int .i64 (x1 : Nat), .int .i64 (x2 : Nat), .int .i64 L] 109 (0, 0)) := by rw [Below.heap_alloc _ _ _ (by simp <;> omega), Below.heap_alloc _ _ _ (by simp <;> omega), Below.heap_alloc _ _ _ (by simp)]; exact heap_alloc_new _ _
    have hZ4 : ((((w.alloc (.cells #[.int .i64 (x0 : Nat), .int .i64 (x1 : Nat), .int .i64 (x2 : Nat), .int .i64 L] 109)).alloc (.cells #[.int .i64 0, .int .i64 0] 47)).alloc (.cells #[.int .i64 0, .int .i64 0] 47)).alloc (.cells #[.int .i64 20, .int .i64 (-1)] 47)).heap[w.heap.size + 1]? = some (.cells #[.int .i64 0, .int .i64 0] 47 (0, 0)) := by rw [Below.heap_alloc _ _ _ (by simp <;> omega), Below.heap_alloc _ _ _ (by simp)]; exact (congrArg _ (by simp)).trans (heap_alloc_new (w.alloc (.cells #[.int .i64 (x0 : Nat), .int .i64 (x1 : Nat), .int .i64 (x2 : Nat), .int .i64 L] 109)) _)
    have hT4 : ((((w.alloc (.cells #[.int .i64 (x0 : Nat), .int .i64 (x1 : Nat), .int .i64 (x2 : Nat), .int .i64 L] 109)).alloc (.cells #[.int .i64 0, .int .i64 0] 47)).alloc (.cells #[.int .i64 0, .int .i64 0] 47)).alloc (.cells #[.int .i64 20, .int .i64 (-1)] 47)).heap[w.heap.size + 1 + 1 + 1]? = some (.cells #[.int .i64 20, .int .i64 (-1)] 47 (0, 0)) := (congrArg _ (by simp)).trans (heap_alloc_new _ _)
    have hsz4 : ((((w.alloc (.cells #[.int .i64 (x0 : Nat), .int .i64 (x1 : Nat), .int .i64 (x2 : Nat), .int .i64 L] 109)).alloc (.cells #[.int .i64 0, .int .i64 0] 47)).alloc (.cells #[.int .i64 0, .int .i64 0] 47)).alloc (.cells #[.int .i64 20, .int .i64 (-1)] 47)).heap.size = w.heap.size + 4 := by simp
    obtain ⟨wo, hwo⟩ : ∃ wo, ((((w.alloc (.cells #[.int .i64 (x0 : Nat), .int .i64 (x1 : Nat), .int .i64 (x2 : Nat), .int .i64 L] 109)).alloc (.cells #[.int .i64 0, .int .i64 0] 47)).alloc (.cells #[.int .i64 0, .int .i64 0] 47)).alloc (.cells #[.int .i64 20, .int .i64 (-1)] 47)) = wo := ⟨_, rfl⟩
    rw [hwo] at hB4 hS4 hZ4 hT4 hsz4 ⊢
    clear hwo hrun2 m0 m1 m2 m3
    have hRo := hR.below hB4
    have hKo := hK.below hB4
    have hGo : Grown2 M K w wo := Grown2.below hB4
    have q0 := hRo.rat.1
    go_wp2
    go_loopw [33] (fun i wr => ∃ c : Nat, c ≤ W.toNat ∧ i = .int .i64 (c : Nat) ∧ wr.heap[w.heap.size]? = some (.cells #[.int .i64 (x0 : Nat), .int .i64 (x1 : Nat), .int .i64 (x2 : Nat), .int .i64 L] 109 (0, 0)) ∧ wr.heap[w.heap.size + 1]? = some (.cells #[.int .i64 0, .int .i64 0] 47 (0, 0)) ∧ wr.heap[w.heap.size + 1 + 1 + 1]? = some (.cells #[.int .i64 (pfold W.toNat win l rem c).1, .int .i64 (pfold W.toNat win l rem c).2] 47 (0, 0)) ∧ Grown2 M K w wr ∧ Reel R M W A ts cap wr ∧ (KMap 109 K (goodR W.toNat win (lts ts))) wr) (fun i _ => W.toNat - (intOf i).toNat)
    case atStart => exact ⟨0, Nat.zero_le _, rfl, hS4, hZ4, hT4, hGo, hRo, hKo⟩
    case round =>
      clear hB4 hS4 hZ4 hT4 hRo hKo hGo q0
      obtain ⟨c, hc, rfl, hbx, hbZ, hbT, hGr, hRr2, hKr⟩ := hrel
      have hzr := hGr.size
      have hbl2 := (Array.getElem?_eq_some_iff.1 hbx).1
      have hblZ := (Array.getElem?_eq_some_iff.1 hbZ).1
      have hblT := (Array.getElem?_eq_some_iff.1 hbT).1
      have hbne : w.heap.size ≠ M := by omega
      have hMr2 := hRr2.lt.2
      have q0 := hRr2.rat.1
      have b0 := obj_at hbx 0 _ rfl
      have b1 := obj_at hbx 1 _ rfl
      have b2 := obj_at hbx 2 _ rfl
      have b3 := obj_at hbx 3 _ rfl
      by_cases hlt : c < W.toNat
      · have HNc := hide (HN.out c)
        have HCc := hide (HC.out c)
        have HPc := hide (HPU.out c)
        have HDc := hide (HDEL.out c)
        have HCPc := hide (HCP.out c)
        have HSTc := HST.out c
        rw [HPE.out] at HSTc
        have hbd := HBD.out c
        have hfb := HFB.out c
        replace HSTc := hide HSTc
        generalize Tm.hasN W.toNat l (Tm.behs ((c : Nat) : Int) rem) = hn at *
        generalize Tm.cntC W.toNat l (Tm.behs ((c : Nat) : Int) rem) = C at *
        generalize Tm.pullsP W.toNat win l (Tm.behs ((c : Nat) : Int) rem) = own at *
        obtain ⟨ol, oh⟩ := own
        generalize hpf : pfold W.toNat win l rem c = pf at *
        obtain ⟨fl, fh⟩ := pf
        have HPFE := hide hpf
        clear hpf
        simp only at hbT hbd hfb
        generalize (nx (c : Nat)).getD 0 0 = y0 at *
        generalize (nx (c : Nat)).getD 1 0 = y1 at *
        generalize (nx (c : Nat)).getD 2 0 = y2 at *
        have n1 : wr.heap.size ≠ w.heap.size := by omega
        have hlw : IntKind.i64.wrap (l : Int) = (l : Int) := IntWalk.i64_in _ (by omega)
        go_upto_region 10 with fail
        go_cut [13] (fun sx wx => ∃ blk : Nat, sx = .pointer (some ⟨blk, 0, none⟩) ∧ wx.heap[blk]? = some (.cells #[.int .i64 (y0 : Nat), .int .i64 (y1 : Nat), .int .i64 (y2 : Nat), .int .i64 (l : Nat)] 109 (0, 0)) ∧ wr.heap.size ≤ blk ∧ Below wr.heap.size wr wx)
        case first =>
          as_aux_lemma =>
          (try clear HCc); (try clear HPc); (try clear HDc); (try clear HCPc); (try clear HSTc); (try clear HPFE); (try clear hbd); (try clear hfb); (try clear HN); (try clear HC); (try clear HPU); (try clear HDEL); (try clear HPUT2); (try clear HGV); (try clear HCP); (try clear HST); (try clear HPF); (try clear HBD); (try clear HFB); (try clear HFB2); (try clear HPE); (try clear r0); (try clear r2); (try clear q0); (try clear hKr); (try clear hGr); (try clear hbZ); (try clear hbT); (try clear hR); (try clear hK); (try clear hKM); (try clear hRK); (try clear hAK); (try clear hlt3); (try clear hf); (try clear hs); (try clear hMlt); (try clear hRlt); (try clear hRM); (try clear hKlt); (try clear hsz4); (try clear hL0); (try clear hblZ); (try clear hblT); (try clear hbx); (try clear hlt); (try clear hc); (try clear h3); (try clear hW1); (try clear hW2)
          go_region_held3 (fun w' => w'.cell? ⟨w.heap.size, 0, none⟩ = some (.int .i64 (x0 : Nat)) ∧ w'.cell? ⟨w.heap.size, 1, none⟩ = some (.int .i64 (x1 : Nat)) ∧ w'.cell? ⟨w.heap.size, 2, none⟩ = some (.int .i64 (x2 : Nat)) ∧ w'.cell? ⟨w.heap.size, 3, none⟩ = some (.int .i64 L)) (go_keep) (first
            | (go_at_call 56; refine (HNc.out _ (hRr2.below (by (repeat (first | exact Below.refl _ _ | assumption | refine below_drewN ?_ _ | refine below_drew ?_ | refine below_gr ?_ ?_ _ | refine below_alloc ?_ ?_ _ | refine Below.setCell ?_ ?_ _ | refine below_step ?_ (by assumption) ?_ | omega | (simp only [zz] at *; omega)))))).mono ?_; rintro e w3 ⟨rfl, hb3⟩; replace hb3 := ex_below hb3; have hz3 := hb3.size; (try simp only [World.size_alloc, size_drew, size_drewN] at hz3); have hc3 := own_cell hb3 (b := w.heap.size) (by (first | omega | (simp only [zz]; omega) | (simp only [zz] at *; omega) | (simp; done) | (simp; omega))); have hbw3 : Below wr.heap.size wr w3 := (by (repeat (first | exact Below.refl _ _ | assumption | refine below_drewN ?_ _ | refine below_drew ?_ | refine below_gr ?_ ?_ _ | refine below_alloc ?_ ?_ _ | refine Below.setCell ?_ ?_ _ | refine below_step ?_ (by assumption) ?_ | omega | (simp only [zz] at *; omega)))); have n3 : w3.heap.size ≠ w.heap.size := (by omega); (try have hf3 := own_frozen hb3 (b := wr.heap.size) (by (first | omega | (simp only [zz]; omega) | (simp only [zz] at *; omega) | (simp; done) | (simp; omega)))); (try have hd3 := own_cell hb3 (b := wr.heap.size) (by (first | omega | (simp only [zz]; omega) | (simp only [zz] at *; omega) | (simp; done) | (simp; omega))))))
          · go_wp2_with fail
            go_meet
            exact ⟨_, rfl, heap_alloc_new _ _, by (first | omega | (simp only [zz]; omega) | (simp only [zz] at *; omega) | (simp; done) | (simp; omega)), by (repeat (first | exact Below.refl _ _ | assumption | (refine below_gr ?_ (by (first | omega | (simp only [zz] at *; omega))) _) | (refine below_alloc ?_ (by (first | omega | (simp only [zz] at *; omega))) _) | (refine Below.setCell ?_ (by (first | omega | (simp only [zz] at *; omega))) _) | refine below_drewN ?_ _ | refine below_drew ?_ | (refine below_step ?_ (by assumption) (by (first | omega | (simp only [zz] at *; omega))))))⟩
          · go_wp2_with fail
            go_meet
            exact ⟨_, rfl, set_four ((hb3.block wr.heap.size (by (first | omega | (simp only [zz]; omega) | (simp only [zz] at *; omega) | (simp; done) | (simp; omega)))).trans (heap_alloc_new wr.drew _)), Nat.le_refl _, by (repeat (first | exact Below.refl _ _ | assumption | (refine below_gr ?_ (by (first | omega | (simp only [zz] at *; omega))) _) | (refine below_alloc ?_ (by (first | omega | (simp only [zz] at *; omega))) _) | (refine Below.setCell ?_ (by (first | omega | (simp only [zz] at *; omega))) _) | refine below_drewN ?_ _ | refine below_drew ?_ | (refine below_step ?_ (by assumption) (by (first | omega | (simp only [zz] at *; omega))))))⟩
        case rest =>
          obtain ⟨blk, rfl, hto3, hblk, hb3⟩ := hcut

          have htl := (Array.getElem?_eq_some_iff.1 hto3).1
          have hzc := hb3.size
          have k0 := obj_at hto3 0 _ rfl
          have k1 := obj_at hto3 1 _ rfl
          have k2 := obj_at hto3 2 _ rfl
          have k3 := obj_at hto3 3 _ rfl
          by_cases hC0 : C = 0
          · have hCz : ((C : Int) == 0) = true := by simp; omega
            have hhn : hn = false := HCPc.out.1 hC0
            replace hC0 := hide hC0
            replace hhn := hide hhn
            by_cases hl0 : l = 0
            · have hld : decide (0 < (l : Int)) = false := by simp; omega
              have hld2 : decide (0 < l) = false := by simp; omega
              have hld3 : ¬ (0 < l) := by omega
              replace hl0 := hide hl0
              go_wp2_with (go_at_call 75; refine (HCc.out _ (hRr2.below hb3)).mono ?_; rintro e w4 ⟨rfl, hg4, hk4⟩; have hz4 := hg4.size; have hto4 : w4.heap[blk]? = some (.cells #[.int .i64 (y0 : Nat), .int .i64 (y1 : Nat), .int .i64 (y2 : Nat), .int .i64 (l : Nat)] 109 (0, 0)) := (hg4.block _ htl (by simp; omega)).trans hto3; have hga4 : wr.grownBy w4 (some M) := grown_trans (grown_none (below_grown hb3)) hg4; have hR4 : Reel R M W A ts cap w4 := hRr2.grown hga4 hk4; have q24 := hR4.mp; have hS4 : w4.heap[w.heap.size]? = _ := (hga4.block _ hbl2 (by simpa using hbne)).trans hbx; have hZ4 : w4.heap[w.heap.size + 1]? = _ := (hga4.block _ hblZ (by simp; omega)).trans hbZ; have hT4 : w4.heap[w.heap.size + 1 + 1 + 1]? = _ := (hga4.block _ hblT (by simp; omega)).trans hbT; have hK4 : (KMap 109 K (goodR W.toNat win (lts ts))) w4 := hKr.kept hga4 (by simp; omega); have hG4 : Grown2 M K w w4 := hGr.trans (Grown2.of hga4 (.inl rfl)); have k0 := obj_at hto4 0 _ rfl; have k1 := obj_at hto4 1 _ rfl; have k2 := obj_at hto4 2 _ rfl; have k3 := obj_at hto4 3 _ rfl; clear hg4 hga4 hk4)
              refine ⟨⟨c + 1, by omega, by go_num, hS4, hZ4, ?_, hG4, hR4, hK4⟩, by simp [intOf]; omega⟩
              rw [HSTc.out, hhn.out, if_neg (by simp)]; exact hT4
            · have hld : decide (0 < (l : Int)) = true := by simp; omega
              have hld2 : decide (0 < l) = true := by simp; omega
              have hld3 : 0 < l := by omega
              replace hl0 := hide hl0
              go_wp2_with (go_at_call 75; refine (HCc.out _ (hRr2.below hb3)).mono ?_; rintro e w4 ⟨rfl, hg4, hk4⟩; have hz4 := hg4.size; have hto4 : w4.heap[blk]? = some (.cells #[.int .i64 (y0 : Nat), .int .i64 (y1 : Nat), .int .i64 (y2 : Nat), .int .i64 (l : Nat)] 109 (0, 0)) := (hg4.block _ htl (by simp; omega)).trans hto3; have hga4 : wr.grownBy w4 (some M) := grown_trans (grown_none (below_grown hb3)) hg4; have hR4 : Reel R M W A ts cap w4 := hRr2.grown hga4 hk4; have q24 := hR4.mp; have hS4 : w4.heap[w.heap.size]? = _ := (hga4.block _ hbl2 (by simpa using hbne)).trans hbx; have hZ4 : w4.heap[w.heap.size + 1]? = _ := (hga4.block _ hblZ (by simp; omega)).trans hbZ; have hT4 : w4.heap[w.heap.size + 1 + 1 + 1]? = _ := (hga4.block _ hblT (by simp; omega)).trans hbT; have hK4 : (KMap 109 K (goodR W.toNat win (lts ts))) w4 := hKr.kept hga4 (by simp; omega); have hG4 : Grown2 M K w w4 := hGr.trans (Grown2.of hga4 (.inl rfl)); have k0 := obj_at hto4 0 _ rfl; have k1 := obj_at hto4 1 _ rfl; have k2 := obj_at hto4 2 _ rfl; have k3 := obj_at hto4 3 _ rfl; clear hg4 hga4 hk4)
              go_region_law (refine step_del rfl _ _ _ _ rfl rfl rfl (HDc.out _ _ (hR4.km.below (by (repeat (first | exact Below.refl _ _ | assumption | refine below_drewN ?_ _ | refine below_drew ?_ | refine below_gr ?_ ?_ _ | refine below_alloc ?_ ?_ _ | refine Below.setCell ?_ ?_ _ | refine below_step ?_ (by assumption) ?_ | omega | (simp only [zz] at *; omega)))))) ?_; intro w5 hk5 hg5)
              all_goals
                go_wp2
                have hg45 : w4.grownBy w5 (some M) := grown_trans (grown_none (below_grown (by (repeat (first | exact Below.refl _ _ | assumption | refine below_drewN ?_ _ | refine below_drew ?_ | refine below_gr ?_ ?_ _ | refine below_alloc ?_ ?_ _ | refine Below.setCell ?_ ?_ _ | refine below_step ?_ (by assumption) ?_ | omega | (simp only [zz] at *; omega)))))) hg5
                refine ⟨⟨c + 1, by omega, by go_num, (hg45.block _ (by omega) (by simp; omega)).trans hS4, (hg45.block _ (by omega) (by simp; omega)).trans hZ4, ?_, hG4.trans (Grown2.of hg45 (.inl rfl)), hR4.grown hg45 hk5, hK4.kept hg45 (by simp; omega)⟩, by simp [intOf]; omega⟩
                rw [HSTc.out, hhn.out, if_neg (by simp)]; exact (hg45.block _ (by omega) (by simp; omega)).trans hT4
          · have hCz : ((C : Int) == 0) = false := by simp; omega
            have hhn : hn = true := by cases h : hn with | true => rfl | false => exact absurd (HCPc.out.2 h) hC0
            replace hC0 := hide hC0
            replace hhn := hide hhn
            by_cases hcw : (c : Int) = win
            · have hcb : ((c : Int) == win) = true := by simpa using hcw
              replace hcw := hide hcw
              go_wp2_with (first | (go_at_call 75; refine (HCc.out _ (hRr2.below hb3)).mono ?_; rintro e w4 ⟨rfl, hg4, hk4⟩; have hz4 := hg4.size; have hto4 : w4.heap[blk]? = some (.cells #[.int .i64 (y0 : Nat), .int .i64 (y1 : Nat), .int .i64 (y2 : Nat), .int .i64 (l : Nat)] 109 (0, 0)) := (hg4.block _ htl (by simp; omega)).trans hto3; have hga4 : wr.grownBy w4 (some M) := grown_trans (grown_none (below_grown hb3)) hg4; have hR4 : Reel R M W A ts cap w4 := hRr2.grown hga4 hk4; have q24 := hR4.mp; have hS4 : w4.heap[w.heap.size]? = _ := (hga4.block _ hbl2 (by simpa using hbne)).trans hbx; have hZ4 : w4.heap[w.heap.size + 1]? = _ := (hga4.block _ hblZ (by simp; omega)).trans hbZ; have hT4 : w4.heap[w.heap.size + 1 + 1 + 1]? = _ := (hga4.block _ hblT (by simp; omega)).trans hbT; have hK4 : (KMap 109 K (goodR W.toNat win (lts ts))) w4 := hKr.kept hga4 (by simp; omega); have hG4 : Grown2 M K w w4 := hGr.trans (Grown2.of hga4 (.inl rfl)); have k0 := obj_at hto4 0 _ rfl; have k1 := obj_at hto4 1 _ rfl; have k2 := obj_at hto4 2 _ rfl; have k3 := obj_at hto4 3 _ rfl; clear hg4 hga4 hk4) | (go_at_call 81; refine (HPc.out _ hR4 hK4).mono ?_; rintro e w5 ⟨rfl, hg5, hk5, hp5⟩; have hz5 := hg5.size; have hR5 : Reel R M W A ts cap w5 := hR4.grown2 hg5 hk5 hRK hAK; have hS5 : w5.heap[w.heap.size]? = _ := (hg5.block _ (by omega) (by omega) (by omega)).trans hS4; have hZ5 : w5.heap[w.heap.size + 1]? = _ := (hg5.block _ (by omega) (by omega) (by omega)).trans hZ4; have hT5 : w5.heap[w.heap.size + 1 + 1 + 1]? = _ := (hg5.block _ (by omega) (by omega) (by omega)).trans hT4; have hG5 : Grown2 M K w w5 := hG4.trans hg5; clear hg5 hk5))
              have hz6 : w5.heap.size < (w5.alloc (.cells #[.int .i64 (ol + 1), .int .i64 (oh + 1)] 47)).heap.size := by simp
              have hB6 : Below w5.heap.size w5 (w5.alloc (.cells #[.int .i64 (ol + 1), .int .i64 (oh + 1)] 47)) := by (repeat (first | exact Below.refl _ _ | assumption | (refine below_gr ?_ (by (first | omega | (simp only [zz] at *; omega))) _) | (refine below_alloc ?_ (by (first | omega | (simp only [zz] at *; omega))) _) | (refine Below.setCell ?_ (by (first | omega | (simp only [zz] at *; omega))) _) | refine below_drewN ?_ _ | refine below_drew ?_ | (refine below_step ?_ (by assumption) (by (first | omega | (simp only [zz] at *; omega))))))
              have hO6 : (w5.alloc (.cells #[.int .i64 (ol + 1), .int .i64 (oh + 1)] 47)).heap[w5.heap.size]? = some (.cells #[.int .i64 (ol + 1), .int .i64 (oh + 1)] 47 (0, 0)) := heap_alloc_new _ _
              obtain ⟨w6, hw6⟩ : ∃ w6, w5.alloc (.cells #[.int .i64 (ol + 1), .int .i64 (oh + 1)] 47) = w6 := ⟨_, rfl⟩
              rw [hw6] at hz6 hB6 hO6 ⊢
              clear hw6
              have hT6 := (hB6.block _ (by omega)).trans hT5
              have t0 := obj_at hT6 0 _ rfl
              have t1 := obj_at hT6 1 _ rfl
              have tf0 := obj_fz hT6 0
              have tf1 := obj_fz hT6 1
              have o0 := obj_at hO6 0 _ rfl
              have o1 := obj_at hO6 1 _ rfl
              have n6 : w6.heap.size ≠ w.heap.size + 1 + 1 + 1 := by omega
              have n7 : w.heap.size + 1 + 1 + 1 ≠ w5.heap.size := by omega
              have n8 : w5.heap.size ≠ w.heap.size + 1 + 1 + 1 := by omega
              obtain ⟨mn, HMN⟩ : ∃ x : Int, Hid (min fl (ol + 1) = x) := ⟨_, hide rfl⟩
              by_cases hmx : fh < oh + 1
              · have hmx2 : ¬ (oh + 1 ≤ fh) := by omega
                have t0' : (w6.alloc (.cells #[.int .i64 fl, .int .i64 (ol + 1)] 2)).cell? ⟨w.heap.size + 1 + 1 + 1, 0, none⟩ = some (.int .i64 fl) := (World.cell?_of_block (a := ⟨w.heap.size + 1 + 1 + 1, 0, none⟩) (Below.heap_alloc w6 _ (w.heap.size + 1 + 1 + 1) (by omega))).trans t0
                have t1' : (w6.alloc (.cells #[.int .i64 fl, .int .i64 (ol + 1)] 2)).cell? ⟨w.heap.size + 1 + 1 + 1, 1, none⟩ = some (.int .i64 fh) := (World.cell?_of_block (a := ⟨w.heap.size + 1 + 1 + 1, 1, none⟩) (Below.heap_alloc w6 _ (w.heap.size + 1 + 1 + 1) (by omega))).trans t1
                have tf0' : (w6.alloc (.cells #[.int .i64 fl, .int .i64 (ol + 1)] 2)).frozen? ⟨w.heap.size + 1 + 1 + 1, 0, none⟩ = false := (World.frozen?_of_block (a := ⟨w.heap.size + 1 + 1 + 1, 0, none⟩) (Below.heap_alloc w6 _ (w.heap.size + 1 + 1 + 1) (by omega))).trans tf0
                have tf1' : (w6.alloc (.cells #[.int .i64 fl, .int .i64 (ol + 1)] 2)).frozen? ⟨w.heap.size + 1 + 1 + 1, 1, none⟩ = false := (World.frozen?_of_block (a := ⟨w.heap.size + 1 + 1 + 1, 1, none⟩) (Below.heap_alloc w6 _ (w.heap.size + 1 + 1 + 1) (by omega))).trans tf1
                have HL6 : Hid (∀ Y : World, Below (w6.alloc (.cells #[.int .i64 fl, .int .i64 (ol + 1)] 2)).heap.size (w6.alloc (.cells #[.int .i64 fl, .int .i64 (ol + 1)] 2)) Y → Calls Try.prog 96 #[.slice (some ⟨w6.heap.size, 0, none⟩) 2 2] Y (Gives Y (.int .i64 mn))) := hide (fun Y hY => by
                  rw [← HMN.out]
                  exact least64_any (some ⟨w6.heap.size, 0, none⟩) [fl, ol + 1] 2 Y ((i64_new w6 [fl, ol + 1] 2 _ rfl).ext hY) (by simp) (by simp) (by simp))
                refine wp_region_noPanic ?_
                refine wp_region_F [12] (DuoIs w5.heap.size (.int .i64 (ol + 1)) (.int .i64 (oh + 1))) (DuoIs (w.heap.size + 1 + 1 + 1) (.int .i64 fl) (.int .i64 fh)) (by kernel_rfl) ?_
                have e0d : DuoIs w5.heap.size (.int .i64 (ol + 1)) (.int .i64 (oh + 1)) w6.drew := ⟨o0, o1⟩
                have e1d : DuoIs (w.heap.size + 1 + 1 + 1) (.int .i64 fl) (.int .i64 fh) w6.drew := ⟨t0, t1⟩
                refine wpAnyF_take0 (i := 0) (v := ?_) rfl rfl (by kernel_rfl) (by kernel_rfl) (by kernel_rfl) (fun _ _ _ h => h) (Or.inl ⟨by rfl, ?_⟩) (by assumption) (fun _ => e1d) ?_
                rotate_left
                · (intro w hSw; obtain ⟨g0, g1⟩ := hSw; go_simp; try with_reducible rfl)
                (try simp only [Act.put, List.getElem_toArray, List.getElem_cons_zero, List.getElem_cons_succ, List.setIfInBounds_toArray, List.set_cons_zero, List.set_cons_succ])
                refine wpAnyF_take1 (i := 1) (v := ?_) rfl rfl (by kernel_rfl) (by kernel_rfl) (by kernel_rfl) (by kernel_rfl) (fun _ _ _ h => h) (Or.inl ⟨by rfl, ?_⟩) (by assumption) (by kernel_rfl) (by assumption) ?_
                rotate_left
                · (intro w hSw; obtain ⟨⟨g0, g1⟩, ⟨g2, g3⟩⟩ := hSw; go_simp; try with_reducible rfl)
                (try simp only [Act.put, List.getElem_toArray, List.getElem_cons_zero, List.getElem_cons_succ, List.setIfInBounds_toArray, List.set_cons_zero, List.set_cons_succ])
                refine wpAnyF_take0 (i := 2) (v := ?_) rfl rfl (by kernel_rfl) (by kernel_rfl) (by kernel_rfl) (fun _ _ _ h => h) (Or.inl ⟨by rfl, ?_⟩) (by assumption) (fun _ => e1d) ?_
                rotate_left
                · (intro w hSw; obtain ⟨g0, g1⟩ := hSw; go_simp; try with_reducible rfl)
                (try simp only [Act.put, List.getElem_toArray, List.getElem_cons_zero, List.getElem_cons_succ, List.setIfInBounds_toArray, List.set_cons_zero, List.set_cons_succ])
                refine wpAnyF_take0 (i := 3) (v := ?_) rfl rfl (by kernel_rfl) (by kernel_rfl) (by kernel_rfl) (fun _ _ _ h => h) (Or.inl ⟨by rfl, ?_⟩) (by assumption) (fun _ => e1d) ?_
                rotate_left
                · (intro w hSw; obtain ⟨g0, g1⟩ := hSw; go_simp; try with_reducible rfl)
                (try simp only [Act.put, List.getElem_toArray, List.getElem_cons_zero, List.getElem_cons_succ, List.setIfInBounds_toArray, List.set_cons_zero, List.set_cons_succ])
                refine wpAnyF_take0 (i := 6) (v := ?_) rfl rfl (by kernel_rfl) (by kernel_rfl) (by kernel_rfl) (fun _ _ _ h => h) (Or.inl ⟨by rfl, ?_⟩) (by assumption) (fun _ => e1d) ?_
                rotate_left
                · (intro w hSw; obtain ⟨g0, g1⟩ := hSw; go_simp; try with_reducible rfl)
                (try simp only [Act.put, List.getElem_toArray, List.getElem_cons_zero, List.getElem_cons_succ, List.setIfInBounds_toArray, List.set_cons_zero, List.set_cons_succ])
                refine wpAnyF_take1 (i := 7) (v := ?_) rfl rfl (by kernel_rfl) (by kernel_rfl) (by kernel_rfl) (by kernel_rfl) (fun _ _ _ h => h) (Or.inl ⟨by rfl, ?_⟩) (by assumption) (by kernel_rfl) (by assumption) ?_
                rotate_left
                · (intro w hSw; obtain ⟨⟨g0, g1⟩, ⟨g2, g3⟩⟩ := hSw; go_simp; try with_reducible rfl)
                (try simp only [Act.put, List.getElem_toArray, List.getElem_cons_zero, List.getElem_cons_succ, List.setIfInBounds_toArray, List.set_cons_zero, List.set_cons_succ])
                refine wpAnyF_take0 (i := 8) (v := ?_) rfl rfl (by kernel_rfl) (by kernel_rfl) (by kernel_rfl) (fun _ _ _ h => h) (Or.inl ⟨by rfl, ?_⟩) (by assumption) (fun _ => e1d) ?_
                rotate_left
                · (intro w hSw; obtain ⟨g0, g1⟩ := hSw; go_simp; try with_reducible rfl)
                (try simp only [Act.put, List.getElem_toArray, List.getElem_cons_zero, List.getElem_cons_succ, List.setIfInBounds_toArray, List.set_cons_zero, List.set_cons_succ])
                refine wpAnyF_take0 (i := 9) (v := ?_) rfl rfl (by kernel_rfl) (by kernel_rfl) (by kernel_rfl) (fun _ _ _ h => h) (Or.inl ⟨by rfl, ?_⟩) (by assumption) (fun _ => e1d) ?_
                rotate_left
                · (intro w hSw; obtain ⟨g0, g1⟩ := hSw; go_simp; try with_reducible rfl)
                (try simp only [Act.put, List.getElem_toArray, List.getElem_cons_zero, List.getElem_cons_succ, List.setIfInBounds_toArray, List.set_cons_zero, List.set_cons_succ])
                refine wpAnyF_take0 (i := 10) (v := ?_) rfl rfl (by kernel_rfl) (by kernel_rfl) (by kernel_rfl) (fun _ _ _ h => h) (Or.inl ⟨by rfl, ?_⟩) (by assumption) (fun _ => e1d) ?_
                rotate_left
                · (intro w hSw; obtain ⟨g0, g1⟩ := hSw; go_simp; try with_reducible rfl)
                (try simp only [Act.put, List.getElem_toArray, List.getElem_cons_zero, List.getElem_cons_succ, List.setIfInBounds_toArray, List.set_cons_zero, List.set_cons_succ])
                have e0e := e0d.ext (below_alloc (Below.refl _ _) (Nat.le_refl _) (.cells #[.int .i64 fl, .int .i64 (ol + 1)] 2))
                have e1e := e1d.ext (below_alloc (Below.refl _ _) (Nat.le_refl _) (.cells #[.int .i64 fl, .int .i64 (ol + 1)] 2))
                refine wpAnyF_one (i := 4) (by kernel_rfl) rfl (fun K' hK => ?_)
                rw [if_pos (by rfl)]
                go_simp
                refine hK.out _ _ (e0e) (fun _ => e1e) (fun _ => ?_)
                clear hK K'
                (try simp only [Act.put, List.getElem_toArray, List.getElem_cons_zero, List.getElem_cons_succ, List.setIfInBounds_toArray, List.set_cons_zero, List.set_cons_succ])
                refine wpAnyF_one (i := 5) (by kernel_rfl) rfl (fun K' hK => ?_)
                rw [if_pos (by rfl)]
                go_simp
                refine (HL6.out _ (by (repeat (first | exact Below.refl _ _ | assumption | refine below_drewN ?_ _ | refine below_drew ?_ | refine below_gr ?_ ?_ _ | refine below_alloc ?_ ?_ _ | refine Below.setCell ?_ ?_ _ | refine below_step ?_ (by assumption) ?_ | omega | (simp only [zz] at *; omega))))).mono ?_; rintro e w7 ⟨rfl, hb7⟩; replace hb7 := ex_below hb7; have hz7 := hb7.size; (try simp only [World.size_alloc, size_drew, size_drewN] at hz7); have hc7 := own_cell hb7 (b := w.heap.size + 1 + 1 + 1) (by (first | omega | (simp only [zz]; omega) | (simp only [zz] at *; omega) | (simp; done) | (simp; omega))); have hf7 := own_frozen hb7 (b := w.heap.size + 1 + 1 + 1) (by (first | omega | (simp only [zz]; omega) | (simp only [zz] at *; omega) | (simp; done) | (simp; omega))); have hd7 := own_cell hb7 (b := w5.heap.size) (by (first | omega | (simp only [zz]; omega) | (simp only [zz] at *; omega) | (simp; done) | (simp; omega))); have hb67 : Below w6.heap.size w6 w7 := (by (repeat (first | exact Below.refl _ _ | assumption | refine below_drewN ?_ _ | refine below_drew ?_ | refine below_gr ?_ ?_ _ | refine below_alloc ?_ ?_ _ | refine Below.setCell ?_ ?_ _ | refine below_step ?_ (by assumption) ?_ | omega | (simp only [zz] at *; omega))))
                have e0f := e0e.ext hb7
                have e1f := e1e.ext hb7
                refine hK.out _ _ (e0f) (fun _ => e1f) (fun _ => ?_)
                clear hK K'
                (try simp only [Act.put, List.getElem_toArray, List.getElem_cons_zero, List.getElem_cons_succ, List.setIfInBounds_toArray, List.set_cons_zero, List.set_cons_succ])
                refine wpAnyF_take0 (i := 11) (v := ?_) rfl rfl (by kernel_rfl) (by kernel_rfl) (by kernel_rfl) (fun _ _ _ h => h) (Or.inl ⟨by rfl, ?_⟩) (by assumption) (fun _ => e1f) ?_
                rotate_left
                · (intro w hSw; obtain ⟨g0, g1⟩ := hSw; go_simp; try with_reducible rfl)
                (try simp only [Act.put, List.getElem_toArray, List.getElem_cons_zero, List.getElem_cons_succ, List.setIfInBounds_toArray, List.set_cons_zero, List.set_cons_succ])
                refine wpAnyF_one (i := 12) (by kernel_rfl) rfl (fun K' hK => ?_)
                rw [if_pos (by rfl)]
                go_simp
                refine hK.out _ _ ((e0f.set (show w5.heap.size ≠ w.heap.size + 1 + 1 + 1 by omega)).set (show w5.heap.size ≠ w.heap.size + 1 + 1 + 1 by omega)) (fun hx => Bool.noConfusion (show false = true from hx)) (fun _ => ?_)
                clear hK K'
                (try simp only [Act.put, List.getElem_toArray, List.getElem_cons_zero, List.getElem_cons_succ, List.setIfInBounds_toArray, List.set_cons_zero, List.set_cons_succ])
                refine wpAnyF_done (by kernel_rfl) ?_ _
                refine NoPanic.normal ?_
                all_goals
                  go_wp2
                  have hB57 : Below w5.heap.size w5 w7 := below_step hB6 hb67 (by omega)
                  have hSx := (hB57.block w.heap.size (by omega)).trans hS5
                  have hZx := (hB57.block (w.heap.size + 1) (by omega)).trans hZ5
                  have hTx := (hB57.block (w.heap.size + 1 + 1 + 1) (by omega)).trans hT5
                  have hpv : pfold W.toNat win l rem (c + 1) = (mn, oh + 1) := by
                    rw [HSTc.out, hhn.out, if_pos rfl]
                    apply Prod.ext
                    · show min fl (ol + (if (c : Int) = win then 1 else 0)) = mn
                      rw [if_pos hcw.out]
                      exact HMN.out
                    · show max fh (oh + (if (c : Int) = win then 1 else 0)) = oh + 1
                      rw [if_pos hcw.out]
                      omega
                  refine ⟨⟨c + 1, by omega, by go_num, (Below.heap_setCell _ _ _ _ (by simp; try omega)).trans ((Below.heap_setCell _ _ _ _ (by simp; try omega)).trans hSx), (Below.heap_setCell _ _ _ _ (by simp; try omega)).trans ((Below.heap_setCell _ _ _ _ (by simp; try omega)).trans hZx), by rw [hpv]; exact set_two hTx, ((hG5.trans (Grown2.below hB57)).set _ (by simp; try omega) _).set _ (by simp; try omega) _, ((hR5.below hB57).set _ _ (by simp; omega) (by simp; omega) HAT.out).set _ _ (by simp; omega) (by simp; omega) HAT.out, ((hp5.below hB57).setCell _ (by simp; omega) _).setCell _ (by simp; omega) _⟩, by simp [intOf]; omega⟩
              · have hmx2 : oh + 1 ≤ fh := by omega
                have t0' : (w6.alloc (.cells #[.int .i64 fl, .int .i64 (ol + 1)] 2)).cell? ⟨w.heap.size + 1 + 1 + 1, 0, none⟩ = some (.int .i64 fl) := (World.cell?_of_block (a := ⟨w.heap.size + 1 + 1 + 1, 0, none⟩) (Below.heap_alloc w6 _ (w.heap.size + 1 + 1 + 1) (by omega))).trans t0
                have t1' : (w6.alloc (.cells #[.int .i64 fl, .int .i64 (ol + 1)] 2)).cell? ⟨w.heap.size + 1 + 1 + 1, 1, none⟩ = some (.int .i64 fh) := (World.cell?_of_block (a := ⟨w.heap.size + 1 + 1 + 1, 1, none⟩) (Below.heap_alloc w6 _ (w.heap.size + 1 + 1 + 1) (by omega))).trans t1
                have tf0' : (w6.alloc (.cells #[.int .i64 fl, .int .i64 (ol + 1)] 2)).frozen? ⟨w.heap.size + 1 + 1 + 1, 0, none⟩ = false := (World.frozen?_of_block (a := ⟨w.heap.size + 1 + 1 + 1, 0, none⟩) (Below.heap_alloc w6 _ (w.heap.size + 1 + 1 + 1) (by omega))).trans tf0
                have tf1' : (w6.alloc (.cells #[.int .i64 fl, .int .i64 (ol + 1)] 2)).frozen? ⟨w.heap.size + 1 + 1 + 1, 1, none⟩ = false := (World.frozen?_of_block (a := ⟨w.heap.size + 1 + 1 + 1, 1, none⟩) (Below.heap_alloc w6 _ (w.heap.size + 1 + 1 + 1) (by omega))).trans tf1
                have HL6 : Hid (∀ Y : World, Below (w6.alloc (.cells #[.int .i64 fl, .int .i64 (ol + 1)] 2)).heap.size (w6.alloc (.cells #[.int .i64 fl, .int .i64 (ol + 1)] 2)) Y → Calls Try.prog 96 #[.slice (some ⟨w6.heap.size, 0, none⟩) 2 2] Y (Gives Y (.int .i64 mn))) := hide (fun Y hY => by
                  rw [← HMN.out]
                  exact least64_any (some ⟨w6.heap.size, 0, none⟩) [fl, ol + 1] 2 Y ((i64_new w6 [fl, ol + 1] 2 _ rfl).ext hY) (by simp) (by simp) (by simp))
                refine wp_region_noPanic ?_
                refine wp_region_F [12] (DuoIs w5.heap.size (.int .i64 (ol + 1)) (.int .i64 (oh + 1))) (DuoIs (w.heap.size + 1 + 1 + 1) (.int .i64 fl) (.int .i64 fh)) (by kernel_rfl) ?_
                have e0d : DuoIs w5.heap.size (.int .i64 (ol + 1)) (.int .i64 (oh + 1)) w6.drew := ⟨o0, o1⟩
                have e1d : DuoIs (w.heap.size + 1 + 1 + 1) (.int .i64 fl) (.int .i64 fh) w6.drew := ⟨t0, t1⟩
                refine wpAnyF_take0 (i := 0) (v := ?_) rfl rfl (by kernel_rfl) (by kernel_rfl) (by kernel_rfl) (fun _ _ _ h => h) (Or.inl ⟨by rfl, ?_⟩) (by assumption) (fun _ => e1d) ?_
                rotate_left
                · (intro w hSw; obtain ⟨g0, g1⟩ := hSw; go_simp; try with_reducible rfl)
                (try simp only [Act.put, List.getElem_toArray, List.getElem_cons_zero, List.getElem_cons_succ, List.setIfInBounds_toArray, List.set_cons_zero, List.set_cons_succ])
                refine wpAnyF_take1 (i := 1) (v := ?_) rfl rfl (by kernel_rfl) (by kernel_rfl) (by kernel_rfl) (by kernel_rfl) (fun _ _ _ h => h) (Or.inl ⟨by rfl, ?_⟩) (by assumption) (by kernel_rfl) (by assumption) ?_
                rotate_left
                · (intro w hSw; obtain ⟨⟨g0, g1⟩, ⟨g2, g3⟩⟩ := hSw; go_simp; try with_reducible rfl)
                (try simp only [Act.put, List.getElem_toArray, List.getElem_cons_zero, List.getElem_cons_succ, List.setIfInBounds_toArray, List.set_cons_zero, List.set_cons_succ])
                refine wpAnyF_take0 (i := 2) (v := ?_) rfl rfl (by kernel_rfl) (by kernel_rfl) (by kernel_rfl) (fun _ _ _ h => h) (Or.inl ⟨by rfl, ?_⟩) (by assumption) (fun _ => e1d) ?_
                rotate_left
                · (intro w hSw; obtain ⟨g0, g1⟩ := hSw; go_simp; try with_reducible rfl)
                (try simp only [Act.put, List.getElem_toArray, List.getElem_cons_zero, List.getElem_cons_succ, List.setIfInBounds_toArray, List.set_cons_zero, List.set_cons_succ])
                refine wpAnyF_take0 (i := 3) (v := ?_) rfl rfl (by kernel_rfl) (by kernel_rfl) (by kernel_rfl) (fun _ _ _ h => h) (Or.inl ⟨by rfl, ?_⟩) (by assumption) (fun _ => e1d) ?_
                rotate_left
                · (intro w hSw; obtain ⟨g0, g1⟩ := hSw; go_simp; try with_reducible rfl)
                (try simp only [Act.put, List.getElem_toArray, List.getElem_cons_zero, List.getElem_cons_succ, List.setIfInBounds_toArray, List.set_cons_zero, List.set_cons_succ])
                refine wpAnyF_take0 (i := 6) (v := ?_) rfl rfl (by kernel_rfl) (by kernel_rfl) (by kernel_rfl) (fun _ _ _ h => h) (Or.inl ⟨by rfl, ?_⟩) (by assumption) (fun _ => e1d) ?_
                rotate_left
                · (intro w hSw; obtain ⟨g0, g1⟩ := hSw; go_simp; try with_reducible rfl)
                (try simp only [Act.put, List.getElem_toArray, List.getElem_cons_zero, List.getElem_cons_succ, List.setIfInBounds_toArray, List.set_cons_zero, List.set_cons_succ])
                refine wpAnyF_take1 (i := 7) (v := ?_) rfl rfl (by kernel_rfl) (by kernel_rfl) (by kernel_rfl) (by kernel_rfl) (fun _ _ _ h => h) (Or.inl ⟨by rfl, ?_⟩) (by assumption) (by kernel_rfl) (by assumption) ?_
                rotate_left
                · (intro w hSw; obtain ⟨⟨g0, g1⟩, ⟨g2, g3⟩⟩ := hSw; go_simp; try with_reducible rfl)
                (try simp only [Act.put, List.getElem_toArray, List.getElem_cons_zero, List.getElem_cons_succ, List.setIfInBounds_toArray, List.set_cons_zero, List.set_cons_succ])
                refine wpAnyF_take0 (i := 8) (v := ?_) rfl rfl (by kernel_rfl) (by kernel_rfl) (by kernel_rfl) (fun _ _ _ h => h) (Or.inl ⟨by rfl, ?_⟩) (by assumption) (fun _ => e1d) ?_
                rotate_left
                · (intro w hSw; obtain ⟨g0, g1⟩ := hSw; go_simp; try with_reducible rfl)
                (try simp only [Act.put, List.getElem_toArray, List.getElem_cons_zero, List.getElem_cons_succ, List.setIfInBounds_toArray, List.set_cons_zero, List.set_cons_succ])
                refine wpAnyF_take0 (i := 9) (v := ?_) rfl rfl (by kernel_rfl) (by kernel_rfl) (by kernel_rfl) (fun _ _ _ h => h) (Or.inl ⟨by rfl, ?_⟩) (by assumption) (fun _ => e1d) ?_
                rotate_left
                · (intro w hSw; obtain ⟨g0, g1⟩ := hSw; go_simp; try with_reducible rfl)
                (try simp only [Act.put, List.getElem_toArray, List.getElem_cons_zero, List.getElem_cons_succ, List.setIfInBounds_toArray, List.set_cons_zero, List.set_cons_succ])
                refine wpAnyF_take0 (i := 10) (v := ?_) rfl rfl (by kernel_rfl) (by kernel_rfl) (by kernel_rfl) (fun _ _ _ h => h) (Or.inl ⟨by rfl, ?_⟩) (by assumption) (fun _ => e1d) ?_
                rotate_left
                · (intro w hSw; obtain ⟨g0, g1⟩ := hSw; go_simp; try with_reducible rfl)
                (try simp only [Act.put, List.getElem_toArray, List.getElem_cons_zero, List.getElem_cons_succ, List.setIfInBounds_toArray, List.set_cons_zero, List.set_cons_succ])
                have e0e := e0d.ext (below_alloc (Below.refl _ _) (Nat.le_refl _) (.cells #[.int .i64 fl, .int .i64 (ol + 1)] 2))
                have e1e := e1d.ext (below_alloc (Below.refl _ _) (Nat.le_refl _) (.cells #[.int .i64 fl, .int .i64 (ol + 1)] 2))
                refine wpAnyF_one (i := 4) (by kernel_rfl) rfl (fun K' hK => ?_)
                rw [if_pos (by rfl)]
                go_simp
                refine hK.out _ _ (e0e) (fun _ => e1e) (fun _ => ?_)
                clear hK K'
                (try simp only [Act.put, List.getElem_toArray, List.getElem_cons_zero, List.getElem_cons_succ, List.setIfInBounds_toArray, List.set_cons_zero, List.set_cons_succ])
                refine wpAnyF_one (i := 5) (by kernel_rfl) rfl (fun K' hK => ?_)
                rw [if_pos (by rfl)]
                go_simp
                refine (HL6.out _ (by (repeat (first | exact Below.refl _ _ | assumption | refine below_drewN ?_ _ | refine below_drew ?_ | refine below_gr ?_ ?_ _ | refine below_alloc ?_ ?_ _ | refine Below.setCell ?_ ?_ _ | refine below_step ?_ (by assumption) ?_ | omega | (simp only [zz] at *; omega))))).mono ?_; rintro e w7 ⟨rfl, hb7⟩; replace hb7 := ex_below hb7; have hz7 := hb7.size; (try simp only [World.size_alloc, size_drew, size_drewN] at hz7); have hc7 := own_cell hb7 (b := w.heap.size + 1 + 1 + 1) (by (first | omega | (simp only [zz]; omega) | (simp only [zz] at *; omega) | (simp; done) | (simp; omega))); have hf7 := own_frozen hb7 (b := w.heap.size + 1 + 1 + 1) (by (first | omega | (simp only [zz]; omega) | (simp only [zz] at *; omega) | (simp; done) | (simp; omega))); have hd7 := own_cell hb7 (b := w5.heap.size) (by (first | omega | (simp only [zz]; omega) | (simp only [zz] at *; omega) | (simp; done) | (simp; omega))); have hb67 : Below w6.heap.size w6 w7 := (by (repeat (first | exact Below.refl _ _ | assumption | refine below_drewN ?_ _ | refine below_drew ?_ | refine below_gr ?_ ?_ _ | refine below_alloc ?_ ?_ _ | refine Below.setCell ?_ ?_ _ | refine below_step ?_ (by assumption) ?_ | omega | (simp only [zz] at *; omega))))
                have e0f := e0e.ext hb7
                have e1f := e1e.ext hb7
                refine hK.out _ _ (e0f) (fun _ => e1f) (fun _ => ?_)
                clear hK K'
                (try simp only [Act.put, List.getElem_toArray, List.getElem_cons_zero, List.getElem_cons_succ, List.setIfInBounds_toArray, List.set_cons_zero, List.set_cons_succ])
                refine wpAnyF_take0 (i := 11) (v := ?_) rfl rfl (by kernel_rfl) (by kernel_rfl) (by kernel_rfl) (fun _ _ _ h => h) (Or.inl ⟨by rfl, ?_⟩) (by assumption) (fun _ => e1f) ?_
                rotate_left
                · (intro w hSw; obtain ⟨g0, g1⟩ := hSw; go_simp; try with_reducible rfl)
                (try simp only [Act.put, List.getElem_toArray, List.getElem_cons_zero, List.getElem_cons_succ, List.setIfInBounds_toArray, List.set_cons_zero, List.set_cons_succ])
                refine wpAnyF_one (i := 12) (by kernel_rfl) rfl (fun K' hK => ?_)
                rw [if_pos (by rfl)]
                go_simp
                refine hK.out _ _ ((e0f.set (show w5.heap.size ≠ w.heap.size + 1 + 1 + 1 by omega)).set (show w5.heap.size ≠ w.heap.size + 1 + 1 + 1 by omega)) (fun hx => Bool.noConfusion (show false = true from hx)) (fun _ => ?_)
                clear hK K'
                (try simp only [Act.put, List.getElem_toArray, List.getElem_cons_zero, List.getElem_cons_succ, List.setIfInBounds_toArray, List.set_cons_zero, List.set_cons_succ])
                refine wpAnyF_done (by kernel_rfl) ?_ _
                refine NoPanic.normal ?_
                all_goals
                  go_wp2
                  have hB57 : Below w5.heap.size w5 w7 := below_step hB6 hb67 (by omega)
                  have hSx := (hB57.block w.heap.size (by omega)).trans hS5
                  have hZx := (hB57.block (w.heap.size + 1) (by omega)).trans hZ5
                  have hTx := (hB57.block (w.heap.size + 1 + 1 + 1) (by omega)).trans hT5
                  have hpv : pfold W.toNat win l rem (c + 1) = (mn, fh) := by
                    rw [HSTc.out, hhn.out, if_pos rfl]
                    apply Prod.ext
                    · show min fl (ol + (if (c : Int) = win then 1 else 0)) = mn
                      rw [if_pos hcw.out]
                      exact HMN.out
                    · show max fh (oh + (if (c : Int) = win then 1 else 0)) = fh
                      rw [if_pos hcw.out]
                      omega
                  refine ⟨⟨c + 1, by omega, by go_num, (Below.heap_setCell _ _ _ _ (by simp; try omega)).trans ((Below.heap_setCell _ _ _ _ (by simp; try omega)).trans hSx), (Below.heap_setCell _ _ _ _ (by simp; try omega)).trans ((Below.heap_setCell _ _ _ _ (by simp; try omega)).trans hZx), by rw [hpv]; exact set_two hTx, ((hG5.trans (Grown2.below hB57)).set _ (by simp; try omega) _).set _ (by simp; try omega) _, ((hR5.below hB57).set _ _ (by simp; omega) (by simp; omega) HAT.out).set _ _ (by simp; omega) (by simp; omega) HAT.out, ((hp5.below hB57).setCell _ (by simp; omega) _).setCell _ (by simp; omega) _⟩, by simp [intOf]; omega⟩
            · have hcb : ((c : Int) == win) = false := by simpa using hcw
              replace hcw := hide hcw
              go_wp2_with (first | (go_at_call 75; refine (HCc.out _ (hRr2.below hb3)).mono ?_; rintro e w4 ⟨rfl, hg4, hk4⟩; have hz4 := hg4.size; have hto4 : w4.heap[blk]? = some (.cells #[.int .i64 (y0 : Nat), .int .i64 (y1 : Nat), .int .i64 (y2 : Nat), .int .i64 (l : Nat)] 109 (0, 0)) := (hg4.block _ htl (by simp; omega)).trans hto3; have hga4 : wr.grownBy w4 (some M) := grown_trans (grown_none (below_grown hb3)) hg4; have hR4 : Reel R M W A ts cap w4 := hRr2.grown hga4 hk4; have q24 := hR4.mp; have hS4 : w4.heap[w.heap.size]? = _ := (hga4.block _ hbl2 (by simpa using hbne)).trans hbx; have hZ4 : w4.heap[w.heap.size + 1]? = _ := (hga4.block _ hblZ (by simp; omega)).trans hbZ; have hT4 : w4.heap[w.heap.size + 1 + 1 + 1]? = _ := (hga4.block _ hblT (by simp; omega)).trans hbT; have hK4 : (KMap 109 K (goodR W.toNat win (lts ts))) w4 := hKr.kept hga4 (by simp; omega); have hG4 : Grown2 M K w w4 := hGr.trans (Grown2.of hga4 (.inl rfl)); have k0 := obj_at hto4 0 _ rfl; have k1 := obj_at hto4 1 _ rfl; have k2 := obj_at hto4 2 _ rfl; have k3 := obj_at hto4 3 _ rfl; clear hg4 hga4 hk4) | (go_at_call 81; refine (HPc.out _ hR4 hK4).mono ?_; rintro e w5 ⟨rfl, hg5, hk5, hp5⟩; have hz5 := hg5.size; have hR5 : Reel R M W A ts cap w5 := hR4.grown2 hg5 hk5 hRK hAK; have hS5 : w5.heap[w.heap.size]? = _ := (hg5.block _ (by omega) (by omega) (by omega)).trans hS4; have hZ5 : w5.heap[w.heap.size + 1]? = _ := (hg5.block _ (by omega) (by omega) (by omega)).trans hZ4; have hT5 : w5.heap[w.heap.size + 1 + 1 + 1]? = _ := (hg5.block _ (by omega) (by omega) (by omega)).trans hT4; have hG5 : Grown2 M K w w5 := hG4.trans hg5; clear hg5 hk5))
              have hz6 : w5.heap.size < (w5.alloc (.cells #[.int .i64 (ol), .int .i64 (oh)] 47)).heap.size := by simp
              have hB6 : Below w5.heap.size w5 (w5.alloc (.cells #[.int .i64 (ol), .int .i64 (oh)] 47)) := by (repeat (first | exact Below.refl _ _ | assumption | (refine below_gr ?_ (by (first | omega | (simp only [zz] at *; omega))) _) | (refine below_alloc ?_ (by (first | omega | (simp only [zz] at *; omega))) _) | (refine Below.setCell ?_ (by (first | omega | (simp only [zz] at *; omega))) _) | refine below_drewN ?_ _ | refine below_drew ?_ | (refine below_step ?_ (by assumption) (by (first | omega | (simp only [zz] at *; omega))))))
              have hO6 : (w5.alloc (.cells #[.int .i64 (ol), .int .i64 (oh)] 47)).heap[w5.heap.size]? = some (.cells #[.int .i64 (ol), .int .i64 (oh)] 47 (0, 0)) := heap_alloc_new _ _
              obtain ⟨w6, hw6⟩ : ∃ w6, w5.alloc (.cells #[.int .i64 (ol), .int .i64 (oh)] 47) = w6 := ⟨_, rfl⟩
              rw [hw6] at hz6 hB6 hO6 ⊢
              clear hw6
              have hT6 := (hB6.block _ (by omega)).trans hT5
              have t0 := obj_at hT6 0 _ rfl
              have t1 := obj_at hT6 1 _ rfl
              have tf0 := obj_fz hT6 0
              have tf1 := obj_fz hT6 1
              have o0 := obj_at hO6 0 _ rfl
              have o1 := obj_at hO6 1 _ rfl
              have n6 : w6.heap.size ≠ w.heap.size + 1 + 1 + 1 := by omega
              have n7 : w.heap.size + 1 + 1 + 1 ≠ w5.heap.size := by omega
              have n8 : w5.heap.size ≠ w.heap.size + 1 + 1 + 1 := by omega
              obtain ⟨mn, HMN⟩ : ∃ x : Int, Hid (min fl (ol) = x) := ⟨_, hide rfl⟩
              by_cases hmx : fh < oh
              · have hmx2 : ¬ (oh ≤ fh) := by omega
                have t0' : (w6.alloc (.cells #[.int .i64 fl, .int .i64 (ol)] 2)).cell? ⟨w.heap.size + 1 + 1 + 1, 0, none⟩ = some (.int .i64 fl) := (World.cell?_of_block (a := ⟨w.heap.size + 1 + 1 + 1, 0, none⟩) (Below.heap_alloc w6 _ (w.heap.size + 1 + 1 + 1) (by omega))).trans t0
                have t1' : (w6.alloc (.cells #[.int .i64 fl, .int .i64 (ol)] 2)).cell? ⟨w.heap.size + 1 + 1 + 1, 1, none⟩ = some (.int .i64 fh) := (World.cell?_of_block (a := ⟨w.heap.size + 1 + 1 + 1, 1, none⟩) (Below.heap_alloc w6 _ (w.heap.size + 1 + 1 + 1) (by omega))).trans t1
                have tf0' : (w6.alloc (.cells #[.int .i64 fl, .int .i64 (ol)] 2)).frozen? ⟨w.heap.size + 1 + 1 + 1, 0, none⟩ = false := (World.frozen?_of_block (a := ⟨w.heap.size + 1 + 1 + 1, 0, none⟩) (Below.heap_alloc w6 _ (w.heap.size + 1 + 1 + 1) (by omega))).trans tf0
                have tf1' : (w6.alloc (.cells #[.int .i64 fl, .int .i64 (ol)] 2)).frozen? ⟨w.heap.size + 1 + 1 + 1, 1, none⟩ = false := (World.frozen?_of_block (a := ⟨w.heap.size + 1 + 1 + 1, 1, none⟩) (Below.heap_alloc w6 _ (w.heap.size + 1 + 1 + 1) (by omega))).trans tf1
                have HL6 : Hid (∀ Y : World, Below (w6.alloc (.cells #[.int .i64 fl, .int .i64 (ol)] 2)).heap.size (w6.alloc (.cells #[.int .i64 fl, .int .i64 (ol)] 2)) Y → Calls Try.prog 96 #[.slice (some ⟨w6.heap.size, 0, none⟩) 2 2] Y (Gives Y (.int .i64 mn))) := hide (fun Y hY => by
                  rw [← HMN.out]
                  exact least64_any (some ⟨w6.heap.size, 0, none⟩) [fl, ol] 2 Y ((i64_new w6 [fl, ol] 2 _ rfl).ext hY) (by simp) (by simp) (by simp))
                refine wp_region_noPanic ?_
                refine wp_region_F [12] (DuoIs w5.heap.size (.int .i64 (ol)) (.int .i64 (oh))) (DuoIs (w.heap.size + 1 + 1 + 1) (.int .i64 fl) (.int .i64 fh)) (by kernel_rfl) ?_
                have e0d : DuoIs w5.heap.size (.int .i64 (ol)) (.int .i64 (oh)) w6.drew := ⟨o0, o1⟩
                have e1d : DuoIs (w.heap.size + 1 + 1 + 1) (.int .i64 fl) (.int .i64 fh) w6.drew := ⟨t0, t1⟩
                refine wpAnyF_take0 (i := 0) (v := ?_) rfl rfl (by kernel_rfl) (by kernel_rfl) (by kernel_rfl) (fun _ _ _ h => h) (Or.inl ⟨by rfl, ?_⟩) (by assumption) (fun _ => e1d) ?_
                rotate_left
                · (intro w hSw; obtain ⟨g0, g1⟩ := hSw; go_simp; try with_reducible rfl)
                (try simp only [Act.put, List.getElem_toArray, List.getElem_cons_zero, List.getElem_cons_succ, List.setIfInBounds_toArray, List.set_cons_zero, List.set_cons_succ])
                refine wpAnyF_take1 (i := 1) (v := ?_) rfl rfl (by kernel_rfl) (by kernel_rfl) (by kernel_rfl) (by kernel_rfl) (fun _ _ _ h => h) (Or.inl ⟨by rfl, ?_⟩) (by assumption) (by kernel_rfl) (by assumption) ?_
                rotate_left
                · (intro w hSw; obtain ⟨⟨g0, g1⟩, ⟨g2, g3⟩⟩ := hSw; go_simp; try with_reducible rfl)
                (try simp only [Act.put, List.getElem_toArray, List.getElem_cons_zero, List.getElem_cons_succ, List.setIfInBounds_toArray, List.set_cons_zero, List.set_cons_succ])
                refine wpAnyF_take0 (i := 2) (v := ?_) rfl rfl (by kernel_rfl) (by kernel_rfl) (by kernel_rfl) (fun _ _ _ h => h) (Or.inl ⟨by rfl, ?_⟩) (by assumption) (fun _ => e1d) ?_
                rotate_left
                · (intro w hSw; obtain ⟨g0, g1⟩ := hSw; go_simp; try with_reducible rfl)
                (try simp only [Act.put, List.getElem_toArray, List.getElem_cons_zero, List.getElem_cons_succ, List.setIfInBounds_toArray, List.set_cons_zero, List.set_cons_succ])
                refine wpAnyF_take0 (i := 3) (v := ?_) rfl rfl (by kernel_rfl) (by kernel_rfl) (by kernel_rfl) (fun _ _ _ h => h) (Or.inl ⟨by rfl, ?_⟩) (by assumption) (fun _ => e1d) ?_
                rotate_left
                · (intro w hSw; obtain ⟨g0, g1⟩ := hSw; go_simp; try with_reducible rfl)
                (try simp only [Act.put, List.getElem_toArray, List.getElem_cons_zero, List.getElem_cons_succ, List.setIfInBounds_toArray, List.set_cons_zero, List.set_cons_succ])
                refine wpAnyF_take0 (i := 6) (v := ?_) rfl rfl (by kernel_rfl) (by kernel_rfl) (by kernel_rfl) (fun _ _ _ h => h) (Or.inl ⟨by rfl, ?_⟩) (by assumption) (fun _ => e1d) ?_
                rotate_left
                · (intro w hSw; obtain ⟨g0, g1⟩ := hSw; go_simp; try with_reducible rfl)
                (try simp only [Act.put, List.getElem_toArray, List.getElem_cons_zero, List.getElem_cons_succ, List.setIfInBounds_toArray, List.set_cons_zero, List.set_cons_succ])
                refine wpAnyF_take1 (i := 7) (v := ?_) rfl rfl (by kernel_rfl) (by kernel_rfl) (by kernel_rfl) (by kernel_rfl) (fun _ _ _ h => h) (Or.inl ⟨by rfl, ?_⟩) (by assumption) (by kernel_rfl) (by assumption) ?_
                rotate_left
                · (intro w hSw; obtain ⟨⟨g0, g1⟩, ⟨g2, g3⟩⟩ := hSw; go_simp; try with_reducible rfl)
                (try simp only [Act.put, List.getElem_toArray, List.getElem_cons_zero, List.getElem_cons_succ, List.setIfInBounds_toArray, List.set_cons_zero, List.set_cons_succ])
                refine wpAnyF_take0 (i := 8) (v := ?_) rfl rfl (by kernel_rfl) (by kernel_rfl) (by kernel_rfl) (fun _ _ _ h => h) (Or.inl ⟨by rfl, ?_⟩) (by assumption) (fun _ => e1d) ?_
                rotate_left
                · (intro w hSw; obtain ⟨g0, g1⟩ := hSw; go_simp; try with_reducible rfl)
                (try simp only [Act.put, List.getElem_toArray, List.getElem_cons_zero, List.getElem_cons_succ, List.setIfInBounds_toArray, List.set_cons_zero, List.set_cons_succ])
                refine wpAnyF_take0 (i := 9) (v := ?_) rfl rfl (by kernel_rfl) (by kernel_rfl) (by kernel_rfl) (fun _ _ _ h => h) (Or.inl ⟨by rfl, ?_⟩) (by assumption) (fun _ => e1d) ?_
                rotate_left
                · (intro w hSw; obtain ⟨g0, g1⟩ := hSw; go_simp; try with_reducible rfl)
                (try simp only [Act.put, List.getElem_toArray, List.getElem_cons_zero, List.getElem_cons_succ, List.setIfInBounds_toArray, List.set_cons_zero, List.set_cons_succ])
                refine wpAnyF_take0 (i := 10) (v := ?_) rfl rfl (by kernel_rfl) (by kernel_rfl) (by kernel_rfl) (fun _ _ _ h => h) (Or.inl ⟨by rfl, ?_⟩) (by assumption) (fun _ => e1d) ?_
                rotate_left
                · (intro w hSw; obtain ⟨g0, g1⟩ := hSw; go_simp; try with_reducible rfl)
                (try simp only [Act.put, List.getElem_toArray, List.getElem_cons_zero, List.getElem_cons_succ, List.setIfInBounds_toArray, List.set_cons_zero, List.set_cons_succ])
                have e0e := e0d.ext (below_alloc (Below.refl _ _) (Nat.le_refl _) (.cells #[.int .i64 fl, .int .i64 (ol)] 2))
                have e1e := e1d.ext (below_alloc (Below.refl _ _) (Nat.le_refl _) (.cells #[.int .i64 fl, .int .i64 (ol)] 2))
                refine wpAnyF_one (i := 4) (by kernel_rfl) rfl (fun K' hK => ?_)
                rw [if_pos (by rfl)]
                go_simp
                refine hK.out _ _ (e0e) (fun _ => e1e) (fun _ => ?_)
                clear hK K'
                (try simp only [Act.put, List.getElem_toArray, List.getElem_cons_zero, List.getElem_cons_succ, List.setIfInBounds_toArray, List.set_cons_zero, List.set_cons_succ])
                refine wpAnyF_one (i := 5) (by kernel_rfl) rfl (fun K' hK => ?_)
                rw [if_pos (by rfl)]
                go_simp
                refine (HL6.out _ (by (repeat (first | exact Below.refl _ _ | assumption | refine below_drewN ?_ _ | refine below_drew ?_ | refine below_gr ?_ ?_ _ | refine below_alloc ?_ ?_ _ | refine Below.setCell ?_ ?_ _ | refine below_step ?_ (by assumption) ?_ | omega | (simp only [zz] at *; omega))))).mono ?_; rintro e w7 ⟨rfl, hb7⟩; replace hb7 := ex_below hb7; have hz7 := hb7.size; (try simp only [World.size_alloc, size_drew, size_drewN] at hz7); have hc7 := own_cell hb7 (b := w.heap.size + 1 + 1 + 1) (by (first | omega | (simp only [zz]; omega) | (simp only [zz] at *; omega) | (simp; done) | (simp; omega))); have hf7 := own_frozen hb7 (b := w.heap.size + 1 + 1 + 1) (by (first | omega | (simp only [zz]; omega) | (simp only [zz] at *; omega) | (simp; done) | (simp; omega))); have hd7 := own_cell hb7 (b := w5.heap.size) (by (first | omega | (simp only [zz]; omega) | (simp only [zz] at *; omega) | (simp; done) | (simp; omega))); have hb67 : Below w6.heap.size w6 w7 := (by (repeat (first | exact Below.refl _ _ | assumption | refine below_drewN ?_ _ | refine below_drew ?_ | refine below_gr ?_ ?_ _ | refine below_alloc ?_ ?_ _ | refine Below.setCell ?_ ?_ _ | refine below_step ?_ (by assumption) ?_ | omega | (simp only [zz] at *; omega))))
                have e0f := e0e.ext hb7
                have e1f := e1e.ext hb7
                refine hK.out _ _ (e0f) (fun _ => e1f) (fun _ => ?_)
                clear hK K'
                (try simp only [Act.put, List.getElem_toArray, List.getElem_cons_zero, List.getElem_cons_succ, List.setIfInBounds_toArray, List.set_cons_zero, List.set_cons_succ])
                refine wpAnyF_take0 (i := 11) (v := ?_) rfl rfl (by kernel_rfl) (by kernel_rfl) (by kernel_rfl) (fun _ _ _ h => h) (Or.inl ⟨by rfl, ?_⟩) (by assumption) (fun _ => e1f) ?_
                rotate_left
                · (intro w hSw; obtain ⟨g0, g1⟩ := hSw; go_simp; try with_reducible rfl)
                (try simp only [Act.put, List.getElem_toArray, List.getElem_cons_zero, List.getElem_cons_succ, List.setIfInBounds_toArray, List.set_cons_zero, List.set_cons_succ])
                refine wpAnyF_one (i := 12) (by kernel_rfl) rfl (fun K' hK => ?_)
                rw [if_pos (by rfl)]
                go_simp
                refine hK.out _ _ ((e0f.set (show w5.heap.size ≠ w.heap.size + 1 + 1 + 1 by omega)).set (show w5.heap.size ≠ w.heap.size + 1 + 1 + 1 by omega)) (fun hx => Bool.noConfusion (show false = true from hx)) (fun _ => ?_)
                clear hK K'
                (try simp only [Act.put, List.getElem_toArray, List.getElem_cons_zero, List.getElem_cons_succ, List.setIfInBounds_toArray, List.set_cons_zero, List.set_cons_succ])
                refine wpAnyF_done (by kernel_rfl) ?_ _
                refine NoPanic.normal ?_
                all_goals
                  go_wp2
                  have hB57 : Below w5.heap.size w5 w7 := below_step hB6 hb67 (by omega)
                  have hSx := (hB57.block w.heap.size (by omega)).trans hS5
                  have hZx := (hB57.block (w.heap.size + 1) (by omega)).trans hZ5
                  have hTx := (hB57.block (w.heap.size + 1 + 1 + 1) (by omega)).trans hT5
                  have hpv : pfold W.toNat win l rem (c + 1) = (mn, oh) := by
                    rw [HSTc.out, hhn.out, if_pos rfl]
                    apply Prod.ext
                    · show min fl (ol + (if (c : Int) = win then 1 else 0)) = mn
                      rw [if_neg hcw.out, Int.add_zero]
                      exact HMN.out
                    · show max fh (oh + (if (c : Int) = win then 1 else 0)) = oh
                      rw [if_neg hcw.out, Int.add_zero]
                      omega
                  refine ⟨⟨c + 1, by omega, by go_num, (Below.heap_setCell _ _ _ _ (by simp; try omega)).trans ((Below.heap_setCell _ _ _ _ (by simp; try omega)).trans hSx), (Below.heap_setCell _ _ _ _ (by simp; try omega)).trans ((Below.heap_setCell _ _ _ _ (by simp; try omega)).trans hZx), by rw [hpv]; exact set_two hTx, ((hG5.trans (Grown2.below hB57)).set _ (by simp; try omega) _).set _ (by simp; try omega) _, ((hR5.below hB57).set _ _ (by simp; omega) (by simp; omega) HAT.out).set _ _ (by simp; omega) (by simp; omega) HAT.out, ((hp5.below hB57).setCell _ (by simp; omega) _).setCell _ (by simp; omega) _⟩, by simp [intOf]; omega⟩
              · have hmx2 : oh ≤ fh := by omega
                have t0' : (w6.alloc (.cells #[.int .i64 fl, .int .i64 (ol)] 2)).cell? ⟨w.heap.size + 1 + 1 + 1, 0, none⟩ = some (.int .i64 fl) := (World.cell?_of_block (a := ⟨w.heap.size + 1 + 1 + 1, 0, none⟩) (Below.heap_alloc w6 _ (w.heap.size + 1 + 1 + 1) (by omega))).trans t0
                have t1' : (w6.alloc (.cells #[.int .i64 fl, .int .i64 (ol)] 2)).cell? ⟨w.heap.size + 1 + 1 + 1, 1, none⟩ = some (.int .i64 fh) := (World.cell?_of_block (a := ⟨w.heap.size + 1 + 1 + 1, 1, none⟩) (Below.heap_alloc w6 _ (w.heap.size + 1 + 1 + 1) (by omega))).trans t1
                have tf0' : (w6.alloc (.cells #[.int .i64 fl, .int .i64 (ol)] 2)).frozen? ⟨w.heap.size + 1 + 1 + 1, 0, none⟩ = false := (World.frozen?_of_block (a := ⟨w.heap.size + 1 + 1 + 1, 0, none⟩) (Below.heap_alloc w6 _ (w.heap.size + 1 + 1 + 1) (by omega))).trans tf0
                have tf1' : (w6.alloc (.cells #[.int .i64 fl, .int .i64 (ol)] 2)).frozen? ⟨w.heap.size + 1 + 1 + 1, 1, none⟩ = false := (World.frozen?_of_block (a := ⟨w.heap.size + 1 + 1 + 1, 1, none⟩) (Below.heap_alloc w6 _ (w.heap.size + 1 + 1 + 1) (by omega))).trans tf1
                have HL6 : Hid (∀ Y : World, Below (w6.alloc (.cells #[.int .i64 fl, .int .i64 (ol)] 2)).heap.size (w6.alloc (.cells #[.int .i64 fl, .int .i64 (ol)] 2)) Y → Calls Try.prog 96 #[.slice (some ⟨w6.heap.size, 0, none⟩) 2 2] Y (Gives Y (.int .i64 mn))) := hide (fun Y hY => by
                  rw [← HMN.out]
                  exact least64_any (some ⟨w6.heap.size, 0, none⟩) [fl, ol] 2 Y ((i64_new w6 [fl, ol] 2 _ rfl).ext hY) (by simp) (by simp) (by simp))
                refine wp_region_noPanic ?_
                refine wp_region_F [12] (DuoIs w5.heap.size (.int .i64 (ol)) (.int .i64 (oh))) (DuoIs (w.heap.size + 1 + 1 + 1) (.int .i64 fl) (.int .i64 fh)) (by kernel_rfl) ?_
                have e0d : DuoIs w5.heap.size (.int .i64 (ol)) (.int .i64 (oh)) w6.drew := ⟨o0, o1⟩
                have e1d : DuoIs (w.heap.size + 1 + 1 + 1) (.int .i64 fl) (.int .i64 fh) w6.drew := ⟨t0, t1⟩
                refine wpAnyF_take0 (i := 0) (v := ?_) rfl rfl (by kernel_rfl) (by kernel_rfl) (by kernel_rfl) (fun _ _ _ h => h) (Or.inl ⟨by rfl, ?_⟩) (by assumption) (fun _ => e1d) ?_
                rotate_left
                · (intro w hSw; obtain ⟨g0, g1⟩ := hSw; go_simp; try with_reducible rfl)
                (try simp only [Act.put, List.getElem_toArray, List.getElem_cons_zero, List.getElem_cons_succ, List.setIfInBounds_toArray, List.set_cons_zero, List.set_cons_succ])
                refine wpAnyF_take1 (i := 1) (v := ?_) rfl rfl (by kernel_rfl) (by kernel_rfl) (by kernel_rfl) (by kernel_rfl) (fun _ _ _ h => h) (Or.inl ⟨by rfl, ?_⟩) (by assumption) (by kernel_rfl) (by assumption) ?_
                rotate_left
                · (intro w hSw; obtain ⟨⟨g0, g1⟩, ⟨g2, g3⟩⟩ := hSw; go_simp; try with_reducible rfl)
                (try simp only [Act.put, List.getElem_toArray, List.getElem_cons_zero, List.getElem_cons_succ, List.setIfInBounds_toArray, List.set_cons_zero, List.set_cons_succ])
                refine wpAnyF_take0 (i := 2) (v := ?_) rfl rfl (by kernel_rfl) (by kernel_rfl) (by kernel_rfl) (fun _ _ _ h => h) (Or.inl ⟨by rfl, ?_⟩) (by assumption) (fun _ => e1d) ?_
                rotate_left
                · (intro w hSw; obtain ⟨g0, g1⟩ := hSw; go_simp; try with_reducible rfl)
                (try simp only [Act.put, List.getElem_toArray, List.getElem_cons_zero, List.getElem_cons_succ, List.setIfInBounds_toArray, List.set_cons_zero, List.set_cons_succ])
                refine wpAnyF_take0 (i := 3) (v := ?_) rfl rfl (by kernel_rfl) (by kernel_rfl) (by kernel_rfl) (fun _ _ _ h => h) (Or.inl ⟨by rfl, ?_⟩) (by assumption) (fun _ => e1d) ?_
                rotate_left
                · (intro w hSw; obtain ⟨g0, g1⟩ := hSw; go_simp; try with_reducible rfl)
                (try simp only [Act.put, List.getElem_toArray, List.getElem_cons_zero, List.getElem_cons_succ, List.setIfInBounds_toArray, List.set_cons_zero, List.set_cons_succ])
                refine wpAnyF_take0 (i := 6) (v := ?_) rfl rfl (by kernel_rfl) (by kernel_rfl) (by kernel_rfl) (fun _ _ _ h => h) (Or.inl ⟨by rfl, ?_⟩) (by assumption) (fun _ => e1d) ?_
                rotate_left
                · (intro w hSw; obtain ⟨g0, g1⟩ := hSw; go_simp; try with_reducible rfl)
                (try simp only [Act.put, List.getElem_toArray, List.getElem_cons_zero, List.getElem_cons_succ, List.setIfInBounds_toArray, List.set_cons_zero, List.set_cons_succ])
                refine wpAnyF_take1 (i := 7) (v := ?_) rfl rfl (by kernel_rfl) (by kernel_rfl) (by kernel_rfl) (by kernel_rfl) (fun _ _ _ h => h) (Or.inl ⟨by rfl, ?_⟩) (by assumption) (by kernel_rfl) (by assumption) ?_
                rotate_left
                · (intro w hSw; obtain ⟨⟨g0, g1⟩, ⟨g2, g3⟩⟩ := hSw; go_simp; try with_reducible rfl)
                (try simp only [Act.put, List.getElem_toArray, List.getElem_cons_zero, List.getElem_cons_succ, List.setIfInBounds_toArray, List.set_cons_zero, List.set_cons_succ])
                refine wpAnyF_take0 (i := 8) (v := ?_) rfl rfl (by kernel_rfl) (by kernel_rfl) (by kernel_rfl) (fun _ _ _ h => h) (Or.inl ⟨by rfl, ?_⟩) (by assumption) (fun _ => e1d) ?_
                rotate_left
                · (intro w hSw; obtain ⟨g0, g1⟩ := hSw; go_simp; try with_reducible rfl)
                (try simp only [Act.put, List.getElem_toArray, List.getElem_cons_zero, List.getElem_cons_succ, List.setIfInBounds_toArray, List.set_cons_zero, List.set_cons_succ])
                refine wpAnyF_take0 (i := 9) (v := ?_) rfl rfl (by kernel_rfl) (by kernel_rfl) (by kernel_rfl) (fun _ _ _ h => h) (Or.inl ⟨by rfl, ?_⟩) (by assumption) (fun _ => e1d) ?_
                rotate_left
                · (intro w hSw; obtain ⟨g0, g1⟩ := hSw; go_simp; try with_reducible rfl)
                (try simp only [Act.put, List.getElem_toArray, List.getElem_cons_zero, List.getElem_cons_succ, List.setIfInBounds_toArray, List.set_cons_zero, List.set_cons_succ])
                refine wpAnyF_take0 (i := 10) (v := ?_) rfl rfl (by kernel_rfl) (by kernel_rfl) (by kernel_rfl) (fun _ _ _ h => h) (Or.inl ⟨by rfl, ?_⟩) (by assumption) (fun _ => e1d) ?_
                rotate_left
                · (intro w hSw; obtain ⟨g0, g1⟩ := hSw; go_simp; try with_reducible rfl)
                (try simp only [Act.put, List.getElem_toArray, List.getElem_cons_zero, List.getElem_cons_succ, List.setIfInBounds_toArray, List.set_cons_zero, List.set_cons_succ])
                have e0e := e0d.ext (below_alloc (Below.refl _ _) (Nat.le_refl _) (.cells #[.int .i64 fl, .int .i64 (ol)] 2))
                have e1e := e1d.ext (below_alloc (Below.refl _ _) (Nat.le_refl _) (.cells #[.int .i64 fl, .int .i64 (ol)] 2))
                refine wpAnyF_one (i := 4) (by kernel_rfl) rfl (fun K' hK => ?_)
                rw [if_pos (by rfl)]
                go_simp
                refine hK.out _ _ (e0e) (fun _ => e1e) (fun _ => ?_)
                clear hK K'
                (try simp only [Act.put, List.getElem_toArray, List.getElem_cons_zero, List.getElem_cons_succ, List.setIfInBounds_toArray, List.set_cons_zero, List.set_cons_succ])
                refine wpAnyF_one (i := 5) (by kernel_rfl) rfl (fun K' hK => ?_)
                rw [if_pos (by rfl)]
                go_simp
                refine (HL6.out _ (by (repeat (first | exact Below.refl _ _ | assumption | refine below_drewN ?_ _ | refine below_drew ?_ | refine below_gr ?_ ?_ _ | refine below_alloc ?_ ?_ _ | refine Below.setCell ?_ ?_ _ | refine below_step ?_ (by assumption) ?_ | omega | (simp only [zz] at *; omega))))).mono ?_; rintro e w7 ⟨rfl, hb7⟩; replace hb7 := ex_below hb7; have hz7 := hb7.size; (try simp only [World.size_alloc, size_drew, size_drewN] at hz7); have hc7 := own_cell hb7 (b := w.heap.size + 1 + 1 + 1) (by (first | omega | (simp only [zz]; omega) | (simp only [zz] at *; omega) | (simp; done) | (simp; omega))); have hf7 := own_frozen hb7 (b := w.heap.size + 1 + 1 + 1) (by (first | omega | (simp only [zz]; omega) | (simp only [zz] at *; omega) | (simp; done) | (simp; omega))); have hd7 := own_cell hb7 (b := w5.heap.size) (by (first | omega | (simp only [zz]; omega) | (simp only [zz] at *; omega) | (simp; done) | (simp; omega))); have hb67 : Below w6.heap.size w6 w7 := (by (repeat (first | exact Below.refl _ _ | assumption | refine below_drewN ?_ _ | refine below_drew ?_ | refine below_gr ?_ ?_ _ | refine below_alloc ?_ ?_ _ | refine Below.setCell ?_ ?_ _ | refine below_step ?_ (by assumption) ?_ | omega | (simp only [zz] at *; omega))))
                have e0f := e0e.ext hb7
                have e1f := e1e.ext hb7
                refine hK.out _ _ (e0f) (fun _ => e1f) (fun _ => ?_)
                clear hK K'
                (try simp only [Act.put, List.getElem_toArray, List.getElem_cons_zero, List.getElem_cons_succ, List.setIfInBounds_toArray, List.set_cons_zero, List.set_cons_succ])
                refine wpAnyF_take0 (i := 11) (v := ?_) rfl rfl (by kernel_rfl) (by kernel_rfl) (by kernel_rfl) (fun _ _ _ h => h) (Or.inl ⟨by rfl, ?_⟩) (by assumption) (fun _ => e1f) ?_
                rotate_left
                · (intro w hSw; obtain ⟨g0, g1⟩ := hSw; go_simp; try with_reducible rfl)
                (try simp only [Act.put, List.getElem_toArray, List.getElem_cons_zero, List.getElem_cons_succ, List.setIfInBounds_toArray, List.set_cons_zero, List.set_cons_succ])
                refine wpAnyF_one (i := 12) (by kernel_rfl) rfl (fun K' hK => ?_)
                rw [if_pos (by rfl)]
                go_simp
                refine hK.out _ _ ((e0f.set (show w5.heap.size ≠ w.heap.size + 1 + 1 + 1 by omega)).set (show w5.heap.size ≠ w.heap.size + 1 + 1 + 1 by omega)) (fun hx => Bool.noConfusion (show false = true from hx)) (fun _ => ?_)
                clear hK K'
                (try simp only [Act.put, List.getElem_toArray, List.getElem_cons_zero, List.getElem_cons_succ, List.setIfInBounds_toArray, List.set_cons_zero, List.set_cons_succ])
                refine wpAnyF_done (by kernel_rfl) ?_ _
                refine NoPanic.normal ?_
                all_goals
                  go_wp2
                  have hB57 : Below w5.heap.size w5 w7 := below_step hB6 hb67 (by omega)
                  have hSx := (hB57.block w.heap.size (by omega)).trans hS5
                  have hZx := (hB57.block (w.heap.size + 1) (by omega)).trans hZ5
                  have hTx := (hB57.block (w.heap.size + 1 + 1 + 1) (by omega)).trans hT5
                  have hpv : pfold W.toNat win l rem (c + 1) = (mn, fh) := by
                    rw [HSTc.out, hhn.out, if_pos rfl]
                    apply Prod.ext
                    · show min fl (ol + (if (c : Int) = win then 1 else 0)) = mn
                      rw [if_neg hcw.out, Int.add_zero]
                      exact HMN.out
                    · show max fh (oh + (if (c : Int) = win then 1 else 0)) = fh
                      rw [if_neg hcw.out, Int.add_zero]
                      omega
                  refine ⟨⟨c + 1, by omega, by go_num, (Below.heap_setCell _ _ _ _ (by simp; try omega)).trans ((Below.heap_setCell _ _ _ _ (by simp; try omega)).trans hSx), (Below.heap_setCell _ _ _ _ (by simp; try omega)).trans ((Below.heap_setCell _ _ _ _ (by simp; try omega)).trans hZx), by rw [hpv]; exact set_two hTx, ((hG5.trans (Grown2.below hB57)).set _ (by simp; try omega) _).set _ (by simp; try omega) _, ((hR5.below hB57).set _ _ (by simp; omega) (by simp; omega) HAT.out).set _ _ (by simp; omega) (by simp; omega) HAT.out, ((hp5.below hB57).setCell _ (by simp; omega) _).setCell _ (by simp; omega) _⟩, by simp [intOf]; omega⟩
      · have hcW : c = W.toNat := by omega
        subst hcW
        have hfb := HFB.out W.toNat
        have HP3 := HPUT2.out
        rw [HPF.out] at HP3
        obtain ⟨fl, fh, HPFE⟩ : ∃ fl fh : Int, Hid (pfold W.toNat win l rem W.toNat = (fl, fh)) := ⟨_, _, hide rfl⟩
        rw [HPFE.out] at hbT hfb HP3
        simp only at hbT hfb HP3
        obtain ⟨w5, hr5, hk5, hg5⟩ := HP3 wr hKr
        replace HP3 := hide HP3
        have hz5 := hg5.size
        have hS5 : w5.heap[w.heap.size]? = _ := (hg5.block _ hbl2 (by simp; omega)).trans hbx
        have hZ5 : w5.heap[w.heap.size + 1]? = _ := (hg5.block _ hblZ (by simp; omega)).trans hbZ
        have hT5 : w5.heap[w.heap.size + 1 + 1 + 1]? = _ := (hg5.block _ hblT (by simp; omega)).trans hbT
        have u0 := obj_at hbT 0 _ rfl
        have u1 := obj_at hbT 1 _ rfl
        have t0 := obj_at hT5 0 _ rfl
        have t1 := obj_at hT5 1 _ rfl
        have z0 := obj_at hZ5 0 _ rfl
        have z1 := obj_at hZ5 1 _ rfl
        have y0 := obj_fz hZ5 0
        have y1 := obj_fz hZ5 1
        go_wp2
        rw [HPF.out, HPFE.out]
        have s0 := set_obj hZ5 0 (.int .i64 fl)
        have s1 := set_obj s0 1 (.int .i64 fh)
        have k0 := obj_at s1 0 (.int .i64 fl) rfl
        have k1 := obj_at s1 1 (.int .i64 fh) rfl
        have hR5 : Reel R M W A ts cap w5 := hRr2.grown2 (Grown2.of hg5 (.inr rfl)) (hRr2.km.kept hg5 (by simp; omega)) hRK hAK
        refine bodyPost_ret (v := .agg #[.int .i64 fl, .int .i64 fh]) (by simp [results, Try.results81, go_sem, k0, k1]) rfl ⟨rfl, ((hGr.trans (Grown2.of hg5 (.inr rfl))).set _ (by simp) _).set _ (by simp) _, (hR5.km.setCell _ (by simp; omega) _).setCell _ (by simp; omega) _, (hk5.setCell _ (by simp; omega) _).setCell _ (by simp; omega) _⟩
theorem pulls_any (R M : Nat) (W : Int) (A : Option Addr) (ts : List ByteArray) (cap : Nat) (h3 : ts.length ≤ 3) (hf : Fine ts) (hs : Small ts) (hW : 1 ≤ W ∧ W ≤ 5) (win : Int) (K : Nat) (hKM : K ≠ M) (hRK : R ≠ K) (hAK : ∀ (k : Nat) (s : ByteArray), ts[k]? = some s → ∃ b o, A = some ⟨b, o, none⟩ ∧ b ≠ K) : ∀ (l : Nat), l ≤ 20 → ∀ (p : List Nat) (w : World), Tm.IsPl (lts ts) p → Reel R M W A ts cap w → (KMap 109 K (goodR W.toNat win (lts ts))) w → Calls Try.prog 81 #[.pointer (some ⟨R, 0, none⟩), stV p l, .int .i64 win, .map (some K)] w (Gives2 w M K (fun w' => (KMap 109 M (goodC W.toNat (lts ts))) w' ∧ (KMap 109 K (goodR W.toNat win (lts ts))) w') (rngV (Tm.pullsP W.toNat win l (Tm.remP (lts ts) p))))
  | 0, _, p, w, hp, hR, hK => pulls_zero R M W A ts cap h3 hf hs hW win K hKM hRK hAK p w hp hR hK
  | l + 1, hl, p, w, hp, hR, hK => pulls_succ R M W A ts cap h3 hf hs hW win K hKM hRK hAK l hl (fun p w hp hR hK => pulls_any R M W A ts cap h3 hf hs hW win K hKM hRK hAK l (by omega) p w hp hR hK) p w hp hR hK
end Go.Proofs.Ytafncmgijbkomaa
