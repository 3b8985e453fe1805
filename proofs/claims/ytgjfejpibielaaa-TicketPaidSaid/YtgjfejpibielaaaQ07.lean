/- Proved here: how numbers lie in memory; whether all are within bounds; which days are valid, a part of the proofs about the ticket laws. Conditions: those that each theorem names, no others. -/
import Derived.Test.YtgjfejpibielaaaQ03
import Derived.WalkKit
import Derived.WalkSpells
import Derived.WalkLawsBesides
import Derived.Below
import Derived.Deep.QuietTactic
import Derived.BigQuiet
import Derived.Deep.Light
import Derived.Test.YtgjfejpibielaaaQ05
set_option linter.unusedSimpArgs false
set_option linter.unusedVariables false
namespace Go.Proofs.Ytgjfejpibielaaa
open Go.RowKit
theorem heap_a (w : World) (o o' : Obj) : ((w.alloc o).alloc o').heap[w.heap.size]? = some o := by
 rw [Below.heap_alloc _ _ _ (by simp)]; exact heap_alloc_new w o
theorem heap_b (w : World) (o o' : Obj) : ((w.alloc o).alloc o').heap[w.heap.size + 1]? = some o' := by
 have := heap_alloc_new (w.alloc o) o'
 simpa using this
theorem set_obj {W : World} {B : Nat} {t : TypeId} {cs : Array Value} (h : W.heap[B]? = some (.cells cs t (0, 0))) (k : Nat) (v : Value) : (W.setCell ⟨B, k, none⟩ v).heap[B]? = some (.cells (cs.setIfInBounds k v) t (0, 0)) :=
 heap_setCell_same W B k cs t v h
theorem obj_at {W : World} {B : Nat} {t : TypeId} {cs : Array Value} (h : W.heap[B]? = some (.cells cs t (0, 0))) (k : Nat) (v : Value) (hk : cs[k]? = some v) : W.cell? ⟨B, k, none⟩ = some v := by
 simp [World.cell?, h, hk]
theorem obj_fz {W : World} {B : Nat} {t : TypeId} {cs : Array Value} (h : W.heap[B]? = some (.cells cs t (0, 0))) (k : Nat) : W.frozen? ⟨B, k, none⟩ = false := by
 simp [World.frozen?, h]
theorem obj_lt {W : World} {B : Nat} {o : Obj} (h : W.heap[B]? = some o) : B < W.heap.size := (Array.getElem?_eq_some_iff.1 h).1
/-- a block of cells -/
def BlkAt (w : World) (b : Nat) (cs : Array Value) (t : TypeId) : Prop := w.heap[b]? = some (.cells cs t (0, 0))
theorem BlkAt.ext {w w' : World} {b : Nat} {cs : Array Value} {t : TypeId} (h : BlkAt w b cs t) (hb : Below w.heap.size w w') : BlkAt w' b cs t := (hb.block _ (obj_lt h)).trans h
theorem boxed (w : World) (cs : Array Value) (t : TypeId) : ∃ wa, w.alloc (.cells cs t) = wa ∧ Below w.heap.size w wa ∧ BlkAt wa w.heap.size cs t := ⟨_, rfl, below_alloc (Below.refl _ _) (Nat.le_refl _) _, heap_alloc_new _ _⟩
theorem below_grown {X Y : World} (h : Below X.heap.size X Y) : X.grownBy Y none := ⟨h.1, h.2, h.3, h.size, fun k hk _ => h.block k hk⟩
/-- a slice of numbers, as it reads -/
def I64 (w : World) (A : Option Addr) (xs : List Int) : Prop :=
 ∀ k x, xs[k]? = some x → ∃ b off, A = some ⟨b, off, none⟩ ∧ b < w.heap.size ∧ b ≤ w.heap.size ∧ w.cell? ⟨b, off + k, none⟩ = some (.int .i64 x)
theorem I64.ext {w w' : World} {A : Option Addr} {ps : List Int} (h : I64 w A ps) (hb : Below w.heap.size w w') : I64 w' A ps := fun k p hk => by
 obtain ⟨b, off, h0, h1, h2, h3⟩ := h k p hk
 have hs := hb.size
 exact ⟨b, off, h0, by omega, by omega, (hb.cell (p := ⟨b, _, none⟩) h1).trans h3⟩
theorem I64.at {w : World} {b o : Nat} {xs : List Int} (h : I64 w (some ⟨b, o, none⟩) xs) {k : Nat} (hk : k < xs.length) : w.cell? ⟨b, o + k, none⟩ = some (.int .i64 xs[k]) := by
 obtain ⟨b', o', he, _, _, h0⟩ := h k xs[k] (by simp [hk])
 injection he with he
 injection he with e1 e2 _
 subst e1 e2
 exact h0
theorem I64.form {w : World} {A : Option Addr} {xs : List Int} (h : I64 w A xs) (hk : 0 < xs.length) : ∃ b o, A = some ⟨b, o, none⟩ ∧ b < w.heap.size := by
 obtain ⟨b, o, he, hl, _⟩ := h 0 xs[0] (by simp)
 exact ⟨b, o, he, hl⟩
theorem i64_new (w : World) (xs : List Int) (t : TypeId) (n : Nat) (hn : n = w.heap.size) : I64 (w.alloc (.cells (xs.map (Value.int .i64)).toArray t)) (some ⟨n, 0, none⟩) xs := by
 intro k x hk
 subst hn
 refine ⟨_, 0, rfl, by simp, by simp, ?_⟩
 rw [World.cell?_alloc_at _ _ _ _ rfl, Nat.zero_add]
 simp [hk]
def outB (lo hi n : Int) : Bool := decide (n < lo) || decide (hi < n)
def withinB (lo hi : Int) (l : List Int) : Bool := !(l.any (outB lo hi))
def idxI {α : Type} (f : α → Bool) (l : List α) : Int := match l.findIdx? f with | some i => (i : Int) | none => -1
theorem idxI_ge {α : Type} (f : α → Bool) (l : List α) : decide (0 ≤ idxI f l) = l.any f := by
 unfold idxI
 cases h : l.findIdx? f with
 | none => rw [List.findIdx?_eq_none_iff] at h; simp; intro x hx; simpa using h x hx
 | some i =>
   have := (List.findIdx?_isSome (xs := l) (p := f)).symm
   rw [h] at this
   simp at this ⊢
   exact this
theorem idxI_at {α : Type} (f : α → Bool) (l : List α) (k : Nat) (h : k < l.length) (hn : (l.take k).all (fun x => !f x) = true) (hk : f l[k] = true) : idxI f l = k := by
 have : l.findIdx? f = some k := by
  rw [List.findIdx?_eq_some_iff_getElem]
  refine ⟨h, hk, fun j hj => ?_⟩
  rw [List.all_eq_true] at hn
  have := hn l[j] (List.mem_take_iff_getElem.2 ⟨j, by omega, rfl⟩)
  simpa using this
 unfold idxI; rw [this]
theorem idxI_none {α : Type} (f : α → Bool) (l : List α) (hn : l.all (fun x => !f x) = true) : idxI f l = -1 := by
 have : l.findIdx? f = none := by
  rw [List.findIdx?_eq_none_iff]
  intro x hx
  rw [List.all_eq_true] at hn
  simpa using hn x hx
 unfold idxI; rw [this]
set_option maxRecDepth 100000 in
set_option maxHeartbeats 1000000 in
theorem within1_any (n lo hi : Int) (b1 b2 : Nat) (w : World) (h1 : w.cell? ⟨b1, 0, none⟩ = some (.int .i64 lo)) (h2 : w.cell? ⟨b2, 0, none⟩ = some (.int .i64 hi)) :
 Calls Try.prog 85 #[.int .i64 n, .pointer (some ⟨b1, 0, none⟩), .pointer (some ⟨b2, 0, none⟩)] w (Gives w (.bool (outB lo hi n))) := by
 go_enter Try.func85, Try.ntmps85
 go_wp2
 all_goals
  go_ret
  exact gives_of (v_bool (by unfold outB; simp_all <;> omega)) (by (repeat (first | exact Below.refl _ _ | assumption | refine below_drewN ?_ _ | refine below_drew ?_ | refine below_gr ?_ ?_ _ | refine below_alloc ?_ ?_ _ | refine Below.setCell ?_ ?_ _ | refine below_step ?_ (by assumption) ?_ | omega | (simp only [zz] at *; omega))))
set_option maxRecDepth 100000 in
set_option maxHeartbeats 1000000 in
theorem indexW_any (T : Option Addr) (xs : List Int) (d : Nat) (lo hi : Int) (b1 b2 : Nat) (w : World) (hT : I64 w T xs) (hx : xs.length ≤ 1000) (hb1 : b1 < w.heap.size) (hb2 : b2 < w.heap.size) (h1 : w.cell? ⟨b1, 0, none⟩ = some (.int .i64 lo)) (h2 : w.cell? ⟨b2, 0, none⟩ = some (.int .i64 hi)) :
 Calls Try.prog 95 #[.slice T xs.length d, .func (.func 85) #[] #[.pointer (some ⟨b1, 0, none⟩), .pointer (some ⟨b2, 0, none⟩)]] w (Gives w (.int .i64 (idxI (outB lo hi) xs))) := by
 go_enter Try.func95, Try.ntmps95
 go_wp2
 go_loopw [8] (fun i wr => ∃ k : Nat, k ≤ xs.length ∧ i = .int .i64 k ∧ (xs.take k).all (fun x => !outB lo hi x) = true ∧ Grew w wr) (fun i _ => xs.length - (intOf i).toNat)
 case atStart => exact ⟨0, Nat.zero_le _, rfl, rfl, grew_refl _⟩
 case round =>
  obtain ⟨k, hk, rfl, hall, hb⟩ := hrel
  replace hb := hb.below
  have hzr := hb.size
  (try simp only [zz] at hzr)
  have hltr : ∀ b, b < w.heap.size → b < wr.heap.size := fun b hb => (by (first | omega | (simp only [zz] at *; omega)))
  have hcr : ∀ b o, b < w.heap.size → wr.cell? ⟨b, o, none⟩ = w.cell? ⟨b, o, none⟩ := old_cell (by (repeat (first | exact Below.refl _ _ | assumption | refine below_drewN ?_ _ | refine below_drew ?_ | refine below_gr ?_ ?_ _ | refine below_alloc ?_ ?_ _ | refine Below.setCell ?_ ?_ _ | refine below_step ?_ (by assumption) ?_ | omega | (simp only [zz] at *; omega))))
  by_cases hlt : k < xs.length
  · obtain ⟨tb, toff, rfl, htl, htl2, ht0⟩ := hT k xs[k] (by simp [hlt])
    have HG := hide (all_good (f := fun x => !outB lo hi x) hlt hall)
    have HI := hide (idxI_at (outB lo hi) xs k hlt hall)
    clear hall
    generalize xs[k] = x at *
    go_wp2_with (go_at_call 85; refine (within1_any x lo hi b1 b2 _ ((hcr _ _ hb1).trans h1) ((hcr _ _ hb2).trans h2)).mono ?_; rintro e w1 ⟨rfl, hb1⟩; replace hb1 := ex_below hb1; have hz1 := hb1.size; (try simp only [zz] at hz1); have hlt1 : ∀ b, b < w.heap.size → b < w1.heap.size := fun b hb => (by (first | omega | (simp only [zz] at *; omega))); have hc1 : ∀ b o, b < w.heap.size → w1.cell? ⟨b, o, none⟩ = w.cell? ⟨b, o, none⟩ := old_cell (by (repeat (first | exact Below.refl _ _ | assumption | refine below_drewN ?_ _ | refine below_drew ?_ | refine below_gr ?_ ?_ _ | refine below_alloc ?_ ?_ _ | refine Below.setCell ?_ ?_ _ | refine below_step ?_ (by assumption) ?_ | omega | (simp only [zz] at *; omega)))))
    · go_ret
      exact gives_of (v_int (HI.out (by assumption)).symm) (by (repeat (first | exact Below.refl _ _ | assumption | refine below_drewN ?_ _ | refine below_drew ?_ | refine below_gr ?_ ?_ _ | refine below_alloc ?_ ?_ _ | refine Below.setCell ?_ ?_ _ | refine below_step ?_ (by assumption) ?_ | omega | (simp only [zz] at *; omega))))
    · exact ⟨⟨k + 1, by omega, by go_num, HG.out (by simp_all), grew_of (by (repeat (first | exact Below.refl _ _ | assumption | refine below_drewN ?_ _ | refine below_drew ?_ | refine below_gr ?_ ?_ _ | refine below_alloc ?_ ?_ _ | refine Below.setCell ?_ ?_ _ | refine below_step ?_ (by assumption) ?_ | omega | (simp only [zz] at *; omega))))⟩, by simp [intOf]; omega⟩
  · have hkl : k = xs.length := by omega
    subst hkl
    have H2 := hide (idxI_none (outB lo hi) xs (by simpa using hall))
    clear hall
    go_wp2
    go_ret
    exact gives_of (v_int H2.out.symm) (by (repeat (first | exact Below.refl _ _ | assumption | refine below_drewN ?_ _ | refine below_drew ?_ | refine below_gr ?_ ?_ _ | refine below_alloc ?_ ?_ _ | refine Below.setCell ?_ ?_ _ | refine below_step ?_ (by assumption) ?_ | omega | (simp only [zz] at *; omega))))
set_option maxRecDepth 100000 in
set_option maxHeartbeats 1000000 in
theorem containsW_any (T : Option Addr) (xs : List Int) (d : Nat) (lo hi : Int) (b1 b2 : Nat) (w : World) (hT : I64 w T xs) (hx : xs.length ≤ 1000) (hb1 : b1 < w.heap.size) (hb2 : b2 < w.heap.size) (h1 : w.cell? ⟨b1, 0, none⟩ = some (.int .i64 lo)) (h2 : w.cell? ⟨b2, 0, none⟩ = some (.int .i64 hi)) :
 Calls Try.prog 84 #[.slice T xs.length d, .func (.func 85) #[] #[.pointer (some ⟨b1, 0, none⟩), .pointer (some ⟨b2, 0, none⟩)]] w (Gives w (.bool (xs.any (outB lo hi)))) := by
 go_enter Try.func84, Try.ntmps84
 go_wp2_with (go_at_call 95; refine (indexW_any T xs d lo hi b1 b2 _ hT hx hb1 hb2 h1 h2).mono ?_; rintro e w1 ⟨rfl, hb1⟩; replace hb1 := ex_below hb1; have hz1 := hb1.size; (try simp only [zz] at hz1); have hlt1 : ∀ b, b < w.heap.size → b < w1.heap.size := fun b hb => (by (first | omega | (simp only [zz] at *; omega))); have hc1 : ∀ b o, b < w.heap.size → w1.cell? ⟨b, o, none⟩ = w.cell? ⟨b, o, none⟩ := old_cell (by (repeat (first | exact Below.refl _ _ | assumption | refine below_drewN ?_ _ | refine below_drew ?_ | refine below_gr ?_ ?_ _ | refine below_alloc ?_ ?_ _ | refine Below.setCell ?_ ?_ _ | refine below_step ?_ (by assumption) ?_ | omega | (simp only [zz] at *; omega)))))
 go_ret
 exact gives_of (v_bool (idxI_ge _ _)) (by (repeat (first | exact Below.refl _ _ | assumption | refine below_drewN ?_ _ | refine below_drew ?_ | refine below_gr ?_ ?_ _ | refine below_alloc ?_ ?_ _ | refine Below.setCell ?_ ?_ _ | refine below_step ?_ (by assumption) ?_ | omega | (simp only [zz] at *; omega))))
set_option maxRecDepth 100000 in
set_option maxHeartbeats 1000000 in
theorem within_any (lo hi : Int) (T : Option Addr) (xs : List Int) (d : Nat) (w : World) (hT : I64 w T xs) (hx : xs.length ≤ 1000) :
 Calls Try.prog 65 #[.int .i64 lo, .int .i64 hi, .slice T xs.length d] w (Gives w (.bool (withinB lo hi xs))) := by
 go_enter Try.func65, Try.ntmps65
 go_wp2_with (go_at_call 84; refine (containsW_any T xs d lo hi _ _ _ (hT.ext (by (repeat (first | exact Below.refl _ _ | assumption | refine below_drewN ?_ _ | refine below_drew ?_ | refine below_gr ?_ ?_ _ | refine below_alloc ?_ ?_ _ | refine Below.setCell ?_ ?_ _ | refine below_step ?_ (by assumption) ?_ | omega | (simp only [zz] at *; omega))))) hx (by (first | omega | (simp only [zz]; omega) | (simp only [zz] at *; omega) | (simp; done) | (simp; omega))) (by (first | omega | (simp only [zz]; omega) | (simp only [zz] at *; omega) | (simp; done) | (simp; omega))) (by simp [go_sem]) (by simp [go_sem])).mono ?_; rintro e w1 ⟨rfl, hb1⟩; replace hb1 := ex_below hb1; have hz1 := hb1.size; (try simp only [zz] at hz1); have hlt1 : ∀ b, b < w.heap.size → b < w1.heap.size := fun b hb => (by (first | omega | (simp only [zz] at *; omega))); have hc1 : ∀ b o, b < w.heap.size → w1.cell? ⟨b, o, none⟩ = w.cell? ⟨b, o, none⟩ := old_cell (by (repeat (first | exact Below.refl _ _ | assumption | refine below_drewN ?_ _ | refine below_drew ?_ | refine below_gr ?_ ?_ _ | refine below_alloc ?_ ?_ _ | refine Below.setCell ?_ ?_ _ | refine below_step ?_ (by assumption) ?_ | omega | (simp only [zz] at *; omega)))))
 go_ret
 exact gives_of (rfl) (by (repeat (first | exact Below.refl _ _ | assumption | refine below_drewN ?_ _ | refine below_drew ?_ | refine below_gr ?_ ?_ _ | refine below_alloc ?_ ?_ _ | refine Below.setCell ?_ ?_ _ | refine below_step ?_ (by assumption) ?_ | omega | (simp only [zz] at *; omega))))
/-- which days are valid -/
def chkDay (L n : Int) (K : List Int) (r : Int) : Int :=
 if (withinB 2 6 [L] && withinB 2 8 [n]) = false then 2 else if (K.length : Int) ≠ n then 15 else if (withinB 0 (L - 1) K && withinB 0 (L - 1) [r]) = false then 3 else 0
end Go.Proofs.Ytgjfejpibielaaa
namespace Go.Proofs.Ytgjfejpibielaaa
open Go.RowKit
theorem within_L {L : Int} (h : withinB 2 6 [L] = true) : 2 ≤ L ∧ L ≤ 6 := by simp [withinB, outB] at h; omega
theorem within_n {n : Int} (h : withinB 2 8 [n] = true) : 2 ≤ n ∧ n ≤ 8 := by simp [withinB, outB] at h; omega
set_option maxRecDepth 100000 in
set_option maxHeartbeats 1000000 in
theorem checkDay_any (L n : Int) (A : Option Addr) (K : List Int) (c : Nat) (r : Int) (w : World) (hA : I64 w A K) (hx : K.length ≤ 1000) : Calls Try.prog 24 #[.agg #[.int .i64 L, .int .i64 n, .slice A K.length c, .int .i64 r]] w (Gives w (.int .i64 (chkDay L n K r))) := by
 have HV := hide (show chkDay L n K r = if (withinB 2 6 [L] && withinB 2 8 [n]) = false then 2 else if (K.length : Int) ≠ n then 15 else if (withinB 0 (L - 1) K && withinB 0 (L - 1) [r]) = false then 3 else 0 from rfl)
 have HA1 := hide (fun T w' (h : I64 w' T [L]) => within_any 2 6 T [L] 1 w' h (by simp))
 have HA2 := hide (fun T w' (h : I64 w' T [n]) => within_any 2 8 T [n] 1 w' h (by simp))
 have HA3 := hide (fun w' (h : I64 w' A K) => within_any 0 (L - 1) A K c w' h hx)
 have HA4 := hide (fun T w' (h : I64 w' T [r]) => within_any 0 (L - 1) T [r] 1 w' h (by simp))
 have hx2 : (K.length : Int) ≤ 1000 := by omega
 clear hx
 have HLb := hide (@within_L L)
 rw [HV.out]
 generalize withinB 2 6 [L] = b1 at *
 generalize withinB 2 8 [n] = b2 at *
 generalize withinB 0 (L - 1) K = b3 at *
 generalize withinB 0 (L - 1) [r] = b4 at *
 clear HV
 cases b1
 · clear HLb
   have tok0 : True := trivial
   go_enter Try.func24, Try.ntmps24
   go_upto_region 1 with fail
   obtain ⟨wa, hwa, hW, hX⟩ := boxed w #[.int .i64 L, .int .i64 n, .slice A K.length c, .int .i64 r] 24
   rw [hwa]
   clear hwa
   replace hA := hA.ext hW
   (try clear hXc0 hXc1 hXc2 hXc3 hXf hXl)
   have hXc0 := obj_at hX 0 _ rfl
   have hXc1 := obj_at hX 1 _ rfl
   have hXc2 := obj_at hX 2 _ rfl
   have hXc3 := obj_at hX 3 _ rfl
   have hXf := obj_fz hX 0
   have hXl := obj_lt hX
   go_wp2_with (first
 | (clear tok0; go_at_call 65; refine (HA1.out _ _ (i64_new _ [L] _ _ (by simp))).mono ?_; rintro e u1 ⟨rfl, hb_u1⟩; replace hb_u1 := ex_below hb_u1; have bel_u1 : Below wa.heap.size wa u1 := (by (repeat (first | exact Below.refl _ _ | assumption | refine below_drewN ?_ _ | refine below_drew ?_ | refine below_gr ?_ ?_ _ | refine below_alloc ?_ ?_ _ | refine Below.setCell ?_ ?_ _ | refine below_step ?_ (by assumption) ?_ | omega | (simp only [zz] at *; omega)))); clear hb_u1; have sz_u1 := bel_u1.size; replace hA := hA.ext bel_u1; replace hX := hX.ext bel_u1; replace hW := below_step hW bel_u1 (by have := hW.size; omega); (try clear hXc0 hXc1 hXc2 hXc3 hXf hXl); have hXc0 := obj_at hX 0 _ rfl; have hXc1 := obj_at hX 1 _ rfl; have hXc2 := obj_at hX 2 _ rfl; have hXc3 := obj_at hX 3 _ rfl; have hXf := obj_fz hX 0; have hXl := obj_lt hX; clear bel_u1; have tok1 : True := trivial))
   go_ret
   exact gives_of rfl hW
 · have hL := HLb.out rfl
   clear HLb
   cases b2
   · have tok0 : True := trivial
     go_enter Try.func24, Try.ntmps24
     go_upto_region 1 with fail
     obtain ⟨wa, hwa, hW, hX⟩ := boxed w #[.int .i64 L, .int .i64 n, .slice A K.length c, .int .i64 r] 24
     rw [hwa]
     clear hwa
     replace hA := hA.ext hW
     (try clear hXc0 hXc1 hXc2 hXc3 hXf hXl)
     have hXc0 := obj_at hX 0 _ rfl
     have hXc1 := obj_at hX 1 _ rfl
     have hXc2 := obj_at hX 2 _ rfl
     have hXc3 := obj_at hX 3 _ rfl
     have hXf := obj_fz hX 0
     have hXl := obj_lt hX
     go_wp2_with (first
 | (clear tok0; go_at_call 65; refine (HA1.out _ _ (i64_new _ [L] _ _ (by simp))).mono ?_; rintro e u1 ⟨rfl, hb_u1⟩; replace hb_u1 := ex_below hb_u1; have bel_u1 : Below wa.heap.size wa u1 := (by (repeat (first | exact Below.refl _ _ | assumption | refine below_drewN ?_ _ | refine below_drew ?_ | refine below_gr ?_ ?_ _ | refine below_alloc ?_ ?_ _ | refine Below.setCell ?_ ?_ _ | refine below_step ?_ (by assumption) ?_ | omega | (simp only [zz] at *; omega)))); clear hb_u1; have sz_u1 := bel_u1.size; replace hA := hA.ext bel_u1; replace hX := hX.ext bel_u1; replace hW := below_step hW bel_u1 (by have := hW.size; omega); (try clear hXc0 hXc1 hXc2 hXc3 hXf hXl); have hXc0 := obj_at hX 0 _ rfl; have hXc1 := obj_at hX 1 _ rfl; have hXc2 := obj_at hX 2 _ rfl; have hXc3 := obj_at hX 3 _ rfl; have hXf := obj_fz hX 0; have hXl := obj_lt hX; clear bel_u1; have tok1 : True := trivial)
 | (clear tok1; go_at_call 65; refine (HA2.out _ _ (i64_new _ [n] _ _ (by simp))).mono ?_; rintro e u2 ⟨rfl, hb_u2⟩; replace hb_u2 := ex_below hb_u2; have bel_u2 : Below u1.heap.size u1 u2 := (by (repeat (first | exact Below.refl _ _ | assumption | refine below_drewN ?_ _ | refine below_drew ?_ | refine below_gr ?_ ?_ _ | refine below_alloc ?_ ?_ _ | refine Below.setCell ?_ ?_ _ | refine below_step ?_ (by assumption) ?_ | omega | (simp only [zz] at *; omega)))); clear hb_u2; have sz_u2 := bel_u2.size; replace hA := hA.ext bel_u2; replace hX := hX.ext bel_u2; replace hW := below_step hW bel_u2 (by have := hW.size; omega); (try clear hXc0 hXc1 hXc2 hXc3 hXf hXl); have hXc0 := obj_at hX 0 _ rfl; have hXc1 := obj_at hX 1 _ rfl; have hXc2 := obj_at hX 2 _ rfl; have hXc3 := obj_at hX 3 _ rfl; have hXf := obj_fz hX 0; have hXl := obj_lt hX; clear bel_u2; have tok2 : True := trivial))
     go_ret
     exact gives_of rfl hW
   · by_cases hk : (K.length : Int) = n
     · have hkn : ((K.length : Int) != n) = false := by simpa using hk
       have HR := hide (show (if (true && true) = false then (2 : Int) else if (K.length : Int) ≠ n then 15 else if (b3 && b4) = false then 3 else 0) = if (b3 && b4) = false then 3 else 0 by simp [hk])
       rw [HR.out]
       clear hk HR
       cases b3
       · have tok0 : True := trivial
         go_enter Try.func24, Try.ntmps24
         go_upto_region 1 with fail
         obtain ⟨wa, hwa, hW, hX⟩ := boxed w #[.int .i64 L, .int .i64 n, .slice A K.length c, .int .i64 r] 24
         rw [hwa]
         clear hwa
         replace hA := hA.ext hW
         (try clear hXc0 hXc1 hXc2 hXc3 hXf hXl)
         have hXc0 := obj_at hX 0 _ rfl
         have hXc1 := obj_at hX 1 _ rfl
         have hXc2 := obj_at hX 2 _ rfl
         have hXc3 := obj_at hX 3 _ rfl
         have hXf := obj_fz hX 0
         have hXl := obj_lt hX
         go_wp2_with (first
 | (clear tok0; go_at_call 65; refine (HA1.out _ _ (i64_new _ [L] _ _ (by simp))).mono ?_; rintro e u1 ⟨rfl, hb_u1⟩; replace hb_u1 := ex_below hb_u1; have bel_u1 : Below wa.heap.size wa u1 := (by (repeat (first | exact Below.refl _ _ | assumption | refine below_drewN ?_ _ | refine below_drew ?_ | refine below_gr ?_ ?_ _ | refine below_alloc ?_ ?_ _ | refine Below.setCell ?_ ?_ _ | refine below_step ?_ (by assumption) ?_ | omega | (simp only [zz] at *; omega)))); clear hb_u1; have sz_u1 := bel_u1.size; replace hA := hA.ext bel_u1; replace hX := hX.ext bel_u1; replace hW := below_step hW bel_u1 (by have := hW.size; omega); (try clear hXc0 hXc1 hXc2 hXc3 hXf hXl); have hXc0 := obj_at hX 0 _ rfl; have hXc1 := obj_at hX 1 _ rfl; have hXc2 := obj_at hX 2 _ rfl; have hXc3 := obj_at hX 3 _ rfl; have hXf := obj_fz hX 0; have hXl := obj_lt hX; clear bel_u1; have tok1 : True := trivial)
 | (clear tok1; go_at_call 65; refine (HA2.out _ _ (i64_new _ [n] _ _ (by simp))).mono ?_; rintro e u2 ⟨rfl, hb_u2⟩; replace hb_u2 := ex_below hb_u2; have bel_u2 : Below u1.heap.size u1 u2 := (by (repeat (first | exact Below.refl _ _ | assumption | refine below_drewN ?_ _ | refine below_drew ?_ | refine below_gr ?_ ?_ _ | refine below_alloc ?_ ?_ _ | refine Below.setCell ?_ ?_ _ | refine below_step ?_ (by assumption) ?_ | omega | (simp only [zz] at *; omega)))); clear hb_u2; have sz_u2 := bel_u2.size; replace hA := hA.ext bel_u2; replace hX := hX.ext bel_u2; replace hW := below_step hW bel_u2 (by have := hW.size; omega); (try clear hXc0 hXc1 hXc2 hXc3 hXf hXl); have hXc0 := obj_at hX 0 _ rfl; have hXc1 := obj_at hX 1 _ rfl; have hXc2 := obj_at hX 2 _ rfl; have hXc3 := obj_at hX 3 _ rfl; have hXf := obj_fz hX 0; have hXl := obj_lt hX; clear bel_u2; have tok2 : True := trivial)
 | (clear tok2; go_at_call 65; refine (HA3.out _ (hA.ext (by (repeat (first | exact Below.refl _ _ | assumption | refine below_drewN ?_ _ | refine below_drew ?_ | refine below_gr ?_ ?_ _ | refine below_alloc ?_ ?_ _ | refine Below.setCell ?_ ?_ _ | refine below_step ?_ (by assumption) ?_ | omega | (simp only [zz] at *; omega)))))).mono ?_; rintro e u3 ⟨rfl, hb_u3⟩; replace hb_u3 := ex_below hb_u3; have bel_u3 : Below u2.heap.size u2 u3 := (by (repeat (first | exact Below.refl _ _ | assumption | refine below_drewN ?_ _ | refine below_drew ?_ | refine below_gr ?_ ?_ _ | refine below_alloc ?_ ?_ _ | refine Below.setCell ?_ ?_ _ | refine below_step ?_ (by assumption) ?_ | omega | (simp only [zz] at *; omega)))); clear hb_u3; have sz_u3 := bel_u3.size; replace hA := hA.ext bel_u3; replace hX := hX.ext bel_u3; replace hW := below_step hW bel_u3 (by have := hW.size; omega); (try clear hXc0 hXc1 hXc2 hXc3 hXf hXl); have hXc0 := obj_at hX 0 _ rfl; have hXc1 := obj_at hX 1 _ rfl; have hXc2 := obj_at hX 2 _ rfl; have hXc3 := obj_at hX 3 _ rfl; have hXf := obj_fz hX 0; have hXl := obj_lt hX; clear bel_u3; have tok3 : True := trivial))
         go_ret
         exact gives_of rfl hW
       · cases b4
         all_goals
          have tok0 : True := trivial
          go_enter Try.func24, Try.ntmps24
          go_upto_region 1 with fail
          obtain ⟨wa, hwa, hW, hX⟩ := boxed w #[.int .i64 L, .int .i64 n, .slice A K.length c, .int .i64 r] 24
          rw [hwa]
          clear hwa
          replace hA := hA.ext hW
          (try clear hXc0 hXc1 hXc2 hXc3 hXf hXl)
          have hXc0 := obj_at hX 0 _ rfl
          have hXc1 := obj_at hX 1 _ rfl
          have hXc2 := obj_at hX 2 _ rfl
          have hXc3 := obj_at hX 3 _ rfl
          have hXf := obj_fz hX 0
          have hXl := obj_lt hX
          go_wp2_with (first
 | (clear tok0; go_at_call 65; refine (HA1.out _ _ (i64_new _ [L] _ _ (by simp))).mono ?_; rintro e u1 ⟨rfl, hb_u1⟩; replace hb_u1 := ex_below hb_u1; have bel_u1 : Below wa.heap.size wa u1 := (by (repeat (first | exact Below.refl _ _ | assumption | refine below_drewN ?_ _ | refine below_drew ?_ | refine below_gr ?_ ?_ _ | refine below_alloc ?_ ?_ _ | refine Below.setCell ?_ ?_ _ | refine below_step ?_ (by assumption) ?_ | omega | (simp only [zz] at *; omega)))); clear hb_u1; have sz_u1 := bel_u1.size; replace hA := hA.ext bel_u1; replace hX := hX.ext bel_u1; replace hW := below_step hW bel_u1 (by have := hW.size; omega); (try clear hXc0 hXc1 hXc2 hXc3 hXf hXl); have hXc0 := obj_at hX 0 _ rfl; have hXc1 := obj_at hX 1 _ rfl; have hXc2 := obj_at hX 2 _ rfl; have hXc3 := obj_at hX 3 _ rfl; have hXf := obj_fz hX 0; have hXl := obj_lt hX; clear bel_u1; have tok1 : True := trivial)
 | (clear tok1; go_at_call 65; refine (HA2.out _ _ (i64_new _ [n] _ _ (by simp))).mono ?_; rintro e u2 ⟨rfl, hb_u2⟩; replace hb_u2 := ex_below hb_u2; have bel_u2 : Below u1.heap.size u1 u2 := (by (repeat (first | exact Below.refl _ _ | assumption | refine below_drewN ?_ _ | refine below_drew ?_ | refine below_gr ?_ ?_ _ | refine below_alloc ?_ ?_ _ | refine Below.setCell ?_ ?_ _ | refine below_step ?_ (by assumption) ?_ | omega | (simp only [zz] at *; omega)))); clear hb_u2; have sz_u2 := bel_u2.size; replace hA := hA.ext bel_u2; replace hX := hX.ext bel_u2; replace hW := below_step hW bel_u2 (by have := hW.size; omega); (try clear hXc0 hXc1 hXc2 hXc3 hXf hXl); have hXc0 := obj_at hX 0 _ rfl; have hXc1 := obj_at hX 1 _ rfl; have hXc2 := obj_at hX 2 _ rfl; have hXc3 := obj_at hX 3 _ rfl; have hXf := obj_fz hX 0; have hXl := obj_lt hX; clear bel_u2; have tok2 : True := trivial)
 | (clear tok2; go_at_call 65; refine (HA3.out _ (hA.ext (by (repeat (first | exact Below.refl _ _ | assumption | refine below_drewN ?_ _ | refine below_drew ?_ | refine below_gr ?_ ?_ _ | refine below_alloc ?_ ?_ _ | refine Below.setCell ?_ ?_ _ | refine below_step ?_ (by assumption) ?_ | omega | (simp only [zz] at *; omega)))))).mono ?_; rintro e u3 ⟨rfl, hb_u3⟩; replace hb_u3 := ex_below hb_u3; have bel_u3 : Below u2.heap.size u2 u3 := (by (repeat (first | exact Below.refl _ _ | assumption | refine below_drewN ?_ _ | refine below_drew ?_ | refine below_gr ?_ ?_ _ | refine below_alloc ?_ ?_ _ | refine Below.setCell ?_ ?_ _ | refine below_step ?_ (by assumption) ?_ | omega | (simp only [zz] at *; omega)))); clear hb_u3; have sz_u3 := bel_u3.size; replace hA := hA.ext bel_u3; replace hX := hX.ext bel_u3; replace hW := below_step hW bel_u3 (by have := hW.size; omega); (try clear hXc0 hXc1 hXc2 hXc3 hXf hXl); have hXc0 := obj_at hX 0 _ rfl; have hXc1 := obj_at hX 1 _ rfl; have hXc2 := obj_at hX 2 _ rfl; have hXc3 := obj_at hX 3 _ rfl; have hXf := obj_fz hX 0; have hXl := obj_lt hX; clear bel_u3; have tok3 : True := trivial)
 | (clear tok3; go_at_call 65; refine (HA4.out _ _ (i64_new _ [r] _ _ (by simp))).mono ?_; rintro e u4 ⟨rfl, hb_u4⟩; replace hb_u4 := ex_below hb_u4; have bel_u4 : Below u3.heap.size u3 u4 := (by (repeat (first | exact Below.refl _ _ | assumption | refine below_drewN ?_ _ | refine below_drew ?_ | refine below_gr ?_ ?_ _ | refine below_alloc ?_ ?_ _ | refine Below.setCell ?_ ?_ _ | refine below_step ?_ (by assumption) ?_ | omega | (simp only [zz] at *; omega)))); clear hb_u4; have sz_u4 := bel_u4.size; replace hA := hA.ext bel_u4; replace hX := hX.ext bel_u4; replace hW := below_step hW bel_u4 (by have := hW.size; omega); (try clear hXc0 hXc1 hXc2 hXc3 hXf hXl); have hXc0 := obj_at hX 0 _ rfl; have hXc1 := obj_at hX 1 _ rfl; have hXc2 := obj_at hX 2 _ rfl; have hXc3 := obj_at hX 3 _ rfl; have hXf := obj_fz hX 0; have hXl := obj_lt hX; clear bel_u4; have tok4 : True := trivial))
          go_ret
          exact gives_of rfl hW
     · have hkn : ((K.length : Int) != n) = true := by simpa using hk
       have HR := hide (show (if (true && true) = false then (2 : Int) else if (K.length : Int) ≠ n then 15 else if (b3 && b4) = false then 3 else 0) = 15 by simp [hk])
       rw [HR.out]
       clear hk HR
       have tok0 : True := trivial
       go_enter Try.func24, Try.ntmps24
       go_upto_region 1 with fail
       obtain ⟨wa, hwa, hW, hX⟩ := boxed w #[.int .i64 L, .int .i64 n, .slice A K.length c, .int .i64 r] 24
       rw [hwa]
       clear hwa
       replace hA := hA.ext hW
       (try clear hXc0 hXc1 hXc2 hXc3 hXf hXl)
       have hXc0 := obj_at hX 0 _ rfl
       have hXc1 := obj_at hX 1 _ rfl
       have hXc2 := obj_at hX 2 _ rfl
       have hXc3 := obj_at hX 3 _ rfl
       have hXf := obj_fz hX 0
       have hXl := obj_lt hX
       go_wp2_with (first
 | (clear tok0; go_at_call 65; refine (HA1.out _ _ (i64_new _ [L] _ _ (by simp))).mono ?_; rintro e u1 ⟨rfl, hb_u1⟩; replace hb_u1 := ex_below hb_u1; have bel_u1 : Below wa.heap.size wa u1 := (by (repeat (first | exact Below.refl _ _ | assumption | refine below_drewN ?_ _ | refine below_drew ?_ | refine below_gr ?_ ?_ _ | refine below_alloc ?_ ?_ _ | refine Below.setCell ?_ ?_ _ | refine below_step ?_ (by assumption) ?_ | omega | (simp only [zz] at *; omega)))); clear hb_u1; have sz_u1 := bel_u1.size; replace hA := hA.ext bel_u1; replace hX := hX.ext bel_u1; replace hW := below_step hW bel_u1 (by have := hW.size; omega); (try clear hXc0 hXc1 hXc2 hXc3 hXf hXl); have hXc0 := obj_at hX 0 _ rfl; have hXc1 := obj_at hX 1 _ rfl; have hXc2 := obj_at hX 2 _ rfl; have hXc3 := obj_at hX 3 _ rfl; have hXf := obj_fz hX 0; have hXl := obj_lt hX; clear bel_u1; have tok1 : True := trivial)
 | (clear tok1; go_at_call 65; refine (HA2.out _ _ (i64_new _ [n] _ _ (by simp))).mono ?_; rintro e u2 ⟨rfl, hb_u2⟩; replace hb_u2 := ex_below hb_u2; have bel_u2 : Below u1.heap.size u1 u2 := (by (repeat (first | exact Below.refl _ _ | assumption | refine below_drewN ?_ _ | refine below_drew ?_ | refine below_gr ?_ ?_ _ | refine below_alloc ?_ ?_ _ | refine Below.setCell ?_ ?_ _ | refine below_step ?_ (by assumption) ?_ | omega | (simp only [zz] at *; omega)))); clear hb_u2; have sz_u2 := bel_u2.size; replace hA := hA.ext bel_u2; replace hX := hX.ext bel_u2; replace hW := below_step hW bel_u2 (by have := hW.size; omega); (try clear hXc0 hXc1 hXc2 hXc3 hXf hXl); have hXc0 := obj_at hX 0 _ rfl; have hXc1 := obj_at hX 1 _ rfl; have hXc2 := obj_at hX 2 _ rfl; have hXc3 := obj_at hX 3 _ rfl; have hXf := obj_fz hX 0; have hXl := obj_lt hX; clear bel_u2; have tok2 : True := trivial))
       go_ret
       exact gives_of rfl hW
end Go.Proofs.Ytgjfejpibielaaa
