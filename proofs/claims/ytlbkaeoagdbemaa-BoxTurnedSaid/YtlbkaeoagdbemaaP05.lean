/- Proved here: how cards, tickets and sheets lie in memory; numbers within bounds; which cards are valid, a part of the proofs about the box laws. Conditions: those that each theorem names, no others. -/
import Derived.Test.YtlbkaeoagdbemaaP01
import Derived.WalkKit
import Derived.WalkSpells
import Derived.WalkLawsBesides
import Derived.Below
import Derived.Deep.QuietTactic
import Derived.BigQuiet
import Derived.Deep.Light
import Derived.Test.YtlbkaeoagdbemaaP02
import Derived.Test.YtlbkaeoagdbemaaP04
set_option linter.unusedSimpArgs false
set_option linter.unusedVariables false
namespace Go.Proofs.Ytlbkaeoagdbemaa
open Go.RowKit
/-- a slice of integers, as it reads -/
def I64 (w : World) (A : Option Addr) (xs : List Int) : Prop :=
  ∀ k x, xs[k]? = some x → ∃ b off, A = some ⟨b, off, none⟩ ∧ b < w.heap.size ∧ b ≤ w.heap.size ∧ w.cell? ⟨b, off + k, none⟩ = some (.int .i64 x)
theorem I64.ext {w w' : World} {A : Option Addr} {ps : List Int} (h : I64 w A ps) (hb : Below w.heap.size w w') : I64 w' A ps := fun k p hk => by
  obtain ⟨b, off, h0, h1, h2, h3⟩ := h k p hk
  have hs := hb.size
  exact ⟨b, off, h0, by omega, by omega, (hb.cell (p := ⟨b, _, none⟩) h1).trans h3⟩
theorem I64.at {w : World} {b o : Nat} {xs : List Int} (h : I64 w (some ⟨b, o, none⟩) xs) {k : Nat} (hk : k < xs.length) : w.cell? ⟨b, o + k, none⟩ = some (.int .i64 xs[k]) := by
  obtain ⟨b', o', he, _, _, h0⟩ := h k xs[k] (by simp [hk])
  injection he with he
  injection he with e1 e2 _
  subst e1 e2
  exact h0
theorem I64.form {w : World} {A : Option Addr} {xs : List Int} (h : I64 w A xs) (hk : 0 < xs.length) : ∃ b o, A = some ⟨b, o, none⟩ ∧ b < w.heap.size := by
  obtain ⟨b, o, he, hl, _⟩ := h 0 xs[0] (by simp)
  exact ⟨b, o, he, hl⟩
theorem i64_new (w : World) (xs : List Int) (t : TypeId) (n : Nat) (hn : n = w.heap.size) : I64 (w.alloc (.cells (xs.map (Value.int .i64)).toArray t)) (some ⟨n, 0, none⟩) xs := by
  intro k x hk
  subst hn
  refine ⟨_, 0, rfl, by simp, by simp, ?_⟩
  rw [World.cell?_alloc_at _ _ _ _ rfl, Nat.zero_add]
  simp [hk]
theorem I64.nil (w : World) (A : Option Addr) : I64 w A [] := fun k x hk => by simp at hk
/-- a ticket as it comes: its sets, its units -/
abbrev Tz := List Int × Int
/-- a slice of tickets, as it reads -/
def Tks (w : World) (A : Option Addr) (ts : List Tz) : Prop :=
  ∀ k t, ts[k]? = some t → ∃ b off S c, A = some ⟨b, off, none⟩ ∧ b < w.heap.size ∧ w.cell? ⟨b, off + k * 2, none⟩ = some (.slice S t.1.length c) ∧ w.cell? ⟨b, off + k * 2 + 1, none⟩ = some (.int .i64 t.2) ∧ t.1.length ≤ c ∧ I64 w S t.1
theorem Tks.ext {w w' : World} {A : Option Addr} {ts : List Tz} (h : Tks w A ts) (hb : Below w.heap.size w w') : Tks w' A ts := fun k t hk => by
  obtain ⟨b, off, S, c, h0, h1, h2, h3, h4, h5⟩ := h k t hk
  have hs := hb.size
  exact ⟨b, off, S, c, h0, by omega, (hb.cell (p := ⟨b, _, none⟩) h1).trans h2, (hb.cell (p := ⟨b, _, none⟩) h1).trans h3, h4, h5.ext hb⟩
theorem Tks.form {w : World} {A : Option Addr} {ts : List Tz} (h : Tks w A ts) (hk : 0 < ts.length) : ∃ b o, A = some ⟨b, o, none⟩ ∧ b < w.heap.size := by
  obtain ⟨b, o, _, _, he, hl, _⟩ := h 0 ts[0] (by simp)
  exact ⟨b, o, he, hl⟩
theorem Tks.at {w : World} {b o : Nat} {ts : List Tz} (h : Tks w (some ⟨b, o, none⟩) ts) {k : Nat} (hk : k < ts.length) :
    ∃ S c, w.cell? ⟨b, o + k * 2, none⟩ = some (.slice S ts[k].1.length c) ∧ w.cell? ⟨b, o + k * 2 + 1, none⟩ = some (.int .i64 ts[k].2) ∧ ts[k].1.length ≤ c ∧ I64 w S ts[k].1 := by
  obtain ⟨b', o', S, c, he, _, h0, h1, h2, h3⟩ := h k ts[k] (by simp [hk])
  injection he with he
  injection he with e1 e2 _
  subst e1 e2
  exact ⟨S, c, h0, h1, h2, h3⟩
theorem Tks.nil (w : World) (A : Option Addr) : Tks w A [] := fun k x hk => by simp at hk
theorem heap_a (w : World) (o o' : Obj) : ((w.alloc o).alloc o').heap[w.heap.size]? = some o := by
  rw [Below.heap_alloc _ _ _ (by simp)]; exact heap_alloc_new w o
theorem heap_b (w : World) (o o' : Obj) : ((w.alloc o).alloc o').heap[w.heap.size + 1]? = some o' := by
  have := heap_alloc_new (w.alloc o) o'
  simpa using this
theorem set_obj {W : World} {B : Nat} {t : TypeId} {cs : Array Value} (h : W.heap[B]? = some (.cells cs t (0, 0))) (k : Nat) (v : Value) : (W.setCell ⟨B, k, none⟩ v).heap[B]? = some (.cells (cs.setIfInBounds k v) t (0, 0)) :=
  heap_setCell_same W B k cs t v h
theorem obj_at {W : World} {B : Nat} {t : TypeId} {cs : Array Value} (h : W.heap[B]? = some (.cells cs t (0, 0))) (k : Nat) (v : Value) (hk : cs[k]? = some v) : W.cell? ⟨B, k, none⟩ = some v := by
  simp [World.cell?, h, hk]
theorem obj_fz {W : World} {B : Nat} {t : TypeId} {cs : Array Value} (h : W.heap[B]? = some (.cells cs t (0, 0))) (k : Nat) : W.frozen? ⟨B, k, none⟩ = false := by
  simp [World.frozen?, h]
theorem obj_lt {W : World} {B : Nat} {o : Obj} (h : W.heap[B]? = some o) : B < W.heap.size := (Array.getElem?_eq_some_iff.1 h).1
/-- the card and the tickets of a sheet -/
def SheetAt (w : World) (s : Nat) (A : Option Addr) (R : List Int) (c : Nat) (B : Option Addr) (ts : List Tz) (d : Nat) : Prop :=
  w.cell? ⟨s, 0, none⟩ = some (.slice A R.length c) ∧ w.cell? ⟨s, 1, none⟩ = some (.slice B ts.length d) ∧ s < w.heap.size ∧ I64 w A R ∧ Tks w B ts
theorem SheetAt.ext {w w' : World} {s : Nat} {A B : Option Addr} {R : List Int} {c d : Nat} {ts : List Tz} (h : SheetAt w s A R c B ts d) (hb : Below w.heap.size w w') : SheetAt w' s A R c B ts d :=
  ⟨(hb.cell (p := ⟨s, _, none⟩) h.2.2.1).trans h.1, (hb.cell (p := ⟨s, _, none⟩) h.2.2.1).trans h.2.1, Nat.lt_of_lt_of_le h.2.2.1 hb.size, h.2.2.2.1.ext hb, h.2.2.2.2.ext hb⟩
/-- what a call comes to that hands back a slice of numbers of its own -/
def GivesI (w : World) (xs : List Int) (e : Ending) (w' : World) : Prop := ∃ A c, e = .returned (.slice A xs.length c) ∧ (∃ g, w' = w.grow g) ∧ I64 w' A xs ∧ xs.length ≤ c ∧ ∀ b o, A = some ⟨b, o, none⟩ → w.heap.size ≤ b
/-- the same, with the number of an error -/
def GivesIE (w : World) (xs : List Int) (er : Int) (e : Ending) (w' : World) : Prop := ∃ A c, e = .returned (.tuple #[.slice A xs.length c, .int .i64 er]) ∧ (∃ g, w' = w.grow g) ∧ I64 w' A xs ∧ xs.length ≤ c
/-- numbers as integers -/
def zs (l : List Nat) : List Int := l.map (fun n : Nat => (n : Int))
def tz (ts : List Bm.Tk) : List Tz := ts.map fun t => (zs t.1, (t.2 : Int))
theorem zs_len (l : List Nat) : (zs l).length = l.length := by simp [zs]
theorem tz_len (l : List Bm.Tk) : (tz l).length = l.length := by simp [tz]
theorem zs_at (l : List Nat) (k : Nat) (h : k < l.length) : (zs l)[k]'(by rw [zs_len]; exact h) = (l[k] : Int) := by simp [zs]
theorem tz_at (l : List Bm.Tk) (k : Nat) (h : k < l.length) : (tz l)[k]'(by rw [tz_len]; exact h) = (zs l[k].1, (l[k].2 : Int)) := by simp [tz]
end Go.Proofs.Ytlbkaeoagdbemaa
namespace Go.Proofs.Ytlbkaeoagdbemaa
open Go.RowKit
def outB (lo hi n : Int) : Bool := decide (n < lo) || decide (hi < n)
def withinB (lo hi : Int) (l : List Int) : Bool := !(l.any (outB lo hi))
def idxI {α : Type} (f : α → Bool) (l : List α) : Int := match l.findIdx? f with | some i => (i : Int) | none => -1
theorem idxI_ge {α : Type} (f : α → Bool) (l : List α) : decide (0 ≤ idxI f l) = l.any f := by
  unfold idxI
  cases h : l.findIdx? f with
  | none => rw [List.findIdx?_eq_none_iff] at h; simp; intro x hx; simpa using h x hx
  | some i => 
    have := (List.findIdx?_isSome (xs := l) (p := f)).symm
    rw [h] at this
    simp at this ⊢
    exact this
theorem idxI_at {α : Type} (f : α → Bool) (l : List α) (k : Nat) (h : k < l.length) (hn : (l.take k).all (fun x => !f x) = true) (hk : f l[k] = true) : idxI f l = k := by
  have : l.findIdx? f = some k := by
    rw [List.findIdx?_eq_some_iff_getElem]
    refine ⟨h, hk, fun j hj => ?_⟩
    rw [List.all_eq_true] at hn
    have := hn l[j] (List.mem_take_iff_getElem.2 ⟨j, by omega, rfl⟩)
    simpa using this
  unfold idxI; rw [this]
theorem idxI_none {α : Type} (f : α → Bool) (l : List α) (hn : l.all (fun x => !f x) = true) : idxI f l = -1 := by
  have : l.findIdx? f = none := by
    rw [List.findIdx?_eq_none_iff]
    intro x hx
    rw [List.all_eq_true] at hn
    simpa using hn x hx
  unfold idxI; rw [this]

set_option maxRecDepth 100000 in
set_option maxHeartbeats 1000000 in
theorem within1_any (n lo hi : Int) (b1 b2 : Nat) (w : World) (h1 : w.cell? ⟨b1, 0, none⟩ = some (.int .i64 lo)) (h2 : w.cell? ⟨b2, 0, none⟩ = some (.int .i64 hi)) :
    Calls Try.prog 81 #[.int .i64 n, .pointer (some ⟨b1, 0, none⟩), .pointer (some ⟨b2, 0, none⟩)] w (Gives w (.bool (outB lo hi n))) := by
  go_enter Try.func81, Try.ntmps81
  go_wp2
  all_goals
    go_ret
    exact gives_of (v_bool (by unfold outB; simp_all <;> omega)) (by (repeat (first | exact Below.refl _ _ | assumption | refine below_drewN ?_ _ | refine below_drew ?_ | refine below_gr ?_ ?_ _ | refine below_alloc ?_ ?_ _ | refine Below.setCell ?_ ?_ _ | refine below_step ?_ (by assumption) ?_ | omega | (simp only [zz] at *; omega))))

set_option maxRecDepth 100000 in
set_option maxHeartbeats 1000000 in
theorem indexW_any (T : Option Addr) (xs : List Int) (d : Nat) (lo hi : Int) (b1 b2 : Nat) (w : World) (hT : I64 w T xs) (hx : xs.length ≤ 1000000) (hb1 : b1 < w.heap.size) (hb2 : b2 < w.heap.size) (h1 : w.cell? ⟨b1, 0, none⟩ = some (.int .i64 lo)) (h2 : w.cell? ⟨b2, 0, none⟩ = some (.int .i64 hi)) :
    Calls Try.prog 96 #[.slice T xs.length d, .func (.func 81) #[] #[.pointer (some ⟨b1, 0, none⟩), .pointer (some ⟨b2, 0, none⟩)]] w (Gives w (.int .i64 (idxI (outB lo hi) xs))) := by
  go_enter Try.func96, Try.ntmps96
  go_wp2
  go_loopw [8] (fun i wr => ∃ k : Nat, k ≤ xs.length ∧ i = .int .i64 k ∧ (xs.take k).all (fun x => !outB lo hi x) = true ∧ Grew w wr) (fun i _ => xs.length - (intOf i).toNat)
  case atStart => exact ⟨0, Nat.zero_le _, rfl, rfl, grew_refl _⟩
  case round =>
    obtain ⟨k, hk, rfl, hall, hb⟩ := hrel
    replace hb := hb.below
    have hzr := hb.size
    (try simp only [zz] at hzr)
    have hltr : ∀ b, b < w.heap.size → b < wr.heap.size := fun b hb => (by (first | omega | (simp only [zz] at *; omega)))
    have hcr : ∀ b o, b < w.heap.size → wr.cell? ⟨b, o, none⟩ = w.cell? ⟨b, o, none⟩ := old_cell (by (repeat (first | exact Below.refl _ _ | assumption | refine below_drewN ?_ _ | refine below_drew ?_ | refine below_gr ?_ ?_ _ | refine below_alloc ?_ ?_ _ | refine Below.setCell ?_ ?_ _ | refine below_step ?_ (by assumption) ?_ | omega | (simp only [zz] at *; omega))))
    by_cases hlt : k < xs.length
    · obtain ⟨tb, toff, rfl, htl, htl2, ht0⟩ := hT k xs[k] (by simp [hlt])
      have HG := hide (all_good (f := fun x => !outB lo hi x) hlt hall)
      have HI := hide (idxI_at (outB lo hi) xs k hlt hall)
      clear hall
      generalize xs[k] = x at *
      go_wp2_with (go_at_call 81; refine (within1_any x lo hi b1 b2 _ ((hcr _ _ hb1).trans h1) ((hcr _ _ hb2).trans h2)).mono ?_; rintro e w1 ⟨rfl, hb1⟩; replace hb1 := ex_below hb1; have hz1 := hb1.size; (try simp only [zz] at hz1); have hlt1 : ∀ b, b < w.heap.size → b < w1.heap.size := fun b hb => (by (first | omega | (simp only [zz] at *; omega))); have hc1 : ∀ b o, b < w.heap.size → w1.cell? ⟨b, o, none⟩ = w.cell? ⟨b, o, none⟩ := old_cell (by (repeat (first | exact Below.refl _ _ | assumption | refine below_drewN ?_ _ | refine below_drew ?_ | refine below_gr ?_ ?_ _ | refine below_alloc ?_ ?_ _ | refine Below.setCell ?_ ?_ _ | refine below_step ?_ (by assumption) ?_ | omega | (simp only [zz] at *; omega)))))
      · go_ret
        exact gives_of (v_int (HI.out (by assumption)).symm) (by (repeat (first | exact Below.refl _ _ | assumption | refine below_drewN ?_ _ | refine below_drew ?_ | refine below_gr ?_ ?_ _ | refine below_alloc ?_ ?_ _ | refine Below.setCell ?_ ?_ _ | refine below_step ?_ (by assumption) ?_ | omega | (simp only [zz] at *; omega))))
      · exact ⟨⟨k + 1, by omega, by go_num, HG.out (by simp_all), grew_of (by (repeat (first | exact Below.refl _ _ | assumption | refine below_drewN ?_ _ | refine below_drew ?_ | refine below_gr ?_ ?_ _ | refine below_alloc ?_ ?_ _ | refine Below.setCell ?_ ?_ _ | refine below_step ?_ (by assumption) ?_ | omega | (simp only [zz] at *; omega))))⟩, by simp [intOf]; omega⟩
    · have hkl : k = xs.length := by omega
      subst hkl
      have H2 := hide (idxI_none (outB lo hi) xs (by simpa using hall))
      clear hall
      go_wp2
      go_ret
      exact gives_of (v_int H2.out.symm) (by (repeat (first | exact Below.refl _ _ | assumption | refine below_drewN ?_ _ | refine below_drew ?_ | refine below_gr ?_ ?_ _ | refine below_alloc ?_ ?_ _ | refine Below.setCell ?_ ?_ _ | refine below_step ?_ (by assumption) ?_ | omega | (simp only [zz] at *; omega))))

set_option maxRecDepth 100000 in
set_option maxHeartbeats 1000000 in
theorem containsW_any (T : Option Addr) (xs : List Int) (d : Nat) (lo hi : Int) (b1 b2 : Nat) (w : World) (hT : I64 w T xs) (hx : xs.length ≤ 1000000) (hb1 : b1 < w.heap.size) (hb2 : b2 < w.heap.size) (h1 : w.cell? ⟨b1, 0, none⟩ = some (.int .i64 lo)) (h2 : w.cell? ⟨b2, 0, none⟩ = some (.int .i64 hi)) :
    Calls Try.prog 80 #[.slice T xs.length d, .func (.func 81) #[] #[.pointer (some ⟨b1, 0, none⟩), .pointer (some ⟨b2, 0, none⟩)]] w (Gives w (.bool (xs.any (outB lo hi)))) := by
  go_enter Try.func80, Try.ntmps80
  go_wp2_with (go_at_call 96; refine (indexW_any T xs d lo hi b1 b2 _ hT hx hb1 hb2 h1 h2).mono ?_; rintro e w1 ⟨rfl, hb1⟩; replace hb1 := ex_below hb1; have hz1 := hb1.size; (try simp only [zz] at hz1); have hlt1 : ∀ b, b < w.heap.size → b < w1.heap.size := fun b hb => (by (first | omega | (simp only [zz] at *; omega))); have hc1 : ∀ b o, b < w.heap.size → w1.cell? ⟨b, o, none⟩ = w.cell? ⟨b, o, none⟩ := old_cell (by (repeat (first | exact Below.refl _ _ | assumption | refine below_drewN ?_ _ | refine below_drew ?_ | refine below_gr ?_ ?_ _ | refine below_alloc ?_ ?_ _ | refine Below.setCell ?_ ?_ _ | refine below_step ?_ (by assumption) ?_ | omega | (simp only [zz] at *; omega)))))
  go_ret
  exact gives_of (v_bool (idxI_ge _ _)) (by (repeat (first | exact Below.refl _ _ | assumption | refine below_drewN ?_ _ | refine below_drew ?_ | refine below_gr ?_ ?_ _ | refine below_alloc ?_ ?_ _ | refine Below.setCell ?_ ?_ _ | refine below_step ?_ (by assumption) ?_ | omega | (simp only [zz] at *; omega))))

set_option maxRecDepth 100000 in
set_option maxHeartbeats 1000000 in
theorem within_any (lo hi : Int) (T : Option Addr) (xs : List Int) (d : Nat) (w : World) (hT : I64 w T xs) (hx : xs.length ≤ 1000000) :
    Calls Try.prog 56 #[.int .i64 lo, .int .i64 hi, .slice T xs.length d] w (Gives w (.bool (withinB lo hi xs))) := by
  go_enter Try.func56, Try.ntmps56
  go_wp2_with (go_at_call 80; refine (containsW_any T xs d lo hi _ _ _ (hT.ext (by (repeat (first | exact Below.refl _ _ | assumption | refine below_drewN ?_ _ | refine below_drew ?_ | refine below_gr ?_ ?_ _ | refine below_alloc ?_ ?_ _ | refine Below.setCell ?_ ?_ _ | refine below_step ?_ (by assumption) ?_ | omega | (simp only [zz] at *; omega))))) hx (by (first | omega | (simp only [zz]; omega) | (simp only [zz] at *; omega) | (simp; done) | (simp; omega))) (by (first | omega | (simp only [zz]; omega) | (simp only [zz] at *; omega) | (simp; done) | (simp; omega))) (by simp [go_sem]) (by simp [go_sem])).mono ?_; rintro e w1 ⟨rfl, hb1⟩; replace hb1 := ex_below hb1; have hz1 := hb1.size; (try simp only [zz] at hz1); have hlt1 : ∀ b, b < w.heap.size → b < w1.heap.size := fun b hb => (by (first | omega | (simp only [zz] at *; omega))); have hc1 : ∀ b o, b < w.heap.size → w1.cell? ⟨b, o, none⟩ = w.cell? ⟨b, o, none⟩ := old_cell (by (repeat (first | exact Below.refl _ _ | assumption | refine below_drewN ?_ _ | refine below_drew ?_ | refine below_gr ?_ ?_ _ | refine below_alloc ?_ ?_ _ | refine Below.setCell ?_ ?_ _ | refine below_step ?_ (by assumption) ?_ | omega | (simp only [zz] at *; omega)))))
  go_ret
  exact gives_of (rfl) (by (repeat (first | exact Below.refl _ _ | assumption | refine below_drewN ?_ _ | refine below_drew ?_ | refine below_gr ?_ ?_ _ | refine below_alloc ?_ ?_ _ | refine Below.setCell ?_ ?_ _ | refine below_step ?_ (by assumption) ?_ | omega | (simp only [zz] at *; omega))))
/-- the first number of a list: whether it is within bounds -/
theorem within_one (lo hi x : Int) : withinB lo hi [x] = decide (lo ≤ x ∧ x ≤ hi) := by
  unfold withinB outB
  simp only [List.any_cons, List.any_nil, Bool.or_false]
  rw [Bool.eq_iff_iff]; simp
theorem within1 (lo hi x : Int) (w : World) (t : TypeId) (n : Nat) (hn : n = w.heap.size) :
    Calls Try.prog 56 #[.int .i64 lo, .int .i64 hi, .slice (some ⟨n, 0, none⟩) 1 1] (w.alloc (.cells #[.int .i64 x] t)) (Gives (w.alloc (.cells #[.int .i64 x] t)) (.bool (decide (lo ≤ x ∧ x ≤ hi)))) := by
  rw [← within_one]
  exact within_any lo hi (some ⟨n, 0, none⟩) [x] 1 _ (i64_new w [x] t n hn) (by simp)
/-! the errors of a card, of boxes, and of tickets -/
def chkCard (R : List Int) : Int := if decide (1 ≤ (R.length : Int) ∧ (R.length : Int) ≤ 5) = false then 6 else if R.all (fun n => decide (1 ≤ n ∧ n ≤ 6)) = true then 0 else 3
def oddB (R S : List Int) : Bool := !((R.zip S).all fun p => decide (1 ≤ p.2 ∧ p.2 ≤ 2 ^ p.1.toNat - 1))
def shortB (R : List Int) (t : Tz) : Bool := decide (t.1.length ≠ R.length)
def oddT (R : List Int) (t : Tz) : Bool := oddB R t.1
def unfitB (t : Tz) : Bool := !decide (1 ≤ t.2 ∧ t.2 ≤ 1000)
def areB (R : List Int) (ts : List Tz) : Int := if ts.any (shortB R) = true then 15 else if ts.any (oddT R) = true then 3 else 0
def chkT (R : List Int) (ts : List Tz) : Int :=
  if chkCard R ≠ 0 then chkCard R else if 10 < (ts.length : Int) then 6 else if areB R ts ≠ 0 then areB R ts else if ts.any unfitB = true then 3 else 0
set_option maxRecDepth 100000 in
set_option maxHeartbeats 1000000 in
theorem checkCard_any (A : Option Addr) (R : List Int) (c : Nat) (w : World) (hA : I64 w A R) (hl : R.length ≤ 1000000) :
    Calls Try.prog 21 #[.agg #[.slice A R.length c]] w (Gives w (.int .i64 (chkCard R))) := by
  have HX := hide (show chkCard R = if decide (1 ≤ (R.length : Int) ∧ (R.length : Int) ≤ 5) = false then 6 else if R.all (fun n => decide (1 ≤ n ∧ n ≤ 6)) = true then 0 else 3 from rfl)
  have hl' : (R.length : Int) ≤ 1000000 := by omega
  have HW := fun x w n hn => within1 1 x (R.length : Int) w 2 n hn
  by_cases h15 : 1 ≤ (R.length : Int) ∧ (R.length : Int) ≤ 5
  · have hd : decide (1 ≤ (R.length : Int) ∧ (R.length : Int) ≤ 5) = true := by simpa using h15
    rw [hd] at HX
    have HY : Hid (chkCard R = if R.all (fun n => decide (1 ≤ n ∧ n ≤ 6)) = true then 0 else 3) := hide (by rw [HX.out]; simp)
    have hw1 := hide (fun w n hn => by have := within1 1 5 (R.length : Int) w 2 n hn; rw [hd] at this; exact this)
    clear HX hd HW
    go_enter Try.func21, Try.ntmps21
    go_wp2_with (go_at_call 56; refine (hw1.out _ _ (by simp)).mono ?_; rintro e w1 ⟨rfl, hb1⟩; replace hb1 := ex_below hb1; have hz1 := hb1.size; (try simp only [zz] at hz1); have hs1 : w.heap.size < w1.heap.size := (by (first | omega | (simp only [zz] at *; omega))); have ho1 := own_cell hb1 (b := w.heap.size) (by (first | omega | (simp only [zz] at *; omega))); have hq1 := own_frozen hb1 (b := w.heap.size) (by (first | omega | (simp only [zz] at *; omega))); have hlt1 : ∀ b, b < w.heap.size → b < w1.heap.size := fun b hb => (by (first | omega | (simp only [zz] at *; omega))); have hc1 : ∀ b o, b < w.heap.size → w1.cell? ⟨b, o, none⟩ = w.cell? ⟨b, o, none⟩ := old_cell (by (repeat (first | exact Below.refl _ _ | assumption | refine below_drewN ?_ _ | refine below_drew ?_ | refine below_gr ?_ ?_ _ | refine below_alloc ?_ ?_ _ | refine Below.setCell ?_ ?_ _ | refine below_step ?_ (by assumption) ?_ | omega | (simp only [zz] at *; omega)))))
    go_loopw [4, 14] (fun _ i wr => ∃ k : Nat, k ≤ R.length ∧ i = .int .i64 k ∧ (R.take k).all (fun n => decide (1 ≤ n ∧ n ≤ 6)) = true ∧ Grew w1 wr) (fun _ i _ => R.length - (intOf i).toNat)
    case atStart => exact ⟨0, Nat.zero_le _, rfl, rfl, grew_refl _⟩
    case round =>
      obtain ⟨k, hk, rfl, hall, hb⟩ := hrel
      replace hb := hb.below
      have hzr := hb.size
      (try simp only [zz] at hzr)
      have hltr : ∀ b, b < w1.heap.size → b < wr.heap.size := fun b hb => (by (first | omega | (simp only [zz] at *; omega)))
      have hcr : ∀ b o, b < w1.heap.size → wr.cell? ⟨b, o, none⟩ = w1.cell? ⟨b, o, none⟩ := old_cell (by (repeat (first | exact Below.refl _ _ | assumption | refine below_drewN ?_ _ | refine below_drew ?_ | refine below_gr ?_ ?_ _ | refine below_alloc ?_ ?_ _ | refine Below.setCell ?_ ?_ _ | refine below_step ?_ (by assumption) ?_ | omega | (simp only [zz] at *; omega))))
      have hbw : Below w.heap.size w wr := (by (repeat (first | exact Below.refl _ _ | assumption | refine below_drewN ?_ _ | refine below_drew ?_ | refine below_gr ?_ ?_ _ | refine below_alloc ?_ ?_ _ | refine Below.setCell ?_ ?_ _ | refine below_step ?_ (by assumption) ?_ | omega | (simp only [zz] at *; omega))))
      have hA1 := hA.ext hbw
      by_cases hlt : k < R.length
      · obtain ⟨tb, toff, rfl, htl⟩ := hA1.form (by omega)
        have ht0 := hA1.at hlt
        have HG := hide (all_good (f := fun n => decide (1 ≤ n ∧ n ≤ 6)) hlt hall)
        have HB := hide (all_bad (f := fun n => decide (1 ≤ n ∧ n ≤ 6)) hlt)
        clear hall
        generalize R[k] = x at *
        by_cases hx : decide (1 ≤ x ∧ x ≤ 6) = true
        · have hw2 := hide (fun w n hn => by have := within1 1 6 x w 2 n hn; rw [hx] at this; exact this)
          replace HG := hide (HG.out hx)
          clear hx HB
          go_wp2_with (go_at_call 56; refine (hw2.out _ _ (by simp)).mono ?_; rintro e w2 ⟨rfl, hb2⟩; replace hb2 := ex_below hb2; have hz2 := hb2.size; (try simp only [zz] at hz2); have hlt2 : ∀ b, b < wr.heap.size → b < w2.heap.size := fun b hb => (by (first | omega | (simp only [zz] at *; omega))); have hc2 : ∀ b o, b < wr.heap.size → w2.cell? ⟨b, o, none⟩ = wr.cell? ⟨b, o, none⟩ := old_cell (by (repeat (first | exact Below.refl _ _ | assumption | refine below_drewN ?_ _ | refine below_drew ?_ | refine below_gr ?_ ?_ _ | refine below_alloc ?_ ?_ _ | refine Below.setCell ?_ ?_ _ | refine below_step ?_ (by assumption) ?_ | omega | (simp only [zz] at *; omega)))))
          exact ⟨⟨k + 1, by omega, by go_num, HG.out, grew_of (by (repeat (first | exact Below.refl _ _ | assumption | refine below_drewN ?_ _ | refine below_drew ?_ | refine below_gr ?_ ?_ _ | refine below_alloc ?_ ?_ _ | refine Below.setCell ?_ ?_ _ | refine below_step ?_ (by assumption) ?_ | omega | (simp only [zz] at *; omega))))⟩, by simp [intOf]; omega⟩
        · have hx' : decide (1 ≤ x ∧ x ≤ 6) = false := by simpa using hx
          have hw2 := hide (fun w n hn => by have := within1 1 6 x w 2 n hn; rw [hx'] at this; exact this)
          have hv := hide (show chkCard R = 3 by rw [HY.out, HB.out hx']; rfl)
          clear hx hx' HB HG
          go_wp2_with (go_at_call 56; refine (hw2.out _ _ (by simp)).mono ?_; rintro e w2 ⟨rfl, hb2⟩; replace hb2 := ex_below hb2; have hz2 := hb2.size; (try simp only [zz] at hz2); have hlt2 : ∀ b, b < wr.heap.size → b < w2.heap.size := fun b hb => (by (first | omega | (simp only [zz] at *; omega))); have hc2 : ∀ b o, b < wr.heap.size → w2.cell? ⟨b, o, none⟩ = wr.cell? ⟨b, o, none⟩ := old_cell (by (repeat (first | exact Below.refl _ _ | assumption | refine below_drewN ?_ _ | refine below_drew ?_ | refine below_gr ?_ ?_ _ | refine below_alloc ?_ ?_ _ | refine Below.setCell ?_ ?_ _ | refine below_step ?_ (by assumption) ?_ | omega | (simp only [zz] at *; omega)))))
          go_ret
          exact gives_of (v_int hv.out.symm) (by (repeat (first | exact Below.refl _ _ | assumption | refine below_drewN ?_ _ | refine below_drew ?_ | refine below_gr ?_ ?_ _ | refine below_alloc ?_ ?_ _ | refine Below.setCell ?_ ?_ _ | refine below_step ?_ (by assumption) ?_ | omega | (simp only [zz] at *; omega))))
      · have hkl : k = R.length := by omega
        have hv := hide (show chkCard R = 0 by rw [HY.out, show R.all (fun n => decide (1 ≤ n ∧ n ≤ 6)) = true by rw [hkl, List.take_length] at hall; exact hall]; rfl)
        clear hall
        go_wp2
        go_ret
        exact gives_of (v_int hv.out.symm) (by (repeat (first | exact Below.refl _ _ | assumption | refine below_drewN ?_ _ | refine below_drew ?_ | refine below_gr ?_ ?_ _ | refine below_alloc ?_ ?_ _ | refine Below.setCell ?_ ?_ _ | refine below_step ?_ (by assumption) ?_ | omega | (simp only [zz] at *; omega))))
  · have hd : decide (1 ≤ (R.length : Int) ∧ (R.length : Int) ≤ 5) = false := by simpa using h15
    have hw1 := hide (fun w n hn => by have := within1 1 5 (R.length : Int) w 2 n hn; rw [hd] at this; exact this)
    have hv := hide (show chkCard R = 6 by rw [HX.out, hd]; rfl)
    clear HX hd HW h15
    go_enter Try.func21, Try.ntmps21
    go_wp2_with (go_at_call 56; refine (hw1.out _ _ (by simp)).mono ?_; rintro e w1 ⟨rfl, hb1⟩; replace hb1 := ex_below hb1; have hz1 := hb1.size; (try simp only [zz] at hz1); have hs1 : w.heap.size < w1.heap.size := (by (first | omega | (simp only [zz] at *; omega))); have ho1 := own_cell hb1 (b := w.heap.size) (by (first | omega | (simp only [zz] at *; omega))); have hq1 := own_frozen hb1 (b := w.heap.size) (by (first | omega | (simp only [zz] at *; omega))); have hlt1 : ∀ b, b < w.heap.size → b < w1.heap.size := fun b hb => (by (first | omega | (simp only [zz] at *; omega))); have hc1 : ∀ b o, b < w.heap.size → w1.cell? ⟨b, o, none⟩ = w.cell? ⟨b, o, none⟩ := old_cell (by (repeat (first | exact Below.refl _ _ | assumption | refine below_drewN ?_ _ | refine below_drew ?_ | refine below_gr ?_ ?_ _ | refine below_alloc ?_ ?_ _ | refine Below.setCell ?_ ?_ _ | refine below_step ?_ (by assumption) ?_ | omega | (simp only [zz] at *; omega)))))
    go_ret
    exact gives_of (v_int hv.out.symm) (by (repeat (first | exact Below.refl _ _ | assumption | refine below_drewN ?_ _ | refine below_drew ?_ | refine below_gr ?_ ?_ _ | refine below_alloc ?_ ?_ _ | refine Below.setCell ?_ ?_ _ | refine below_step ?_ (by assumption) ?_ | omega | (simp only [zz] at *; omega))))
end Go.Proofs.Ytlbkaeoagdbemaa
