/- Proved here: what is covered, a part of the proofs about the box laws. Conditions: those that each theorem names, no others. -/
import Derived.Test.YtlbkaeoagdbemaaP20
import Derived.WalkKit
import Derived.WalkSpells
import Derived.WalkLawsBesides
import Derived.Below
import Derived.Deep.QuietTactic
import Derived.BigQuiet
import Derived.Deep.Light
set_option linter.unusedSimpArgs false
set_option linter.unusedVariables false
namespace Go.Proofs.Ytlbkaeoagdbemaa
open Go.RowKit Go.Maps
set_option maxRecDepth 100000 in
set_option maxHeartbeats 1000000 in
theorem open1_any (n : Nat) (h : n ≤ 10000) (w : World) : Calls Try.prog 75 #[.int .i64 (n : Nat)] w (Gives w (.int .i64 (min 1 (n : Int)))) := by
  go_enter Try.func75, Try.ntmps75
  go_wp2
  all_goals (go_ret; exact gives_of (v_int (by omega)) (by (repeat (first | exact Below.refl _ _ | assumption | refine below_drewN ?_ _ | refine below_drew ?_ | refine below_gr ?_ ?_ _ | refine below_alloc ?_ ?_ _ | refine Below.setCell ?_ ?_ _ | refine below_step ?_ (by assumption) ?_ | omega | (simp only [zz] at *; omega)))))
set_option maxRecDepth 100000 in
set_option maxHeartbeats 1000000 in
theorem deepest1_any (n : Nat) (h : n ≤ 10000) (w : World) : Calls Try.prog 77 #[.int .i64 (n : Nat)] w (Gives w (.int .i64 (-(n : Int)))) := by
  go_enter Try.func77, Try.ntmps77
  go_wp2
  go_ret
  exact gives_of (rfl) (by (repeat (first | exact Below.refl _ _ | assumption | refine below_drewN ?_ _ | refine below_drew ?_ | refine below_gr ?_ ?_ _ | refine below_alloc ?_ ?_ _ | refine Below.setCell ?_ ?_ _ | refine below_step ?_ (by assumption) ?_ | omega | (simp only [zz] at *; omega))))
/-- the first outcome with the least value -/
def firstO (R : List Nat) (ts : List Bm.Tk) (v : Nat → Int) : List Nat := Bm.firstC (fun al => v (Bm.vals ts al)) (Bm.cols R ts 0) (Bm.alls ts)
def openV (n : Nat) : Int := min 1 (n : Int)
def deepV (n : Nat) : Int := -(n : Int)
theorem and_two (s i : Nat) : decide (s &&& 2 ^ i = 2 ^ i) = s.testBit i := by
  have e : s &&& 2 ^ i = if s.testBit i then 2 ^ i else 0 := by
    apply Nat.eq_of_testBit_eq
    intro j
    by_cases hj : i = j
    · subst hj; cases h : s.testBit i <;> simp [h, Nat.testBit_two_pow_self]
    · cases h : s.testBit i <;> simp [h, Nat.testBit_two_pow, hj]
  have hp : (2 : Nat) ^ i ≠ 0 := by simp
  rw [e]
  cases s.testBit i
  · simp only [Bool.false_eq_true, if_false, decide_eq_false_iff_not]; exact fun e => hp e.symm
  · simp
theorem has_single : ∀ (S o : List Nat), S.length = o.length → hasB S (o.map fun i => 2 ^ i) = Bm.win S o
  | [], [], _ => rfl
  | s :: S, i :: o, h => by
    have ih := has_single S o (by simpa using h)
    unfold hasB at ih ⊢
    rw [List.map_cons, List.zip_cons_cons, List.all_cons, ih, Bm.win]
    unfold hasP
    rw [and_two]
theorem units_single {R : List Nat} {ts : List Bm.Tk} (hok : Ok R ts) {o : List Nat} (ho : o.length = R.length) : unitsB ts (singleP o) = Bm.uni ts o := by
  unfold unitsB Bm.uni
  congr 1
  refine List.map_congr_left fun t ht => ?_
  rw [show singleP o = o.map fun i => 2 ^ i from rfl, has_single _ _ ((hok.htl t ht).trans ho.symm)]
theorem first_congr {α : Type} {f g : α → Int} {l : List α} {b : α} (h : Bm.IsFirst f l b) (he : ∀ x, x ∈ l → f x = g x) : Bm.IsFirst g l b := by
  have hm := h.mem
  obtain ⟨pre, post, rfl, h1, h2⟩ := h
  refine ⟨pre, post, rfl, fun x hx => ?_, fun x hx => ?_⟩
  · rw [← he b hm, ← he x (by simp [hx])]; exact h1 x hx
  · rw [← he b hm, ← he x (by simp [hx])]; exact h2 x hx
theorem firstO_is {R : List Nat} {ts : List Bm.Tk} (hok : Ok R ts) (v : Nat → Int) : Bm.IsFirst (fun o => v (Bm.uni ts o)) (Bm.outs R) (firstO R ts v) := by
  have h := (Bm.first_is (fun al => v (Bm.vals ts al)) (Bm.cols R ts 0) (cols_pos ts hok.r1) (Bm.alls ts)).1
  rw [Bm.cols_rns, List.drop_zero] at h
  exact first_congr h (fun o ho => by rw [Bm.vals_uni hok.htl ho])
theorem firstO_mem {R : List Nat} {ts : List Bm.Tk} (hok : Ok R ts) (v : Nat → Int) : firstO R ts v ∈ Bm.outs R := (firstO_is hok v).mem
theorem outs_lt {R o : List Nat} (h6 : ∀ n, n ∈ R → n ≤ 6) (h : o ∈ Bm.outs R) : ∀ i, i ∈ o → i < 6 := fun i hi => by
  obtain ⟨hl, hx⟩ := (Bm.mem_outs R o).1 h
  obtain ⟨r, hr, rfl⟩ := List.getElem_of_mem hi
  have h1 := hx r (by omega)
  have h2 : R[r]'(by omega) ≤ 6 := h6 _ (List.getElem_mem _)
  rw [getD_at _ _ hr, getD_at _ _ (by omega : r < R.length)] at h1
  omega
set_option maxRecDepth 100000 in
set_option maxHeartbeats 1000000 in
theorem covered_bad (A : Option Addr) (R : List Int) (rc : Nat) (B : Option Addr) (ts : List Tz) (d : Nat) (w : World) (hA : I64 w A R) (hB : Tks w B ts) (hR2 : R.length ≤ 1000000) (hl : ts.length ≤ 1000000) (hts : ∀ t, t ∈ ts → t.1.length ≤ 1000000) (h0 : chkT R ts ≠ 0) :
    Calls Try.prog 32 #[.agg #[.slice A R.length rc], .slice B ts.length d] w (Gives w (.tuple #[.int .i64 0, .int .i64 (chkT R ts)])) := by
  have HOP := hide (fun w' (h1 : I64 w' A R) (h2 : Tks w' B ts) => open_bad A R rc B ts d w' h1 h2 hR2 hl hts h0)
  have H0 := hide h0
  clear h0
  generalize chkT R ts = ec at *
  have hne : ec ≠ 0 := H0.out
  go_enter Try.func32, Try.ntmps32
  go_wp2_with (first
    | (go_at_call 61; refine (HOP.out _ (hA.ext (by (repeat (first | exact Below.refl _ _ | assumption | refine below_drewN ?_ _ | refine below_drew ?_ | refine below_gr ?_ ?_ _ | refine below_alloc ?_ ?_ _ | refine Below.setCell ?_ ?_ _ | refine below_step ?_ (by assumption) ?_ | omega | (simp only [zz] at *; omega))))) (hB.ext (by (repeat (first | exact Below.refl _ _ | assumption | refine below_drewN ?_ _ | refine below_drew ?_ | refine below_gr ?_ ?_ _ | refine below_alloc ?_ ?_ _ | refine Below.setCell ?_ ?_ _ | refine below_step ?_ (by assumption) ?_ | omega | (simp only [zz] at *; omega)))))).mono ?_; rintro e w1 ⟨rfl, hb1⟩; replace hb1 := ex_below hb1; have hz1 := hb1.size))

  go_ret2
  exact gives_of (rfl) (by (repeat (first | exact Below.refl _ _ | assumption | refine below_drewN ?_ _ | refine below_drew ?_ | refine below_gr ?_ ?_ _ | refine below_alloc ?_ ?_ _ | refine Below.setCell ?_ ?_ _ | refine below_step ?_ (by assumption) ?_ | omega | (simp only [zz] at *; omega))))
set_option maxRecDepth 100000 in
set_option maxHeartbeats 1000000 in
theorem covered_ok (A : Option Addr) (R : List Nat) (rc : Nat) (B : Option Addr) (ts : List Bm.Tk) (d : Nat) (w : World) (hA : I64 w A (zs R)) (hB : Tks w B (tz ts)) (hok : Ok R ts) : Calls Try.prog 32 #[.agg #[.slice A R.length rc], .slice B ts.length d] w (Gives w (.tuple #[.int .i64 (coveredP R ts [] : Nat), .int .i64 0])) := by
  have HOP := hide (fun w' (h1 : I64 w' A (zs R)) (h2 : Tks w' B (tz ts)) => opens_n A R rc B ts d w' h1 h2 hok)
  have HCV := hide (fun s w' (h : SheetAt w' s A (zs R) rc B (tz ts) d) => covered_any s A R rc B ts d w' h hok.h5 hok.r6 hok.t10 hok.hu hok.htl hok.ht6 none [] 0 (I64.nil _ _) (Nat.zero_le _) (fun i hi => by simp at hi) hok.r1)
  go_enter Try.func32, Try.ntmps32
  go_wp2_with (first
    | (go_at_call 61; refine (HOP.out _ (hA.ext (by (repeat (first | exact Below.refl _ _ | assumption | refine below_drewN ?_ _ | refine below_drew ?_ | refine below_gr ?_ ?_ _ | refine below_alloc ?_ ?_ _ | refine Below.setCell ?_ ?_ _ | refine below_step ?_ (by assumption) ?_ | omega | (simp only [zz] at *; omega))))) (hB.ext (by (repeat (first | exact Below.refl _ _ | assumption | refine below_drewN ?_ _ | refine below_drew ?_ | refine below_gr ?_ ?_ _ | refine below_alloc ?_ ?_ _ | refine Below.setCell ?_ ?_ _ | refine below_step ?_ (by assumption) ?_ | omega | (simp only [zz] at *; omega)))))).mono ?_; rintro e w1 ⟨s, rfl, hb1, hs1, hS1⟩; replace hb1 := ex_below hb1; have hz1 := hb1.size; (try simp only [World.size_alloc] at hz1))
    | (go_at_call 73; refine (HCV.out _ _ hS1).mono ?_; rintro e w2 ⟨rfl, hb2⟩; replace hb2 := ex_below hb2; have hz2 := hb2.size))

  go_ret2
  exact gives_of (rfl) (by (repeat (first | exact Below.refl _ _ | assumption | refine below_drewN ?_ _ | refine below_drew ?_ | refine below_gr ?_ ?_ _ | refine below_alloc ?_ ?_ _ | refine Below.setCell ?_ ?_ _ | refine below_step ?_ (by assumption) ?_ | omega | (simp only [zz] at *; omega))))
theorem tks_one {w : World} {b : Nat} {Y : Option Addr} {S : List Int} {c : Nat} {u : Int} {t : TypeId} (h : w.heap[b]? = some (.cells #[.slice Y S.length c, .int .i64 u] t (0, 0))) (hY : I64 w Y S) (hyc : S.length ≤ c) : Tks w (some ⟨b, 0, none⟩) [(S, u)] := fun k x hk => by
  have h0 : k = 0 := by have := (List.getElem?_eq_some_iff.1 hk).1; simpa using this
  subst h0
  have hx : x = (S, u) := by simpa using hk.symm
  subst hx
  have h1 : w.cell? ⟨b, 0 + 0 * 2, none⟩ = some (.slice Y S.length c) := obj_at h 0 _ rfl
  have h2 : w.cell? ⟨b, 0 + 0 * 2 + 1, none⟩ = some (.int .i64 u) := obj_at h 1 _ rfl
  exact ⟨b, 0, Y, c, rfl, obj_lt h, h1, h2, hyc, hY⟩
theorem heap_c3 (w : World) (X Y Z : Obj) : (((w.alloc X).alloc Y).alloc Z).heap[w.heap.size + 1 + 1]? = some Z := by
  have := heap_alloc_new ((w.alloc X).alloc Y) Z
  rwa [World.size_alloc, World.size_alloc] at this
set_option maxRecDepth 100000 in
set_option maxHeartbeats 1000000 in
theorem open_api_bad (A : Option Addr) (R : List Int) (rc : Nat) (B : Option Addr) (ts : List Tz) (d : Nat) (w : World) (hA : I64 w A R) (hB : Tks w B ts) (hR2 : R.length ≤ 1000000) (hl : ts.length ≤ 1000000) (hts : ∀ t, t ∈ ts → t.1.length ≤ 1000000) (h0 : chkT R ts ≠ 0) :
    Calls Try.prog 34 #[.agg #[.slice A R.length rc], .slice B ts.length d] w (Gives w (.tuple #[.slice none 0 0, .int .i64 (chkT R ts)])) := by
  have HOP := hide (fun w' (h1 : I64 w' A R) (h2 : Tks w' B ts) => open_bad A R rc B ts d w' h1 h2 hR2 hl hts h0)
  have H0 := hide h0
  clear h0
  generalize chkT R ts = ec at *
  have hne : ec ≠ 0 := H0.out
  go_enter Try.func34, Try.ntmps34
  go_wp2_with (first
    | (go_at_call 61; refine (HOP.out _ (hA.ext (by (repeat (first | exact Below.refl _ _ | assumption | refine below_drewN ?_ _ | refine below_drew ?_ | refine below_gr ?_ ?_ _ | refine below_alloc ?_ ?_ _ | refine Below.setCell ?_ ?_ _ | refine below_step ?_ (by assumption) ?_ | omega | (simp only [zz] at *; omega))))) (hB.ext (by (repeat (first | exact Below.refl _ _ | assumption | refine below_drewN ?_ _ | refine below_drew ?_ | refine below_gr ?_ ?_ _ | refine below_alloc ?_ ?_ _ | refine Below.setCell ?_ ?_ _ | refine below_step ?_ (by assumption) ?_ | omega | (simp only [zz] at *; omega)))))).mono ?_; rintro e w1 ⟨rfl, hb1⟩; replace hb1 := ex_below hb1; have hz1 := hb1.size))

  go_ret2
  exact gives_of (rfl) (by (repeat (first | exact Below.refl _ _ | assumption | refine below_drewN ?_ _ | refine below_drew ?_ | refine below_gr ?_ ?_ _ | refine below_alloc ?_ ?_ _ | refine Below.setCell ?_ ?_ _ | refine below_step ?_ (by assumption) ?_ | omega | (simp only [zz] at *; omega))))
set_option maxRecDepth 100000 in
set_option maxHeartbeats 1000000 in
theorem deepest_bad (A : Option Addr) (R : List Int) (rc : Nat) (B : Option Addr) (ts : List Tz) (d : Nat) (w : World) (hA : I64 w A R) (hB : Tks w B ts) (hR2 : R.length ≤ 1000000) (hl : ts.length ≤ 1000000) (hts : ∀ t, t ∈ ts → t.1.length ≤ 1000000) (h0 : chkT R ts ≠ 0) :
    Calls Try.prog 36 #[.agg #[.slice A R.length rc], .slice B ts.length d] w (Gives w (.tuple #[.int .i64 0, .slice none 0 0, .int .i64 (chkT R ts)])) := by
  have HOP := hide (fun w' (h1 : I64 w' A R) (h2 : Tks w' B ts) => open_bad A R rc B ts d w' h1 h2 hR2 hl hts h0)
  have H0 := hide h0
  clear h0
  generalize chkT R ts = ec at *
  have hne : ec ≠ 0 := H0.out
  go_enter Try.func36, Try.ntmps36
  go_wp2_with (first
    | (go_at_call 61; refine (HOP.out _ (hA.ext (by (repeat (first | exact Below.refl _ _ | assumption | refine below_drewN ?_ _ | refine below_drew ?_ | refine below_gr ?_ ?_ _ | refine below_alloc ?_ ?_ _ | refine Below.setCell ?_ ?_ _ | refine below_step ?_ (by assumption) ?_ | omega | (simp only [zz] at *; omega))))) (hB.ext (by (repeat (first | exact Below.refl _ _ | assumption | refine below_drewN ?_ _ | refine below_drew ?_ | refine below_gr ?_ ?_ _ | refine below_alloc ?_ ?_ _ | refine Below.setCell ?_ ?_ _ | refine below_step ?_ (by assumption) ?_ | omega | (simp only [zz] at *; omega)))))).mono ?_; rintro e w1 ⟨rfl, hb1⟩; replace hb1 := ex_below hb1; have hz1 := hb1.size))

  go_ret3
  exact gives_of (rfl) (by (repeat (first | exact Below.refl _ _ | assumption | refine below_drewN ?_ _ | refine below_drew ?_ | refine below_gr ?_ ?_ _ | refine below_alloc ?_ ?_ _ | refine Below.setCell ?_ ?_ _ | refine below_step ?_ (by assumption) ?_ | omega | (simp only [zz] at *; omega))))
/-- what Open comes to -/
def OpenP (R : List Nat) (ts : List Bm.Tk) (w : World) (e : Ending) (w' : World) : Prop :=
  if 0 < Bm.uni ts (firstO R ts openV) then Gives w (.tuple #[.slice none 0 0, .int .i64 5]) e w' else GivesIE w (zs (firstO R ts openV)) 0 e w'
set_option maxRecDepth 100000 in
set_option maxHeartbeats 1000000 in
theorem open_api_ok (A : Option Addr) (R : List Nat) (rc : Nat) (B : Option Addr) (ts : List Bm.Tk) (d : Nat) (w : World) (hA : I64 w A (zs R)) (hB : Tks w B (tz ts)) (hok : Ok R ts) : Calls Try.prog 34 #[.agg #[.slice A R.length rc], .slice B ts.length d] w (OpenP R ts w) := by
  have HOP := hide (fun w' (h1 : I64 w' A (zs R)) (h2 : Tks w' B (tz ts)) => opens_n A R rc B ts d w' h1 h2 hok)
  have HFI := hide (fun s w' (h : SheetAt w' s A (zs R) rc B (tz ts) d) => first_any s A R rc B ts d 75 openV hok (fun n hn w => open1_any n hn w) (.inl rfl) w' h)
  have hm := firstO_mem hok openV
  have hol := Bm.outs_len hm
  have HOU := hide (fun s Y yc w' (h : SheetAt w' s A (zs R) rc B (tz ts) d) (hY : I64 w' Y (zs (firstO R ts openV))) => outcome_any s A R rc B ts d w' h hok.h5 hok.r6 hok.t10 hok.hu hok.htl hok.ht6 Y (firstO R ts openV) yc hY hol (outs_lt hok.r6 hm))
  rw [units_single hok hol] at HOU
  change Hid (∀ s w' (h : SheetAt w' s A (zs R) rc B (tz ts) d), Calls Try.prog 74 #[.pointer (some ⟨s, 0, none⟩), .func (.func 75) #[] #[]] w' (GivesI w' (zs (firstO R ts openV)))) at HFI
  unfold OpenP
  generalize firstO R ts openV = o at *
  have HOL := hide hol
  have HZL := hide (zs_len o)
  clear hol hm
  by_cases hu : 0 < Bm.uni ts o
  · simp only [if_pos hu]
    have hub : decide ((Bm.uni ts o : Int) > 0) = true := by simp; omega
    go_enter Try.func34, Try.ntmps34
    go_wp2_with (first
    | (go_at_call 61; refine (HOP.out _ (hA.ext (by (repeat (first | exact Below.refl _ _ | assumption | refine below_drewN ?_ _ | refine below_drew ?_ | refine below_gr ?_ ?_ _ | refine below_alloc ?_ ?_ _ | refine Below.setCell ?_ ?_ _ | refine below_step ?_ (by assumption) ?_ | omega | (simp only [zz] at *; omega))))) (hB.ext (by (repeat (first | exact Below.refl _ _ | assumption | refine below_drewN ?_ _ | refine below_drew ?_ | refine below_gr ?_ ?_ _ | refine below_alloc ?_ ?_ _ | refine Below.setCell ?_ ?_ _ | refine below_step ?_ (by assumption) ?_ | omega | (simp only [zz] at *; omega)))))).mono ?_; rintro e w1 ⟨s, rfl, hb1, hs1, hS1⟩; replace hb1 := ex_below hb1; have hz1 := hb1.size; (try simp only [World.size_alloc] at hz1))
    | (go_at_call 74; refine (HFI.out _ _ hS1).mono ?_; rintro e w2 ⟨Y, yc, rfl, hb2, hY, hyc, _⟩; rw [HZL.out]; replace hb2 := ex_below hb2; have hz2 := hb2.size; have hS2 := hS1.ext hb2)
    | (go_at_call 76; refine (HOU.out _ _ _ _ hS2 hY).mono ?_; rintro e w3 ⟨rfl, hb3⟩; replace hb3 := ex_below hb3; have hz3 := hb3.size))

    go_ret2
    exact gives_of (rfl) (by (repeat (first | exact Below.refl _ _ | assumption | refine below_drewN ?_ _ | refine below_drew ?_ | refine below_gr ?_ ?_ _ | refine below_alloc ?_ ?_ _ | refine Below.setCell ?_ ?_ _ | refine below_step ?_ (by assumption) ?_ | omega | (simp only [zz] at *; omega))))
  · simp only [if_neg hu]
    have hub : decide ((Bm.uni ts o : Int) > 0) = false := by simp; omega
    go_enter Try.func34, Try.ntmps34
    go_wp2_with (first
    | (go_at_call 61; refine (HOP.out _ (hA.ext (by (repeat (first | exact Below.refl _ _ | assumption | refine below_drewN ?_ _ | refine below_drew ?_ | refine below_gr ?_ ?_ _ | refine below_alloc ?_ ?_ _ | refine Below.setCell ?_ ?_ _ | refine below_step ?_ (by assumption) ?_ | omega | (simp only [zz] at *; omega))))) (hB.ext (by (repeat (first | exact Below.refl _ _ | assumption | refine below_drewN ?_ _ | refine below_drew ?_ | refine below_gr ?_ ?_ _ | refine below_alloc ?_ ?_ _ | refine Below.setCell ?_ ?_ _ | refine below_step ?_ (by assumption) ?_ | omega | (simp only [zz] at *; omega)))))).mono ?_; rintro e w1 ⟨s, rfl, hb1, hs1, hS1⟩; replace hb1 := ex_below hb1; have hz1 := hb1.size; (try simp only [World.size_alloc] at hz1))
    | (go_at_call 74; refine (HFI.out _ _ hS1).mono ?_; rintro e w2 ⟨Y, yc, rfl, hb2, hY, hyc, _⟩; rw [HZL.out]; replace hb2 := ex_below hb2; have hz2 := hb2.size; have hS2 := hS1.ext hb2)
    | (go_at_call 76; refine (HOU.out _ _ _ _ hS2 hY).mono ?_; rintro e w3 ⟨rfl, hb3⟩; replace hb3 := ex_below hb3; have hz3 := hb3.size))

    go_ret2
    exact ⟨Y, yc, by rw [HZL.out]; rfl, below_grow (by (repeat (first | exact Below.refl _ _ | assumption | refine below_drewN ?_ _ | refine below_drew ?_ | refine below_gr ?_ ?_ _ | refine below_alloc ?_ ?_ _ | refine Below.setCell ?_ ?_ _ | refine below_step ?_ (by assumption) ?_ | omega | (simp only [zz] at *; omega)))), hY.ext hb3, hyc⟩
/-- what Deepest comes to -/
def GivesDI (w : World) (n : Int) (xs : List Int) (e : Ending) (w' : World) : Prop := ∃ A c, e = .returned (.tuple #[.int .i64 n, .slice A xs.length c, .int .i64 0]) ∧ (∃ g, w' = w.grow g) ∧ I64 w' A xs ∧ xs.length ≤ c
set_option maxRecDepth 100000 in
set_option maxHeartbeats 1000000 in
theorem deepest_ok (A : Option Addr) (R : List Nat) (rc : Nat) (B : Option Addr) (ts : List Bm.Tk) (d : Nat) (w : World) (hA : I64 w A (zs R)) (hB : Tks w B (tz ts)) (hok : Ok R ts) : Calls Try.prog 36 #[.agg #[.slice A R.length rc], .slice B ts.length d] w (GivesDI w (Bm.uni ts (firstO R ts deepV) : Nat) (zs (firstO R ts deepV))) := by
  have HOP := hide (fun w' (h1 : I64 w' A (zs R)) (h2 : Tks w' B (tz ts)) => opens_n A R rc B ts d w' h1 h2 hok)
  have HFI := hide (fun s w' (h : SheetAt w' s A (zs R) rc B (tz ts) d) => first_any s A R rc B ts d 77 deepV hok (fun n hn w => deepest1_any n hn w) (.inr rfl) w' h)
  have hm := firstO_mem hok deepV
  have hol := Bm.outs_len hm
  have HOU := hide (fun s Y yc w' (h : SheetAt w' s A (zs R) rc B (tz ts) d) (hY : I64 w' Y (zs (firstO R ts deepV))) => outcome_any s A R rc B ts d w' h hok.h5 hok.r6 hok.t10 hok.hu hok.htl hok.ht6 Y (firstO R ts deepV) yc hY hol (outs_lt hok.r6 hm))
  rw [units_single hok hol] at HOU
  change Hid (∀ s w' (h : SheetAt w' s A (zs R) rc B (tz ts) d), Calls Try.prog 74 #[.pointer (some ⟨s, 0, none⟩), .func (.func 77) #[] #[]] w' (GivesI w' (zs (firstO R ts deepV)))) at HFI
  generalize firstO R ts deepV = o at *
  have HOL := hide hol
  have HZL := hide (zs_len o)
  clear hol hm
  go_enter Try.func36, Try.ntmps36
  go_wp2_with (first
    | (go_at_call 61; refine (HOP.out _ (hA.ext (by (repeat (first | exact Below.refl _ _ | assumption | refine below_drewN ?_ _ | refine below_drew ?_ | refine below_gr ?_ ?_ _ | refine below_alloc ?_ ?_ _ | refine Below.setCell ?_ ?_ _ | refine below_step ?_ (by assumption) ?_ | omega | (simp only [zz] at *; omega))))) (hB.ext (by (repeat (first | exact Below.refl _ _ | assumption | refine below_drewN ?_ _ | refine below_drew ?_ | refine below_gr ?_ ?_ _ | refine below_alloc ?_ ?_ _ | refine Below.setCell ?_ ?_ _ | refine below_step ?_ (by assumption) ?_ | omega | (simp only [zz] at *; omega)))))).mono ?_; rintro e w1 ⟨s, rfl, hb1, hs1, hS1⟩; replace hb1 := ex_below hb1; have hz1 := hb1.size; (try simp only [World.size_alloc] at hz1))
    | (go_at_call 74; refine (HFI.out _ _ hS1).mono ?_; rintro e w2 ⟨Y, yc, rfl, hb2, hY, hyc, _⟩; rw [HZL.out]; replace hb2 := ex_below hb2; have hz2 := hb2.size; have hS2 := hS1.ext hb2)
    | (go_at_call 76; refine (HOU.out _ _ _ _ hS2 hY).mono ?_; rintro e w3 ⟨rfl, hb3⟩; replace hb3 := ex_below hb3; have hz3 := hb3.size))

  go_ret3
  exact ⟨Y, yc, by rw [HZL.out]; rfl, below_grow (by (repeat (first | exact Below.refl _ _ | assumption | refine below_drewN ?_ _ | refine below_drew ?_ | refine below_gr ?_ ?_ _ | refine below_alloc ?_ ?_ _ | refine Below.setCell ?_ ?_ _ | refine below_step ?_ (by assumption) ?_ | omega | (simp only [zz] at *; omega)))), hY.ext hb3, hyc⟩
set_option maxRecDepth 100000 in
set_option maxHeartbeats 1000000 in
theorem size_api_bad (A : Option Addr) (R : List Int) (rc : Nat) (Y : Option Addr) (S : List Int) (yc : Nat) (u : Int) (w : World) (hA : I64 w A R) (hY : I64 w Y S) (hyc : S.length ≤ yc) (hR2 : R.length ≤ 1000000) (hS2 : S.length ≤ 1000000) (h0 : chkT R [(S, u)] ≠ 0) :
    Calls Try.prog 25 #[.agg #[.slice A R.length rc], .agg #[.slice Y S.length yc, .int .i64 u]] w (Gives w (.tuple #[.int .i64 0, .int .i64 (chkT R [(S, u)])])) := by
  have HOP := hide (fun b w' (h1 : I64 w' A R) (h2 : Tks w' (some ⟨b, 0, none⟩) [(S, u)]) => open_bad A R rc (some ⟨b, 0, none⟩) [(S, u)] 1 w' h1 h2 hR2 (by simp) (fun t ht => by rw [List.mem_singleton.1 ht]; exact hS2) h0)
  have H0 := hide h0
  clear h0
  generalize chkT R [(S, u)] = ec at *
  have hne : ec ≠ 0 := H0.out
  go_enter Try.func25, Try.ntmps25
  go_wp2_with (first
    | (go_at_call 61; refine (HOP.out _ _ (hA.ext (by (repeat (first | exact Below.refl _ _ | assumption | refine below_drewN ?_ _ | refine below_drew ?_ | refine below_gr ?_ ?_ _ | refine below_alloc ?_ ?_ _ | refine Below.setCell ?_ ?_ _ | refine below_step ?_ (by assumption) ?_ | omega | (simp only [zz] at *; omega))))) (tks_one (heap_c3 _ _ _ _) (hY.ext (by (repeat (first | exact Below.refl _ _ | assumption | refine below_drewN ?_ _ | refine below_drew ?_ | refine below_gr ?_ ?_ _ | refine below_alloc ?_ ?_ _ | refine Below.setCell ?_ ?_ _ | refine below_step ?_ (by assumption) ?_ | omega | (simp only [zz] at *; omega))))) hyc)).mono ?_; rintro e w1 ⟨rfl, hb1⟩; replace hb1 := ex_below hb1; have hz1 := hb1.size))

  go_ret2
  exact gives_of (rfl) (by (repeat (first | exact Below.refl _ _ | assumption | refine below_drewN ?_ _ | refine below_drew ?_ | refine below_gr ?_ ?_ _ | refine below_alloc ?_ ?_ _ | refine Below.setCell ?_ ?_ _ | refine below_step ?_ (by assumption) ?_ | omega | (simp only [zz] at *; omega))))
set_option maxRecDepth 100000 in
set_option maxHeartbeats 1000000 in
theorem size_api_ok (A : Option Addr) (R : List Nat) (rc : Nat) (Y : Option Addr) (S : List Nat) (yc : Nat) (u : Nat) (w : World) (hA : I64 w A (zs R)) (hY : I64 w Y (zs S)) (hyc : S.length ≤ yc) (hok : Ok R [(S, u)]) :
    Calls Try.prog 25 #[.agg #[.slice A R.length rc], .agg #[.slice Y S.length yc, .int .i64 (u : Nat)]] w (Gives w (.tuple #[.int .i64 (Bm.size S : Nat), .int .i64 0])) := by
  have HOP := hide (fun b w' (h1 : I64 w' A (zs R)) (h2 : Tks w' (some ⟨b, 0, none⟩) [(zs S, (u : Int))]) => opens_n A R rc (some ⟨b, 0, none⟩) [(S, u)] 1 w' h1 h2 hok)
  have hSl := hok.htl (S, u) (by simp)
  have HSZ := hide (fun w' (h : I64 w' Y (zs S)) => size_any Y S yc w' h (by have := hok.h5; simp only at hSl; omega) (hok.ht6 (S, u) (by simp)))
  have HT1 := hide (fun (w' : World) b t (h : w'.heap[b]? = some (.cells #[.slice Y S.length yc, .int .i64 (u : Int)] t (0, 0))) (h2 : I64 w' Y (zs S)) => (tks_one (S := zs S) (c := yc) (u := (u : Int)) (t := t) (by rw [zs_len]; exact h) h2 (by rw [zs_len]; exact hyc) : Tks w' (some ⟨b, 0, none⟩) [(zs S, (u : Int))]))
  clear hSl
  go_enter Try.func25, Try.ntmps25
  go_wp2_with (first
    | (go_at_call 61; refine (HOP.out _ _ (hA.ext (by (repeat (first | exact Below.refl _ _ | assumption | refine below_drewN ?_ _ | refine below_drew ?_ | refine below_gr ?_ ?_ _ | refine below_alloc ?_ ?_ _ | refine Below.setCell ?_ ?_ _ | refine below_step ?_ (by assumption) ?_ | omega | (simp only [zz] at *; omega))))) (HT1.out _ _ _ (heap_c3 _ _ _ _) (hY.ext (by (repeat (first | exact Below.refl _ _ | assumption | refine below_drewN ?_ _ | refine below_drew ?_ | refine below_gr ?_ ?_ _ | refine below_alloc ?_ ?_ _ | refine Below.setCell ?_ ?_ _ | refine below_step ?_ (by assumption) ?_ | omega | (simp only [zz] at *; omega))))))).mono ?_; rintro e w1 ⟨s, rfl, hb1, hs1, hS1⟩; replace hb1 := ex_below hb1; have hz1 := hb1.size; have hc1 := own_cell hb1 (b := w.heap.size + 1) (by (first | omega | (simp only [zz]; omega) | (simp only [zz] at *; omega) | (simp; done) | (simp; omega))))
    | (go_at_call 62; refine (HSZ.out _ (hY.ext (by (repeat (first | exact Below.refl _ _ | assumption | refine below_drewN ?_ _ | refine below_drew ?_ | refine below_gr ?_ ?_ _ | refine below_alloc ?_ ?_ _ | refine Below.setCell ?_ ?_ _ | refine below_step ?_ (by assumption) ?_ | omega | (simp only [zz] at *; omega)))))).mono ?_; rintro e w2 ⟨rfl, hb2⟩; replace hb2 := ex_below hb2; have hz2 := hb2.size))

  go_ret2
  exact gives_of (rfl) (by (repeat (first | exact Below.refl _ _ | assumption | refine below_drewN ?_ _ | refine below_drew ?_ | refine below_gr ?_ ?_ _ | refine below_alloc ?_ ?_ _ | refine Below.setCell ?_ ?_ _ | refine below_step ?_ (by assumption) ?_ | omega | (simp only [zz] at *; omega))))
end Go.Proofs.Ytlbkaeoagdbemaa
