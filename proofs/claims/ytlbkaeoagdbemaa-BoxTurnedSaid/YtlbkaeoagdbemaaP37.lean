/- Proved here: the examples hold, a part of the proofs about the box laws. Conditions: those that each theorem names, no others. -/
import Derived.Test.YtlbkaeoagdbemaaP36
import Derived.WalkKit
import Derived.WalkSpells
import Derived.WalkLawsBesides
import Derived.Below
import Derived.Deep.QuietTactic
import Derived.BigQuiet
import Derived.Deep.Light
import Derived.Deep.RegionHeld3
set_option linter.unusedSimpArgs false
set_option linter.unusedVariables false
namespace Go.Proofs.Ytlbkaeoagdbemaa
open Go.RowKit Go.Maps
theorem w_cm1 (A B : Option Addr) (w : World) (hA : I64 w A [2, 3]) (hB : Tks w B cardT) (D : Option Addr) (hD : Tks w D wholeT) : Calls Try.prog 30 #[.agg #[.slice A 2 2], .slice B 3 3, .slice D 4 4] w (Gives w (.int .i64 0)) := by
  have h := tCMap A [2, 3] 2 B cardT 3 w hA hB (by decide) (by decide) card_t D wholeT 4 hD (by decide) (by decide) whole_t
  rw [v_cm1] at h
  exact h
theorem w_cm2 (A B : Option Addr) (w : World) (hA : I64 w A [2, 3]) (hB : Tks w B cardT) (D : Option Addr) (hD : Tks w D wholeT) : Calls Try.prog 30 #[.agg #[.slice A 2 2], .slice B 3 3, .slice D 3 4] w (Gives w (.int .i64 14)) := by
  have h := tCMap A [2, 3] 2 B cardT 3 w hA hB (by decide) (by decide) card_t D (wholeT.take 3) 4 (hD.take 3) (by decide) (by decide) (fun t ht => whole_t t (List.mem_of_mem_take ht))
  rw [v_cm2] at h
  exact h
theorem w_map (A B : Option Addr) (w : World) (hA : I64 w A [2, 3]) (hB : Tks w B cardT) : Calls Try.prog 29 #[.agg #[.slice A 2 2], .slice B 3 3] w ((fun e w' => ∃ O oc, e = .returned (.tuple #[.slice O 4 oc, .int .i64 0]) ∧ (∃ g, w' = w.grow g) ∧ Tks w' O (mapV [2, 3] cardT).1 ∧ 4 ≤ oc)) := by
  refine (tMap A [2, 3] 2 B cardT 3 w hA hB (by decide) (by decide) card_t).mono ?_
  rintro e w' ⟨O, oc, rfl, hg, hT, hc⟩
  rw [v_map3] at hc
  exact ⟨O, oc, by rw [v_map3, v_map2], hg, hT, hc⟩
theorem map_t : ∀ t, t ∈ (mapV [2, 3] cardT).1 → t.1.length ≤ 1000000 := by decide +kernel
theorem w_rcm (A B : Option Addr) (w : World) (hA : I64 w A [2, 3]) (hB : Tks w B cardT) (D : Option Addr) (dd : Nat) (hdd : 4 ≤ dd) (hD : Tks w D (mapV [2, 3] cardT).1) : Calls Try.prog 31 #[.agg #[.slice A 2 2], .slice B 3 3, .slice D 4 dd] w (Gives w (.int .i64 0)) := by
  have h := rtCMap A [2, 3] 2 B cardT 3 w hA hB (by decide) (by decide) card_t D (mapV [2, 3] cardT).1 dd hD (by rw [v_map3]; exact hdd) (by rw [v_map3]; decide) map_t
  rw [v_map1, v_map3] at h
  exact h
theorem w_cov (A B : Option Addr) (w : World) (hA : I64 w A [2, 3]) (hB : Tks w B cardT) : Calls Try.prog 32 #[.agg #[.slice A 2 2], .slice B 3 3] w (Gives w (.tuple #[.int .i64 4, .int .i64 0])) := by
  have h := tCovered A [2, 3] 2 B cardT 3 w hA hB (by decide) (by decide) card_t
  rw [v_cov] at h
  exact h
theorem w_open (A B : Option Addr) (w : World) (hA : I64 w A [2, 3]) (hB : Tks w B cardT) : Calls Try.prog 34 #[.agg #[.slice A 2 2], .slice B 3 3] w (GivesB w [1, 1] 0) := by
  have h := tOpen A [2, 3] 2 B cardT 3 w hA hB (by decide) (by decide) card_t
  rw [v_open] at h
  exact h
theorem w_deep (A B : Option Addr) (w : World) (hA : I64 w A [2, 3]) (hB : Tks w B cardT) : Calls Try.prog 36 #[.agg #[.slice A 2 2], .slice B 3 3] w (GivesA w 5 [0, 0] 0) := by
  have h := tDeepest A [2, 3] 2 B cardT 3 w hA hB (by decide) (by decide) card_t
  rw [v_deep] at h
  exact h
theorem w_idle (A B : Option Addr) (w : World) (hA : I64 w A [2, 3]) (hB : Tks w B cardT) : Calls Try.prog 38 #[.agg #[.slice A 2 2], .slice B 3 3] w (GivesB w [2] 0) := by
  have h := tIdle A [2, 3] 2 B cardT 3 w hA hB (by decide) (by decide) card_t
  rw [v_idle] at h
  exact h
theorem w_pays (A B : Option Addr) (w : World) (hA : I64 w A [2, 3]) (hB : Tks w B cardT) (X : Option Addr) (hX : I64 w X [0, 0]) : Calls Try.prog 41 #[.agg #[.slice A 2 2], .slice B 3 3, .int .i64 103, .slice X 2 2] w (Gives w (.tuple #[.int .i64 20, .int .i64 3, .int .i64 0])) := by
  have h := tPays A [2, 3] 2 B cardT 3 w hA hB (by decide) (by decide) card_t X [0, 0] 2 hX (by decide) 103
  rw [v_pays] at h
  exact h
theorem w_aft (A B : Option Addr) (w : World) (hA : I64 w A [2, 3]) (hB : Tks w B cardT) (X : Option Addr) (hX : I64 w X [1]) : Calls Try.prog 43 #[.agg #[.slice A 2 2], .slice B 3 3, .slice X 1 1] w (GivesA w 1 [0] 0) := by
  have h := tAfter A [2, 3] 2 B cardT 3 w hA hB (by decide) (by decide) card_t X [1] 1 hX (by decide)
  rw [v_after] at h
  exact h
theorem w_size (A : Option Addr) (Y : Option Addr) (yc : Nat) (w : World) (hA : I64 w A [2, 3]) (hY : I64 w Y [3, 1]) (hyc : 2 ≤ yc) : Calls Try.prog 25 #[.agg #[.slice A 2 2], .agg #[.slice Y 2 yc, .int .i64 1]] w (Gives w (.tuple #[.int .i64 2, .int .i64 0])) := by
  have h := tSize A [2, 3] 2 Y [3, 1] yc 1 w hA hY hyc (by decide) (by decide)
  rw [v_size] at h
  exact h
theorem w_with (A : Option Addr) (Y : Option Addr) (yc : Nat) (w : World) (hA : I64 w A [2, 3]) (hY : I64 w Y [1, 6]) (hyc : 2 ≤ yc) : Calls Try.prog 27 #[.agg #[.slice A 2 2], .agg #[.slice Y 2 yc, .int .i64 2], .int .i64 1] w (Gives w (.tuple #[.int .i64 5, .int .i64 0])) ∧ Calls Try.prog 27 #[.agg #[.slice A 2 2], .agg #[.slice Y 2 yc, .int .i64 2], .int .i64 3] w (Gives w (.tuple #[.int .i64 0, .int .i64 3])) := by
  have h := fun v => tWithin A [2, 3] 2 Y [1, 6] yc 2 w hA hY hyc (by decide) (by decide) v
  have h1 := h 1
  have h3 := h 3
  rw [v_with1] at h1
  rw [v_with3] at h3
  exact ⟨h1, h3⟩
theorem w_ints (P : Option Addr) (p : List Int) (c : Nat) (Q : Option Addr) (d : Nat) (w : World) (hP : I64 w P p) (hQ : I64 w Q p) (hp : p.length ≤ 1000) : Calls Try.prog 40 #[.slice P p.length c, .slice Q p.length d] w (Gives w (.bool true)) := by
  have h := ints_any P p c Q p d w hP hQ hp hp
  rwa [decide_eq_true (show p = p from rfl)] at h
theorem i64_lit {X v : World} {b : Nat} {xs : List Int} {cs : Array Value} {t : TypeId} (h : Below X.heap.size X v) (hx : X.heap[b]? = some (.cells cs t (0, 0))) (hcs : cs = (xs.map (Value.int .i64)).toArray) : I64 v (some ⟨b, 0, none⟩) xs := by
  subst hcs
  refine I64.ext (w := X) ?_ h
  intro k x hk
  exact ⟨b, 0, rfl, obj_lt hx, Nat.le_of_lt (obj_lt hx), by rw [Nat.zero_add]; exact obj_at hx k _ (by simp [hk])⟩
/-- one ticket of the card -/
theorem Tks.both {w : World} {B : Option Addr} (h : Tks w B cardT) : ∃ b o S0 c0 S1 c1, B = some ⟨b, o, none⟩ ∧ b < w.heap.size ∧ w.cell? ⟨b, o, none⟩ = some (.slice S0 2 c0) ∧ w.cell? ⟨b, o + 1, none⟩ = some (.int .i64 1) ∧ 2 ≤ c0 ∧ I64 w S0 [3, 1] ∧ w.cell? ⟨b, o + 2, none⟩ = some (.slice S1 2 c1) ∧ w.cell? ⟨b, o + 2 + 1, none⟩ = some (.int .i64 2) ∧ 2 ≤ c1 ∧ I64 w S1 [1, 6] := by
  obtain ⟨b, o, rfl, hl⟩ := h.form (by decide)
  obtain ⟨S0, c0, a1, a2, a3, a4⟩ := h.at (k := 0) (by decide)
  obtain ⟨S1, c1, b1, b2, b3, b4⟩ := h.at (k := 1) (by decide)
  exact ⟨b, o, S0, c0, S1, c1, rfl, hl, a1, a2, a3, a4, b1, b2, b3, b4⟩
set_option maxRecDepth 100000 in
set_option maxHeartbeats 8000000 in
theorem works_any (w : World) : Calls Try.prog 20 #[] w (Gives w (.bool true)) := by
  go_enter Try.func20, Try.ntmps20
  go_wp2_with (go_at_call 53; refine (card_any _).mono ?_; rintro e u1 ⟨A, B, rfl, hb1, hA, hB⟩; replace hb1 := ex_below hb1)
  have hB0 : Tks (u1.alloc (.cells #[.slice A 2 2] 24)) B cardT := hB.ext (below_alloc (Below.refl _ _) (Nat.le_refl _) _)
  replace hA := hA.ext (w' := u1.alloc (.cells #[.slice A 2 2] 24)) (below_alloc (Below.refl _ _) (Nat.le_refl _) _)
  have hX : BlkAt (u1.alloc (.cells #[.slice A 2 2] 24)) u1.heap.size #[.slice A 2 2] 24 := heap_alloc_new _ _
  have hW : Below w.heap.size w (u1.alloc (.cells #[.slice A 2 2] 24)) := below_alloc hb1 hb1.size _
  replace hB := hB0
  clear hB0 hb1
  obtain ⟨xb, hxb⟩ : ∃ xb, u1.heap.size = xb := ⟨_, rfl⟩
  obtain ⟨v1, hv1⟩ : ∃ v1, u1.alloc (.cells #[.slice A 2 2] 24) = v1 := ⟨_, rfl⟩
  rw [hxb] at hX ⊢
  rw [hv1] at hA hB hX hW ⊢
  clear hv1 hxb
  obtain ⟨b, o, S0, k0, S1, k1, rfl, hbl, q0, q1, hk0, hS0, r0, r1, hk1, hS1⟩ := hB.both
  (try clear hXc0 hXf hXl)
  have hXc0 := obj_at hX 0 _ rfl
  have hXf := obj_fz hX 0
  have hXl := obj_lt hX
  refine wp_region_grow (by kernel_rfl) (by kernel_rfl) ?_
  repeat (go_big_quiet_step ((go_at_call 25; exact Gives.quiet (w_size _ _ _ _ (hA.ext (by (repeat (first | exact Below.refl _ _ | assumption | refine below_drewN ?_ _ | refine below_drew ?_ | refine below_gr ?_ ?_ _ | refine below_alloc ?_ ?_ _ | refine Below.setCell ?_ ?_ _ | refine below_step ?_ (by assumption) ?_ | omega | (simp only [zz] at *; omega))))) (hS0.ext (by (repeat (first | exact Below.refl _ _ | assumption | refine below_drewN ?_ _ | refine below_drew ?_ | refine below_gr ?_ ?_ _ | refine below_alloc ?_ ?_ _ | refine Below.setCell ?_ ?_ _ | refine below_step ?_ (by assumption) ?_ | omega | (simp only [zz] at *; omega))))) hk0))))
  refine wpQuiet_nil ?_
  intro v2 hb_v2
  replace hb_v2 := ex_below hb_v2
  replace hA := hA.ext hb_v2
  replace hB := hB.ext hb_v2
  replace hX := hX.ext hb_v2
  replace hW := below_step hW hb_v2 (by have := hW.size; omega)
  replace hS0 := hS0.ext hb_v2
  replace hS1 := hS1.ext hb_v2
  replace q0 := (hb_v2.cell (p := ⟨b, o, none⟩) hbl).trans q0
  replace q1 := (hb_v2.cell (p := ⟨b, o + 1, none⟩) hbl).trans q1
  replace r0 := (hb_v2.cell (p := ⟨b, o + 2, none⟩) hbl).trans r0
  replace r1 := (hb_v2.cell (p := ⟨b, o + 2 + 1, none⟩) hbl).trans r1
  replace hbl := Nat.lt_of_lt_of_le hbl hb_v2.size
  have sz_v2 := hb_v2.size
  clear hb_v2
  (try clear hXc0 hXf hXl)
  have hXc0 := obj_at hX 0 _ rfl
  have hXf := obj_fz hX 0
  have hXl := obj_lt hX
  go_wp2
  refine wp_region_grow (by kernel_rfl) (by kernel_rfl) ?_
  repeat (go_big_quiet_step ((go_at_call 27; exact Gives.quiet ((w_with _ _ _ _ (hA.ext (by (repeat (first | exact Below.refl _ _ | assumption | refine below_drewN ?_ _ | refine below_drew ?_ | refine below_gr ?_ ?_ _ | refine below_alloc ?_ ?_ _ | refine Below.setCell ?_ ?_ _ | refine below_step ?_ (by assumption) ?_ | omega | (simp only [zz] at *; omega))))) (hS1.ext (by (repeat (first | exact Below.refl _ _ | assumption | refine below_drewN ?_ _ | refine below_drew ?_ | refine below_gr ?_ ?_ _ | refine below_alloc ?_ ?_ _ | refine Below.setCell ?_ ?_ _ | refine below_step ?_ (by assumption) ?_ | omega | (simp only [zz] at *; omega))))) hk1).1))))
  refine wpQuiet_nil ?_
  intro v3 hb_v3
  replace hb_v3 := ex_below hb_v3
  replace hA := hA.ext hb_v3
  replace hB := hB.ext hb_v3
  replace hX := hX.ext hb_v3
  replace hW := below_step hW hb_v3 (by have := hW.size; omega)
  replace hS0 := hS0.ext hb_v3
  replace hS1 := hS1.ext hb_v3
  replace q0 := (hb_v3.cell (p := ⟨b, o, none⟩) hbl).trans q0
  replace q1 := (hb_v3.cell (p := ⟨b, o + 1, none⟩) hbl).trans q1
  replace r0 := (hb_v3.cell (p := ⟨b, o + 2, none⟩) hbl).trans r0
  replace r1 := (hb_v3.cell (p := ⟨b, o + 2 + 1, none⟩) hbl).trans r1
  replace hbl := Nat.lt_of_lt_of_le hbl hb_v3.size
  have sz_v3 := hb_v3.size
  clear hb_v3
  (try clear hXc0 hXf hXl)
  have hXc0 := obj_at hX 0 _ rfl
  have hXf := obj_fz hX 0
  have hXl := obj_lt hX
  go_wp2
  have tkv70 : True := trivial
  go_region_held3 (fun w' => w'.cell? ⟨xb, 0, none⟩ = some (.slice A 2 2)) (go_keep) (first
    | (clear tkv70; go_at_call 55; refine (whole_any _).mono ?_; rintro e v4 ⟨D1, rfl, hb_v4, hD1⟩; replace hb_v4 := ex_below hb_v4; have hz_v4 := hb_v4.size; (try simp only [zz] at hz_v4); have hk0_v4 := own_cell hb_v4 (b := xb) (by (first | omega | (simp only [zz]; omega) | (simp only [zz] at *; omega) | (simp; done) | (simp; omega))); have hl0_v4 : xb < v4.heap.size := (by (first | omega | (simp only [zz] at *; omega))); have tkv71 : True := trivial)
    | (clear tkv71; go_at_call 30; refine (w_cm1 _ _ _ (hA.ext (by (repeat (first | exact Below.refl _ _ | assumption | refine below_drewN ?_ _ | refine below_drew ?_ | refine below_gr ?_ ?_ _ | refine below_alloc ?_ ?_ _ | refine Below.setCell ?_ ?_ _ | refine below_step ?_ (by assumption) ?_ | omega | (simp only [zz] at *; omega))))) (hB.ext (by (repeat (first | exact Below.refl _ _ | assumption | refine below_drewN ?_ _ | refine below_drew ?_ | refine below_gr ?_ ?_ _ | refine below_alloc ?_ ?_ _ | refine Below.setCell ?_ ?_ _ | refine below_step ?_ (by assumption) ?_ | omega | (simp only [zz] at *; omega))))) _ (hD1.ext (by (repeat (first | exact Below.refl _ _ | assumption | refine below_drewN ?_ _ | refine below_drew ?_ | refine below_gr ?_ ?_ _ | refine below_alloc ?_ ?_ _ | refine Below.setCell ?_ ?_ _ | refine below_step ?_ (by assumption) ?_ | omega | (simp only [zz] at *; omega)))))).mono ?_; rintro e v5 ⟨rfl, hb_v5⟩; replace hb_v5 := ex_below hb_v5; have hz_v5 := hb_v5.size; (try simp only [zz] at hz_v5); have hk0_v5 := own_cell hb_v5 (b := xb) (by (first | omega | (simp only [zz]; omega) | (simp only [zz] at *; omega) | (simp; done) | (simp; omega))); have hl0_v5 : xb < v5.heap.size := (by (first | omega | (simp only [zz] at *; omega))); have tkv72 : True := trivial)
    | (clear tkv72; go_at_call 55; refine (whole_any _).mono ?_; rintro e v6 ⟨D2, rfl, hb_v6, hD2⟩; replace hb_v6 := ex_below hb_v6; have hz_v6 := hb_v6.size; (try simp only [zz] at hz_v6); have hk0_v6 := own_cell hb_v6 (b := xb) (by (first | omega | (simp only [zz]; omega) | (simp only [zz] at *; omega) | (simp; done) | (simp; omega))); have hl0_v6 : xb < v6.heap.size := (by (first | omega | (simp only [zz] at *; omega))); have tkv73 : True := trivial)
    | (clear tkv73; go_at_call 30; refine (w_cm2 _ _ _ (hA.ext (by (repeat (first | exact Below.refl _ _ | assumption | refine below_drewN ?_ _ | refine below_drew ?_ | refine below_gr ?_ ?_ _ | refine below_alloc ?_ ?_ _ | refine Below.setCell ?_ ?_ _ | refine below_step ?_ (by assumption) ?_ | omega | (simp only [zz] at *; omega))))) (hB.ext (by (repeat (first | exact Below.refl _ _ | assumption | refine below_drewN ?_ _ | refine below_drew ?_ | refine below_gr ?_ ?_ _ | refine below_alloc ?_ ?_ _ | refine Below.setCell ?_ ?_ _ | refine below_step ?_ (by assumption) ?_ | omega | (simp only [zz] at *; omega))))) _ (hD2.ext (by (repeat (first | exact Below.refl _ _ | assumption | refine below_drewN ?_ _ | refine below_drew ?_ | refine below_gr ?_ ?_ _ | refine below_alloc ?_ ?_ _ | refine Below.setCell ?_ ?_ _ | refine below_step ?_ (by assumption) ?_ | omega | (simp only [zz] at *; omega)))))).mono ?_; rintro e v7 ⟨rfl, hb_v7⟩; replace hb_v7 := ex_below hb_v7; have hz_v7 := hb_v7.size; (try simp only [zz] at hz_v7); have hk0_v7 := own_cell hb_v7 (b := xb) (by (first | omega | (simp only [zz]; omega) | (simp only [zz] at *; omega) | (simp; done) | (simp; omega))); have hl0_v7 : xb < v7.heap.size := (by (first | omega | (simp only [zz] at *; omega))); have tkv74 : True := trivial)
    )
  have bel_v7 : Below v3.heap.size v3 v7 := (by (repeat (first | exact Below.refl _ _ | assumption | refine below_drewN ?_ _ | refine below_drew ?_ | refine below_gr ?_ ?_ _ | refine below_alloc ?_ ?_ _ | refine Below.setCell ?_ ?_ _ | refine below_step ?_ (by assumption) ?_ | omega | (simp only [zz] at *; omega))))
  have sz_v7 := bel_v7.size
  replace hA := hA.ext bel_v7
  replace hB := hB.ext bel_v7
  replace hX := hX.ext bel_v7
  replace hW := below_step hW bel_v7 (by have := hW.size; omega)
  replace hS0 := hS0.ext bel_v7
  replace hS1 := hS1.ext bel_v7
  replace q0 := (bel_v7.cell (p := ⟨b, o, none⟩) hbl).trans q0
  replace q1 := (bel_v7.cell (p := ⟨b, o + 1, none⟩) hbl).trans q1
  replace r0 := (bel_v7.cell (p := ⟨b, o + 2, none⟩) hbl).trans r0
  replace r1 := (bel_v7.cell (p := ⟨b, o + 2 + 1, none⟩) hbl).trans r1
  replace hbl := Nat.lt_of_lt_of_le hbl bel_v7.size
  clear bel_v7 hb_v4 hz_v4 hk0_v4 hl0_v4 hb_v5 hz_v5 hk0_v5 hl0_v5 hb_v6 hz_v6 hk0_v6 hl0_v6 hb_v7 hz_v7 hk0_v7 hl0_v7
  (try clear hXc0 hXf hXl)
  have hXc0 := obj_at hX 0 _ rfl
  have hXf := obj_fz hX 0
  have hXl := obj_lt hX
  have tok0 : True := trivial
  go_wp2_with (first
    | (clear tok0; go_at_call 29; refine (w_map _ _ _ (hA.ext (by (repeat (first | exact Below.refl _ _ | assumption | refine below_drewN ?_ _ | refine below_drew ?_ | refine below_gr ?_ ?_ _ | refine below_alloc ?_ ?_ _ | refine Below.setCell ?_ ?_ _ | refine below_step ?_ (by assumption) ?_ | omega | (simp only [zz] at *; omega))))) (hB.ext (by (repeat (first | exact Below.refl _ _ | assumption | refine below_drewN ?_ _ | refine below_drew ?_ | refine below_gr ?_ ?_ _ | refine below_alloc ?_ ?_ _ | refine Below.setCell ?_ ?_ _ | refine below_step ?_ (by assumption) ?_ | omega | (simp only [zz] at *; omega)))))).mono ?_; rintro e u1 ⟨O1, oc1, rfl, hb_u1, hM, hM4⟩; replace hb_u1 := ex_below hb_u1; have bel_u1 : Below v7.heap.size v7 u1 := (by (repeat (first | exact Below.refl _ _ | assumption | refine below_drewN ?_ _ | refine below_drew ?_ | refine below_gr ?_ ?_ _ | refine below_alloc ?_ ?_ _ | refine Below.setCell ?_ ?_ _ | refine below_step ?_ (by assumption) ?_ | omega | (simp only [zz] at *; omega)))); clear hb_u1; have sz_u1 := bel_u1.size; replace hA := hA.ext bel_u1; replace hB := hB.ext bel_u1; replace hX := hX.ext bel_u1; replace hW := below_step hW bel_u1 (by have := hW.size; omega); replace hS0 := hS0.ext bel_u1; replace hS1 := hS1.ext bel_u1; replace q0 := (bel_u1.cell (p := ⟨b, o, none⟩) hbl).trans q0; replace q1 := (bel_u1.cell (p := ⟨b, o + 1, none⟩) hbl).trans q1; replace r0 := (bel_u1.cell (p := ⟨b, o + 2, none⟩) hbl).trans r0; replace r1 := (bel_u1.cell (p := ⟨b, o + 2 + 1, none⟩) hbl).trans r1; replace hbl := Nat.lt_of_lt_of_le hbl bel_u1.size; (try clear hXc0 hXf hXl); have hXc0 := obj_at hX 0 _ rfl; have hXf := obj_fz hX 0; have hXl := obj_lt hX; clear bel_u1; have tok1 : True := trivial)
    | (clear tok1; go_at_call 32; refine (w_cov _ _ _ (hA.ext (by (repeat (first | exact Below.refl _ _ | assumption | refine below_drewN ?_ _ | refine below_drew ?_ | refine below_gr ?_ ?_ _ | refine below_alloc ?_ ?_ _ | refine Below.setCell ?_ ?_ _ | refine below_step ?_ (by assumption) ?_ | omega | (simp only [zz] at *; omega))))) (hB.ext (by (repeat (first | exact Below.refl _ _ | assumption | refine below_drewN ?_ _ | refine below_drew ?_ | refine below_gr ?_ ?_ _ | refine below_alloc ?_ ?_ _ | refine Below.setCell ?_ ?_ _ | refine below_step ?_ (by assumption) ?_ | omega | (simp only [zz] at *; omega)))))).mono ?_; rintro e u2 ⟨rfl, hb_u2⟩; replace hb_u2 := ex_below hb_u2; have bel_u2 : Below u1.heap.size u1 u2 := (by (repeat (first | exact Below.refl _ _ | assumption | refine below_drewN ?_ _ | refine below_drew ?_ | refine below_gr ?_ ?_ _ | refine below_alloc ?_ ?_ _ | refine Below.setCell ?_ ?_ _ | refine below_step ?_ (by assumption) ?_ | omega | (simp only [zz] at *; omega)))); clear hb_u2; have sz_u2 := bel_u2.size; replace hA := hA.ext bel_u2; replace hB := hB.ext bel_u2; replace hX := hX.ext bel_u2; replace hW := below_step hW bel_u2 (by have := hW.size; omega); replace hS0 := hS0.ext bel_u2; replace hS1 := hS1.ext bel_u2; replace q0 := (bel_u2.cell (p := ⟨b, o, none⟩) hbl).trans q0; replace q1 := (bel_u2.cell (p := ⟨b, o + 1, none⟩) hbl).trans q1; replace r0 := (bel_u2.cell (p := ⟨b, o + 2, none⟩) hbl).trans r0; replace r1 := (bel_u2.cell (p := ⟨b, o + 2 + 1, none⟩) hbl).trans r1; replace hbl := Nat.lt_of_lt_of_le hbl bel_u2.size; replace hM := hM.ext bel_u2; (try clear hXc0 hXf hXl); have hXc0 := obj_at hX 0 _ rfl; have hXf := obj_fz hX 0; have hXl := obj_lt hX; clear bel_u2; have tok2 : True := trivial)
    | (clear tok2; go_at_call 34; refine (w_open _ _ _ (hA.ext (by (repeat (first | exact Below.refl _ _ | assumption | refine below_drewN ?_ _ | refine below_drew ?_ | refine below_gr ?_ ?_ _ | refine below_alloc ?_ ?_ _ | refine Below.setCell ?_ ?_ _ | refine below_step ?_ (by assumption) ?_ | omega | (simp only [zz] at *; omega))))) (hB.ext (by (repeat (first | exact Below.refl _ _ | assumption | refine below_drewN ?_ _ | refine below_drew ?_ | refine below_gr ?_ ?_ _ | refine below_alloc ?_ ?_ _ | refine Below.setCell ?_ ?_ _ | refine below_step ?_ (by assumption) ?_ | omega | (simp only [zz] at *; omega)))))).mono ?_; rintro e u3 ⟨O2, oc2, rfl, hb_u3, hO2⟩; replace hb_u3 := ex_below hb_u3; have bel_u3 : Below u2.heap.size u2 u3 := (by (repeat (first | exact Below.refl _ _ | assumption | refine below_drewN ?_ _ | refine below_drew ?_ | refine below_gr ?_ ?_ _ | refine below_alloc ?_ ?_ _ | refine Below.setCell ?_ ?_ _ | refine below_step ?_ (by assumption) ?_ | omega | (simp only [zz] at *; omega)))); clear hb_u3; have sz_u3 := bel_u3.size; replace hA := hA.ext bel_u3; replace hB := hB.ext bel_u3; replace hX := hX.ext bel_u3; replace hW := below_step hW bel_u3 (by have := hW.size; omega); replace hS0 := hS0.ext bel_u3; replace hS1 := hS1.ext bel_u3; replace q0 := (bel_u3.cell (p := ⟨b, o, none⟩) hbl).trans q0; replace q1 := (bel_u3.cell (p := ⟨b, o + 1, none⟩) hbl).trans q1; replace r0 := (bel_u3.cell (p := ⟨b, o + 2, none⟩) hbl).trans r0; replace r1 := (bel_u3.cell (p := ⟨b, o + 2 + 1, none⟩) hbl).trans r1; replace hbl := Nat.lt_of_lt_of_le hbl bel_u3.size; replace hM := hM.ext bel_u3; (try clear hXc0 hXf hXl); have hXc0 := obj_at hX 0 _ rfl; have hXf := obj_fz hX 0; have hXl := obj_lt hX; clear bel_u3; have tok3 : True := trivial)
    | (clear tok3; go_at_call 36; refine (w_deep _ _ _ (hA.ext (by (repeat (first | exact Below.refl _ _ | assumption | refine below_drewN ?_ _ | refine below_drew ?_ | refine below_gr ?_ ?_ _ | refine below_alloc ?_ ?_ _ | refine Below.setCell ?_ ?_ _ | refine below_step ?_ (by assumption) ?_ | omega | (simp only [zz] at *; omega))))) (hB.ext (by (repeat (first | exact Below.refl _ _ | assumption | refine below_drewN ?_ _ | refine below_drew ?_ | refine below_gr ?_ ?_ _ | refine below_alloc ?_ ?_ _ | refine Below.setCell ?_ ?_ _ | refine below_step ?_ (by assumption) ?_ | omega | (simp only [zz] at *; omega)))))).mono ?_; rintro e u4 ⟨O3, oc3, rfl, hb_u4, hO3⟩; replace hb_u4 := ex_below hb_u4; have bel_u4 : Below u3.heap.size u3 u4 := (by (repeat (first | exact Below.refl _ _ | assumption | refine below_drewN ?_ _ | refine below_drew ?_ | refine below_gr ?_ ?_ _ | refine below_alloc ?_ ?_ _ | refine Below.setCell ?_ ?_ _ | refine below_step ?_ (by assumption) ?_ | omega | (simp only [zz] at *; omega)))); clear hb_u4; have sz_u4 := bel_u4.size; replace hA := hA.ext bel_u4; replace hB := hB.ext bel_u4; replace hX := hX.ext bel_u4; replace hW := below_step hW bel_u4 (by have := hW.size; omega); replace hS0 := hS0.ext bel_u4; replace hS1 := hS1.ext bel_u4; replace q0 := (bel_u4.cell (p := ⟨b, o, none⟩) hbl).trans q0; replace q1 := (bel_u4.cell (p := ⟨b, o + 1, none⟩) hbl).trans q1; replace r0 := (bel_u4.cell (p := ⟨b, o + 2, none⟩) hbl).trans r0; replace r1 := (bel_u4.cell (p := ⟨b, o + 2 + 1, none⟩) hbl).trans r1; replace hbl := Nat.lt_of_lt_of_le hbl bel_u4.size; replace hM := hM.ext bel_u4; replace hO2 := hO2.ext bel_u4; (try clear hXc0 hXf hXl); have hXc0 := obj_at hX 0 _ rfl; have hXf := obj_fz hX 0; have hXl := obj_lt hX; clear bel_u4; have tok4 : True := trivial)
    | (clear tok4; go_at_call 38; refine (w_idle _ _ _ (hA.ext (by (repeat (first | exact Below.refl _ _ | assumption | refine below_drewN ?_ _ | refine below_drew ?_ | refine below_gr ?_ ?_ _ | refine below_alloc ?_ ?_ _ | refine Below.setCell ?_ ?_ _ | refine below_step ?_ (by assumption) ?_ | omega | (simp only [zz] at *; omega))))) (hB.ext (by (repeat (first | exact Below.refl _ _ | assumption | refine below_drewN ?_ _ | refine below_drew ?_ | refine below_gr ?_ ?_ _ | refine below_alloc ?_ ?_ _ | refine Below.setCell ?_ ?_ _ | refine below_step ?_ (by assumption) ?_ | omega | (simp only [zz] at *; omega)))))).mono ?_; rintro e u5 ⟨O4, oc4, rfl, hb_u5, hO4⟩; replace hb_u5 := ex_below hb_u5; have bel_u5 : Below u4.heap.size u4 u5 := (by (repeat (first | exact Below.refl _ _ | assumption | refine below_drewN ?_ _ | refine below_drew ?_ | refine below_gr ?_ ?_ _ | refine below_alloc ?_ ?_ _ | refine Below.setCell ?_ ?_ _ | refine below_step ?_ (by assumption) ?_ | omega | (simp only [zz] at *; omega)))); clear hb_u5; have sz_u5 := bel_u5.size; replace hA := hA.ext bel_u5; replace hB := hB.ext bel_u5; replace hX := hX.ext bel_u5; replace hW := below_step hW bel_u5 (by have := hW.size; omega); replace hS0 := hS0.ext bel_u5; replace hS1 := hS1.ext bel_u5; replace q0 := (bel_u5.cell (p := ⟨b, o, none⟩) hbl).trans q0; replace q1 := (bel_u5.cell (p := ⟨b, o + 1, none⟩) hbl).trans q1; replace r0 := (bel_u5.cell (p := ⟨b, o + 2, none⟩) hbl).trans r0; replace r1 := (bel_u5.cell (p := ⟨b, o + 2 + 1, none⟩) hbl).trans r1; replace hbl := Nat.lt_of_lt_of_le hbl bel_u5.size; replace hM := hM.ext bel_u5; replace hO2 := hO2.ext bel_u5; replace hO3 := hO3.ext bel_u5; (try clear hXc0 hXf hXl); have hXc0 := obj_at hX 0 _ rfl; have hXf := obj_fz hX 0; have hXl := obj_lt hX; clear bel_u5; have tok5 : True := trivial))
  have tkv90 : True := trivial
  go_region_held3 (fun w' => w'.cell? ⟨xb, 0, none⟩ = some (.slice A 2 2)) (go_keep) (first
    | (clear tkv90; go_at_call 54; refine (of_any _ 2 2 _).mono ?_; rintro e v8 ⟨rfl, hb_v8⟩; replace hb_v8 := ex_below hb_v8; have hz_v8 := hb_v8.size; (try simp only [zz] at hz_v8); have hk0_v8 := own_cell hb_v8 (b := xb) (by (first | omega | (simp only [zz]; omega) | (simp only [zz] at *; omega) | (simp; done) | (simp; omega))); have hl0_v8 : xb < v8.heap.size := (by (first | omega | (simp only [zz] at *; omega))); have hP8 : I64 v8 (some ⟨u5.heap.size, 0, none⟩) [0, 0] := i64_lit hb_v8 (heap_alloc_new _ _) rfl; have tkv91 : True := trivial)
    | (clear tkv91; go_at_call 41; refine (w_pays _ _ _ (hA.ext (by (repeat (first | exact Below.refl _ _ | assumption | refine below_drewN ?_ _ | refine below_drew ?_ | refine below_gr ?_ ?_ _ | refine below_alloc ?_ ?_ _ | refine Below.setCell ?_ ?_ _ | refine below_step ?_ (by assumption) ?_ | omega | (simp only [zz] at *; omega))))) (hB.ext (by (repeat (first | exact Below.refl _ _ | assumption | refine below_drewN ?_ _ | refine below_drew ?_ | refine below_gr ?_ ?_ _ | refine below_alloc ?_ ?_ _ | refine Below.setCell ?_ ?_ _ | refine below_step ?_ (by assumption) ?_ | omega | (simp only [zz] at *; omega))))) _ (hP8.ext (by (repeat (first | exact Below.refl _ _ | assumption | refine below_drewN ?_ _ | refine below_drew ?_ | refine below_gr ?_ ?_ _ | refine below_alloc ?_ ?_ _ | refine Below.setCell ?_ ?_ _ | refine below_step ?_ (by assumption) ?_ | omega | (simp only [zz] at *; omega)))))).mono ?_; rintro e v9 ⟨rfl, hb_v9⟩; replace hb_v9 := ex_below hb_v9; have hz_v9 := hb_v9.size; (try simp only [zz] at hz_v9); have hk0_v9 := own_cell hb_v9 (b := xb) (by (first | omega | (simp only [zz]; omega) | (simp only [zz] at *; omega) | (simp; done) | (simp; omega))); have hl0_v9 : xb < v9.heap.size := (by (first | omega | (simp only [zz] at *; omega))); have tkv92 : True := trivial)
    )
  have bel_v9 : Below u5.heap.size u5 v9 := (by (repeat (first | exact Below.refl _ _ | assumption | refine below_drewN ?_ _ | refine below_drew ?_ | refine below_gr ?_ ?_ _ | refine below_alloc ?_ ?_ _ | refine Below.setCell ?_ ?_ _ | refine below_step ?_ (by assumption) ?_ | omega | (simp only [zz] at *; omega))))
  have sz_v9 := bel_v9.size
  replace hA := hA.ext bel_v9
  replace hB := hB.ext bel_v9
  replace hX := hX.ext bel_v9
  replace hW := below_step hW bel_v9 (by have := hW.size; omega)
  replace hS0 := hS0.ext bel_v9
  replace hS1 := hS1.ext bel_v9
  replace q0 := (bel_v9.cell (p := ⟨b, o, none⟩) hbl).trans q0
  replace q1 := (bel_v9.cell (p := ⟨b, o + 1, none⟩) hbl).trans q1
  replace r0 := (bel_v9.cell (p := ⟨b, o + 2, none⟩) hbl).trans r0
  replace r1 := (bel_v9.cell (p := ⟨b, o + 2 + 1, none⟩) hbl).trans r1
  replace hbl := Nat.lt_of_lt_of_le hbl bel_v9.size
  replace hM := hM.ext bel_v9
  replace hO2 := hO2.ext bel_v9
  replace hO3 := hO3.ext bel_v9
  replace hO4 := hO4.ext bel_v9
  clear bel_v9 hb_v8 hz_v8 hk0_v8 hl0_v8 hb_v9 hz_v9 hk0_v9 hl0_v9
  (try clear hXc0 hXf hXl)
  have hXc0 := obj_at hX 0 _ rfl
  have hXf := obj_fz hX 0
  have hXl := obj_lt hX
  go_wp2
  have tkv110 : True := trivial
  go_region_held3 (fun w' => w'.cell? ⟨xb, 0, none⟩ = some (.slice A 2 2)) (go_keep) (first
    | (clear tkv110; go_at_call 54; refine (of_any _ 1 1 _).mono ?_; rintro e v10 ⟨rfl, hb_v10⟩; replace hb_v10 := ex_below hb_v10; have hz_v10 := hb_v10.size; (try simp only [zz] at hz_v10); have hk0_v10 := own_cell hb_v10 (b := xb) (by (first | omega | (simp only [zz]; omega) | (simp only [zz] at *; omega) | (simp; done) | (simp; omega))); have hl0_v10 : xb < v10.heap.size := (by (first | omega | (simp only [zz] at *; omega))); have hP10 : I64 v10 (some ⟨v9.heap.size, 0, none⟩) [1] := i64_lit hb_v10 (heap_alloc_new _ _) rfl; have tkv111 : True := trivial)
    | (clear tkv111; go_at_call 43; refine (w_aft _ _ _ (hA.ext (by (repeat (first | exact Below.refl _ _ | assumption | refine below_drewN ?_ _ | refine below_drew ?_ | refine below_gr ?_ ?_ _ | refine below_alloc ?_ ?_ _ | refine Below.setCell ?_ ?_ _ | refine below_step ?_ (by assumption) ?_ | omega | (simp only [zz] at *; omega))))) (hB.ext (by (repeat (first | exact Below.refl _ _ | assumption | refine below_drewN ?_ _ | refine below_drew ?_ | refine below_gr ?_ ?_ _ | refine below_alloc ?_ ?_ _ | refine Below.setCell ?_ ?_ _ | refine below_step ?_ (by assumption) ?_ | omega | (simp only [zz] at *; omega))))) _ (hP10.ext (by (repeat (first | exact Below.refl _ _ | assumption | refine below_drewN ?_ _ | refine below_drew ?_ | refine below_gr ?_ ?_ _ | refine below_alloc ?_ ?_ _ | refine Below.setCell ?_ ?_ _ | refine below_step ?_ (by assumption) ?_ | omega | (simp only [zz] at *; omega)))))).mono ?_; rintro e v11 ⟨O5, oc5, rfl, hb_v11, hO5⟩; replace hb_v11 := ex_below hb_v11; have hz_v11 := hb_v11.size; (try simp only [zz] at hz_v11); have hk0_v11 := own_cell hb_v11 (b := xb) (by (first | omega | (simp only [zz]; omega) | (simp only [zz] at *; omega) | (simp; done) | (simp; omega))); have hl0_v11 : xb < v11.heap.size := (by (first | omega | (simp only [zz] at *; omega))); have tkv112 : True := trivial)
    )
  have bel_v11 : Below v9.heap.size v9 v11 := (by (repeat (first | exact Below.refl _ _ | assumption | refine below_drewN ?_ _ | refine below_drew ?_ | refine below_gr ?_ ?_ _ | refine below_alloc ?_ ?_ _ | refine Below.setCell ?_ ?_ _ | refine below_step ?_ (by assumption) ?_ | omega | (simp only [zz] at *; omega))))
  have sz_v11 := bel_v11.size
  replace hA := hA.ext bel_v11
  replace hB := hB.ext bel_v11
  replace hX := hX.ext bel_v11
  replace hW := below_step hW bel_v11 (by have := hW.size; omega)
  replace hS0 := hS0.ext bel_v11
  replace hS1 := hS1.ext bel_v11
  replace q0 := (bel_v11.cell (p := ⟨b, o, none⟩) hbl).trans q0
  replace q1 := (bel_v11.cell (p := ⟨b, o + 1, none⟩) hbl).trans q1
  replace r0 := (bel_v11.cell (p := ⟨b, o + 2, none⟩) hbl).trans r0
  replace r1 := (bel_v11.cell (p := ⟨b, o + 2 + 1, none⟩) hbl).trans r1
  replace hbl := Nat.lt_of_lt_of_le hbl bel_v11.size
  replace hM := hM.ext bel_v11
  replace hO2 := hO2.ext bel_v11
  replace hO3 := hO3.ext bel_v11
  replace hO4 := hO4.ext bel_v11
  clear bel_v11 hb_v10 hz_v10 hk0_v10 hl0_v10 hb_v11 hz_v11 hk0_v11 hl0_v11
  (try clear hXc0 hXf hXl)
  have hXc0 := obj_at hX 0 _ rfl
  have hXf := obj_fz hX 0
  have hXl := obj_lt hX
  go_wp2
  refine wp_region_grow (by kernel_rfl) (by kernel_rfl) ?_
  repeat (go_big_quiet_step ((go_at_call 27; exact Gives.quiet ((w_with _ _ _ _ (hA.ext (by (repeat (first | exact Below.refl _ _ | assumption | refine below_drewN ?_ _ | refine below_drew ?_ | refine below_gr ?_ ?_ _ | refine below_alloc ?_ ?_ _ | refine Below.setCell ?_ ?_ _ | refine below_step ?_ (by assumption) ?_ | omega | (simp only [zz] at *; omega))))) (hS1.ext (by (repeat (first | exact Below.refl _ _ | assumption | refine below_drewN ?_ _ | refine below_drew ?_ | refine below_gr ?_ ?_ _ | refine below_alloc ?_ ?_ _ | refine Below.setCell ?_ ?_ _ | refine below_step ?_ (by assumption) ?_ | omega | (simp only [zz] at *; omega))))) hk1).2))))
  refine wpQuiet_nil ?_
  intro v12 hb_v12
  replace hb_v12 := ex_below hb_v12
  replace hA := hA.ext hb_v12
  replace hB := hB.ext hb_v12
  replace hX := hX.ext hb_v12
  replace hW := below_step hW hb_v12 (by have := hW.size; omega)
  replace hS0 := hS0.ext hb_v12
  replace hS1 := hS1.ext hb_v12
  replace q0 := (hb_v12.cell (p := ⟨b, o, none⟩) hbl).trans q0
  replace q1 := (hb_v12.cell (p := ⟨b, o + 1, none⟩) hbl).trans q1
  replace r0 := (hb_v12.cell (p := ⟨b, o + 2, none⟩) hbl).trans r0
  replace r1 := (hb_v12.cell (p := ⟨b, o + 2 + 1, none⟩) hbl).trans r1
  replace hbl := Nat.lt_of_lt_of_le hbl hb_v12.size
  replace hM := hM.ext hb_v12
  replace hO2 := hO2.ext hb_v12
  replace hO3 := hO3.ext hb_v12
  replace hO4 := hO4.ext hb_v12
  replace hO5 := hO5.ext hb_v12
  have sz_v12 := hb_v12.size
  clear hb_v12
  (try clear hXc0 hXf hXl)
  have hXc0 := obj_at hX 0 _ rfl
  have hXf := obj_fz hX 0
  have hXl := obj_lt hX
  have tik0 : True := trivial
  go_wp2_with (first
    | (clear tik0; go_at_call 31; refine (w_rcm _ _ _ (hA.ext (by (repeat (first | exact Below.refl _ _ | assumption | refine below_drewN ?_ _ | refine below_drew ?_ | refine below_gr ?_ ?_ _ | refine below_alloc ?_ ?_ _ | refine Below.setCell ?_ ?_ _ | refine below_step ?_ (by assumption) ?_ | omega | (simp only [zz] at *; omega))))) (hB.ext (by (repeat (first | exact Below.refl _ _ | assumption | refine below_drewN ?_ _ | refine below_drew ?_ | refine below_gr ?_ ?_ _ | refine below_alloc ?_ ?_ _ | refine Below.setCell ?_ ?_ _ | refine below_step ?_ (by assumption) ?_ | omega | (simp only [zz] at *; omega))))) _ _ hM4 (hM.ext (by (repeat (first | exact Below.refl _ _ | assumption | refine below_drewN ?_ _ | refine below_drew ?_ | refine below_gr ?_ ?_ _ | refine below_alloc ?_ ?_ _ | refine Below.setCell ?_ ?_ _ | refine below_step ?_ (by assumption) ?_ | omega | (simp only [zz] at *; omega)))))).mono ?_; rintro e x0 ⟨rfl, hb_x0⟩; replace hb_x0 := ex_below hb_x0; have bel_x0 : Below v12.heap.size v12 x0 := (by (repeat (first | exact Below.refl _ _ | assumption | refine below_drewN ?_ _ | refine below_drew ?_ | refine below_gr ?_ ?_ _ | refine below_alloc ?_ ?_ _ | refine Below.setCell ?_ ?_ _ | refine below_step ?_ (by assumption) ?_ | omega | (simp only [zz] at *; omega)))); clear hb_x0; have sz_x0 := bel_x0.size; replace hA := hA.ext bel_x0; replace hB := hB.ext bel_x0; replace hX := hX.ext bel_x0; replace hW := below_step hW bel_x0 (by have := hW.size; omega); replace hS0 := hS0.ext bel_x0; replace hS1 := hS1.ext bel_x0; replace q0 := (bel_x0.cell (p := ⟨b, o, none⟩) hbl).trans q0; replace q1 := (bel_x0.cell (p := ⟨b, o + 1, none⟩) hbl).trans q1; replace r0 := (bel_x0.cell (p := ⟨b, o + 2, none⟩) hbl).trans r0; replace r1 := (bel_x0.cell (p := ⟨b, o + 2 + 1, none⟩) hbl).trans r1; replace hbl := Nat.lt_of_lt_of_le hbl bel_x0.size; replace hM := hM.ext bel_x0; replace hO2 := hO2.ext bel_x0; replace hO3 := hO3.ext bel_x0; replace hO4 := hO4.ext bel_x0; replace hO5 := hO5.ext bel_x0; (try clear hXc0 hXf hXl); have hXc0 := obj_at hX 0 _ rfl; have hXf := obj_fz hX 0; have hXl := obj_lt hX; clear bel_x0; have tik1 : True := trivial)
    | (clear tik1; go_at_call 54; refine (of_any _ 2 2 _).mono ?_; rintro e x1 ⟨rfl, hb_x1⟩; replace hb_x1 := ex_below hb_x1; have hL1 : I64 x1 (some ⟨x0.heap.size, 0, none⟩) [1, 1] := i64_lit hb_x1 (heap_alloc_new _ _) rfl; have bel_x1 : Below x0.heap.size x0 x1 := (by (repeat (first | exact Below.refl _ _ | assumption | refine below_drewN ?_ _ | refine below_drew ?_ | refine below_gr ?_ ?_ _ | refine below_alloc ?_ ?_ _ | refine Below.setCell ?_ ?_ _ | refine below_step ?_ (by assumption) ?_ | omega | (simp only [zz] at *; omega)))); clear hb_x1; have sz_x1 := bel_x1.size; replace hA := hA.ext bel_x1; replace hB := hB.ext bel_x1; replace hX := hX.ext bel_x1; replace hW := below_step hW bel_x1 (by have := hW.size; omega); replace hS0 := hS0.ext bel_x1; replace hS1 := hS1.ext bel_x1; replace q0 := (bel_x1.cell (p := ⟨b, o, none⟩) hbl).trans q0; replace q1 := (bel_x1.cell (p := ⟨b, o + 1, none⟩) hbl).trans q1; replace r0 := (bel_x1.cell (p := ⟨b, o + 2, none⟩) hbl).trans r0; replace r1 := (bel_x1.cell (p := ⟨b, o + 2 + 1, none⟩) hbl).trans r1; replace hbl := Nat.lt_of_lt_of_le hbl bel_x1.size; replace hM := hM.ext bel_x1; replace hO2 := hO2.ext bel_x1; replace hO3 := hO3.ext bel_x1; replace hO4 := hO4.ext bel_x1; replace hO5 := hO5.ext bel_x1; (try clear hXc0 hXf hXl); have hXc0 := obj_at hX 0 _ rfl; have hXf := obj_fz hX 0; have hXl := obj_lt hX; clear bel_x1; have tik2 : True := trivial)
    | (clear tik2; go_at_call 40; refine (w_ints _ [1, 1] _ _ _ _ (hO2.ext (by (repeat (first | exact Below.refl _ _ | assumption | refine below_drewN ?_ _ | refine below_drew ?_ | refine below_gr ?_ ?_ _ | refine below_alloc ?_ ?_ _ | refine Below.setCell ?_ ?_ _ | refine below_step ?_ (by assumption) ?_ | omega | (simp only [zz] at *; omega))))) (hL1.ext (by (repeat (first | exact Below.refl _ _ | assumption | refine below_drewN ?_ _ | refine below_drew ?_ | refine below_gr ?_ ?_ _ | refine below_alloc ?_ ?_ _ | refine Below.setCell ?_ ?_ _ | refine below_step ?_ (by assumption) ?_ | omega | (simp only [zz] at *; omega))))) (by decide)).mono ?_; rintro e y1 ⟨rfl, hb_y1⟩; replace hb_y1 := ex_below hb_y1; have bel_y1 : Below x1.heap.size x1 y1 := (by (repeat (first | exact Below.refl _ _ | assumption | refine below_drewN ?_ _ | refine below_drew ?_ | refine below_gr ?_ ?_ _ | refine below_alloc ?_ ?_ _ | refine Below.setCell ?_ ?_ _ | refine below_step ?_ (by assumption) ?_ | omega | (simp only [zz] at *; omega)))); clear hb_y1; have sz_y1 := bel_y1.size; replace hA := hA.ext bel_y1; replace hB := hB.ext bel_y1; replace hX := hX.ext bel_y1; replace hW := below_step hW bel_y1 (by have := hW.size; omega); replace hS0 := hS0.ext bel_y1; replace hS1 := hS1.ext bel_y1; replace q0 := (bel_y1.cell (p := ⟨b, o, none⟩) hbl).trans q0; replace q1 := (bel_y1.cell (p := ⟨b, o + 1, none⟩) hbl).trans q1; replace r0 := (bel_y1.cell (p := ⟨b, o + 2, none⟩) hbl).trans r0; replace r1 := (bel_y1.cell (p := ⟨b, o + 2 + 1, none⟩) hbl).trans r1; replace hbl := Nat.lt_of_lt_of_le hbl bel_y1.size; replace hM := hM.ext bel_y1; replace hO2 := hO2.ext bel_y1; replace hO3 := hO3.ext bel_y1; replace hO4 := hO4.ext bel_y1; replace hO5 := hO5.ext bel_y1; replace hL1 := hL1.ext bel_y1; (try clear hXc0 hXf hXl); have hXc0 := obj_at hX 0 _ rfl; have hXf := obj_fz hX 0; have hXl := obj_lt hX; clear bel_y1; have tik3 : True := trivial)
    | (clear tik3; go_at_call 54; refine (of_any _ 2 2 _).mono ?_; rintro e x2 ⟨rfl, hb_x2⟩; replace hb_x2 := ex_below hb_x2; have hL2 : I64 x2 (some ⟨y1.heap.size, 0, none⟩) [0, 0] := i64_lit hb_x2 (heap_alloc_new _ _) rfl; have bel_x2 : Below y1.heap.size y1 x2 := (by (repeat (first | exact Below.refl _ _ | assumption | refine below_drewN ?_ _ | refine below_drew ?_ | refine below_gr ?_ ?_ _ | refine below_alloc ?_ ?_ _ | refine Below.setCell ?_ ?_ _ | refine below_step ?_ (by assumption) ?_ | omega | (simp only [zz] at *; omega)))); clear hb_x2; have sz_x2 := bel_x2.size; replace hA := hA.ext bel_x2; replace hB := hB.ext bel_x2; replace hX := hX.ext bel_x2; replace hW := below_step hW bel_x2 (by have := hW.size; omega); replace hS0 := hS0.ext bel_x2; replace hS1 := hS1.ext bel_x2; replace q0 := (bel_x2.cell (p := ⟨b, o, none⟩) hbl).trans q0; replace q1 := (bel_x2.cell (p := ⟨b, o + 1, none⟩) hbl).trans q1; replace r0 := (bel_x2.cell (p := ⟨b, o + 2, none⟩) hbl).trans r0; replace r1 := (bel_x2.cell (p := ⟨b, o + 2 + 1, none⟩) hbl).trans r1; replace hbl := Nat.lt_of_lt_of_le hbl bel_x2.size; replace hM := hM.ext bel_x2; replace hO2 := hO2.ext bel_x2; replace hO3 := hO3.ext bel_x2; replace hO4 := hO4.ext bel_x2; replace hO5 := hO5.ext bel_x2; replace hL1 := hL1.ext bel_x2; (try clear hXc0 hXf hXl); have hXc0 := obj_at hX 0 _ rfl; have hXf := obj_fz hX 0; have hXl := obj_lt hX; clear bel_x2; have tik4 : True := trivial)
    | (clear tik4; go_at_call 40; refine (w_ints _ [0, 0] _ _ _ _ (hO3.ext (by (repeat (first | exact Below.refl _ _ | assumption | refine below_drewN ?_ _ | refine below_drew ?_ | refine below_gr ?_ ?_ _ | refine below_alloc ?_ ?_ _ | refine Below.setCell ?_ ?_ _ | refine below_step ?_ (by assumption) ?_ | omega | (simp only [zz] at *; omega))))) (hL2.ext (by (repeat (first | exact Below.refl _ _ | assumption | refine below_drewN ?_ _ | refine below_drew ?_ | refine below_gr ?_ ?_ _ | refine below_alloc ?_ ?_ _ | refine Below.setCell ?_ ?_ _ | refine below_step ?_ (by assumption) ?_ | omega | (simp only [zz] at *; omega))))) (by decide)).mono ?_; rintro e y2 ⟨rfl, hb_y2⟩; replace hb_y2 := ex_below hb_y2; have bel_y2 : Below x2.heap.size x2 y2 := (by (repeat (first | exact Below.refl _ _ | assumption | refine below_drewN ?_ _ | refine below_drew ?_ | refine below_gr ?_ ?_ _ | refine below_alloc ?_ ?_ _ | refine Below.setCell ?_ ?_ _ | refine below_step ?_ (by assumption) ?_ | omega | (simp only [zz] at *; omega)))); clear hb_y2; have sz_y2 := bel_y2.size; replace hA := hA.ext bel_y2; replace hB := hB.ext bel_y2; replace hX := hX.ext bel_y2; replace hW := below_step hW bel_y2 (by have := hW.size; omega); replace hS0 := hS0.ext bel_y2; replace hS1 := hS1.ext bel_y2; replace q0 := (bel_y2.cell (p := ⟨b, o, none⟩) hbl).trans q0; replace q1 := (bel_y2.cell (p := ⟨b, o + 1, none⟩) hbl).trans q1; replace r0 := (bel_y2.cell (p := ⟨b, o + 2, none⟩) hbl).trans r0; replace r1 := (bel_y2.cell (p := ⟨b, o + 2 + 1, none⟩) hbl).trans r1; replace hbl := Nat.lt_of_lt_of_le hbl bel_y2.size; replace hM := hM.ext bel_y2; replace hO2 := hO2.ext bel_y2; replace hO3 := hO3.ext bel_y2; replace hO4 := hO4.ext bel_y2; replace hO5 := hO5.ext bel_y2; replace hL1 := hL1.ext bel_y2; replace hL2 := hL2.ext bel_y2; (try clear hXc0 hXf hXl); have hXc0 := obj_at hX 0 _ rfl; have hXf := obj_fz hX 0; have hXl := obj_lt hX; clear bel_y2; have tik5 : True := trivial)
    | (clear tik5; go_at_call 54; refine (of_any _ 1 1 _).mono ?_; rintro e x3 ⟨rfl, hb_x3⟩; replace hb_x3 := ex_below hb_x3; have hL3 : I64 x3 (some ⟨y2.heap.size, 0, none⟩) [2] := i64_lit hb_x3 (heap_alloc_new _ _) rfl; have bel_x3 : Below y2.heap.size y2 x3 := (by (repeat (first | exact Below.refl _ _ | assumption | refine below_drewN ?_ _ | refine below_drew ?_ | refine below_gr ?_ ?_ _ | refine below_alloc ?_ ?_ _ | refine Below.setCell ?_ ?_ _ | refine below_step ?_ (by assumption) ?_ | omega | (simp only [zz] at *; omega)))); clear hb_x3; have sz_x3 := bel_x3.size; replace hA := hA.ext bel_x3; replace hB := hB.ext bel_x3; replace hX := hX.ext bel_x3; replace hW := below_step hW bel_x3 (by have := hW.size; omega); replace hS0 := hS0.ext bel_x3; replace hS1 := hS1.ext bel_x3; replace q0 := (bel_x3.cell (p := ⟨b, o, none⟩) hbl).trans q0; replace q1 := (bel_x3.cell (p := ⟨b, o + 1, none⟩) hbl).trans q1; replace r0 := (bel_x3.cell (p := ⟨b, o + 2, none⟩) hbl).trans r0; replace r1 := (bel_x3.cell (p := ⟨b, o + 2 + 1, none⟩) hbl).trans r1; replace hbl := Nat.lt_of_lt_of_le hbl bel_x3.size; replace hM := hM.ext bel_x3; replace hO2 := hO2.ext bel_x3; replace hO3 := hO3.ext bel_x3; replace hO4 := hO4.ext bel_x3; replace hO5 := hO5.ext bel_x3; replace hL1 := hL1.ext bel_x3; replace hL2 := hL2.ext bel_x3; (try clear hXc0 hXf hXl); have hXc0 := obj_at hX 0 _ rfl; have hXf := obj_fz hX 0; have hXl := obj_lt hX; clear bel_x3; have tik6 : True := trivial)
    | (clear tik6; go_at_call 40; refine (w_ints _ [2] _ _ _ _ (hO4.ext (by (repeat (first | exact Below.refl _ _ | assumption | refine below_drewN ?_ _ | refine below_drew ?_ | refine below_gr ?_ ?_ _ | refine below_alloc ?_ ?_ _ | refine Below.setCell ?_ ?_ _ | refine below_step ?_ (by assumption) ?_ | omega | (simp only [zz] at *; omega))))) (hL3.ext (by (repeat (first | exact Below.refl _ _ | assumption | refine below_drewN ?_ _ | refine below_drew ?_ | refine below_gr ?_ ?_ _ | refine below_alloc ?_ ?_ _ | refine Below.setCell ?_ ?_ _ | refine below_step ?_ (by assumption) ?_ | omega | (simp only [zz] at *; omega))))) (by decide)).mono ?_; rintro e y3 ⟨rfl, hb_y3⟩; replace hb_y3 := ex_below hb_y3; have bel_y3 : Below x3.heap.size x3 y3 := (by (repeat (first | exact Below.refl _ _ | assumption | refine below_drewN ?_ _ | refine below_drew ?_ | refine below_gr ?_ ?_ _ | refine below_alloc ?_ ?_ _ | refine Below.setCell ?_ ?_ _ | refine below_step ?_ (by assumption) ?_ | omega | (simp only [zz] at *; omega)))); clear hb_y3; have sz_y3 := bel_y3.size; replace hA := hA.ext bel_y3; replace hB := hB.ext bel_y3; replace hX := hX.ext bel_y3; replace hW := below_step hW bel_y3 (by have := hW.size; omega); replace hS0 := hS0.ext bel_y3; replace hS1 := hS1.ext bel_y3; replace q0 := (bel_y3.cell (p := ⟨b, o, none⟩) hbl).trans q0; replace q1 := (bel_y3.cell (p := ⟨b, o + 1, none⟩) hbl).trans q1; replace r0 := (bel_y3.cell (p := ⟨b, o + 2, none⟩) hbl).trans r0; replace r1 := (bel_y3.cell (p := ⟨b, o + 2 + 1, none⟩) hbl).trans r1; replace hbl := Nat.lt_of_lt_of_le hbl bel_y3.size; replace hM := hM.ext bel_y3; replace hO2 := hO2.ext bel_y3; replace hO3 := hO3.ext bel_y3; replace hO4 := hO4.ext bel_y3; replace hO5 := hO5.ext bel_y3; replace hL1 := hL1.ext bel_y3; replace hL2 := hL2.ext bel_y3; replace hL3 := hL3.ext bel_y3; (try clear hXc0 hXf hXl); have hXc0 := obj_at hX 0 _ rfl; have hXf := obj_fz hX 0; have hXl := obj_lt hX; clear bel_y3; have tik7 : True := trivial)
    | (clear tik7; go_at_call 54; refine (of_any _ 1 1 _).mono ?_; rintro e x4 ⟨rfl, hb_x4⟩; replace hb_x4 := ex_below hb_x4; have hL4 : I64 x4 (some ⟨y3.heap.size, 0, none⟩) [0] := i64_lit hb_x4 (heap_alloc_new _ _) rfl; have bel_x4 : Below y3.heap.size y3 x4 := (by (repeat (first | exact Below.refl _ _ | assumption | refine below_drewN ?_ _ | refine below_drew ?_ | refine below_gr ?_ ?_ _ | refine below_alloc ?_ ?_ _ | refine Below.setCell ?_ ?_ _ | refine below_step ?_ (by assumption) ?_ | omega | (simp only [zz] at *; omega)))); clear hb_x4; have sz_x4 := bel_x4.size; replace hA := hA.ext bel_x4; replace hB := hB.ext bel_x4; replace hX := hX.ext bel_x4; replace hW := below_step hW bel_x4 (by have := hW.size; omega); replace hS0 := hS0.ext bel_x4; replace hS1 := hS1.ext bel_x4; replace q0 := (bel_x4.cell (p := ⟨b, o, none⟩) hbl).trans q0; replace q1 := (bel_x4.cell (p := ⟨b, o + 1, none⟩) hbl).trans q1; replace r0 := (bel_x4.cell (p := ⟨b, o + 2, none⟩) hbl).trans r0; replace r1 := (bel_x4.cell (p := ⟨b, o + 2 + 1, none⟩) hbl).trans r1; replace hbl := Nat.lt_of_lt_of_le hbl bel_x4.size; replace hM := hM.ext bel_x4; replace hO2 := hO2.ext bel_x4; replace hO3 := hO3.ext bel_x4; replace hO4 := hO4.ext bel_x4; replace hO5 := hO5.ext bel_x4; replace hL1 := hL1.ext bel_x4; replace hL2 := hL2.ext bel_x4; replace hL3 := hL3.ext bel_x4; (try clear hXc0 hXf hXl); have hXc0 := obj_at hX 0 _ rfl; have hXf := obj_fz hX 0; have hXl := obj_lt hX; clear bel_x4; have tik8 : True := trivial)
    | (clear tik8; go_at_call 40; refine (w_ints _ [0] _ _ _ _ (hO5.ext (by (repeat (first | exact Below.refl _ _ | assumption | refine below_drewN ?_ _ | refine below_drew ?_ | refine below_gr ?_ ?_ _ | refine below_alloc ?_ ?_ _ | refine Below.setCell ?_ ?_ _ | refine below_step ?_ (by assumption) ?_ | omega | (simp only [zz] at *; omega))))) (hL4.ext (by (repeat (first | exact Below.refl _ _ | assumption | refine below_drewN ?_ _ | refine below_drew ?_ | refine below_gr ?_ ?_ _ | refine below_alloc ?_ ?_ _ | refine Below.setCell ?_ ?_ _ | refine below_step ?_ (by assumption) ?_ | omega | (simp only [zz] at *; omega))))) (by decide)).mono ?_; rintro e y4 ⟨rfl, hb_y4⟩; replace hb_y4 := ex_below hb_y4; have bel_y4 : Below x4.heap.size x4 y4 := (by (repeat (first | exact Below.refl _ _ | assumption | refine below_drewN ?_ _ | refine below_drew ?_ | refine below_gr ?_ ?_ _ | refine below_alloc ?_ ?_ _ | refine Below.setCell ?_ ?_ _ | refine below_step ?_ (by assumption) ?_ | omega | (simp only [zz] at *; omega)))); clear hb_y4; have sz_y4 := bel_y4.size; replace hA := hA.ext bel_y4; replace hB := hB.ext bel_y4; replace hX := hX.ext bel_y4; replace hW := below_step hW bel_y4 (by have := hW.size; omega); replace hS0 := hS0.ext bel_y4; replace hS1 := hS1.ext bel_y4; replace q0 := (bel_y4.cell (p := ⟨b, o, none⟩) hbl).trans q0; replace q1 := (bel_y4.cell (p := ⟨b, o + 1, none⟩) hbl).trans q1; replace r0 := (bel_y4.cell (p := ⟨b, o + 2, none⟩) hbl).trans r0; replace r1 := (bel_y4.cell (p := ⟨b, o + 2 + 1, none⟩) hbl).trans r1; replace hbl := Nat.lt_of_lt_of_le hbl bel_y4.size; replace hM := hM.ext bel_y4; replace hO2 := hO2.ext bel_y4; replace hO3 := hO3.ext bel_y4; replace hO4 := hO4.ext bel_y4; replace hO5 := hO5.ext bel_y4; replace hL1 := hL1.ext bel_y4; replace hL2 := hL2.ext bel_y4; replace hL3 := hL3.ext bel_y4; replace hL4 := hL4.ext bel_y4; (try clear hXc0 hXf hXl); have hXc0 := obj_at hX 0 _ rfl; have hXf := obj_fz hX 0; have hXl := obj_lt hX; clear bel_y4; have tik9 : True := trivial))
  go_ret
  exact gives_of rfl hW
end Go.Proofs.Ytlbkaeoagdbemaa
