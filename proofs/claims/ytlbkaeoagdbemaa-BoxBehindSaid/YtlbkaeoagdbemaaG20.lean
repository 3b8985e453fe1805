/- Proved here: the law BoxBehind, a part of the proofs about the box laws. Conditions: those that each theorem names, no others. -/
import Derived.Test.YtlbkaeoagdbemaaP38
import Derived.WalkKit
import Derived.WalkSpells
import Derived.WalkLawsBesides
import Derived.Below
import Derived.Deep.QuietTactic
import Derived.BigQuiet
import Derived.Deep.Light
import Derived.Test.YtlbkaeoagdbemaaG9
import Derived.Test.YtlbkaeoagdbemaaG15
import Derived.Test.YtlbkaeoagdbemaaG17
import Derived.Deep.RegionHeld3
import Derived.Deep.CutRange
set_option linter.unusedSimpArgs false
set_option linter.unusedVariables false
namespace Go.Proofs.Ytlbkaeoagdbemaa
open Go.RowKit Go.Maps
theorem zs_contains (l : List Nat) (i : Nat) : (zs l).contains ((i : Nat) : Int) = decide (i ∈ l) := by
  rw [Bool.eq_iff_iff, List.contains_iff_mem, decide_eq_true_eq]
  unfold zs
  rw [List.mem_map]
  exact ⟨fun ⟨a, h, e⟩ => by rwa [show a = i by omega] at h, fun h => ⟨i, h, rfl⟩⟩
theorem sumTo_mono (f : Nat → Nat) {a b : Nat} (h : a ≤ b) : Bm.sumTo f a ≤ Bm.sumTo f b := by
  induction b with
  | zero => rw [show a = 0 by omega]; exact Nat.le_refl _
  | succ b ih =>
    by_cases e : a = b + 1
    · rw [e]; exact Nat.le_refl _
    · rw [Bm.sumTo_succ]; have := ih (by omega); omega
theorem one_i64 (xs : List Int) : ∀ u ∈ xs.map (Value.int .i64), u.oneCell' = true := by
  intro u hu
  obtain ⟨x, _, rfl⟩ := List.mem_map.1 hu
  rfl
theorem i64_take {w : World} {A : Option Addr} {l : List Nat} (h : I64 w A (zs l)) (k : Nat) : I64 w A (zs (l.take k)) := fun j x hx => by
  refine h j x ?_
  unfold zs at hx ⊢
  rw [List.getElem?_map, List.getElem?_take] at hx
  rw [List.getElem?_map]
  split at hx
  · exact hx
  · cases hx
theorem after_le9 {R : List Nat} {ts : List Bm.Tk} (hok : Ok R ts) (won : List Nat) : Bm.afterN R ts won ≤ 7776 := by
  have h1 : Bm.afterN R ts won ≤ (Bm.outs R).length := List.countP_le_length
  have h2 := Bm.outs_len_le hok.r6
  have h3 : 6 ^ R.length ≤ 6 ^ 5 := Nat.pow_le_pow_right (by omega) hok.h5
  omega
theorem beg_run {R o : List Nat} (hl : o.length ≤ R.length) (h : ∀ r, r < o.length → o.getD r 0 < R.getD r 0) : runB R (zs o) = true := by
  unfold runB
  rw [List.all_eq_true]
  intro p hp
  obtain ⟨k, hk, rfl⟩ := List.getElem_of_mem hp
  have hko : k < o.length := by simp [zs] at hk; omega
  have hkR : k < R.length := by omega
  have := h k hko
  rw [getD_at _ _ hko, getD_at _ _ hkR] at this
  simp only [List.getElem_zip, zs_at _ _ hkR, zs_at _ _ hko, decide_eq_true_eq]
  omega
theorem beg_mem {R o : List Nat} (ho : o ∈ Bm.outs R) (k : Nat) : ∀ r, r < (o.take k).length → (o.take k).getD r 0 < R.getD r 0 := fun r hr => by
  rw [List.length_take] at hr
  have hl := Bm.outs_len ho
  have := ((Bm.mem_outs R o).1 ho).2 r (by omega)
  rwa [List.getD_eq_getElem?_getD, List.getElem?_take, if_pos (by omega), ← List.getD_eq_getElem?_getD]
theorem beg_full {R o : List Nat} (ho : o ∈ Bm.outs R) : ∀ r, r < o.length → o.getD r 0 < R.getD r 0 := fun r hr => by
  have hl := Bm.outs_len ho
  exact ((Bm.mem_outs R o).1 ho).2 r (by omega)
theorem beg_snoc {R o : List Nat} (ho : o ∈ Bm.outs R) {k i : Nat} (hk : k < R.length) (hi : i < R.getD k 0) : ∀ r, r < (o.take k ++ [i]).length → (o.take k ++ [i]).getD r 0 < R.getD r 0 := fun r hr => by
  have hl := Bm.outs_len ho
  have hkl : (o.take k).length = k := by rw [List.length_take]; omega
  rw [List.length_append, hkl, List.length_singleton] at hr
  by_cases e : r = k
  · subst e
    rw [List.getD_eq_getElem?_getD, List.getElem?_append_right (by omega), hkl, Nat.sub_self]
    exact hi
  · rw [Bm.getD_app_left _ _ _ (by omega)]
    exact beg_mem ho k r (by omega)
theorem o_after (A : Option Addr) (R : List Nat) (c : Nat) (B : Option Addr) (ts : List Bm.Tk) (d : Nat) (w : World) (hA : I64 w A (zs R)) (hB : Tks w B (tz ts)) (hok : Ok R ts) (X : Option Addr) (o : List Nat) (xc : Nat) (hX : I64 w X (zs o)) (hl : o.length ≤ R.length) (hr : ∀ r, r < o.length → o.getD r 0 < R.getD r 0) : Calls Try.prog 43 #[.agg #[.slice A R.length c], .slice B ts.length d, .slice X o.length xc] w (GivesA w (Bm.afterN R ts o : Nat) (zs (Bm.aliveN ts o ts.length)) 0) := by
  have h := tAfter A (zs R) c B (tz ts) d w hA hB hok.len.1 hok.len.2.1 hok.len.2.2 X (zs o) xc hX (by rw [zs_len]; have := hok.h5; omega)
  unfold afterV at h
  rw [if_neg (by rw [ok_chk hok]; simp), nn_zs, nn_zs, nt_tz, zs_len, tz_len, zs_len, if_neg (by omega), if_neg (by rw [beg_run hl hr]; simp)] at h
  exact h
set_option maxRecDepth 100000 in
set_option maxHeartbeats 8000000 in
theorem behind_law (A : Option Addr) (R : List Int) (c : Nat) (B : Option Addr) (ts : List Tz) (d : Nat) (x0 x1 x2 x3 x4 many : Nat) (w : World) (hA : I64 w A R) (hB : Tks w B ts) (hl9 : R.length ≤ 9223372036854775807) (hd : ts.length ≤ d) (hd9 : d ≤ 9223372036854775807) (hts9 : ∀ t, t ∈ ts → t.1.length ≤ 9223372036854775807) (b0 : x0 < 256) (b1 : x1 < 256) (b2 : x2 < 256) (b3 : x3 < 256) (b4 : x4 < 256) (hm8 : many < 256) : Calls Try.prog 13 #[.agg #[.slice A R.length c], .slice B ts.length d, .agg #[.int .u8 (x0 : Nat), .int .u8 (x1 : Nat), .int .u8 (x2 : Nat), .int .u8 (x3 : Nat), .int .u8 (x4 : Nat)], .int .u8 (many : Nat)] w (Gives w (.bool true)) := by
  have hdi : (ts.length : Int) ≤ 9223372036854775807 := by omega
  cases hf : fineB R ts with
  | false =>
    have tok0 : True := trivial
    go_enter Try.func13, Try.ntmps13
    go_wp2_with (first
    | (clear tok0; go_at_call 45; refine (fine_any A R c B ts d _ (hA.ext (by (repeat (first | exact Below.refl _ _ | assumption | (refine below_gr ?_ (by (first | omega | (simp only [size_grow, World.size_alloc, size_drewN, size_drew, size_setCell] at *; omega))) _) | (refine below_alloc ?_ (by (first | omega | (simp only [size_grow, World.size_alloc, size_drewN, size_drew, size_setCell] at *; omega))) _) | (refine Below.setCell ?_ (by (first | omega | (simp only [size_grow, World.size_alloc, size_drewN, size_drew, size_setCell] at *; omega))) _) | refine below_drewN ?_ _ | refine below_drew ?_ | (refine below_step ?_ (by assumption) (by (first | omega | (simp only [size_grow, World.size_alloc, size_drewN, size_drew, size_setCell] at *; omega)))))))) (hB.ext (by (repeat (first | exact Below.refl _ _ | assumption | (refine below_gr ?_ (by (first | omega | (simp only [size_grow, World.size_alloc, size_drewN, size_drew, size_setCell] at *; omega))) _) | (refine below_alloc ?_ (by (first | omega | (simp only [size_grow, World.size_alloc, size_drewN, size_drew, size_setCell] at *; omega))) _) | (refine Below.setCell ?_ (by (first | omega | (simp only [size_grow, World.size_alloc, size_drewN, size_drew, size_setCell] at *; omega))) _) | refine below_drewN ?_ _ | refine below_drew ?_ | (refine below_step ?_ (by assumption) (by (first | omega | (simp only [size_grow, World.size_alloc, size_drewN, size_drew, size_setCell] at *; omega)))))))) hl9 hd hd9 hts9).mono ?_; rintro e u1 ⟨rfl, hb_u1⟩; replace hb_u1 := ex_below hb_u1; have hX : BlkAt u1 w.heap.size #[.slice A R.length c] 24 := (show BlkAt ((w.alloc (.cells #[.slice A R.length c] 24)).alloc (.cells #[.int .u8 (x0 : Nat), .int .u8 (x1 : Nat), .int .u8 (x2 : Nat), .int .u8 (x3 : Nat), .int .u8 (x4 : Nat)] 53)) w.heap.size #[.slice A R.length c] 24 from (by unfold BlkAt; (repeat (first | rw [Below.heap_alloc _ _ _ (by (first | omega | (simp only [size_grow, World.size_alloc, size_drewN, size_drew, size_setCell]; omega) | (simp only [size_grow, World.size_alloc, size_drewN, size_drew, size_setCell] at *; omega) | (simp; done) | (simp; omega)))])); exact heap_at (by (first | omega | (simp only [size_grow, World.size_alloc, size_drewN, size_drew, size_setCell]; omega) | (simp only [size_grow, World.size_alloc, size_drewN, size_drew, size_setCell] at *; omega) | (simp; done) | (simp; omega))))).ext hb_u1; have hY : BlkAt u1 (w.heap.size + 1) #[.int .u8 (x0 : Nat), .int .u8 (x1 : Nat), .int .u8 (x2 : Nat), .int .u8 (x3 : Nat), .int .u8 (x4 : Nat)] 53 := (show BlkAt ((w.alloc (.cells #[.slice A R.length c] 24)).alloc (.cells #[.int .u8 (x0 : Nat), .int .u8 (x1 : Nat), .int .u8 (x2 : Nat), .int .u8 (x3 : Nat), .int .u8 (x4 : Nat)] 53)) (w.heap.size + 1) #[.int .u8 (x0 : Nat), .int .u8 (x1 : Nat), .int .u8 (x2 : Nat), .int .u8 (x3 : Nat), .int .u8 (x4 : Nat)] 53 from (by unfold BlkAt; (repeat (first | rw [Below.heap_alloc _ _ _ (by (first | omega | (simp only [size_grow, World.size_alloc, size_drewN, size_drew, size_setCell]; omega) | (simp only [size_grow, World.size_alloc, size_drewN, size_drew, size_setCell] at *; omega) | (simp; done) | (simp; omega)))])); exact heap_at (by (first | omega | (simp only [size_grow, World.size_alloc, size_drewN, size_drew, size_setCell]; omega) | (simp only [size_grow, World.size_alloc, size_drewN, size_drew, size_setCell] at *; omega) | (simp; done) | (simp; omega))))).ext hb_u1; (try rw [hf]); have bel_u1 : Below w.heap.size w u1 := (by (repeat (first | exact Below.refl _ _ | assumption | (refine below_gr ?_ (by (first | omega | (simp only [size_grow, World.size_alloc, size_drewN, size_drew, size_setCell] at *; omega))) _) | (refine below_alloc ?_ (by (first | omega | (simp only [size_grow, World.size_alloc, size_drewN, size_drew, size_setCell] at *; omega))) _) | (refine Below.setCell ?_ (by (first | omega | (simp only [size_grow, World.size_alloc, size_drewN, size_drew, size_setCell] at *; omega))) _) | refine below_drewN ?_ _ | refine below_drew ?_ | (refine below_step ?_ (by assumption) (by (first | omega | (simp only [size_grow, World.size_alloc, size_drewN, size_drew, size_setCell] at *; omega))))))); clear hb_u1; have sz_u1 := bel_u1.size; replace hA := hA.ext bel_u1; replace hB := hB.ext bel_u1; (try clear hXc0 hXf hXl); have hXc0 := obj_at hX 0 _ rfl; have hXf := obj_fz hX 0; have hXl := obj_lt hX; (try clear hYc0 hYc1 hYc2 hYc3 hYc4 hYf hYl); have hYc0 := obj_at hY 0 _ rfl; have hYc1 := obj_at hY 1 _ rfl; have hYc2 := obj_at hY 2 _ rfl; have hYc3 := obj_at hY 3 _ rfl; have hYc4 := obj_at hY 4 _ rfl; have hYf := obj_fz hY 0; have hYl := obj_lt hY; have hW := bel_u1; clear bel_u1; have tok1 : True := trivial)
    | (clear tok1; go_at_call 20; refine (works_any _).mono ?_; rintro e u2 ⟨rfl, hb_u2⟩; replace hb_u2 := ex_below hb_u2; have bel_u2 : Below u1.heap.size u1 u2 := (by (repeat (first | exact Below.refl _ _ | assumption | (refine below_gr ?_ (by (first | omega | (simp only [size_grow, World.size_alloc, size_drewN, size_drew, size_setCell] at *; omega))) _) | (refine below_alloc ?_ (by (first | omega | (simp only [size_grow, World.size_alloc, size_drewN, size_drew, size_setCell] at *; omega))) _) | (refine Below.setCell ?_ (by (first | omega | (simp only [size_grow, World.size_alloc, size_drewN, size_drew, size_setCell] at *; omega))) _) | refine below_drewN ?_ _ | refine below_drew ?_ | (refine below_step ?_ (by assumption) (by (first | omega | (simp only [size_grow, World.size_alloc, size_drewN, size_drew, size_setCell] at *; omega))))))); clear hb_u2; have sz_u2 := bel_u2.size; replace hA := hA.ext bel_u2; replace hB := hB.ext bel_u2; replace hX := hX.ext bel_u2; replace hY := hY.ext bel_u2; replace hW := below_step hW bel_u2 (by have := hW.size; omega); (try clear hXc0 hXf hXl); have hXc0 := obj_at hX 0 _ rfl; have hXf := obj_fz hX 0; have hXl := obj_lt hX; (try clear hYc0 hYc1 hYc2 hYc3 hYc4 hYf hYl); have hYc0 := obj_at hY 0 _ rfl; have hYc1 := obj_at hY 1 _ rfl; have hYc2 := obj_at hY 2 _ rfl; have hYc3 := obj_at hY 3 _ rfl; have hYc4 := obj_at hY 4 _ rfl; have hYf := obj_fz hY 0; have hYl := obj_lt hY; clear bel_u2; have tok2 : True := trivial))

    go_ret
    exact gives_of rfl hW
  | true =>
    obtain ⟨R1, ts1, rfl, rfl, hok, hgr, hwd⟩ := fine_ok hf
    have HF := hide (fun w' (h1 : I64 w' A (zs R1)) (h2 : Tks w' B (tz ts1)) => by
      have := fine_any A (zs R1) c B (tz ts1) d w' h1 h2 hl9 hd hd9 hts9
      rw [hf, zs_len, tz_len] at this
      exact this)
    rw [zs_len, tz_len]
    clear hf hts9
    have hR5 := hok.h5
    have ht10 := hok.t10
    have hR5i : (R1.length : Int) ≤ 5 := by omega
    have ht10i : (ts1.length : Int) ≤ 10 := by omega
    skip
    have hR1 := hok.h1
    have hom := outcome_mem (R := R1) (X := [x0, x1, x2, x3, x4]) hok.r1 hR5
    have HOUT := hide (fun w' (h1 : I64 w' A (zs R1)) => Outcome_any A R1 c x0 x1 x2 x3 x4 w' h1 hR5 hok.r1 hok.r6 b0 b1 b2 b3 b4)
    have hol := outcomeN_len (R := R1) (X := [x0, x1, x2, x3, x4]) hR5
    have HOL := hide ((zs_len (outcomeN R1 [x0, x1, x2, x3, x4])).trans hol)
    have hlast := Bm.after_min (ts := ts1) (fun t ht => (hok.tu t ht).1) hom
    have hlle := Bm.aliveN_le ts1 (outcomeN R1 [x0, x1, x2, x3, x4]) ts1.length
    have hbeg := fun k => beg_mem hom k
    have hom2 := beg_full hom
    generalize outcomeN R1 [x0, x1, x2, x3, x4] = ow at *
    have C1 := hide (fun w' (h1 : I64 w' A (zs R1)) (h2 : Tks w' B (tz ts1)) => o_cov A R1 c B ts1 d w' h1 h2 hok)
    have C2 := hide (fun w' (h1 : I64 w' A (zs R1)) (h2 : Tks w' B (tz ts1)) => o_after A R1 c B ts1 d w' h1 h2 hok none [] 0 (I64.nil _ _) (by simp) (by simp))
    have C3 := hide (fun X xc w' (h1 : I64 w' A (zs R1)) (h2 : Tks w' B (tz ts1)) (h3 : I64 w' X (zs ow)) => o_after A R1 c B ts1 d w' h1 h2 hok X ow xc h3 (by omega) hom2)
    rw [hlast] at C3
    rw [List.length_nil] at C2
    have HAN := hide ((zs_len (Bm.aliveN ts1 [] ts1.length)).trans (Bm.alive_nil ts1 ts1.length))
    have HLL := hide (zs_len (Bm.aliveN ts1 ow ts1.length))
    rw [hol] at C3
    have hqm : ((many : Int)).tmod (R1.length : Int) = ((many % R1.length : Nat) : Int) := by rw [Int.tmod_eq_emod_of_nonneg (by omega)]; simp
    have hx8 : (many : Int) < 256 := by omega
    have hwx : IntKind.i64.wrap (many : Nat) = ((many : Nat) : Int) := by rw [IntKind.wrap_i64]; omega
    have hkl : many % R1.length < R1.length := Nat.mod_lt _ (by omega)
    have hn0 : (R1.length : Int) ≠ 0 := by omega
    have hnn : ¬ R1.length = 0 := by omega
    generalize many % R1.length = k at *
    have C4 := hide (fun X xc w' (h1 : I64 w' A (zs R1)) (h2 : Tks w' B (tz ts1)) (h3 : I64 w' X (zs (ow.take k))) => o_after A R1 c B ts1 d w' h1 h2 hok X (ow.take k) xc h3 (by rw [List.length_take]; omega) (hbeg k))
    have HLAST := hide (fun i (hi : i ∈ Bm.aliveN ts1 ow ts1.length) => Bm.alive_sub ts1.length k (rfl : ow.take k = ow.take k) hi)
    have hkk : (ow.take k).length = k := by rw [List.length_take]; omega
    rw [hkk] at C4
    have hsum := Bm.after_split (R := R1) (ts := ts1) (won := ow.take k) (by rw [hkk]; exact hkl)
    rw [hkk] at hsum
    have hgl := fun i => Bm.alive_len (ts := ts1) (won := ow.take k) (own := ow.take k ++ [i]) ts1.length k (by rw [List.take_append_of_le_length (by omega), List.take_of_length_le (by omega)])
    have hgs := fun i y => Bm.alive_sub (ts := ts1) (won := ow.take k) (own := ow.take k ++ [i]) ts1.length k (by rw [List.take_append_of_le_length (by omega), List.take_of_length_le (by omega)]) (i := y)
    have hbound := after_le9 hok (ow.take k)
    obtain ⟨f, hfe⟩ : ∃ f : Nat → Nat, (fun i => Bm.afterN R1 ts1 (ow.take k ++ [i])) = f := ⟨_, rfl⟩
    obtain ⟨g, hge⟩ : ∃ g : Nat → List Nat, (fun i => Bm.aliveN ts1 (ow.take k ++ [i]) ts1.length) = g := ⟨_, rfl⟩
    rw [hfe] at hsum
    have C5 := fun i (hi : i < R1.getD k 0) => hide (fun X xc w' (h1 : I64 w' A (zs R1)) (h2 : Tks w' B (tz ts1)) (h3 : I64 w' X (zs (ow.take k ++ [i]))) => by
      have := o_after A R1 c B ts1 d w' h1 h2 hok X (ow.take k ++ [i]) xc h3 (by rw [List.length_append, hkk, List.length_singleton]; omega) (beg_snoc hom hkl hi)
      rw [show Bm.afterN R1 ts1 (ow.take k ++ [i]) = f i from congrFun hfe i, show Bm.aliveN ts1 (ow.take k ++ [i]) ts1.length = g i from congrFun hge i, List.length_append, hkk, List.length_singleton] at this
      exact this)
    have HG := hide (fun i => (show (g i).length ≤ (Bm.aliveN ts1 (ow.take k) ts1.length).length ∧ ∀ y, y ∈ g i → y ∈ Bm.aliveN ts1 (ow.take k) ts1.length by
      rw [← hge]; exact ⟨hgl i, fun y hy => hgs i y hy⟩))
    have halv := Bm.aliveN_le ts1 (ow.take k) ts1.length
    have HTK := hide (fun w' P (h : I64 w' P (zs ow)) => i64_take h k)
    have HLEN := hide hkk
    have HOW := hide (show (zs (ow.take k)).length = k by rw [zs_len, hkk])
    have hnk : R1.getD k 0 = R1[k] := getD_at _ _ hkl 0
    have hnp := hok.r1 _ (List.getElem_mem hkl)
    have hn6 := hok.r6 _ (List.getElem_mem hkl)
    clear hgl hgs hfe hge hom hom2 hbeg hok hkk hgr hwd
    generalize Bm.aliveN ts1 ow ts1.length = last at *
    generalize Bm.aliveN ts1 (ow.take k) ts1.length = alv at *
    generalize Bm.aliveN ts1 [] ts1.length = all at *
    generalize Bm.afterN R1 ts1 [] = nall at *
    generalize Bm.afterN R1 ts1 (ow.take k) = N at *
    have C8 := hide (fun P q y w' (h : I64 w' P (zs alv)) (hy : y ∈ alv) => by
      have := in_any P (zs alv) q (y : Nat) w' h (by rw [zs_len]; omega)
      rw [zs_contains, decide_eq_true hy, zs_len] at this
      exact this)
    have HAL := hide (zs_len alv)
    have hll : (last.length : Int) ≤ 10 := by omega
    have hal : (alv.length : Int) ≤ 10 := by omega
    have HOL2 := hide hol
    obtain ⟨mn, hmn⟩ : ∃ mn, min 1 last.length = mn := ⟨_, rfl⟩
    rw [hmn] at C3
    have HMN := hide hmn
    clear hmn
    clear hol hlast
    have tok0 : True := trivial
    go_enter Try.func13, Try.ntmps13
    go_upto_region 7 with (first
    | (clear tok0; go_at_call 45; refine (HF.out _ (hA.ext (by (repeat (first | exact Below.refl _ _ | assumption | (refine below_gr ?_ (by (first | omega | (simp only [size_grow, World.size_alloc, size_drewN, size_drew, size_setCell] at *; omega))) _) | (refine below_alloc ?_ (by (first | omega | (simp only [size_grow, World.size_alloc, size_drewN, size_drew, size_setCell] at *; omega))) _) | (refine Below.setCell ?_ (by (first | omega | (simp only [size_grow, World.size_alloc, size_drewN, size_drew, size_setCell] at *; omega))) _) | refine below_drewN ?_ _ | refine below_drew ?_ | (refine below_step ?_ (by assumption) (by (first | omega | (simp only [size_grow, World.size_alloc, size_drewN, size_drew, size_setCell] at *; omega)))))))) (hB.ext (by (repeat (first | exact Below.refl _ _ | assumption | (refine below_gr ?_ (by (first | omega | (simp only [size_grow, World.size_alloc, size_drewN, size_drew, size_setCell] at *; omega))) _) | (refine below_alloc ?_ (by (first | omega | (simp only [size_grow, World.size_alloc, size_drewN, size_drew, size_setCell] at *; omega))) _) | (refine Below.setCell ?_ (by (first | omega | (simp only [size_grow, World.size_alloc, size_drewN, size_drew, size_setCell] at *; omega))) _) | refine below_drewN ?_ _ | refine below_drew ?_ | (refine below_step ?_ (by assumption) (by (first | omega | (simp only [size_grow, World.size_alloc, size_drewN, size_drew, size_setCell] at *; omega))))))))).mono ?_; rintro e u1 ⟨rfl, hb_u1⟩; replace hb_u1 := ex_below hb_u1; have hX : BlkAt u1 w.heap.size #[.slice A R1.length c] 24 := (show BlkAt ((w.alloc (.cells #[.slice A R1.length c] 24)).alloc (.cells #[.int .u8 (x0 : Nat), .int .u8 (x1 : Nat), .int .u8 (x2 : Nat), .int .u8 (x3 : Nat), .int .u8 (x4 : Nat)] 53)) w.heap.size #[.slice A R1.length c] 24 from (by unfold BlkAt; (repeat (first | rw [Below.heap_alloc _ _ _ (by (first | omega | (simp only [size_grow, World.size_alloc, size_drewN, size_drew, size_setCell]; omega) | (simp only [size_grow, World.size_alloc, size_drewN, size_drew, size_setCell] at *; omega) | (simp; done) | (simp; omega)))])); exact heap_at (by (first | omega | (simp only [size_grow, World.size_alloc, size_drewN, size_drew, size_setCell]; omega) | (simp only [size_grow, World.size_alloc, size_drewN, size_drew, size_setCell] at *; omega) | (simp; done) | (simp; omega))))).ext hb_u1; have hY : BlkAt u1 (w.heap.size + 1) #[.int .u8 (x0 : Nat), .int .u8 (x1 : Nat), .int .u8 (x2 : Nat), .int .u8 (x3 : Nat), .int .u8 (x4 : Nat)] 53 := (show BlkAt ((w.alloc (.cells #[.slice A R1.length c] 24)).alloc (.cells #[.int .u8 (x0 : Nat), .int .u8 (x1 : Nat), .int .u8 (x2 : Nat), .int .u8 (x3 : Nat), .int .u8 (x4 : Nat)] 53)) (w.heap.size + 1) #[.int .u8 (x0 : Nat), .int .u8 (x1 : Nat), .int .u8 (x2 : Nat), .int .u8 (x3 : Nat), .int .u8 (x4 : Nat)] 53 from (by unfold BlkAt; (repeat (first | rw [Below.heap_alloc _ _ _ (by (first | omega | (simp only [size_grow, World.size_alloc, size_drewN, size_drew, size_setCell]; omega) | (simp only [size_grow, World.size_alloc, size_drewN, size_drew, size_setCell] at *; omega) | (simp; done) | (simp; omega)))])); exact heap_at (by (first | omega | (simp only [size_grow, World.size_alloc, size_drewN, size_drew, size_setCell]; omega) | (simp only [size_grow, World.size_alloc, size_drewN, size_drew, size_setCell] at *; omega) | (simp; done) | (simp; omega))))).ext hb_u1; skip; have bel_u1 : Below w.heap.size w u1 := (by (repeat (first | exact Below.refl _ _ | assumption | (refine below_gr ?_ (by (first | omega | (simp only [size_grow, World.size_alloc, size_drewN, size_drew, size_setCell] at *; omega))) _) | (refine below_alloc ?_ (by (first | omega | (simp only [size_grow, World.size_alloc, size_drewN, size_drew, size_setCell] at *; omega))) _) | (refine Below.setCell ?_ (by (first | omega | (simp only [size_grow, World.size_alloc, size_drewN, size_drew, size_setCell] at *; omega))) _) | refine below_drewN ?_ _ | refine below_drew ?_ | (refine below_step ?_ (by assumption) (by (first | omega | (simp only [size_grow, World.size_alloc, size_drewN, size_drew, size_setCell] at *; omega))))))); clear hb_u1; have sz_u1 := bel_u1.size; replace hA := hA.ext bel_u1; replace hB := hB.ext bel_u1; (try clear hXc0 hXf hXl); have hXc0 := obj_at hX 0 _ rfl; have hXf := obj_fz hX 0; have hXl := obj_lt hX; (try clear hYc0 hYc1 hYc2 hYc3 hYc4 hYf hYl); have hYc0 := obj_at hY 0 _ rfl; have hYc1 := obj_at hY 1 _ rfl; have hYc2 := obj_at hY 2 _ rfl; have hYc3 := obj_at hY 3 _ rfl; have hYc4 := obj_at hY 4 _ rfl; have hYf := obj_fz hY 0; have hYl := obj_lt hY; have hW := bel_u1; clear bel_u1; have tok1 : True := trivial)
    | (clear tok1; go_at_call 47; refine (HOUT.out _ (hA.ext (by (repeat (first | exact Below.refl _ _ | assumption | (refine below_gr ?_ (by (first | omega | (simp only [size_grow, World.size_alloc, size_drewN, size_drew, size_setCell] at *; omega))) _) | (refine below_alloc ?_ (by (first | omega | (simp only [size_grow, World.size_alloc, size_drewN, size_drew, size_setCell] at *; omega))) _) | (refine Below.setCell ?_ (by (first | omega | (simp only [size_grow, World.size_alloc, size_drewN, size_drew, size_setCell] at *; omega))) _) | refine below_drewN ?_ _ | refine below_drew ?_ | (refine below_step ?_ (by assumption) (by (first | omega | (simp only [size_grow, World.size_alloc, size_drewN, size_drew, size_setCell] at *; omega))))))))).mono ?_; rintro e u2 ⟨O1, o1, rfl, hb_u2, hO1, ho1c, -⟩; replace hb_u2 := ex_below hb_u2; rw [HOL.out]; have bel_u2 : Below u1.heap.size u1 u2 := (by (repeat (first | exact Below.refl _ _ | assumption | (refine below_gr ?_ (by (first | omega | (simp only [size_grow, World.size_alloc, size_drewN, size_drew, size_setCell] at *; omega))) _) | (refine below_alloc ?_ (by (first | omega | (simp only [size_grow, World.size_alloc, size_drewN, size_drew, size_setCell] at *; omega))) _) | (refine Below.setCell ?_ (by (first | omega | (simp only [size_grow, World.size_alloc, size_drewN, size_drew, size_setCell] at *; omega))) _) | refine below_drewN ?_ _ | refine below_drew ?_ | (refine below_step ?_ (by assumption) (by (first | omega | (simp only [size_grow, World.size_alloc, size_drewN, size_drew, size_setCell] at *; omega))))))); clear hb_u2; have sz_u2 := bel_u2.size; replace hA := hA.ext bel_u2; replace hB := hB.ext bel_u2; replace hX := hX.ext bel_u2; replace hY := hY.ext bel_u2; replace hW := below_step hW bel_u2 (by have := hW.size; omega); (try clear hXc0 hXf hXl); have hXc0 := obj_at hX 0 _ rfl; have hXf := obj_fz hX 0; have hXl := obj_lt hX; (try clear hYc0 hYc1 hYc2 hYc3 hYc4 hYf hYl); have hYc0 := obj_at hY 0 _ rfl; have hYc1 := obj_at hY 1 _ rfl; have hYc2 := obj_at hY 2 _ rfl; have hYc3 := obj_at hY 3 _ rfl; have hYc4 := obj_at hY 4 _ rfl; have hYf := obj_fz hY 0; have hYl := obj_lt hY; clear bel_u2; have tok2 : True := trivial)
    | (clear tok2; go_at_call 32; refine (C1.out _ (hA.ext (by (repeat (first | exact Below.refl _ _ | assumption | (refine below_gr ?_ (by (first | omega | (simp only [size_grow, World.size_alloc, size_drewN, size_drew, size_setCell] at *; omega))) _) | (refine below_alloc ?_ (by (first | omega | (simp only [size_grow, World.size_alloc, size_drewN, size_drew, size_setCell] at *; omega))) _) | (refine Below.setCell ?_ (by (first | omega | (simp only [size_grow, World.size_alloc, size_drewN, size_drew, size_setCell] at *; omega))) _) | refine below_drewN ?_ _ | refine below_drew ?_ | (refine below_step ?_ (by assumption) (by (first | omega | (simp only [size_grow, World.size_alloc, size_drewN, size_drew, size_setCell] at *; omega)))))))) (hB.ext (by (repeat (first | exact Below.refl _ _ | assumption | (refine below_gr ?_ (by (first | omega | (simp only [size_grow, World.size_alloc, size_drewN, size_drew, size_setCell] at *; omega))) _) | (refine below_alloc ?_ (by (first | omega | (simp only [size_grow, World.size_alloc, size_drewN, size_drew, size_setCell] at *; omega))) _) | (refine Below.setCell ?_ (by (first | omega | (simp only [size_grow, World.size_alloc, size_drewN, size_drew, size_setCell] at *; omega))) _) | refine below_drewN ?_ _ | refine below_drew ?_ | (refine below_step ?_ (by assumption) (by (first | omega | (simp only [size_grow, World.size_alloc, size_drewN, size_drew, size_setCell] at *; omega))))))))).mono ?_; rintro e u3 ⟨rfl, hb_u3⟩; replace hb_u3 := ex_below hb_u3; have bel_u3 : Below u2.heap.size u2 u3 := (by (repeat (first | exact Below.refl _ _ | assumption | (refine below_gr ?_ (by (first | omega | (simp only [size_grow, World.size_alloc, size_drewN, size_drew, size_setCell] at *; omega))) _) | (refine below_alloc ?_ (by (first | omega | (simp only [size_grow, World.size_alloc, size_drewN, size_drew, size_setCell] at *; omega))) _) | (refine Below.setCell ?_ (by (first | omega | (simp only [size_grow, World.size_alloc, size_drewN, size_drew, size_setCell] at *; omega))) _) | refine below_drewN ?_ _ | refine below_drew ?_ | (refine below_step ?_ (by assumption) (by (first | omega | (simp only [size_grow, World.size_alloc, size_drewN, size_drew, size_setCell] at *; omega))))))); clear hb_u3; have sz_u3 := bel_u3.size; replace hA := hA.ext bel_u3; replace hB := hB.ext bel_u3; replace hX := hX.ext bel_u3; replace hY := hY.ext bel_u3; replace hW := below_step hW bel_u3 (by have := hW.size; omega); replace hO1 := hO1.ext bel_u3; (try clear hXc0 hXf hXl); have hXc0 := obj_at hX 0 _ rfl; have hXf := obj_fz hX 0; have hXl := obj_lt hX; (try clear hYc0 hYc1 hYc2 hYc3 hYc4 hYf hYl); have hYc0 := obj_at hY 0 _ rfl; have hYc1 := obj_at hY 1 _ rfl; have hYc2 := obj_at hY 2 _ rfl; have hYc3 := obj_at hY 3 _ rfl; have hYc4 := obj_at hY 4 _ rfl; have hYf := obj_fz hY 0; have hYl := obj_lt hY; clear bel_u3; have tok3 : True := trivial)
    | (clear tok3; go_at_call 43; refine (C2.out _ (hA.ext (by (repeat (first | exact Below.refl _ _ | assumption | (refine below_gr ?_ (by (first | omega | (simp only [size_grow, World.size_alloc, size_drewN, size_drew, size_setCell] at *; omega))) _) | (refine below_alloc ?_ (by (first | omega | (simp only [size_grow, World.size_alloc, size_drewN, size_drew, size_setCell] at *; omega))) _) | (refine Below.setCell ?_ (by (first | omega | (simp only [size_grow, World.size_alloc, size_drewN, size_drew, size_setCell] at *; omega))) _) | refine below_drewN ?_ _ | refine below_drew ?_ | (refine below_step ?_ (by assumption) (by (first | omega | (simp only [size_grow, World.size_alloc, size_drewN, size_drew, size_setCell] at *; omega)))))))) (hB.ext (by (repeat (first | exact Below.refl _ _ | assumption | (refine below_gr ?_ (by (first | omega | (simp only [size_grow, World.size_alloc, size_drewN, size_drew, size_setCell] at *; omega))) _) | (refine below_alloc ?_ (by (first | omega | (simp only [size_grow, World.size_alloc, size_drewN, size_drew, size_setCell] at *; omega))) _) | (refine Below.setCell ?_ (by (first | omega | (simp only [size_grow, World.size_alloc, size_drewN, size_drew, size_setCell] at *; omega))) _) | refine below_drewN ?_ _ | refine below_drew ?_ | (refine below_step ?_ (by assumption) (by (first | omega | (simp only [size_grow, World.size_alloc, size_drewN, size_drew, size_setCell] at *; omega))))))))).mono ?_; rintro e u4 ⟨O2, o2, rfl, hb_u4, hO2⟩; replace hb_u4 := ex_below hb_u4; rw [HAN.out]; have bel_u4 : Below u3.heap.size u3 u4 := (by (repeat (first | exact Below.refl _ _ | assumption | (refine below_gr ?_ (by (first | omega | (simp only [size_grow, World.size_alloc, size_drewN, size_drew, size_setCell] at *; omega))) _) | (refine below_alloc ?_ (by (first | omega | (simp only [size_grow, World.size_alloc, size_drewN, size_drew, size_setCell] at *; omega))) _) | (refine Below.setCell ?_ (by (first | omega | (simp only [size_grow, World.size_alloc, size_drewN, size_drew, size_setCell] at *; omega))) _) | refine below_drewN ?_ _ | refine below_drew ?_ | (refine below_step ?_ (by assumption) (by (first | omega | (simp only [size_grow, World.size_alloc, size_drewN, size_drew, size_setCell] at *; omega))))))); clear hb_u4; have sz_u4 := bel_u4.size; replace hA := hA.ext bel_u4; replace hB := hB.ext bel_u4; replace hX := hX.ext bel_u4; replace hY := hY.ext bel_u4; replace hW := below_step hW bel_u4 (by have := hW.size; omega); replace hO1 := hO1.ext bel_u4; (try clear hXc0 hXf hXl); have hXc0 := obj_at hX 0 _ rfl; have hXf := obj_fz hX 0; have hXl := obj_lt hX; (try clear hYc0 hYc1 hYc2 hYc3 hYc4 hYf hYl); have hYc0 := obj_at hY 0 _ rfl; have hYc1 := obj_at hY 1 _ rfl; have hYc2 := obj_at hY 2 _ rfl; have hYc3 := obj_at hY 3 _ rfl; have hYc4 := obj_at hY 4 _ rfl; have hYf := obj_fz hY 0; have hYl := obj_lt hY; clear bel_u4; have tok4 : True := trivial)
    | (clear tok4; go_at_call 43; refine (C3.out _ _ _ (hA.ext (by (repeat (first | exact Below.refl _ _ | assumption | (refine below_gr ?_ (by (first | omega | (simp only [size_grow, World.size_alloc, size_drewN, size_drew, size_setCell] at *; omega))) _) | (refine below_alloc ?_ (by (first | omega | (simp only [size_grow, World.size_alloc, size_drewN, size_drew, size_setCell] at *; omega))) _) | (refine Below.setCell ?_ (by (first | omega | (simp only [size_grow, World.size_alloc, size_drewN, size_drew, size_setCell] at *; omega))) _) | refine below_drewN ?_ _ | refine below_drew ?_ | (refine below_step ?_ (by assumption) (by (first | omega | (simp only [size_grow, World.size_alloc, size_drewN, size_drew, size_setCell] at *; omega)))))))) (hB.ext (by (repeat (first | exact Below.refl _ _ | assumption | (refine below_gr ?_ (by (first | omega | (simp only [size_grow, World.size_alloc, size_drewN, size_drew, size_setCell] at *; omega))) _) | (refine below_alloc ?_ (by (first | omega | (simp only [size_grow, World.size_alloc, size_drewN, size_drew, size_setCell] at *; omega))) _) | (refine Below.setCell ?_ (by (first | omega | (simp only [size_grow, World.size_alloc, size_drewN, size_drew, size_setCell] at *; omega))) _) | refine below_drewN ?_ _ | refine below_drew ?_ | (refine below_step ?_ (by assumption) (by (first | omega | (simp only [size_grow, World.size_alloc, size_drewN, size_drew, size_setCell] at *; omega)))))))) (hO1.ext (by (repeat (first | exact Below.refl _ _ | assumption | (refine below_gr ?_ (by (first | omega | (simp only [size_grow, World.size_alloc, size_drewN, size_drew, size_setCell] at *; omega))) _) | (refine below_alloc ?_ (by (first | omega | (simp only [size_grow, World.size_alloc, size_drewN, size_drew, size_setCell] at *; omega))) _) | (refine Below.setCell ?_ (by (first | omega | (simp only [size_grow, World.size_alloc, size_drewN, size_drew, size_setCell] at *; omega))) _) | refine below_drewN ?_ _ | refine below_drew ?_ | (refine below_step ?_ (by assumption) (by (first | omega | (simp only [size_grow, World.size_alloc, size_drewN, size_drew, size_setCell] at *; omega))))))))).mono ?_; rintro e u5 ⟨O3, o3, rfl, hb_u5, hO3⟩; replace hb_u5 := ex_below hb_u5; rw [HLL.out]; have bel_u5 : Below u4.heap.size u4 u5 := (by (repeat (first | exact Below.refl _ _ | assumption | (refine below_gr ?_ (by (first | omega | (simp only [size_grow, World.size_alloc, size_drewN, size_drew, size_setCell] at *; omega))) _) | (refine below_alloc ?_ (by (first | omega | (simp only [size_grow, World.size_alloc, size_drewN, size_drew, size_setCell] at *; omega))) _) | (refine Below.setCell ?_ (by (first | omega | (simp only [size_grow, World.size_alloc, size_drewN, size_drew, size_setCell] at *; omega))) _) | refine below_drewN ?_ _ | refine below_drew ?_ | (refine below_step ?_ (by assumption) (by (first | omega | (simp only [size_grow, World.size_alloc, size_drewN, size_drew, size_setCell] at *; omega))))))); clear hb_u5; have sz_u5 := bel_u5.size; replace hA := hA.ext bel_u5; replace hB := hB.ext bel_u5; replace hX := hX.ext bel_u5; replace hY := hY.ext bel_u5; replace hW := below_step hW bel_u5 (by have := hW.size; omega); replace hO1 := hO1.ext bel_u5; replace hO2 := hO2.ext bel_u5; (try clear hXc0 hXf hXl); have hXc0 := obj_at hX 0 _ rfl; have hXf := obj_fz hX 0; have hXl := obj_lt hX; (try clear hYc0 hYc1 hYc2 hYc3 hYc4 hYf hYl); have hYc0 := obj_at hY 0 _ rfl; have hYc1 := obj_at hY 1 _ rfl; have hYc2 := obj_at hY 2 _ rfl; have hYc3 := obj_at hY 3 _ rfl; have hYc4 := obj_at hY 4 _ rfl; have hYf := obj_fz hY 0; have hYl := obj_lt hY; clear bel_u5; have tok5 : True := trivial))

    go_cut [84] from 56 to 83 (fun s wx => s = .bool false ∧ wx = u5)
    case first =>
      as_aux_lemma =>
      have hmv := HMN.out
      by_cases hl0 : (1 : Int) ≤ (last.length : Nat)
      all_goals
        go_wp2_with fail
        all_goals (go_meet; exact ⟨v_bool (by first | rfl | (simp; omega)), rfl⟩)
    case rest =>
    obtain ⟨rfl, hwe⟩ := hcut
    rw [hwe]
    clear hwe HMN
    have hko : k ≤ o1 := by have := ho1c; rw [HOL.out] at this; omega
    have hkoi : (k : Int) ≤ (o1 : Nat) := by omega
    have hkR : k ≤ R1.length := by omega
    have hkRi : (k : Int) ≤ (R1.length : Nat) := by omega
    clear ho1c
    obtain ⟨qb, qo, rfl, hqb⟩ := zsF hO1 (by rw [HOL2.out]; omega)
    go_upto_region 10 with fail
    have tkv40 : True := trivial
    go_region_held3 (fun w' => w'.cell? ⟨w.heap.size, 0, none⟩ = some (.slice A R1.length c)) (simp (maxDischargeDepth := 9) [*, World.cell?_alloc_some, World.cell?_setCell_far]) (first
      | (clear tkv40; go_at_call 43; refine (C4.out _ _ _ (hA.ext (by (repeat (first | exact Below.refl _ _ | assumption | (refine below_gr ?_ (by (first | omega | (simp only [size_grow, World.size_alloc, size_drewN, size_drew, size_setCell] at *; omega))) _) | (refine below_alloc ?_ (by (first | omega | (simp only [size_grow, World.size_alloc, size_drewN, size_drew, size_setCell] at *; omega))) _) | (refine Below.setCell ?_ (by (first | omega | (simp only [size_grow, World.size_alloc, size_drewN, size_drew, size_setCell] at *; omega))) _) | refine below_drewN ?_ _ | refine below_drew ?_ | (refine below_step ?_ (by assumption) (by (first | omega | (simp only [size_grow, World.size_alloc, size_drewN, size_drew, size_setCell] at *; omega)))))))) (hB.ext (by (repeat (first | exact Below.refl _ _ | assumption | (refine below_gr ?_ (by (first | omega | (simp only [size_grow, World.size_alloc, size_drewN, size_drew, size_setCell] at *; omega))) _) | (refine below_alloc ?_ (by (first | omega | (simp only [size_grow, World.size_alloc, size_drewN, size_drew, size_setCell] at *; omega))) _) | (refine Below.setCell ?_ (by (first | omega | (simp only [size_grow, World.size_alloc, size_drewN, size_drew, size_setCell] at *; omega))) _) | refine below_drewN ?_ _ | refine below_drew ?_ | (refine below_step ?_ (by assumption) (by (first | omega | (simp only [size_grow, World.size_alloc, size_drewN, size_drew, size_setCell] at *; omega)))))))) (HTK.out _ _ (hO1.ext (by (repeat (first | exact Below.refl _ _ | assumption | (refine below_gr ?_ (by (first | omega | (simp only [size_grow, World.size_alloc, size_drewN, size_drew, size_setCell] at *; omega))) _) | (refine below_alloc ?_ (by (first | omega | (simp only [size_grow, World.size_alloc, size_drewN, size_drew, size_setCell] at *; omega))) _) | (refine Below.setCell ?_ (by (first | omega | (simp only [size_grow, World.size_alloc, size_drewN, size_drew, size_setCell] at *; omega))) _) | refine below_drewN ?_ _ | refine below_drew ?_ | (refine below_step ?_ (by assumption) (by (first | omega | (simp only [size_grow, World.size_alloc, size_drewN, size_drew, size_setCell] at *; omega)))))))))).mono ?_; rintro e v4 ⟨O4, o4, rfl, hb_v4, hO4⟩; replace hb_v4 := ex_below hb_v4; have hz_v4 := hb_v4.size; (try simp only [size_grow, World.size_alloc, size_drewN, size_drew, size_setCell] at hz_v4); have hk0_v4 := own_cell hb_v4 (b := w.heap.size) (by (first | omega | (simp only [size_grow, World.size_alloc, size_drewN, size_drew, size_setCell]; omega) | (simp only [size_grow, World.size_alloc, size_drewN, size_drew, size_setCell] at *; omega) | (simp; done) | (simp; omega))); have hl0_v4 : w.heap.size < v4.heap.size := (by (first | omega | (simp only [size_grow, World.size_alloc, size_drewN, size_drew, size_setCell] at *; omega))); (try rw [HAL.out]); have tkv41 : True := trivial)
      )
    have bel_v4 : Below u5.heap.size u5 v4 := (by (repeat (first | exact Below.refl _ _ | assumption | (refine below_gr ?_ (by (first | omega | (simp only [size_grow, World.size_alloc, size_drewN, size_drew, size_setCell] at *; omega))) _) | (refine below_alloc ?_ (by (first | omega | (simp only [size_grow, World.size_alloc, size_drewN, size_drew, size_setCell] at *; omega))) _) | (refine Below.setCell ?_ (by (first | omega | (simp only [size_grow, World.size_alloc, size_drewN, size_drew, size_setCell] at *; omega))) _) | refine below_drewN ?_ _ | refine below_drew ?_ | (refine below_step ?_ (by assumption) (by (first | omega | (simp only [size_grow, World.size_alloc, size_drewN, size_drew, size_setCell] at *; omega)))))))
    have sz_v4 := bel_v4.size
    replace hA := hA.ext bel_v4
    replace hB := hB.ext bel_v4
    replace hX := hX.ext bel_v4
    replace hY := hY.ext bel_v4
    replace hW := below_step hW bel_v4 (by have := hW.size; omega)
    replace hO1 := hO1.ext bel_v4
    replace hO2 := hO2.ext bel_v4
    replace hO3 := hO3.ext bel_v4
    clear bel_v4 hb_v4 hz_v4 hk0_v4 hl0_v4
    (try clear hXc0 hXf hXl)
    have hXc0 := obj_at hX 0 _ rfl
    have hXf := obj_fz hX 0
    have hXl := obj_lt hX
    (try clear hYc0 hYc1 hYc2 hYc3 hYc4 hYf hYl)
    have hYc0 := obj_at hY 0 _ rfl
    have hYc1 := obj_at hY 1 _ rfl
    have hYc2 := obj_at hY 2 _ rfl
    have hYc3 := obj_at hY 3 _ rfl
    have hYc4 := obj_at hY 4 _ rfl
    have hYf := obj_fz hY 0
    have hYl := obj_lt hY
    go_upto_region 14 with fail
    obtain ⟨ab, ao, rfl, hab⟩ := zsF hA (by omega)
    obtain ⟨n, hn⟩ : ∃ n, R1[k] = n := ⟨_, rfl⟩
    rw [hn] at hnk hnp hn6
    rw [hnk] at hsum
    have C6 := fun i (hi : i < n) => C5 i (by rw [hnk]; exact hi)
    have HN := hide hn
    have HSUM := hide hsum
    have HMON := hide (fun i (hi : i < n) => (show Bm.sumTo f i + f i ≤ N by
      have h1 := sumTo_mono f (a := i + 1) (b := n) (by omega)
      rw [Bm.sumTo_succ] at h1
      omega))
    clear HF HOUT C1 C2 C3 C4 C5 HAN HLL HOL hnk hn hsum hqm hwx hx8 hn0 hnn hlle hm8 hl9 hd9 hd hdi b0 b1 b2 b3 b4
    go_wp2
    go_loopw [20, 21] (fun t20 t21 wr => ∃ i : Nat, i ≤ n ∧ t21 = .int .i64 (i : Nat) ∧ t20 = .int .i64 (Bm.sumTo f i : Nat) ∧ Below v4.heap.size v4 wr) (fun _ i _ => n - (intOf i).toNat)
    case atStart => exact ⟨0, Nat.zero_le _, rfl, rfl, Below.refl _ _⟩
    case round =>
      obtain ⟨i, hi, rfl, rfl, hb⟩ := hrel
      obtain ⟨wo, rfl⟩ : ∃ wo, wo = wr := ⟨_, rfl⟩
      have hA1 := hA.ext hb
      have hB1 := hB.ext hb
      have hQ1 := hO1.ext hb
      have hV1 := hO4.ext hb
      have hX1 := hX.ext hb
      have c9 := zsI hA1 hkl
      rw [HN.out] at c9
      (try clear hX1c0 hX1f hX1l)
      have hX1c0 := obj_at hX1 0 _ rfl
      have hX1f := obj_fz hX1 0
      have hX1l := obj_lt hX1
      by_cases hlt : i < n
      · have hii : (i : Int) < (n : Int) := by omega
        have D5 := C6 i hlt
        obtain ⟨hg1, hg2⟩ := HG.out i
        have hsb := HMON.out i hlt
        have hss := hide (Bm.sumTo_succ f i)
        generalize Bm.sumTo f i = s at *
        generalize f i = m at *
        generalize g i = own at *
        have HRW := hide (show (zs (ow.take k)).map (Value.int .i64) ++ [Value.int .i64 (i : Nat)] = (zs (ow.take k ++ [i])).map (Value.int .i64) by unfold zs; simp)
        have HLK := hide (show (zs (ow.take k ++ [i])).length = k + 1 by rw [zs_len, List.length_append, HLEN.out]; rfl)
        have HG2 := hide hg2
        clear hg2
        have hgi : (own.length : Int) ≤ (alv.length : Nat) := by omega
        have hsi : (s : Int) + (m : Int) ≤ 7776 := by omega
        obtain ⟨j0, jh, jz, js, jb⟩ := info_parts info3
        have hk5 : k < 5 := by omega
        go_upto_region 17 with fail
        go_cut [22, 23, 24] from 102 to 150 (fun s22 s23 s24 wx => ∃ (O : Option Addr) (oc : Nat), s22 = .int .i64 (m : Nat) ∧ s23 = .slice O (zs own).length oc ∧ s24 = .int .i64 0 ∧ I64 wx O (zs own) ∧ Below wo.heap.size wo wx)
        case first =>
          as_aux_lemma =>
          refine wp_region_noPanic ?_
          refine wp_region_held_drew (S := fun w' => Below wo.heap.size wo w') (by kernel_rfl) ?_ (fun _ => ?_)
          · exact below_drew (Below.refl _ _)
          have hP : Below wo.heap.size wo wo.drew := below_drew (Below.refl _ _)
          have hZ : wo.heap.size ≤ wo.drew.heap.size := Nat.le_refl _
          obtain ⟨W0, hW0⟩ : ∃ W0, wo.drew = W0 := ⟨_, rfl⟩
          rw [hW0] at hP hZ ⊢
          clear hW0
          refine wpAnyH_take (i := 0) (v := ?_) rfl (by kernel_rfl) (by kernel_rfl) (by kernel_rfl) (fun _ _ _ h => h) (Or.inl ⟨by rfl, ?_⟩) hP ?_
          rotate_left
          · (intro ww hSw; have g0 := (hSw.cell (p := ⟨w.heap.size, 0, none⟩) hX1l).trans hX1c0; go_simp; try with_reducible rfl)
          (try simp only [Act.put, List.getElem_toArray, List.getElem_cons_zero, List.getElem_cons_succ, List.setIfInBounds_toArray, List.set_cons_zero, List.set_cons_succ])
          refine wpAnyH_take (i := 1) (v := ?_) rfl (by kernel_rfl) (by kernel_rfl) (by kernel_rfl) (fun _ _ _ h => h) (Or.inl ⟨by rfl, ?_⟩) hP ?_
          rotate_left
          · (intro ww hSw; go_simp; try with_reducible rfl)
          (try simp only [Act.put, List.getElem_toArray, List.getElem_cons_zero, List.getElem_cons_succ, List.setIfInBounds_toArray, List.set_cons_zero, List.set_cons_succ])
          refine wpAnyH_take (i := 3) (v := ?_) rfl (by kernel_rfl) (by kernel_rfl) (by kernel_rfl) (fun _ _ _ h => h) (Or.inl ⟨by rfl, ?_⟩) hP ?_
          rotate_left
          · (intro ww hSw; go_simp; try with_reducible rfl)
          (try simp only [Act.put, List.getElem_toArray, List.getElem_cons_zero, List.getElem_cons_succ, List.setIfInBounds_toArray, List.set_cons_zero, List.set_cons_succ])
          refine wpAnyH_take (i := 4) (v := ?_) rfl (by kernel_rfl) (by kernel_rfl) (by kernel_rfl) (fun _ _ _ h => h) (Or.inl ⟨by rfl, ?_⟩) hP ?_
          rotate_left
          · (intro ww hSw; go_simp; try with_reducible rfl)
          (try simp only [Act.put, List.getElem_toArray, List.getElem_cons_zero, List.getElem_cons_succ, List.setIfInBounds_toArray, List.set_cons_zero, List.set_cons_succ])
          refine wpAnyH_take (i := 5) (v := ?_) rfl (by kernel_rfl) (by kernel_rfl) (by kernel_rfl) (fun _ _ _ h => h) (Or.inl ⟨by rfl, ?_⟩) hP ?_
          rotate_left
          · (intro ww hSw; go_simp; try with_reducible rfl)
          (try simp only [Act.put, List.getElem_toArray, List.getElem_cons_zero, List.getElem_cons_succ, List.setIfInBounds_toArray, List.set_cons_zero, List.set_cons_succ])
          refine wpAnyH_take (i := 7) (v := ?_) rfl (by kernel_rfl) (by kernel_rfl) (by kernel_rfl) (fun _ _ _ h => h) (Or.inl ⟨by rfl, ?_⟩) hP ?_
          rotate_left
          · (intro ww hSw; go_simp; try with_reducible rfl)
          (try simp only [Act.put, List.getElem_toArray, List.getElem_cons_zero, List.getElem_cons_succ, List.setIfInBounds_toArray, List.set_cons_zero, List.set_cons_succ])
          refine wpAnyH_ready (rs := [2, 8]) (by kernel_rfl) (by simp) ?_
          refine AllReadyH.cons rfl ?_ ?_
          · intro K' hK
            rw [if_pos (by rfl)]
            go_simp
            have hP2 := below_alloc hP hZ (.cells #[] 3)
            refine hK.out _ _ hP2 (fun _ => ?_)
            clear hK K'
            (try simp only [Act.put, List.getElem_toArray, List.getElem_cons_zero, List.getElem_cons_succ, List.setIfInBounds_toArray, List.set_cons_zero, List.set_cons_succ])
            have hO : (W0.alloc (.cells #[] 3)).ownsRow wo.heap.size 3 1 (.slice (some ⟨W0.heap.size, 0, none⟩) 0 0) 0 [] := own_lit0 (heap_alloc_new W0 _) hZ
            replace hZ : wo.heap.size ≤ (W0.alloc (.cells #[] 3)).heap.size := by rw [World.size_alloc]; omega
            clear hP
            have hP := hP2
            clear hP2
            obtain ⟨W1, hWe⟩ : ∃ W1, (W0.alloc (.cells #[] 3)) = W1 := ⟨_, rfl⟩
            rw [hWe] at hP hZ hO ⊢
            clear hWe
            refine wpAnyH_ready (rs := [6, 8]) (by kernel_rfl) (by simp) ?_
            refine AllReadyH.cons rfl ?_ ?_
            · intro K' hK
              refine step_appN W1 rfl (.tmp 114) (.tmp 117) 22 rfl wo.heap.size 3 j0 _ 1 8 und22 jh jz js jb rfl (by decide) _ (0) ([]) rfl hO (some ⟨qb, qo, none⟩) (k) o1 (((zs (ow.take k)).map (Value.int .i64))) rfl (by have := i64_rd (HTK.out _ _ (hQ1.ext hP)); rwa [HOW.out] at this) (one_i64 _) (by unfold maxLen; omega) (by omega) hZ ?_
              intro A2 c2 W2 hO2 hg2 hf2
              rw [Nat.zero_add k, List.nil_append] at hO2
              rw [Nat.zero_add k] at hf2 ⊢
              have hP2 := gb_below hP hg2 hZ (fun g hg => (hO.lt g hg).1)
              have hZ2 := Nat.le_trans hZ hg2.size
              refine hK.out _ _ hP2 (fun _ => ?_)
              clear hK K'
              (try simp only [Act.put, List.getElem_toArray, List.getElem_cons_zero, List.getElem_cons_succ, List.setIfInBounds_toArray, List.set_cons_zero, List.set_cons_succ])
              clear hO hP hZ hg2 hf2
              have hO := hO2
              have hP := hP2
              have hZ := hZ2
              clear hO2 hP2 hZ2
              refine wpAnyH_ready (rs := [8]) (by kernel_rfl) (by simp) ?_
              refine AllReadyH.cons rfl ?_ ?_
              · intro K' hK
                rw [if_pos (by rfl)]
                go_simp
                have hP2 := below_alloc hP hZ (.cells #[.int .i64 (i : Nat)] 3)
                refine hK.out _ _ hP2 (fun _ => ?_)
                clear hK K'
                (try simp only [Act.put, List.getElem_toArray, List.getElem_cons_zero, List.getElem_cons_succ, List.setIfInBounds_toArray, List.set_cons_zero, List.set_cons_succ])
                have hs_L := Side.fresh hZ hO #[.int .i64 (i : Nat)] 3
                replace hO := hO.alloc (.cells #[.int .i64 (i : Nat)] 3)
                replace hZ : wo.heap.size ≤ (W2.alloc (.cells #[.int .i64 (i : Nat)] 3)).heap.size := by rw [World.size_alloc]; omega
                clear hP
                have hP := hP2
                clear hP2
                obtain ⟨W3, hWe⟩ : ∃ W3, (W2.alloc (.cells #[.int .i64 (i : Nat)] 3)) = W3 := ⟨_, rfl⟩
                rw [hWe] at hP hZ hO hs_L ⊢
                clear hWe
                refine wpAnyH_ready (rs := [9]) (by kernel_rfl) (by simp) ?_
                refine AllReadyH.cons rfl ?_ ?_
                · intro K' hK
                  refine step_appN W3 rfl (.tmp 118) (.tmp 120) 22 rfl wo.heap.size 3 j0 _ 1 8 und22 jh jz js jb rfl (by decide) _ (k) (((zs (ow.take k)).map (Value.int .i64))) rfl hO (some ⟨W2.heap.size, 0, none⟩) (1) 1 ([.int .i64 (i : Nat)]) rfl (hs_L.rd) (by simp [Value.oneCell']) (by unfold maxLen; omega) (by omega) hZ ?_
                  intro A3 c3 W4 hO2 hg2 hf2
                  have hP2 := gb_below hP hg2 hZ (fun g hg => (hO.lt g hg).1)
                  have hZ2 := Nat.le_trans hZ hg2.size
                  refine hK.out _ _ hP2 (fun _ => ?_)
                  clear hK K'
                  (try simp only [Act.put, List.getElem_toArray, List.getElem_cons_zero, List.getElem_cons_succ, List.setIfInBounds_toArray, List.set_cons_zero, List.set_cons_succ])
                  replace hs_L := hs_L.grown hg2 hf2
                  clear hO hP hZ hg2 hf2
                  have hO := hO2
                  have hP := hP2
                  have hZ := hZ2
                  clear hO2 hP2 hZ2
                  refine wpAnyH_ready (rs := [10]) (by kernel_rfl) (by simp) ?_
                  refine AllReadyH.cons rfl ?_ ?_
                  · intro K' hK
                    rw [if_pos (by rfl)]
                    go_simp
                    go_at_call 43
                    have hO5 := hO
                    rw [HRW.out] at hO5
                    have hI5 := (own_i64 (xs := zs (ow.take k ++ [i])) (c := c3) (by rw [HLK.out]; exact hO5)).1
                    refine (D5.out _ _ _ (hA1.ext hP) (hB1.ext hP) hI5).mono ?_
                    rintro e W5 ⟨O5, q5, rfl, hbq, hI⟩
                    replace hbq := ex_below hbq
                    (try dsimp only)
                    replace hs_L := hs_L.below hbq
                    replace hO := ownsRow_grows hO hbq
                    have hP2 := below_step hP hbq hZ
                    have hZ2 := Nat.le_trans hZ hbq.size
                    refine hK.out _ _ hP2 (fun _ => ?_)
                    clear hK K'
                    (try simp only [Act.put, List.getElem_toArray, List.getElem_cons_zero, List.getElem_cons_succ, List.setIfInBounds_toArray, List.set_cons_zero, List.set_cons_succ])
                    clear hP hZ hbq
                    have hP := hP2
                    have hZ := hZ2
                    clear hP2 hZ2
                    refine wpAnyH_take (i := 11) (v := ?_) rfl (by kernel_rfl) (by kernel_rfl) (by kernel_rfl) (fun _ _ _ h => h) (Or.inl ⟨by rfl, ?_⟩) hP ?_
                    rotate_left
                    · (intro ww hSw; go_simp; try with_reducible rfl)
                    (try simp only [Act.put, List.getElem_toArray, List.getElem_cons_zero, List.getElem_cons_succ, List.setIfInBounds_toArray, List.set_cons_zero, List.set_cons_succ])
                    refine wpAnyH_take (i := 12) (v := ?_) rfl (by kernel_rfl) (by kernel_rfl) (by kernel_rfl) (fun _ _ _ h => h) (Or.inl ⟨by rfl, ?_⟩) hP ?_
                    rotate_left
                    · (intro ww hSw; go_simp; try with_reducible rfl)
                    (try simp only [Act.put, List.getElem_toArray, List.getElem_cons_zero, List.getElem_cons_succ, List.setIfInBounds_toArray, List.set_cons_zero, List.set_cons_succ])
                    refine wpAnyH_take (i := 13) (v := ?_) rfl (by kernel_rfl) (by kernel_rfl) (by kernel_rfl) (fun _ _ _ h => h) (Or.inl ⟨by rfl, ?_⟩) hP ?_
                    rotate_left
                    · (intro ww hSw; go_simp; try with_reducible rfl)
                    (try simp only [Act.put, List.getElem_toArray, List.getElem_cons_zero, List.getElem_cons_succ, List.setIfInBounds_toArray, List.set_cons_zero, List.set_cons_succ])
                    refine wpAnyH_take (i := 14) (v := ?_) rfl (by kernel_rfl) (by kernel_rfl) (by kernel_rfl) (fun _ _ _ h => h) (Or.inl ⟨by rfl, ?_⟩) hP ?_
                    rotate_left
                    · (intro ww hSw; go_simp; try with_reducible rfl)
                    (try simp only [Act.put, List.getElem_toArray, List.getElem_cons_zero, List.getElem_cons_succ, List.setIfInBounds_toArray, List.set_cons_zero, List.set_cons_succ])
                    refine wpAnyH_take (i := 15) (v := ?_) rfl (by kernel_rfl) (by kernel_rfl) (by kernel_rfl) (fun _ _ _ h => h) (Or.inl ⟨by rfl, ?_⟩) hP ?_
                    rotate_left
                    · (intro ww hSw; go_simp; try with_reducible rfl)
                    (try simp only [Act.put, List.getElem_toArray, List.getElem_cons_zero, List.getElem_cons_succ, List.setIfInBounds_toArray, List.set_cons_zero, List.set_cons_succ])
                    refine wpAnyH_take (i := 16) (v := ?_) rfl (by kernel_rfl) (by kernel_rfl) (by kernel_rfl) (fun _ _ _ h => h) (Or.inl ⟨by rfl, ?_⟩) hP ?_
                    rotate_left
                    · (intro ww hSw; go_simp; try with_reducible rfl)
                    (try simp only [Act.put, List.getElem_toArray, List.getElem_cons_zero, List.getElem_cons_succ, List.setIfInBounds_toArray, List.set_cons_zero, List.set_cons_succ])
                    refine wpAnyH_take (i := 17) (v := ?_) rfl (by kernel_rfl) (by kernel_rfl) (by kernel_rfl) (fun _ _ _ h => h) (Or.inl ⟨by rfl, ?_⟩) hP ?_
                    rotate_left
                    · (intro ww hSw; go_simp; try with_reducible rfl)
                    (try simp only [Act.put, List.getElem_toArray, List.getElem_cons_zero, List.getElem_cons_succ, List.setIfInBounds_toArray, List.set_cons_zero, List.set_cons_succ])
                    refine wpAnyH_done (by kernel_rfl) ?_ _
                    refine NoPanic.normal ?_
                    go_wp2_with fail
                    go_meet
                    exact ⟨O5, q5, rfl, rfl, rfl, hI, hP⟩
                  exact AllReadyH.nil
                exact AllReadyH.nil
              exact AllReadyH.nil
            refine AllReadyH.cons rfl ?_ ?_
            · intro K' hK
              rw [if_pos (by rfl)]
              go_simp
              have hP2 := below_alloc hP hZ (.cells #[.int .i64 (i : Nat)] 3)
              refine hK.out _ _ hP2 (fun _ => ?_)
              clear hK K'
              (try simp only [Act.put, List.getElem_toArray, List.getElem_cons_zero, List.getElem_cons_succ, List.setIfInBounds_toArray, List.set_cons_zero, List.set_cons_succ])
              have hs_L := Side.fresh hZ hO #[.int .i64 (i : Nat)] 3
              replace hO := hO.alloc (.cells #[.int .i64 (i : Nat)] 3)
              replace hZ : wo.heap.size ≤ (W1.alloc (.cells #[.int .i64 (i : Nat)] 3)).heap.size := by rw [World.size_alloc]; omega
              clear hP
              have hP := hP2
              clear hP2
              obtain ⟨W6, hWe⟩ : ∃ W6, (W1.alloc (.cells #[.int .i64 (i : Nat)] 3)) = W6 := ⟨_, rfl⟩
              rw [hWe] at hP hZ hO hs_L ⊢
              clear hWe
              refine wpAnyH_ready (rs := [6]) (by kernel_rfl) (by simp) ?_
              refine AllReadyH.cons rfl ?_ ?_
              · intro K' hK
                refine step_appN W6 rfl (.tmp 114) (.tmp 117) 22 rfl wo.heap.size 3 j0 _ 1 8 und22 jh jz js jb rfl (by decide) _ (0) ([]) rfl hO (some ⟨qb, qo, none⟩) (k) o1 (((zs (ow.take k)).map (Value.int .i64))) rfl (by have := i64_rd (HTK.out _ _ (hQ1.ext hP)); rwa [HOW.out] at this) (one_i64 _) (by unfold maxLen; omega) (by omega) hZ ?_
                intro A2 c2 W7 hO2 hg2 hf2
                rw [Nat.zero_add k, List.nil_append] at hO2
                rw [Nat.zero_add k] at hf2 ⊢
                have hP2 := gb_below hP hg2 hZ (fun g hg => (hO.lt g hg).1)
                have hZ2 := Nat.le_trans hZ hg2.size
                refine hK.out _ _ hP2 (fun _ => ?_)
                clear hK K'
                (try simp only [Act.put, List.getElem_toArray, List.getElem_cons_zero, List.getElem_cons_succ, List.setIfInBounds_toArray, List.set_cons_zero, List.set_cons_succ])
                replace hs_L := hs_L.grown hg2 hf2
                clear hO hP hZ hg2 hf2
                have hO := hO2
                have hP := hP2
                have hZ := hZ2
                clear hO2 hP2 hZ2
                refine wpAnyH_ready (rs := [9]) (by kernel_rfl) (by simp) ?_
                refine AllReadyH.cons rfl ?_ ?_
                · intro K' hK
                  refine step_appN W7 rfl (.tmp 118) (.tmp 120) 22 rfl wo.heap.size 3 j0 _ 1 8 und22 jh jz js jb rfl (by decide) _ (k) (((zs (ow.take k)).map (Value.int .i64))) rfl hO (some ⟨W1.heap.size, 0, none⟩) (1) 1 ([.int .i64 (i : Nat)]) rfl (hs_L.rd) (by simp [Value.oneCell']) (by unfold maxLen; omega) (by omega) hZ ?_
                  intro A3 c3 W8 hO2 hg2 hf2
                  have hP2 := gb_below hP hg2 hZ (fun g hg => (hO.lt g hg).1)
                  have hZ2 := Nat.le_trans hZ hg2.size
                  refine hK.out _ _ hP2 (fun _ => ?_)
                  clear hK K'
                  (try simp only [Act.put, List.getElem_toArray, List.getElem_cons_zero, List.getElem_cons_succ, List.setIfInBounds_toArray, List.set_cons_zero, List.set_cons_succ])
                  replace hs_L := hs_L.grown hg2 hf2
                  clear hO hP hZ hg2 hf2
                  have hO := hO2
                  have hP := hP2
                  have hZ := hZ2
                  clear hO2 hP2 hZ2
                  refine wpAnyH_ready (rs := [10]) (by kernel_rfl) (by simp) ?_
                  refine AllReadyH.cons rfl ?_ ?_
                  · intro K' hK
                    rw [if_pos (by rfl)]
                    go_simp
                    go_at_call 43
                    have hO5 := hO
                    rw [HRW.out] at hO5
                    have hI5 := (own_i64 (xs := zs (ow.take k ++ [i])) (c := c3) (by rw [HLK.out]; exact hO5)).1
                    refine (D5.out _ _ _ (hA1.ext hP) (hB1.ext hP) hI5).mono ?_
                    rintro e W9 ⟨O5, q5, rfl, hbq, hI⟩
                    replace hbq := ex_below hbq
                    (try dsimp only)
                    replace hs_L := hs_L.below hbq
                    replace hO := ownsRow_grows hO hbq
                    have hP2 := below_step hP hbq hZ
                    have hZ2 := Nat.le_trans hZ hbq.size
                    refine hK.out _ _ hP2 (fun _ => ?_)
                    clear hK K'
                    (try simp only [Act.put, List.getElem_toArray, List.getElem_cons_zero, List.getElem_cons_succ, List.setIfInBounds_toArray, List.set_cons_zero, List.set_cons_succ])
                    clear hP hZ hbq
                    have hP := hP2
                    have hZ := hZ2
                    clear hP2 hZ2
                    refine wpAnyH_take (i := 11) (v := ?_) rfl (by kernel_rfl) (by kernel_rfl) (by kernel_rfl) (fun _ _ _ h => h) (Or.inl ⟨by rfl, ?_⟩) hP ?_
                    rotate_left
                    · (intro ww hSw; go_simp; try with_reducible rfl)
                    (try simp only [Act.put, List.getElem_toArray, List.getElem_cons_zero, List.getElem_cons_succ, List.setIfInBounds_toArray, List.set_cons_zero, List.set_cons_succ])
                    refine wpAnyH_take (i := 12) (v := ?_) rfl (by kernel_rfl) (by kernel_rfl) (by kernel_rfl) (fun _ _ _ h => h) (Or.inl ⟨by rfl, ?_⟩) hP ?_
                    rotate_left
                    · (intro ww hSw; go_simp; try with_reducible rfl)
                    (try simp only [Act.put, List.getElem_toArray, List.getElem_cons_zero, List.getElem_cons_succ, List.setIfInBounds_toArray, List.set_cons_zero, List.set_cons_succ])
                    refine wpAnyH_take (i := 13) (v := ?_) rfl (by kernel_rfl) (by kernel_rfl) (by kernel_rfl) (fun _ _ _ h => h) (Or.inl ⟨by rfl, ?_⟩) hP ?_
                    rotate_left
                    · (intro ww hSw; go_simp; try with_reducible rfl)
                    (try simp only [Act.put, List.getElem_toArray, List.getElem_cons_zero, List.getElem_cons_succ, List.setIfInBounds_toArray, List.set_cons_zero, List.set_cons_succ])
                    refine wpAnyH_take (i := 14) (v := ?_) rfl (by kernel_rfl) (by kernel_rfl) (by kernel_rfl) (fun _ _ _ h => h) (Or.inl ⟨by rfl, ?_⟩) hP ?_
                    rotate_left
                    · (intro ww hSw; go_simp; try with_reducible rfl)
                    (try simp only [Act.put, List.getElem_toArray, List.getElem_cons_zero, List.getElem_cons_succ, List.setIfInBounds_toArray, List.set_cons_zero, List.set_cons_succ])
                    refine wpAnyH_take (i := 15) (v := ?_) rfl (by kernel_rfl) (by kernel_rfl) (by kernel_rfl) (fun _ _ _ h => h) (Or.inl ⟨by rfl, ?_⟩) hP ?_
                    rotate_left
                    · (intro ww hSw; go_simp; try with_reducible rfl)
                    (try simp only [Act.put, List.getElem_toArray, List.getElem_cons_zero, List.getElem_cons_succ, List.setIfInBounds_toArray, List.set_cons_zero, List.set_cons_succ])
                    refine wpAnyH_take (i := 16) (v := ?_) rfl (by kernel_rfl) (by kernel_rfl) (by kernel_rfl) (fun _ _ _ h => h) (Or.inl ⟨by rfl, ?_⟩) hP ?_
                    rotate_left
                    · (intro ww hSw; go_simp; try with_reducible rfl)
                    (try simp only [Act.put, List.getElem_toArray, List.getElem_cons_zero, List.getElem_cons_succ, List.setIfInBounds_toArray, List.set_cons_zero, List.set_cons_succ])
                    refine wpAnyH_take (i := 17) (v := ?_) rfl (by kernel_rfl) (by kernel_rfl) (by kernel_rfl) (fun _ _ _ h => h) (Or.inl ⟨by rfl, ?_⟩) hP ?_
                    rotate_left
                    · (intro ww hSw; go_simp; try with_reducible rfl)
                    (try simp only [Act.put, List.getElem_toArray, List.getElem_cons_zero, List.getElem_cons_succ, List.setIfInBounds_toArray, List.set_cons_zero, List.set_cons_succ])
                    refine wpAnyH_done (by kernel_rfl) ?_ _
                    refine NoPanic.normal ?_
                    go_wp2_with fail
                    go_meet
                    exact ⟨O5, q5, rfl, rfl, rfl, hI, hP⟩
                  exact AllReadyH.nil
                exact AllReadyH.nil
              exact AllReadyH.nil
            exact AllReadyH.nil
          refine AllReadyH.cons rfl ?_ ?_
          · intro K' hK
            rw [if_pos (by rfl)]
            go_simp
            have hP2 := below_alloc hP hZ (.cells #[.int .i64 (i : Nat)] 3)
            refine hK.out _ _ hP2 (fun _ => ?_)
            clear hK K'
            (try simp only [Act.put, List.getElem_toArray, List.getElem_cons_zero, List.getElem_cons_succ, List.setIfInBounds_toArray, List.set_cons_zero, List.set_cons_succ])
            have hs_L := Side.fresh0 (W := W0) hZ #[.int .i64 (i : Nat)] 3
            replace hZ : wo.heap.size ≤ (W0.alloc (.cells #[.int .i64 (i : Nat)] 3)).heap.size := by rw [World.size_alloc]; omega
            clear hP
            have hP := hP2
            clear hP2
            obtain ⟨W10, hWe⟩ : ∃ W10, (W0.alloc (.cells #[.int .i64 (i : Nat)] 3)) = W10 := ⟨_, rfl⟩
            rw [hWe] at hP hZ hs_L ⊢
            clear hWe
            refine wpAnyH_ready (rs := [2]) (by kernel_rfl) (by simp) ?_
            refine AllReadyH.cons rfl ?_ ?_
            · intro K' hK
              rw [if_pos (by rfl)]
              go_simp
              have hP2 := below_alloc hP hZ (.cells #[] 3)
              refine hK.out _ _ hP2 (fun _ => ?_)
              clear hK K'
              (try simp only [Act.put, List.getElem_toArray, List.getElem_cons_zero, List.getElem_cons_succ, List.setIfInBounds_toArray, List.set_cons_zero, List.set_cons_succ])
              replace hs_L := hs_L.lit (.cells #[] 3)
              have hO : (W10.alloc (.cells #[] 3)).ownsRow wo.heap.size 3 1 (.slice (some ⟨W10.heap.size, 0, none⟩) 0 0) 0 [] := own_lit0 (heap_alloc_new W10 _) hZ
              replace hZ : wo.heap.size ≤ (W10.alloc (.cells #[] 3)).heap.size := by rw [World.size_alloc]; omega
              clear hP
              have hP := hP2
              clear hP2
              obtain ⟨W11, hWe⟩ : ∃ W11, (W10.alloc (.cells #[] 3)) = W11 := ⟨_, rfl⟩
              rw [hWe] at hP hZ hO hs_L ⊢
              clear hWe
              refine wpAnyH_ready (rs := [6]) (by kernel_rfl) (by simp) ?_
              refine AllReadyH.cons rfl ?_ ?_
              · intro K' hK
                refine step_appN W11 rfl (.tmp 114) (.tmp 117) 22 rfl wo.heap.size 3 j0 _ 1 8 und22 jh jz js jb rfl (by decide) _ (0) ([]) rfl hO (some ⟨qb, qo, none⟩) (k) o1 (((zs (ow.take k)).map (Value.int .i64))) rfl (by have := i64_rd (HTK.out _ _ (hQ1.ext hP)); rwa [HOW.out] at this) (one_i64 _) (by unfold maxLen; omega) (by omega) hZ ?_
                intro A2 c2 W12 hO2 hg2 hf2
                rw [Nat.zero_add k, List.nil_append] at hO2
                rw [Nat.zero_add k] at hf2 ⊢
                have hP2 := gb_below hP hg2 hZ (fun g hg => (hO.lt g hg).1)
                have hZ2 := Nat.le_trans hZ hg2.size
                refine hK.out _ _ hP2 (fun _ => ?_)
                clear hK K'
                (try simp only [Act.put, List.getElem_toArray, List.getElem_cons_zero, List.getElem_cons_succ, List.setIfInBounds_toArray, List.set_cons_zero, List.set_cons_succ])
                replace hs_L := hs_L.grown hg2 hf2
                clear hO hP hZ hg2 hf2
                have hO := hO2
                have hP := hP2
                have hZ := hZ2
                clear hO2 hP2 hZ2
                refine wpAnyH_ready (rs := [9]) (by kernel_rfl) (by simp) ?_
                refine AllReadyH.cons rfl ?_ ?_
                · intro K' hK
                  refine step_appN W12 rfl (.tmp 118) (.tmp 120) 22 rfl wo.heap.size 3 j0 _ 1 8 und22 jh jz js jb rfl (by decide) _ (k) (((zs (ow.take k)).map (Value.int .i64))) rfl hO (some ⟨W0.heap.size, 0, none⟩) (1) 1 ([.int .i64 (i : Nat)]) rfl (hs_L.rd) (by simp [Value.oneCell']) (by unfold maxLen; omega) (by omega) hZ ?_
                  intro A3 c3 W13 hO2 hg2 hf2
                  have hP2 := gb_below hP hg2 hZ (fun g hg => (hO.lt g hg).1)
                  have hZ2 := Nat.le_trans hZ hg2.size
                  refine hK.out _ _ hP2 (fun _ => ?_)
                  clear hK K'
                  (try simp only [Act.put, List.getElem_toArray, List.getElem_cons_zero, List.getElem_cons_succ, List.setIfInBounds_toArray, List.set_cons_zero, List.set_cons_succ])
                  replace hs_L := hs_L.grown hg2 hf2
                  clear hO hP hZ hg2 hf2
                  have hO := hO2
                  have hP := hP2
                  have hZ := hZ2
                  clear hO2 hP2 hZ2
                  refine wpAnyH_ready (rs := [10]) (by kernel_rfl) (by simp) ?_
                  refine AllReadyH.cons rfl ?_ ?_
                  · intro K' hK
                    rw [if_pos (by rfl)]
                    go_simp
                    go_at_call 43
                    have hO5 := hO
                    rw [HRW.out] at hO5
                    have hI5 := (own_i64 (xs := zs (ow.take k ++ [i])) (c := c3) (by rw [HLK.out]; exact hO5)).1
                    refine (D5.out _ _ _ (hA1.ext hP) (hB1.ext hP) hI5).mono ?_
                    rintro e W14 ⟨O5, q5, rfl, hbq, hI⟩
                    replace hbq := ex_below hbq
                    (try dsimp only)
                    replace hs_L := hs_L.below hbq
                    replace hO := ownsRow_grows hO hbq
                    have hP2 := below_step hP hbq hZ
                    have hZ2 := Nat.le_trans hZ hbq.size
                    refine hK.out _ _ hP2 (fun _ => ?_)
                    clear hK K'
                    (try simp only [Act.put, List.getElem_toArray, List.getElem_cons_zero, List.getElem_cons_succ, List.setIfInBounds_toArray, List.set_cons_zero, List.set_cons_succ])
                    clear hP hZ hbq
                    have hP := hP2
                    have hZ := hZ2
                    clear hP2 hZ2
                    refine wpAnyH_take (i := 11) (v := ?_) rfl (by kernel_rfl) (by kernel_rfl) (by kernel_rfl) (fun _ _ _ h => h) (Or.inl ⟨by rfl, ?_⟩) hP ?_
                    rotate_left
                    · (intro ww hSw; go_simp; try with_reducible rfl)
                    (try simp only [Act.put, List.getElem_toArray, List.getElem_cons_zero, List.getElem_cons_succ, List.setIfInBounds_toArray, List.set_cons_zero, List.set_cons_succ])
                    refine wpAnyH_take (i := 12) (v := ?_) rfl (by kernel_rfl) (by kernel_rfl) (by kernel_rfl) (fun _ _ _ h => h) (Or.inl ⟨by rfl, ?_⟩) hP ?_
                    rotate_left
                    · (intro ww hSw; go_simp; try with_reducible rfl)
                    (try simp only [Act.put, List.getElem_toArray, List.getElem_cons_zero, List.getElem_cons_succ, List.setIfInBounds_toArray, List.set_cons_zero, List.set_cons_succ])
                    refine wpAnyH_take (i := 13) (v := ?_) rfl (by kernel_rfl) (by kernel_rfl) (by kernel_rfl) (fun _ _ _ h => h) (Or.inl ⟨by rfl, ?_⟩) hP ?_
                    rotate_left
                    · (intro ww hSw; go_simp; try with_reducible rfl)
                    (try simp only [Act.put, List.getElem_toArray, List.getElem_cons_zero, List.getElem_cons_succ, List.setIfInBounds_toArray, List.set_cons_zero, List.set_cons_succ])
                    refine wpAnyH_take (i := 14) (v := ?_) rfl (by kernel_rfl) (by kernel_rfl) (by kernel_rfl) (fun _ _ _ h => h) (Or.inl ⟨by rfl, ?_⟩) hP ?_
                    rotate_left
                    · (intro ww hSw; go_simp; try with_reducible rfl)
                    (try simp only [Act.put, List.getElem_toArray, List.getElem_cons_zero, List.getElem_cons_succ, List.setIfInBounds_toArray, List.set_cons_zero, List.set_cons_succ])
                    refine wpAnyH_take (i := 15) (v := ?_) rfl (by kernel_rfl) (by kernel_rfl) (by kernel_rfl) (fun _ _ _ h => h) (Or.inl ⟨by rfl, ?_⟩) hP ?_
                    rotate_left
                    · (intro ww hSw; go_simp; try with_reducible rfl)
                    (try simp only [Act.put, List.getElem_toArray, List.getElem_cons_zero, List.getElem_cons_succ, List.setIfInBounds_toArray, List.set_cons_zero, List.set_cons_succ])
                    refine wpAnyH_take (i := 16) (v := ?_) rfl (by kernel_rfl) (by kernel_rfl) (by kernel_rfl) (fun _ _ _ h => h) (Or.inl ⟨by rfl, ?_⟩) hP ?_
                    rotate_left
                    · (intro ww hSw; go_simp; try with_reducible rfl)
                    (try simp only [Act.put, List.getElem_toArray, List.getElem_cons_zero, List.getElem_cons_succ, List.setIfInBounds_toArray, List.set_cons_zero, List.set_cons_succ])
                    refine wpAnyH_take (i := 17) (v := ?_) rfl (by kernel_rfl) (by kernel_rfl) (by kernel_rfl) (fun _ _ _ h => h) (Or.inl ⟨by rfl, ?_⟩) hP ?_
                    rotate_left
                    · (intro ww hSw; go_simp; try with_reducible rfl)
                    (try simp only [Act.put, List.getElem_toArray, List.getElem_cons_zero, List.getElem_cons_succ, List.setIfInBounds_toArray, List.set_cons_zero, List.set_cons_succ])
                    refine wpAnyH_done (by kernel_rfl) ?_ _
                    refine NoPanic.normal ?_
                    go_wp2_with fail
                    go_meet
                    exact ⟨O5, q5, rfl, rfl, rfl, hI, hP⟩
                  exact AllReadyH.nil
                exact AllReadyH.nil
              exact AllReadyH.nil
            exact AllReadyH.nil
          exact AllReadyH.nil
        case rest =>
          obtain ⟨O6, o6, rfl, rfl, rfl, hI6, hbc⟩ := hcut
          obtain ⟨v6, hv6⟩ : ∃ v, v = wc := ⟨_, rfl⟩
          rw [← hv6] at hI6 hbc ⊢
          clear hv6 j0 jh jz js jb HRW HLK D5
          replace hA1 := hA1.ext hbc
          replace hB1 := hB1.ext hbc
          replace hQ1 := hQ1.ext hbc
          replace hV1 := hV1.ext hbc
          replace hX1 := hX1.ext hbc
          replace hb := below_step hb hbc (by have := hb.size; omega)
          clear hbc
          (try clear hX1c0 hX1f hX1l)
          have hX1c0 := obj_at hX1 0 _ rfl
          have hX1f := obj_fz hX1 0
          have hX1l := obj_lt hX1
          rw [zs_len own]
          have hgn : ¬ alv.length < own.length := by omega
          have hgd : decide (alv.length < own.length) = false := decide_eq_false hgn
          have hge : decide ((own.length : Int) > (alv.length : Nat)) = false := decide_eq_false (by omega)
          go_wp2
          go_loopw [25] (fun t25 wr => ∃ j : Nat, j ≤ own.length ∧ t25 = .int .i64 (j : Nat) ∧ Below v6.heap.size v6 wr) (fun j _ => own.length - (intOf j).toNat)
          case atStart => exact ⟨0, Nat.zero_le _, rfl, Below.refl _ _⟩
          case round =>
            obtain ⟨j, hj, rfl, hbj⟩ := hrel
            have hI7 := hI6.ext hbj
            have hV7 := hV1.ext hbj
            by_cases hlj : j < own.length
            · have hji : (j : Int) < (own.length : Int) := by omega
              obtain ⟨ob, oo, rfl, hob⟩ := zsF hI7 (by omega)
              have c8 := zsI hI7 hlj
              have hme := HG2.out _ (List.getElem_mem hlj)
              generalize own[j] = y at *
              have D8 := hide (fun P q w' h => C8.out P q y w' h hme)
              clear hme
              have tok0 : True := trivial
              go_wp2_with (first
    | (clear tok0; go_at_call 48; refine (D8.out _ _ _ (hV7.ext (by (repeat (first | exact Below.refl _ _ | assumption | (refine below_gr ?_ (by (first | omega | (simp only [size_grow, World.size_alloc, size_drewN, size_drew, size_setCell] at *; omega))) _) | (refine below_alloc ?_ (by (first | omega | (simp only [size_grow, World.size_alloc, size_drewN, size_drew, size_setCell] at *; omega))) _) | (refine Below.setCell ?_ (by (first | omega | (simp only [size_grow, World.size_alloc, size_drewN, size_drew, size_setCell] at *; omega))) _) | refine below_drewN ?_ _ | refine below_drew ?_ | (refine below_step ?_ (by assumption) (by (first | omega | (simp only [size_grow, World.size_alloc, size_drewN, size_drew, size_setCell] at *; omega))))))))).mono ?_; rintro e u1 ⟨rfl, hb_u1⟩; replace hb_u1 := ex_below hb_u1; have bel_u1 : Below wr.heap.size wr u1 := (by (repeat (first | exact Below.refl _ _ | assumption | (refine below_gr ?_ (by (first | omega | (simp only [size_grow, World.size_alloc, size_drewN, size_drew, size_setCell] at *; omega))) _) | (refine below_alloc ?_ (by (first | omega | (simp only [size_grow, World.size_alloc, size_drewN, size_drew, size_setCell] at *; omega))) _) | (refine Below.setCell ?_ (by (first | omega | (simp only [size_grow, World.size_alloc, size_drewN, size_drew, size_setCell] at *; omega))) _) | refine below_drewN ?_ _ | refine below_drew ?_ | (refine below_step ?_ (by assumption) (by (first | omega | (simp only [size_grow, World.size_alloc, size_drewN, size_drew, size_setCell] at *; omega))))))); clear hb_u1; have sz_u1 := bel_u1.size; replace hV7 := hV7.ext bel_u1; replace hbj := below_step hbj bel_u1 (by have := hbj.size; omega); clear bel_u1; have tok1 : True := trivial))
              exact ⟨⟨j + 1, by omega, by go_num, hbj⟩, by simp [intOf]; omega⟩
            · have hji : ¬ (j : Int) < (own.length : Int) := by omega
              have hb9 := below_step hb hbj (by have := hb.size; omega)
              go_wp2
              exact ⟨⟨i + 1, by omega, by go_num, v_int (by rw [hss.out]; go_num), hb9⟩, by simp [intOf]; omega⟩
      · have hii : ¬ (i : Int) < (n : Int) := by omega
        rw [show Bm.sumTo f i = N by rw [show i = n by omega]; exact HSUM.out]
        have hL1 := hO3.ext hb
        have hW1 := below_step hW hb (by have := hW.size; omega)
        clear hi hlt HMON HG C6
        go_wp2
        go_loopw [26] (fun t26 wr => ∃ j : Nat, j ≤ last.length ∧ t26 = .int .i64 (j : Nat) ∧ Below wo.heap.size wo wr) (fun j _ => last.length - (intOf j).toNat)
        case atStart => exact ⟨0, Nat.zero_le _, rfl, Below.refl _ _⟩
        case round =>
          obtain ⟨j, hj, rfl, hbj⟩ := hrel
          have hI7 := hL1.ext hbj
          have hV7 := hV1.ext hbj
          by_cases hlj : j < last.length
          · have hji : (j : Int) < (last.length : Int) := by omega
            obtain ⟨ob, oo, rfl, hob⟩ := zsF hI7 (by omega)
            have c8 := zsI hI7 hlj
            have hme := HLAST.out _ (List.getElem_mem hlj)
            generalize last[j] = y at *
            have D8 := hide (fun P q w' h => C8.out P q y w' h hme)
            clear hme
            have tok0 : True := trivial
            go_wp2_with (first
    | (clear tok0; go_at_call 48; refine (D8.out _ _ _ (hV7.ext (by (repeat (first | exact Below.refl _ _ | assumption | (refine below_gr ?_ (by (first | omega | (simp only [size_grow, World.size_alloc, size_drewN, size_drew, size_setCell] at *; omega))) _) | (refine below_alloc ?_ (by (first | omega | (simp only [size_grow, World.size_alloc, size_drewN, size_drew, size_setCell] at *; omega))) _) | (refine Below.setCell ?_ (by (first | omega | (simp only [size_grow, World.size_alloc, size_drewN, size_drew, size_setCell] at *; omega))) _) | refine below_drewN ?_ _ | refine below_drew ?_ | (refine below_step ?_ (by assumption) (by (first | omega | (simp only [size_grow, World.size_alloc, size_drewN, size_drew, size_setCell] at *; omega))))))))).mono ?_; rintro e u1 ⟨rfl, hb_u1⟩; replace hb_u1 := ex_below hb_u1; have bel_u1 : Below wr.heap.size wr u1 := (by (repeat (first | exact Below.refl _ _ | assumption | (refine below_gr ?_ (by (first | omega | (simp only [size_grow, World.size_alloc, size_drewN, size_drew, size_setCell] at *; omega))) _) | (refine below_alloc ?_ (by (first | omega | (simp only [size_grow, World.size_alloc, size_drewN, size_drew, size_setCell] at *; omega))) _) | (refine Below.setCell ?_ (by (first | omega | (simp only [size_grow, World.size_alloc, size_drewN, size_drew, size_setCell] at *; omega))) _) | refine below_drewN ?_ _ | refine below_drew ?_ | (refine below_step ?_ (by assumption) (by (first | omega | (simp only [size_grow, World.size_alloc, size_drewN, size_drew, size_setCell] at *; omega))))))); clear hb_u1; have sz_u1 := bel_u1.size; replace hV7 := hV7.ext bel_u1; replace hbj := below_step hbj bel_u1 (by have := hbj.size; omega); clear bel_u1; have tok1 : True := trivial))
            exact ⟨⟨j + 1, by omega, by go_num, hbj⟩, by simp [intOf]; omega⟩
          · have hji : ¬ (j : Int) < (last.length : Int) := by omega
            have hW2 := below_step hW1 hbj (by have := hW1.size; omega)
            have tok0 : True := trivial
            go_wp2_with (first
    | (clear tok0; go_at_call 20; refine (works_any _).mono ?_; rintro e u1 ⟨rfl, hb_u1⟩; replace hb_u1 := ex_below hb_u1; have bel_u1 : Below wr.heap.size wr u1 := (by (repeat (first | exact Below.refl _ _ | assumption | (refine below_gr ?_ (by (first | omega | (simp only [size_grow, World.size_alloc, size_drewN, size_drew, size_setCell] at *; omega))) _) | (refine below_alloc ?_ (by (first | omega | (simp only [size_grow, World.size_alloc, size_drewN, size_drew, size_setCell] at *; omega))) _) | (refine Below.setCell ?_ (by (first | omega | (simp only [size_grow, World.size_alloc, size_drewN, size_drew, size_setCell] at *; omega))) _) | refine below_drewN ?_ _ | refine below_drew ?_ | (refine below_step ?_ (by assumption) (by (first | omega | (simp only [size_grow, World.size_alloc, size_drewN, size_drew, size_setCell] at *; omega))))))); clear hb_u1; have sz_u1 := bel_u1.size; replace hW2 := below_step hW2 bel_u1 (by have := hW2.size; omega); clear bel_u1; have tok1 : True := trivial))
            go_ret
            exact gives_of rfl hW2

end Go.Proofs.Ytlbkaeoagdbemaa
