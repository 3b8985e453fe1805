/- Proved here: the helpers of the laws; the helpers of the laws: ranges; the helpers of the laws: values of the examples; the helpers of the laws: claims of the examples, a part of the proofs about the ticket laws. Conditions: those that each theorem names, no others. -/
import Derived.Test.YtgjfejpibielaaaQ40
import Derived.WalkKit
import Derived.WalkSpells
import Derived.WalkLawsBesides
import Derived.Below
import Derived.Deep.QuietTactic
import Derived.BigQuiet
import Derived.Deep.Light
import Derived.Deep.RegionHeld3
set_option linter.unusedSimpArgs false
set_option linter.unusedVariables false
namespace Go.Proofs.Ytgjfejpibielaaa
open Go.RowKit Go.Maps Go.Shelf
attribute [local go_sem] Oper.semAt_some World.cell?_setCell_far
def gN (l : Nat) : Nat → Nat
 | 0 => l
 | j + 1 => gN l j * (l - 1)
theorem gN_le {l : Nat} (h1 : 2 ≤ l) (h2 : l ≤ 6) (j : Nat) (hj : j ≤ 7) : gN l j ≤ 468750 := by
 have h : ∀ j, gN l j ≤ 6 * 5 ^ j := fun j => by
  induction j with
  | zero => simp [gN]; omega
  | succ j ih => rw [gN, Nat.pow_succ, ← Nat.mul_assoc]; exact Nat.mul_le_mul ih (by omega)
 have h3 : 5 ^ j ≤ 5 ^ 7 := Nat.pow_le_pow_right (by omega) hj
 have := h j
 omega
set_option maxRecDepth 100000 in
set_option maxHeartbeats 4000000 in
theorem of_any (A : Option Addr) (n c : Nat) (w : World) : Calls Try.prog 55 #[.slice A n c] w (Gives w (.slice A n c)) := by
 go_enter Try.func55, Try.ntmps55
 go_wp2
 go_ret
 exact gives_of rfl (Below.refl _ _)
set_option maxRecDepth 100000 in
set_option maxHeartbeats 4000000 in
theorem ints_any (P : Option Addr) (p : List Int) (c : Nat) (Q : Option Addr) (q : List Int) (d : Nat) (w : World) (hP : I64 w P p) (hQ : I64 w Q q) (hp : p.length ≤ 1000) (hq : q.length ≤ 1000) : Calls Try.prog 34 #[.slice P p.length c, .slice Q q.length d] w (Gives w (.bool (decide (p = q)))) := by
 by_cases hl : p.length = q.length
 · have hli : ((p.length : Int) != (q.length : Nat)) = false := by simp; omega
   have HL := hide hl
   have hq2 : q.length ≤ p.length := by omega
   have HPQ := hide (fun k (h1 : k < p.length) (h2 : k < q.length) (h3 : p[k] ≠ q[k]) => (show decide (p = q) = false from decide_eq_false (fun e => h3 (by subst e; rfl))))
   have HPE := hide (fun (h : ∀ k (h1 : k < p.length) (h2 : k < q.length), p[k] = q[k]) => (show decide (p = q) = true from decide_eq_true (List.ext_getElem hl (fun k h1 h2 => h k h1 h2))))
   obtain ⟨R, hR⟩ : ∃ v, decide (p = q) = v := ⟨_, rfl⟩
   rw [hR] at HPQ HPE ⊢
   clear hl hR
   go_enter Try.func34, Try.ntmps34
   go_wp2
   go_loopw [5] (fun i wr => ∃ k : Nat, k ≤ p.length ∧ i = .int .i64 (k : Nat) ∧ Hid (∀ j (h1 : j < p.length) (h2 : j < q.length), j < k → p[j] = q[j]) ∧ Below w.heap.size w wr) (fun i _ => p.length - (intOf i).toNat)
   case atStart => exact ⟨0, Nat.zero_le _, rfl, hide (fun j _ _ h => absurd h (Nat.not_lt_zero _)), Below.refl _ _⟩
   case round =>
    obtain ⟨k, hk, rfl, hall, hb⟩ := hrel
    have hzr := hb.size
    by_cases hlt : k < p.length
    · have hlq : k < q.length := by rw [← HL.out]; exact hlt
      obtain ⟨pb, po, rfl, hpb⟩ := (hP.ext hb).form (by omega)
      obtain ⟨qb, qo, rfl, hqb⟩ := (hQ.ext hb).form (by omega)
      have cp := (hP.ext hb).at hlt
      have cq := (hQ.ext hb).at hlq
      have HNE := hide (HPQ.out k hlt hlq)
      have HAL : Hid (p[k] = q[k] → ∀ j (h1 : j < p.length) (h2 : j < q.length), j < k + 1 → p[j] = q[j]) := hide (fun e j h1 h2 h => by
       rcases Nat.lt_or_ge j k with g | g
       · exact hall.out j h1 h2 g
       · obtain rfl : j = k := by omega
         exact e)
      generalize p[k] = x at *
      generalize q[k] = y at *
      have hki : (k : Int) < (p.length : Nat) := by omega
      have hkq : (k : Int) < (q.length : Nat) := by omega
      have hk0 : (0 : Int) ≤ (k : Int) := by omega
      by_cases e : x = y
      · have eb : (x != y) = false := by simpa using e
        replace e := hide e
        go_upto_region 6 with fail
        refine wp_region_grow (by kernel_rfl) (by kernel_rfl) ?_
        repeat (go_big_quiet_step (fail))
        refine wpQuiet_nil ?_
        intro w4 hb4
        replace hb4 := ex_below hb4
        go_wp2
        exact ⟨⟨k + 1, by omega, by go_num, hide (HAL.out e.out), below_step hb hb4 hzr⟩, by simp [intOf]; omega⟩
      · have eb : (x != y) = true := by simpa using e
        have hRf : R = false := (HNE.out e).symm ▸ rfl
        go_upto_region 6 with fail
        refine wp_region_grow (by kernel_rfl) (by kernel_rfl) ?_
        repeat (go_big_quiet_step (fail))
        refine wpQuiet_nil ?_
        intro w4 hb4
        replace hb4 := ex_below hb4
        go_wp2
        go_ret
        exact gives_of (by first | rfl | (rw [hRf]; rfl)) (below_step hb hb4 hzr)
    · have hki : ¬ ((k : Int) < (p.length : Nat)) := by omega
      have hRt : R = true := (HPE.out (fun j h1 h2 => hall.out j h1 h2 (by omega))).symm ▸ rfl
      go_wp2
      go_ret
      exact gives_of rfl hb
 · have hli : ((p.length : Int) != (q.length : Nat)) = true := by simp; omega
   have HE := hide (show decide (p = q) = false from decide_eq_false (fun e => hl (by rw [e])))
   rw [HE.out]
   clear hl
   go_enter Try.func34, Try.ntmps34
   go_wp2
   go_ret
   exact gives_of rfl (Below.refl _ _)
set_option maxRecDepth 100000 in
set_option maxHeartbeats 4000000 in
theorem great_fine (l rest : Nat) (k : List Nat) (hd : OkD l rest k) (A : Option Addr) (c : Nat) (w : World) (hA : I64 w A (zs k)) : Calls Try.prog 16 #[.agg #[.int .i64 (l : Nat), .int .i64 (k.length : Nat), .slice A (zs k).length c, .int .i64 (rest : Nat)]] w (Gives w (.bool (decide ((gN l (k.length - 1) : Int) > 800)))) := by
 have h15 : (zs k).length ≤ 15 := by rw [zs_len]; have := hd.2.2.2.1; omega
 have hn15 : ¬ ((15 : Int) < ((zs k).length : Int)) := by omega
 have hx := h15
 have HC := hide (fun w' (h : I64 w' A (zs k)) => (show Calls Try.prog 25 #[.agg #[.int .i64 (l : Nat), .int .i64 (k.length : Nat), .slice A (zs k).length c, .int .i64 (rest : Nat)]] w' (Gives w' (.int .i64 0)) from by rw [← chk_zero hd]; exact rCheckDay_any l k.length A (zs k) c rest w' h (by omega)))
 have hl1 := hd.1
 have hl6 := hd.2.1
 have hk2 := hd.2.2.1
 have hk8 := hd.2.2.2.1
 clear hd hx
 obtain ⟨N, hN⟩ : ∃ N, (zs k).length = N := ⟨_, rfl⟩
 rw [hN] at hn15 h15 HC ⊢
 clear hN
 obtain ⟨m, hm⟩ : ∃ m, k.length = m := ⟨_, rfl⟩
 rw [hm] at HC hk2 hk8 ⊢
 clear hm
 go_enter Try.func16, Try.ntmps16
 go_upto_region 1 with fail
 obtain ⟨wa, hwa, hW, hX⟩ := boxed w #[.int .i64 (l : Nat), .int .i64 (m : Nat), .slice A N c, .int .i64 (rest : Nat)] 24
 rw [hwa]
 clear hwa
 replace hA := hA.ext hW
 have q0 := obj_at hX 0 _ rfl
 have q1 := obj_at hX 1 _ rfl
 have q2 := obj_at hX 2 _ rfl
 have q3 := obj_at hX 3 _ rfl
 have ql := obj_lt hX
 have hWs := hW.size
 go_wp2_with (go_at_call 25; refine (HC.out _ hA).mono ?_; rintro e u1 ⟨rfl, hb1⟩; replace hb1 := ex_below hb1; have hz1 := hb1.size; have hX1 := hX.ext hb1; clear q0 q1 q2 q3 ql; have q0 := obj_at hX1 0 _ rfl; have q1 := obj_at hX1 1 _ rfl; have q2 := obj_at hX1 2 _ rfl; have q3 := obj_at hX1 3 _ rfl; have ql := obj_lt hX1)
 go_loopw [3, 4] (fun nv iv wr => ∃ j : Nat, 1 ≤ j ∧ j ≤ m ∧ iv = .int .i64 (j : Nat) ∧ nv = .int .i64 (gN l (j - 1) : Nat) ∧ Below u1.heap.size u1 wr) (fun _ iv _ => m - (intOf iv).toNat)
 case atStart => exact ⟨1, Nat.le_refl _, by omega, rfl, by simp [gN], Below.refl _ _⟩
 case round =>
  obtain ⟨j, hj1, hj, rfl, rfl, hb⟩ := hrel
  have hzr := hb.size
  have hXr := hX1.ext hb
  clear q0 q1 q2 q3 ql
  have q0 := obj_at hXr 0 _ rfl
  have q1 := obj_at hXr 1 _ rfl
  have q2 := obj_at hXr 2 _ rfl
  have q3 := obj_at hXr 3 _ rfl
  have ql := obj_lt hXr
  by_cases hlt : j < m
  · have hji : (j : Int) < (m : Int) := by omega
    have hg := gN_le hl1 hl6 (j - 1) (by omega)
    have hg2 := gN_le hl1 hl6 j (by omega)
    have HG := hide (show ((gN l j : Nat) : Int) = (gN l (j - 1) : Nat) * ((l : Int) - 1) by
     rw [show j = (j - 1) + 1 by omega, gN, Nat.add_sub_cancel, Int.natCast_mul, Int.natCast_sub (by omega)]; rfl)
    have hg3 : 0 ≤ ((gN l (j - 1) : Nat) : Int) * ((l : Int) - 1) ∧ ((gN l (j - 1) : Nat) : Int) * ((l : Int) - 1) ≤ 468750 := by rw [← HG.out]; omega
    obtain ⟨gj, hgj⟩ : ∃ v, gN l j = v := ⟨_, rfl⟩
    obtain ⟨g0, hg0⟩ : ∃ v, gN l (j - 1) = v := ⟨_, rfl⟩
    have HJ := hide hgj
    rw [hgj] at HG hg2
    rw [hg0] at HG hg hg3 ⊢
    clear hgj hg0
    have hl1i : IntKind.i64.wrap ((l : Int) - 1) = (l : Int) - 1 := by rw [IntKind.wrap_i64]; omega
    have hmi : IntKind.i64.wrap ((g0 : Int) * ((l : Int) - 1)) = (g0 : Int) * ((l : Int) - 1) := by rw [IntKind.wrap_i64]; omega
    have hl1w : wrap64 ((l : Int) - 1) = (l : Int) - 1 := by simp only [wrap64]; omega
    have hmw : wrap64 ((g0 : Int) * ((l : Int) - 1)) = (g0 : Int) * ((l : Int) - 1) := by obtain ⟨z, hz⟩ : ∃ z, (g0 : Int) * ((l : Int) - 1) = z := ⟨_, rfl⟩; rw [hz] at hg3 ⊢; simp only [wrap64]; omega
    go_wp2
    exact ⟨⟨j + 1, by omega, by omega, by go_num, by rw [Nat.add_sub_cancel, HJ.out, HG.out], hb⟩, by simp [intOf]; omega⟩
  · have hji : ¬ ((j : Int) < (m : Int)) := by omega
    obtain rfl : j = m := by omega
    generalize gN l (j - 1) = g at *
    go_wp2
    go_ret
    exact gives_of rfl (below_step (below_step hW hb1 hWs) hb (by omega))
set_option maxRecDepth 100000 in
set_option maxHeartbeats 4000000 in
theorem great_any (L n r : Int) (K : List Int) (hx : K.length ≤ 9223372036854775807) : ∃ b, (b = false → K.length ≤ 15) ∧ ∀ (A : Option Addr) (c : Nat) (w : World), I64 w A K → Calls Try.prog 16 #[.agg #[.int .i64 L, .int .i64 n, .slice A K.length c, .int .i64 r]] w (Gives w (.bool b)) := by
 rcases Nat.lt_or_ge 15 K.length with h15 | h15
 · refine ⟨true, fun h => (by cases h), fun A c w hA => ?_⟩
   have hgt : decide ((K.length : Int) > 15) = true := by simp; omega
   have hgt2 : (15 : Int) < (K.length : Int) := by omega
   go_enter Try.func16, Try.ntmps16
   go_upto_region 1 with fail
   obtain ⟨wa, hwa, hW, hX⟩ := boxed w #[.int .i64 L, .int .i64 n, .slice A K.length c, .int .i64 r] 24
   rw [hwa]
   clear hwa
   replace hA := hA.ext hW
   have q0 := obj_at hX 0 _ rfl
   have q1 := obj_at hX 1 _ rfl
   have q2 := obj_at hX 2 _ rfl
   have q3 := obj_at hX 3 _ rfl
   have ql := obj_lt hX
   have hWs := hW.size
   go_wp2
   go_ret
   exact gives_of rfl hW
 have hn15 : ¬ ((15 : Int) < (K.length : Int)) := by omega
 rcases day_cases L n r K with he | ⟨l, rest, k, rfl, rfl, rfl, rfl, hd⟩
 · refine ⟨false, fun _ => h15, fun A c w hA => ?_⟩
   have HC := hide (fun w' (h : I64 w' A K) => rCheckDay_any L n A K c r w' h (by omega))
   have hen : (chkDay L n K r != 0) = true := by simpa using he
   generalize chkDay L n K r = e0 at *
   clear he
   go_enter Try.func16, Try.ntmps16
   go_upto_region 1 with fail
   obtain ⟨wa, hwa, hW, hX⟩ := boxed w #[.int .i64 L, .int .i64 n, .slice A K.length c, .int .i64 r] 24
   rw [hwa]
   clear hwa
   replace hA := hA.ext hW
   have q0 := obj_at hX 0 _ rfl
   have q1 := obj_at hX 1 _ rfl
   have q2 := obj_at hX 2 _ rfl
   have q3 := obj_at hX 3 _ rfl
   have ql := obj_lt hX
   have hWs := hW.size
   go_wp2_with (go_at_call 25; refine (HC.out _ hA).mono ?_; rintro e u1 ⟨rfl, hb1⟩; replace hb1 := ex_below hb1)
   go_ret
   exact gives_of rfl (below_step hW hb1 hWs)
 · exact ⟨decide ((gN l (k.length - 1) : Int) > 800), fun _ => h15, fun A c w hA => great_fine l rest k hd A c w hA⟩
end Go.Proofs.Ytgjfejpibielaaa
namespace Go.Proofs.Ytgjfejpibielaaa
open Go.RowKit Go.Maps Go.Shelf
attribute [local go_sem] Oper.semAt_some World.cell?_setCell_far
/-- ranges, number by number -/
def pairs (ps : List (Int × Int)) : List Int := ps.flatMap fun p => [p.1, p.2]
theorem pairs_len (ps : List (Int × Int)) : (pairs ps).length = 2 * ps.length := by
 induction ps with
 | nil => rfl
 | cons p ps ih => show (p.1 :: p.2 :: pairs ps).length = _; simp [ih]; omega
theorem pairs_at : ∀ (ps : List (Int × Int)) (k : Nat) (h : k < ps.length), (pairs ps)[2 * k]'(by rw [pairs_len]; omega) = ps[k].1 ∧ (pairs ps)[2 * k + 1]'(by rw [pairs_len]; omega) = ps[k].2
 | p :: ps, 0, h => ⟨rfl, rfl⟩
 | p :: ps, k + 1, h => pairs_at ps k (by simpa using h)
theorem cell_block {a b : World} {x : Nat} (h : b.heap[x]? = a.heap[x]?) (o : Nat) : b.cell? ⟨x, o, none⟩ = a.cell? ⟨x, o, none⟩ := by
 simp only [World.cell?, h]
set_option maxRecDepth 100000 in
set_option maxHeartbeats 4000000 in
theorem span_any (X : Option Addr) (xs : List Int) (c : Nat) (ps : List (Int × Int)) (w : World) (hX : I64 w X xs) (hps : xs = pairs ps) (hl : ps.length ≤ 100) : Calls Try.prog 56 #[.slice X xs.length c] w ((fun e w' => ∃ D dc, e = .returned (.slice D ps.length dc) ∧ Below w.heap.size w w' ∧ Rng w' D ps)) := by
 obtain ⟨ti, ih, iz, is, ib⟩ := info_parts infoR
 have hlx : xs.length = 2 * ps.length := by rw [hps, pairs_len]
 have HPA := hide (fun k j (h : k < ps.length) (hj : 2 * k = j) (h0 : j < xs.length) (h1 : j + 1 < xs.length) => (show xs[j] = ps[k].1 ∧ xs[j + 1] = ps[k].2 by subst hps; subst hj; exact pairs_at ps k h))
 have HLX := hide hlx
 clear hps hlx
 go_enter Try.func56, Try.ntmps56
 go_wp2
 go_loopw [3, 4] (fun v i wr => ∃ k j : Nat, k ≤ ps.length ∧ Hid (2 * k = j) ∧ i = .int .i64 (j : Nat) ∧ wr.ownsRow w.heap.size 74 2 v k (rngC (ps.take k)) ∧ Below w.heap.size w wr) (fun _ i _ => 2 * ps.length - (intOf i).toNat)
 case atStart => exact ⟨0, 0, Nat.zero_le _, hide rfl, rfl, World.ownsRow_nil _ _ _ _, Below.refl _ _⟩
 case round =>
  obtain ⟨k, j, hk, HJ, rfl, hO, hb⟩ := hrel
  have hzr := hb.size
  have hjk := HJ.out
  have hxl := HLX.out
  obtain ⟨ov, hov⟩ : ∃ v, u3 = v := ⟨_, rfl⟩
  rw [hov] at hO ⊢
  clear hov
  by_cases hlt : k < ps.length
  · have h20 : j < xs.length := by omega
    have h21 : j + 1 < xs.length := by omega
    have hki : (j : Int) + 1 < (xs.length : Int) := by omega
    have hk0 : (j : Int) < (xs.length : Int) := by omega
    have hXr := hX.ext hb
    have HXF := hX
    obtain ⟨xb, xo, rfl, hxb⟩ := hX.form (by omega)
    have hXfar : Hid (∀ a b : World, Below w.heap.size w a → a.grownBy b ov.ownBlock → (∀ r, ov.ownBlock = some r → w.heap.size ≤ r) → (∀ o, b.cell? ⟨xb, o, none⟩ = a.cell? ⟨xb, o, none⟩) ∧ True) := hide (fun a b hab hg hr => ⟨fun o => cell_block (hg.block xb (by have := hab.size; omega) (fun e => by have := hr _ e.symm; omega)) o, trivial⟩)
    obtain ⟨hp1, hp2⟩ := HPA.out k j hlt HJ.out h20 h21
    have c0 := hXr.at h20
    have c1 := hXr.at h21
    rw [hp1] at c0
    rw [hp2] at c1
    have HA0 := hide hp1
    have HA1 := hide hp2
    have HTK := hide (show ps.take (k + 1) = ps.take k ++ [ps[k]] from take_snoc ps k hlt)
    have hz1 : (j : Int) + 1 ≤ 201 := by omega
    have hwj : IntKind.i64.wrap ((j : Int) + 1) = (j : Int) + 1 := by rw [IntKind.wrap_i64]; omega
    have hj0 : 0 ≤ (j : Int) + 1 := by omega
    have hjn : ((j : Int) + 1).toNat = j + 1 := by omega
    clear hp1 hp2 hxl hjk
    generalize ps[k] = pq at *
    obtain ⟨pa, pb⟩ := pq
    dsimp only at c0 c1 HA0 HA1
    go_upto_region 5 with fail
    refine wp_region_noPanic ?_
    refine wp_region_held_drew (S := fun w' => w'.cell? ⟨xb, xo + j, none⟩ = some (.int .i64 pa) ∧ w'.cell? ⟨xb, xo + (j + 1), none⟩ = some (.int .i64 pb)) (by kernel_rfl) ?_ (fun hHeld => ?_)
    · (try dsimp only)
      (exact ⟨c0, c1⟩)
    refine wpAnyH_take (i := 0) (v := ?_) rfl (by kernel_rfl) (by kernel_rfl) (by kernel_rfl) (fun _ _ _ h => h) (Or.inl ⟨by rfl, ?_⟩) hHeld ?_
    rotate_left
    · (intro ww hSw; (try dsimp only at hSw); go_simp; try with_reducible rfl)
    (try simp only [Act.put, List.getElem_toArray, List.getElem_cons_zero, List.getElem_cons_succ, List.setIfInBounds_toArray, List.set_cons_zero, List.set_cons_succ])
    refine wpAnyH_take (i := 1) (v := ?_) rfl (by kernel_rfl) (by kernel_rfl) (by kernel_rfl) (fun _ _ _ h => h) (Or.inl ⟨by rfl, ?_⟩) hHeld ?_
    rotate_left
    · (intro ww hSw; (try dsimp only at hSw); go_simp; try with_reducible rfl)
    (try simp only [Act.put, List.getElem_toArray, List.getElem_cons_zero, List.getElem_cons_succ, List.setIfInBounds_toArray, List.set_cons_zero, List.set_cons_succ])
    refine wpAnyH_take (i := 2) (v := ?_) rfl (by kernel_rfl) (by kernel_rfl) (by kernel_rfl) (fun _ _ _ h => h) (Or.inl ⟨by rfl, ?_⟩) hHeld ?_
    rotate_left
    · (intro ww hSw; (try dsimp only at hSw); go_simp; try with_reducible rfl)
    (try simp only [Act.put, List.getElem_toArray, List.getElem_cons_zero, List.getElem_cons_succ, List.setIfInBounds_toArray, List.set_cons_zero, List.set_cons_succ])
    refine wpAnyH_take (i := 3) (v := ?_) rfl (by kernel_rfl) (by kernel_rfl) (by kernel_rfl) (fun _ _ _ h => h) (Or.inl ⟨by rfl, ?_⟩) hHeld ?_
    rotate_left
    · (intro ww hSw; (try dsimp only at hSw); go_simp; try with_reducible rfl)
    (try simp only [Act.put, List.getElem_toArray, List.getElem_cons_zero, List.getElem_cons_succ, List.setIfInBounds_toArray, List.set_cons_zero, List.set_cons_succ])
    refine wpAnyH_take (i := 4) (v := ?_) rfl (by kernel_rfl) (by kernel_rfl) (by kernel_rfl) (fun _ _ _ h => h) (Or.inl ⟨by rfl, ?_⟩) hHeld ?_
    rotate_left
    · (intro ww hSw; (try dsimp only at hSw); go_simp; try with_reducible rfl)
    (try simp only [Act.put, List.getElem_toArray, List.getElem_cons_zero, List.getElem_cons_succ, List.setIfInBounds_toArray, List.set_cons_zero, List.set_cons_succ])
    refine wpAnyH_take (i := 5) (v := ?_) rfl (by kernel_rfl) (by kernel_rfl) (by kernel_rfl) (fun _ _ _ h => h) (Or.inl ⟨by rfl, ?_⟩) hHeld ?_
    rotate_left
    · (intro ww hSw; (try dsimp only at hSw); go_simp; try with_reducible rfl)
    (try simp only [Act.put, List.getElem_toArray, List.getElem_cons_zero, List.getElem_cons_succ, List.setIfInBounds_toArray, List.set_cons_zero, List.set_cons_succ])
    refine wpAnyH_take (i := 6) (v := ?_) rfl (by kernel_rfl) (by kernel_rfl) (by kernel_rfl) (fun _ _ _ h => h) (Or.inl ⟨by rfl, ?_⟩) hHeld ?_
    rotate_left
    · (intro ww hSw; (try dsimp only at hSw); go_simp; try with_reducible rfl)
    (try simp only [Act.put, List.getElem_toArray, List.getElem_cons_zero, List.getElem_cons_succ, List.setIfInBounds_toArray, List.set_cons_zero, List.set_cons_succ])
    refine wpAnyH_take (i := 7) (v := ?_) rfl (by kernel_rfl) (by kernel_rfl) (by kernel_rfl) (fun _ _ _ h => h) (Or.inl ⟨by rfl, ?_⟩) hHeld ?_
    rotate_left
    · (intro ww hSw; (try dsimp only at hSw); go_simp; try with_reducible rfl)
    (try simp only [Act.put, List.getElem_toArray, List.getElem_cons_zero, List.getElem_cons_succ, List.setIfInBounds_toArray, List.set_cons_zero, List.set_cons_succ])
    refine wpAnyH_take (i := 8) (v := ?_) rfl (by kernel_rfl) (by kernel_rfl) (by kernel_rfl) (fun _ _ _ h => h) (Or.inl ⟨by rfl, ?_⟩) hHeld ?_
    rotate_left
    · (intro ww hSw; (try dsimp only at hSw); go_simp; try with_reducible rfl)
    (try simp only [Act.put, List.getElem_toArray, List.getElem_cons_zero, List.getElem_cons_succ, List.setIfInBounds_toArray, List.set_cons_zero, List.set_cons_succ])
    refine wpAnyH_take (i := 9) (v := ?_) rfl (by kernel_rfl) (by kernel_rfl) (by kernel_rfl) (fun _ _ _ h => h) (Or.inl ⟨by rfl, ?_⟩) hHeld ?_
    rotate_left
    · (intro ww hSw; (try dsimp only at hSw); go_simp; try with_reducible rfl)
    (try simp only [Act.put, List.getElem_toArray, List.getElem_cons_zero, List.getElem_cons_succ, List.setIfInBounds_toArray, List.set_cons_zero, List.set_cons_succ])
    refine wpAnyH_take (i := 10) (v := ?_) rfl (by kernel_rfl) (by kernel_rfl) (by kernel_rfl) (fun _ _ _ h => h) (Or.inl ⟨by rfl, ?_⟩) hHeld ?_
    rotate_left
    · (intro ww hSw; (try dsimp only at hSw); go_simp; try with_reducible rfl)
    (try simp only [Act.put, List.getElem_toArray, List.getElem_cons_zero, List.getElem_cons_succ, List.setIfInBounds_toArray, List.set_cons_zero, List.set_cons_succ])
    refine wpAnyH_ready (rs := [11]) (by kernel_rfl) (by simp) ?_
    refine AllReadyH.cons rfl ?_ ?_
    · intro K' hK
      rw [if_pos (by rfl)]
      go_simp
      have hbY := below_alloc (Below.refl wr.heap.size wr) (Nat.le_refl _) (.cells #[.int .i64 pa, .int .i64 pb] 74)
      have hZ0 := rd_new2 wr (.int .i64 pa) (.int .i64 pb) 74
      have hO2 := own_ext hO hbY
      have hX2 := hXr.ext hbY
      obtain ⟨bY, hbYe⟩ : ∃ v, wr.heap.size = v := ⟨_, rfl⟩
      have hbYw : w.heap.size ≤ bY := by omega
      rw [hbYe] at hZ0 ⊢
      obtain ⟨v1, hv1⟩ : ∃ v, wr.alloc (.cells #[.int .i64 pa, .int .i64 pb] 74) = v := ⟨_, rfl⟩
      rw [hv1] at hbY hZ0 hO2 hX2 ⊢
      clear hv1 hbYe
      have hzv := hbY.size
      have hbv := below_step hb hbY hzr
      have c0n := hX2.at h20
      have c1n := hX2.at h21
      rw [HA0.out] at c0n
      rw [HA1.out] at c1n
      refine hK.out _ _ ⟨c0n, c1n⟩ (fun hHeld2 => ?_)
      clear hK K' hHeld
      have hHeld := hHeld2
      clear hHeld2
      (try simp only [Act.put, List.getElem_toArray, List.getElem_cons_zero, List.getElem_cons_succ, List.setIfInBounds_toArray, List.set_cons_zero, List.set_cons_succ])
      refine wpAnyH_ready (rs := [12]) (by kernel_rfl) (by simp) ?_
      refine AllReadyH.cons rfl ?_ ?_
      · intro K' hK
        have hdd := below_drew (Below.refl v1.heap.size v1)
        replace hO2 := own_ext hO2 hdd
        replace hZ0 := Rd.ext hZ0 hdd
        have hzd := hdd.size
        have hbv2 := below_step hbv hdd (by omega)
        have c0m := (hX2.ext hdd).at h20
        have c1m := (hX2.ext hdd).at h21
        rw [HA0.out] at c0m
        rw [HA1.out] at c1m
        refine step_appN _ rfl (.tmp 12) (.tmp 23) 35 rfl w.heap.size 74 ti _ 2 16 und35 ih iz is ib rfl (by decide) ov k (rngC (ps.take k)) rfl hO2 (some ⟨bY, 0, none⟩) 1 1 [.int .i64 pa, .int .i64 pb] rfl hZ0 (by simp [Value.oneCell']) (by unfold maxLen; omega) (by omega) (by omega) ?_
        intro A8 c8 v2 hown8 hgr far8
        have hbF := gb_below hbv2 hgr (by omega) (fun r e => (hO2.lt r e).1)
        have cc := hXfar.out v1.drew v2 hbv2 hgr (fun r e => (hO2.lt r e).1)
        refine hK.out _ _ ⟨(cc.1 _).trans c0m, (cc.1 _).trans c1m⟩ (fun hHeld2 => ?_)
        clear hK K' hHeld
        have hHeld := hHeld2
        clear hHeld2
        (try simp only [Act.put, List.getElem_toArray, List.getElem_cons_zero, List.getElem_cons_succ, List.setIfInBounds_toArray, List.set_cons_zero, List.set_cons_succ])
        refine wpAnyH_take (i := 13) (v := ?_) rfl (by kernel_rfl) (by kernel_rfl) (by kernel_rfl) (fun _ _ _ h => h) (Or.inl ⟨by rfl, ?_⟩) hHeld ?_
        rotate_left
        · (intro ww hSw; (try dsimp only at hSw); go_simp; try with_reducible rfl)
        (try simp only [Act.put, List.getElem_toArray, List.getElem_cons_zero, List.getElem_cons_succ, List.setIfInBounds_toArray, List.set_cons_zero, List.set_cons_succ])
        refine wpAnyH_done (by kernel_rfl) ?_ _
        refine NoPanic.normal ?_
        go_wp2_with fail
        exact ⟨⟨k + 1, j + 2, by omega, hide (by have := HJ.out; omega), by go_num, by rw [HTK.out, rngC_app]; simpa [rngC] using hown8, hbF⟩, by have := HJ.out; simp [intOf]; omega⟩
      exact AllReadyH.nil
    exact AllReadyH.nil
  · have hxl2 := hxl
    have hki : ¬ ((j : Int) + 1 < (xs.length : Int)) := by omega
    have hz1 : 0 ≤ (j : Int) ∧ (j : Int) + 1 ≤ 201 := by omega
    have hwv : wrap64 ((j : Int) + 1) = (j : Int) + 1 := by simp only [wrap64]; omega
    have hkn : k = ps.length := by omega
    have hO2 : wr.ownsRow w.heap.size 74 2 ov ps.length (rngC ps) := by have := hO; rwa [hkn, List.take_length] at this
    obtain ⟨D, dc, rfl⟩ := own_form hO2
    have hR := rd_own hO2 (by omega)
    clear hkn hO hO2 hxl hxl2 hjk
    go_wp2
    go_ret
    exact ⟨D, ⟨dc, rfl⟩, hb, hR⟩
end Go.Proofs.Ytgjfejpibielaaa
namespace Go.Proofs.Ytgjfejpibielaaa
open Go.RowKit Go.Maps Go.Shelf
attribute [local go_sem] Oper.semAt_some World.cell?_setCell_far
theorem okD3 : OkD 3 0 [1, 1, 1] := ⟨by decide, by decide, by decide, by decide, by decide, by decide⟩
theorem i64_lit {X v : World} {b : Nat} {xs : List Int} {cs : Array Value} {t : TypeId} (h : Below X.heap.size X v) (hx : X.heap[b]? = some (.cells cs t (0, 0))) (hcs : cs = (xs.map (Value.int .i64)).toArray) : I64 v (some ⟨b, 0, none⟩) xs := by
 subst hcs
 refine I64.ext (w := X) ?_ h
 intro k x hk
 exact ⟨b, 0, rfl, obj_lt hx, Nat.le_of_lt (obj_lt hx), by rw [Nat.zero_add]; exact obj_at hx k _ (by simp [hk])⟩
theorem v_cnt : Tt.cnt 3 0 ([1, 1, 1].zip (Tt.fulls 3 [1, 1, 1].length)) (-1) 0 = 6 := by decide +kernel
theorem v_codes : (Tt.codes 3 0 [1, 1, 1]).length = 6 := by decide +kernel
theorem v_code : codeV 3 0 [1, 1, 1] 3 = .tuple #[.string ⟨#[98, 99, 97]⟩, .int .i64 0] := by kernel_rfl
theorem v_num : numV 3 0 [1, 1, 1] ⟨#[99, 97, 98]⟩ = .tuple #[.int .i64 4, .int .i64 0] := by kernel_rfl
theorem v_num2 : numV 3 0 [1, 1, 1] ⟨#[97, 97, 98]⟩ = .tuple #[.int .i64 0, .int .i64 16] := by kernel_rfl
theorem v_near : nearV 3 0 [1, 1, 1] ⟨#[97, 98, 98]⟩ = .tuple #[.int .i64 1, .string ⟨#[97, 98, 99]⟩, .int .i64 0] := by kernel_rfl
theorem v_find : findV 3 0 [1, 1, 1] [7, 2, 7] 1 = .tuple #[.int .i64 5, .int .i64 0] := by kernel_rfl
theorem v_fit1 : Tt.cnt 3 0 ([1, 1, 1].zip [7, 2, 7]) (-1) 0 = 2 := by decide +kernel
theorem v_fit2 : ((idxL 3 0 [1, 1, 1] (Tt.fulls 3 [1, 1, 1].length) [7, 2, 7] (nr [(0, 2)])).map fun (p : Int × Int) => p.2 - p.1 + 1).sum = 1 := by decide +kernel
theorem v_fit3 : ((idxL 3 0 [1, 1, 1] (Tt.fulls 3 [1, 1, 1].length) [7, 2, 7] (nr [(0, 0), (5, 5)])).map fun (p : Int × Int) => p.2 - p.1 + 1).sum = 2 := by decide +kernel
theorem v_sure : sureL 3 0 [1, 1, 1] [7, 2, 7] = [5, 2, 5] := by decide +kernel
theorem v_sure0 : Tt.cnt 3 0 ([1, 1, 1].zip [1, 1, 7]) (-1) 0 = 0 := by decide +kernel
theorem v_chk : chkShortV 3 0 [1, 1, 1] [(0, 5)] [[1, 2, 7], [1, 2, 4]] 2 [0, 1] = .tuple #[.int .i64 1, .int .i64 0] := by kernel_rfl
theorem v_least : leastI 3 0 [1, 1, 1] [[1, 2, 7], [1, 2, 4]] (zr [(0, 5)]) 2 = 1 := by decide +kernel
set_option maxRecDepth 100000 in
set_option maxHeartbeats 4000000 in
theorem day_any (w : World) : Calls Try.prog 54 #[] w ((fun e w' => ∃ A, e = .returned (.agg #[.int .i64 3, .int .i64 3, .slice A 3 3, .int .i64 0]) ∧ Below w.heap.size w w' ∧ I64 w' A [1, 1, 1])) := by
 go_enter Try.func54, Try.ntmps54
 go_wp2
 have hb1 : Below w.heap.size w (w.alloc (.cells #[.int .i64 3, .int .i64 3, .slice (some ⟨w.heap.size + 1, 0, none⟩) 3 3, .int .i64 0] 24)) := below_alloc (Below.refl _ _) (Nat.le_refl _) _
 have hX : BlkAt (w.alloc (.cells #[.int .i64 3, .int .i64 3, .slice (some ⟨w.heap.size + 1, 0, none⟩) 3 3, .int .i64 0] 24)) w.heap.size #[.int .i64 3, .int .i64 3, .slice (some ⟨w.heap.size + 1, 0, none⟩) 3 3, .int .i64 0] 24 := heap_alloc_new _ _
 obtain ⟨wa, hwa⟩ : ∃ v, w.alloc (.cells #[.int .i64 3, .int .i64 3, .slice (some ⟨w.heap.size + 1, 0, none⟩) 3 3, .int .i64 0] 24) = v := ⟨_, rfl⟩
 have hsz : wa.heap.size = w.heap.size + 1 := by rw [← hwa]; exact World.size_alloc _ _
 rw [hwa] at hb1 hX ⊢
 clear hwa
 have hb2 : Below wa.heap.size wa (wa.alloc (.cells #[.int .i64 1, .int .i64 1, .int .i64 1] 3)) := below_alloc (Below.refl _ _) (Nat.le_refl _) _
 have hI : I64 (wa.alloc (.cells #[.int .i64 1, .int .i64 1, .int .i64 1] 3)) (some ⟨w.heap.size + 1, 0, none⟩) [1, 1, 1] := i64_new wa [1, 1, 1] 3 _ hsz.symm
 have hX2 := hX.ext hb2
 have hB := below_step hb1 hb2 hb1.size
 obtain ⟨wb, hwb⟩ : ∃ v, wa.alloc (.cells #[.int .i64 1, .int .i64 1, .int .i64 1] 3) = v := ⟨_, rfl⟩
 rw [hwb] at hI hX2 hB ⊢
 clear hwb hb2 hX hb1
 have q0 := obj_at hX2 0 _ rfl
 have q1 := obj_at hX2 1 _ rfl
 have q2 := obj_at hX2 2 _ rfl
 have q3 := obj_at hX2 3 _ rfl
 refine bodyPost_ret (v := .agg #[.int .i64 3, .int .i64 3, .slice (some ⟨w.heap.size + 1, 0, none⟩) 3 3, .int .i64 0]) (by simp [results, Try.results54, go_sem, q0, q1, q2, q3]) rfl ⟨_, rfl, hB, hI⟩
theorem w_count (A : Option Addr) (w : World) (hA : I64 w A [1, 1, 1]) : Calls Try.prog 18 #[.agg #[.int .i64 3, .int .i64 3, .slice A 3 3, .int .i64 0]] w (Gives w (.tuple #[.int .i64 6, .int .i64 0])) := by
 have h := Count_ok 3 0 A [1, 1, 1] 3 w okD3 hA
 rw [v_cnt] at h
 exact h
theorem w_code (A : Option Addr) (w : World) (hA : I64 w A [1, 1, 1]) : Calls Try.prog 20 #[.agg #[.int .i64 3, .int .i64 3, .slice A 3 3, .int .i64 0], .int .i64 3] w (Gives w (.tuple #[.string ⟨#[98, 99, 97]⟩, .int .i64 0])) := by
 have h := Code_ok 3 0 A [1, 1, 1] 3 3 w okD3 hA
 rw [v_code] at h
 exact h
theorem w_num (A : Option Addr) (w : World) (hA : I64 w A [1, 1, 1]) : Calls Try.prog 22 #[.agg #[.int .i64 3, .int .i64 3, .slice A 3 3, .int .i64 0], .string ⟨#[99, 97, 98]⟩] w (Gives w (.tuple #[.int .i64 4, .int .i64 0])) := by
 have h := Number_ok 3 0 A [1, 1, 1] 3 ⟨#[99, 97, 98]⟩ w okD3 hA
 rw [v_num] at h
 exact h
theorem w_num2 (A : Option Addr) (w : World) (hA : I64 w A [1, 1, 1]) : Calls Try.prog 22 #[.agg #[.int .i64 3, .int .i64 3, .slice A 3 3, .int .i64 0], .string ⟨#[97, 97, 98]⟩] w (Gives w (.tuple #[.int .i64 0, .int .i64 16])) := by
 have h := Number_ok 3 0 A [1, 1, 1] 3 ⟨#[97, 97, 98]⟩ w okD3 hA
 rw [v_num2] at h
 exact h
theorem w_near (A : Option Addr) (w : World) (hA : I64 w A [1, 1, 1]) : Calls Try.prog 35 #[.agg #[.int .i64 3, .int .i64 3, .slice A 3 3, .int .i64 0], .string ⟨#[97, 98, 98]⟩] w (Gives w (.tuple #[.int .i64 1, .string ⟨#[97, 98, 99]⟩, .int .i64 0])) := by
 have h := Near_ok 3 0 A [1, 1, 1] 3 ⟨#[97, 98, 98]⟩ w okD3 hA
 rw [v_near] at h
 exact h
theorem w_find (A : Option Addr) (Y : Option Addr) (w : World) (hA : I64 w A [1, 1, 1]) (hY : I64 w Y [7, 2, 7]) : Calls Try.prog 30 #[.agg #[.int .i64 3, .int .i64 3, .slice A 3 3, .int .i64 0], .slice Y 3 3, .int .i64 1] w (Gives w (.tuple #[.int .i64 5, .int .i64 0])) := by
 have h := Find_ok 3 0 A [1, 1, 1] 3 Y [7, 2, 7] 3 1 w okD3 hA (by decide) (by decide) hY
 rw [v_find] at h
 exact h
theorem w_fits (A : Option Addr) (Y : Option Addr) (D : Option Addr) (dc : Nat) (w : World) (hA : I64 w A [1, 1, 1]) (hY : I64 w Y [7, 2, 7]) (hD : Rng w D [(0, 2)]) : Calls Try.prog 26 #[.agg #[.int .i64 3, .int .i64 3, .slice A 3 3, .int .i64 0], .slice Y 3 3, .slice D 1 dc] w (Gives w (.tuple #[.int .i64 2, .int .i64 1, .int .i64 0])) := by
 have h := Fits_ok 3 0 A [1, 1, 1] 3 Y [7, 2, 7] 3 D [(0, 2)] dc w okD3 hA (by decide) (by decide) hY hD (by rw [cnt_codes, v_codes]; decide)
 rw [v_fit1, v_fit2] at h
 exact h
theorem w_kind (A : Option Addr) (Y : Option Addr) (D : Option Addr) (dc : Nat) (w : World) (hA : I64 w A [1, 1, 1]) (hY : I64 w Y [7, 2, 7]) (hD : Rng w D [(0, 0), (5, 5)]) : Calls Try.prog 28 #[.agg #[.int .i64 3, .int .i64 3, .slice A 3 3, .int .i64 0], .slice Y 3 3, .slice D 2 dc] w (Gives w (.tuple #[.int .i64 2, .int .i64 0])) := by
 have h := Kind_of (.int .i64 3) (.int .i64 3) (.slice A 3 3) (.int .i64 0) (.slice Y 3 3) (.slice D 2 dc) 2 2 0 w (fun v hb => by have h := Fits_ok 3 0 A [1, 1, 1] 3 Y [7, 2, 7] 3 D [(0, 0), (5, 5)] dc v okD3 (hA.ext hb) (by decide) (by decide) (hY.ext hb) (Rng.ext hD hb) (by rw [cnt_codes, v_codes]; decide); rw [v_fit1, v_fit3] at h; exact h)
 exact h
theorem w_sure (A : Option Addr) (Y : Option Addr) (w : World) (hA : I64 w A [1, 1, 1]) (hY : I64 w Y [7, 2, 7]) : Calls Try.prog 32 #[.agg #[.int .i64 3, .int .i64 3, .slice A 3 3, .int .i64 0], .slice Y 3 3] w ((fun e w' => ∃ R, e = .returned (.tuple #[.slice R 3 3, .int .i64 0]) ∧ Below w.heap.size w w' ∧ I64 w' R [5, 2, 5])) := by
 have h := (Sure_ok 3 0 A [1, 1, 1] 3 Y [7, 2, 7] 3 w okD3 hA (by decide) (by decide) hY).mono (R' := fun e w' => ∃ R, e = .returned (.tuple #[.slice R 3 3, .int .i64 0]) ∧ Below w.heap.size w w' ∧ I64 w' R [5, 2, 5]) (fun e w' h => by rcases h with ⟨h, _⟩ | ⟨_, R, h1, h2, h3⟩; (rw [v_fit1] at h; exact absurd h (by decide)); (rw [v_sure] at h3; exact ⟨_, h1, h2, h3⟩))
 exact h
theorem w_sure0 (A : Option Addr) (Y : Option Addr) (w : World) (hA : I64 w A [1, 1, 1]) (hY : I64 w Y [1, 1, 7]) : Calls Try.prog 32 #[.agg #[.int .i64 3, .int .i64 3, .slice A 3 3, .int .i64 0], .slice Y 3 3] w ((fun e w' => e = .returned (.tuple #[.slice none 0 0, .int .i64 21]) ∧ Below w.heap.size w w')) := by
 have h := (Sure_ok 3 0 A [1, 1, 1] 3 Y [1, 1, 7] 3 w okD3 hA (by decide) (by decide) hY).mono (R' := fun e w' => e = .returned (.tuple #[.slice none 0 0, .int .i64 21]) ∧ Below w.heap.size w w') (fun e w' h => by rcases h with ⟨_, h1, h2⟩ | ⟨h, _⟩; exact ⟨h1, h2⟩; exact absurd v_sure0 h)
 exact h
end Go.Proofs.Ytgjfejpibielaaa
namespace Go.Proofs.Ytgjfejpibielaaa
open Go.RowKit Go.Maps Go.Shelf
def W1 (ys : List Int) : Prop := ShortSays 3 3 0 [1, 1, 1] [[1, 2, 7], [1, 2, 4]] [(0, 5)] ys 1 0
def W2 (ys : List Int) : Prop := PaySays 3 3 0 [1, 1, 1] [[1, 2, 7], [1, 2, 4]] [(0, 5)] ys 1
theorem w_claims : ClaimsSay 3 3 0 [1, 1, 1] [[1, 2, 7], [1, 2, 4]] [(0, 5)] 0 1 := by
 have h := (claims_fine 3 0 [1, 1, 1] okD3 [[1, 2, 7], [1, 2, 4]] [(0, 5)] (by decide) (by decide) (by decide) (by decide) (by rw [v_codes]; decide) (by rw [v_codes]; decide)).1
 rw [show leastI 3 0 [1, 1, 1] [[1, 2, 7], [1, 2, 4]] (zr [(0, 5)]) ([[1, 2, 7], [1, 2, 4]] : List (List Nat)).length = 1 from v_least] at h
 exact h
theorem w_short (A Y1 Y2 C D : Option Addr) (dc : Nat) (w : World) (hA : I64 w A [1, 1, 1]) (hC : Lst w C [(Y1, [1, 2, 7], 3), (Y2, [1, 2, 4], 3)]) (hD : Rng w D [(0, 5)]) : Calls Try.prog 40 #[.agg #[.int .i64 3, .int .i64 3, .slice A 3 3, .int .i64 0], .slice C 2 2, .slice D 1 dc] w ((fun e w' => ∃ ys Ya yc, e = .returned (.tuple #[.slice Ya ys.length yc, .int .i64 0]) ∧ Below w.heap.size w w' ∧ I64 w' Ya ys ∧ W1 ys)) := by
 refine (w_claims.2.2.1 A 3 C [(Y1, [1, 2, 7], 3), (Y2, [1, 2, 4], 3)] 2 D dc w hA hC rfl hD).mono fun e w' h => ?_
 obtain ⟨ys, ⟨Ya, yc, h1, h2, h3⟩, _, _, h4⟩ := h
 exact ⟨ys, Ya, yc, h1, h2, h3, h4 rfl⟩
theorem w_paid (A Y1 Y2 C D : Option Addr) (dc : Nat) (w : World) (hA : I64 w A [1, 1, 1]) (hC : Lst w C [(Y1, [1, 2, 7], 3), (Y2, [1, 2, 4], 3)]) (hD : Rng w D [(0, 5)]) : Calls Try.prog 41 #[.agg #[.int .i64 3, .int .i64 3, .slice A 3 3, .int .i64 0], .slice C 2 2, .slice D 1 dc] w ((fun e w' => ∃ ys Ya yc, e = .returned (.tuple #[.slice Ya ys.length yc, .int .i64 0]) ∧ Below w.heap.size w w' ∧ I64 w' Ya ys ∧ W2 ys)) := by
 refine (w_claims.2.2.2 A 3 C [(Y1, [1, 2, 7], 3), (Y2, [1, 2, 4], 3)] 2 D dc w hA hC rfl hD).mono fun e w' h => ?_
 obtain ⟨ys, ⟨Ya, yc, h1, h2, h3⟩, _, _, h4⟩ := h
 exact ⟨ys, Ya, yc, h1, h2, h3, h4 rfl⟩
theorem w_rchk (A Y1 Y2 C D : Option Addr) (dc : Nat) (w : World) (hA : I64 w A [1, 1, 1]) (hC : Lst w C [(Y1, [1, 2, 7], 3), (Y2, [1, 2, 4], 3)]) (hD : Rng w D [(0, 5)]) (Ya : Option Addr) (ys : List Int) (yc : Nat) (hY : I64 w Ya ys) (h : W1 ys) : Calls Try.prog 39 #[.agg #[.int .i64 3, .int .i64 3, .slice A 3 3, .int .i64 0], .slice C 2 2, .slice D 1 dc, .slice Ya ys.length yc] w (Gives w (.tuple #[.int .i64 1, .int .i64 0])) := h A 3 C [(Y1, [1, 2, 7], 3), (Y2, [1, 2, 4], 3)] 2 D dc Ya yc w hA hC rfl hD hY
theorem w_rpay (A Y1 Y2 C D : Option Addr) (dc : Nat) (w : World) (hA : I64 w A [1, 1, 1]) (hC : Lst w C [(Y1, [1, 2, 7], 3), (Y2, [1, 2, 4], 3)]) (hD : Rng w D [(0, 5)]) (Ya : Option Addr) (ys : List Int) (yc : Nat) (hY : I64 w Ya ys) (h : W2 ys) : Calls Try.prog 44 #[.agg #[.int .i64 3, .int .i64 3, .slice A 3 3, .int .i64 0], .slice C 2 2, .slice D 1 dc, .slice Ya ys.length yc] w (Gives w (.tuple #[.int .i64 1, .bool true])) := h A 3 C [(Y1, [1, 2, 7], 3), (Y2, [1, 2, 4], 3)] 2 D dc Ya yc w hA hC rfl hD hY
theorem w_chk (A Y1 Y2 C D : Option Addr) (dc : Nat) (w : World) (hA : I64 w A [1, 1, 1]) (hC : Lst w C [(Y1, [1, 2, 7], 3), (Y2, [1, 2, 4], 3)]) (hD : Rng w D [(0, 5)]) (Ya : Option Addr) (yc : Nat) (hY : I64 w Ya [0, 1]) : Calls Try.prog 38 #[.agg #[.int .i64 3, .int .i64 3, .slice A 3 3, .int .i64 0], .slice C 2 2, .slice D 1 dc, .slice Ya 2 yc] w (Gives w (.tuple #[.int .i64 1, .int .i64 0])) := by
 have h := CheckShort_ok 3 0 A [1, 1, 1] 3 C [(Y1, [1, 2, 7], 3), (Y2, [1, 2, 4], 3)] 2 [[1, 2, 7], [1, 2, 4]] D [(0, 5)] dc Ya [0, 1] yc w okD3 hA hC (by simp) rfl (by decide) hD (by rw [cnt_codes, v_codes]; decide) hY (by decide)
 rw [show chkShortV 3 0 [1, 1, 1] [(0, 5)] [[1, 2, 7], [1, 2, 4]] ([(Y1, [1, 2, 7], 3), (Y2, [1, 2, 4], 3)] : List LRow).length [0, 1] = _ from v_chk] at h
 exact h
end Go.Proofs.Ytgjfejpibielaaa
