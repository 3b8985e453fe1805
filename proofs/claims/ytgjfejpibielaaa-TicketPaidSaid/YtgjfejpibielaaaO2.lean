/- Proved here: helpers of the outright laws, a part of the proofs about the ticket laws. Conditions: those that each theorem names, no others. -/
import Derived.Test.YtgjfejpibielaaaQ42
import Derived.WalkKit
import Derived.WalkSpells
import Derived.WalkLawsBesides
import Derived.Below
import Derived.Deep.QuietTactic
import Derived.BigQuiet
import Derived.Deep.Light
import Derived.Deep.RegionHeld3
set_option linter.unusedSimpArgs false
set_option linter.unusedVariables false
namespace Go.Proofs.Ytgjfejpibielaaa
open Go.RowKit Go.Maps Go.Shelf
attribute [local go_sem] Oper.semAt_some World.cell?_setCell_far
/-- bytes in memory -/
def U8 (w : World) (A : Option Addr) (bs : List Nat) : Prop := ∀ k x, bs[k]? = some x → (∃ b o, A = some ⟨b, o, none⟩ ∧ b < w.heap.size ∧ w.cell? ⟨b, o + k, none⟩ = some (.int .u8 (x : Nat))) ∧ x < 256
theorem U8.ext {w w' : World} {A : Option Addr} {ps : List Nat} (h : U8 w A ps) (hb : Below w.heap.size w w') : U8 w' A ps := fun k p hk => by
  obtain ⟨⟨b, o, h0, h1, h2⟩, h3⟩ := h k p hk
  have hs := hb.size
  exact ⟨⟨b, o, h0, by omega, (hb.cell (p := ⟨b, _, none⟩) h1).trans h2⟩, h3⟩
theorem U8.form {w : World} {A : Option Addr} {bs : List Nat} (h : U8 w A bs) (hk : 0 < bs.length) : ∃ b o, A = some ⟨b, o, none⟩ ∧ b < w.heap.size ∧ ∀ k (hk : k < bs.length), w.cell? ⟨b, o + k, none⟩ = some (.int .u8 (bs[k] : Nat)) ∧ bs[k] < 256 := by
  obtain ⟨⟨b, o, h0, h1, h2⟩, h3⟩ := h 0 bs[0] (by simp [hk])
  refine ⟨b, o, h0, h1, fun k hk => ?_⟩
  obtain ⟨⟨b', o', g0, g1, g2⟩, g3⟩ := h k bs[k] (by simp [hk])
  rw [h0] at g0
  cases g0
  exact ⟨g2, g3⟩
theorem rem_nat (a b : Nat) : Int.tmod (a : Int) (b : Int) = ((a % b : Nat) : Int) := by rw [Int.tmod_eq_emod_of_nonneg (by omega)]; push_cast; rfl
/-- the set of a place by numbers -/
def tornN (l : Nat) (bs : List Nat) (i : Nat) : Nat := if bs.length = 0 then 2 ^ l - 1 else 1 + bs.getD (i % bs.length) 0 % (2 ^ l - 1)
def tornL (l n : Nat) (bs : List Nat) : List Nat := (List.range n).map (tornN l bs)
theorem tornL_len (l n : Nat) (bs : List Nat) : (tornL l n bs).length = n := by simp [tornL]
theorem tornL_in {l : Nat} (hl : 2 ≤ l) (n : Nat) (bs : List Nat) : ∀ t, t ∈ tornL l n bs → 1 ≤ t ∧ t < 2 ^ l := fun t h => by
  obtain ⟨i, _, rfl⟩ := List.mem_map.1 h
  have h4 : 4 ≤ 2 ^ l := by have := Nat.pow_le_pow_right (n := 2) (by decide) hl; omega
  unfold tornN
  split
  · omega
  · have := Nat.mod_lt (bs.getD (i % bs.length) 0) (show 2 ^ l - 1 > 0 by omega); omega
def letN (l : Nat) (bs : List Nat) (i : Nat) : Nat := if bs.length = 0 then 0 else bs.getD (i % bs.length) 0 % l
def wordL (l n : Nat) (bs : List Nat) : List Nat := (List.range n).map (letN l bs)
theorem wordL_len (l n : Nat) (bs : List Nat) : (wordL l n bs).length = n := by simp [wordL]
theorem wordL_in {l : Nat} (hl : 2 ≤ l) (n : Nat) (bs : List Nat) : ∀ t, t ∈ wordL l n bs → t < l := fun t h => by
  obtain ⟨i, _, rfl⟩ := List.mem_map.1 h
  unfold letN
  split
  · omega
  · exact Nat.mod_lt _ (by omega)
set_option maxRecDepth 100000 in
set_option maxHeartbeats 4000000 in
theorem fine_any (L n r : Int) (K : List Int) (hx : K.length ≤ 9223372036854775807) : ∃ b, (b = true → ∃ (l rest : Nat) (k : List Nat), L = (l : Nat) ∧ n = (k.length : Nat) ∧ K = zs k ∧ r = (rest : Nat) ∧ OkD l rest k ∧ gN l (k.length - 1) ≤ 800) ∧ ∀ (A : Option Addr) (c : Nat) (w : World), I64 w A K → Calls Try.prog 45 #[.agg #[.int .i64 L, .int .i64 n, .slice A K.length c, .int .i64 r]] w (Gives w (.bool b)) := by
  rcases day_cases L n r K with he | ⟨l, rest, k, rfl, rfl, rfl, rfl, hd⟩
  · obtain ⟨b, hb15, hG⟩ := great_any L n r K hx
    have HG := hide hG
    clear hG
    refine ⟨false, fun h => (by cases h), fun A c w hA => ?_⟩
    cases b with
    | true =>
      clear hb15
      go_enter Try.func45, Try.ntmps45
      go_upto_region 1 with fail
      have hW : Below w.heap.size w (w.alloc (.cells #[.int .i64 L, .int .i64 n, .slice A K.length c, .int .i64 r] 24)) := below_alloc (Below.refl _ _) (Nat.le_refl _) _
      have hX : BlkAt (w.alloc (.cells #[.int .i64 L, .int .i64 n, .slice A K.length c, .int .i64 r] 24)) w.heap.size #[.int .i64 L, .int .i64 n, .slice A K.length c, .int .i64 r] 24 := heap_alloc_new _ _
      obtain ⟨wa, hwa⟩ : ∃ wa, (w.alloc (.cells #[.int .i64 L, .int .i64 n, .slice A K.length c, .int .i64 r] 24)) = wa := ⟨_, rfl⟩
      rw [hwa] at hW hX ⊢
      clear hwa
      replace hA := hA.ext hW
      have q0 := obj_at hX 0 _ rfl
      have q1 := obj_at hX 1 _ rfl
      have q2 := obj_at hX 2 _ rfl
      have q3 := obj_at hX 3 _ rfl
      have ql := obj_lt hX
      have hWs := hW.size
      have tok0 : True := trivial
      go_wp2_with (first
          | (clear tok0; go_at_call 16; refine (HG.out A c _ hA).mono ?_; rintro e u1 ⟨rfl, hb1⟩; replace hb1 := ex_below hb1; have hz1 := hb1.size; have hB1 := below_step hW hb1 (by omega); have hzB1 := hB1.size; have hA_1 := hA.ext hb1; have hX_1 := hX.ext hb1; clear q0 q1 q2 q3 ql; have q0 := obj_at hX_1 0 _ rfl; have q1 := obj_at hX_1 1 _ rfl; have q2 := obj_at hX_1 2 _ rfl; have q3 := obj_at hX_1 3 _ rfl; have ql := obj_lt hX_1; have tok1 : True := trivial))
      go_ret
      exact gives_of rfl hB1
    | false =>
      have h15 := hb15 rfl
      have HC := hide (fun w' (h : I64 w' A K) => rCheckDay_any L n A K c r w' h (by omega))
      have hen : (chkDay L n K r == 0) = false := by simpa using he
      generalize chkDay L n K r = e0 at *
      clear he hb15
      go_enter Try.func45, Try.ntmps45
      go_upto_region 1 with fail
      have hW : Below w.heap.size w (w.alloc (.cells #[.int .i64 L, .int .i64 n, .slice A K.length c, .int .i64 r] 24)) := below_alloc (Below.refl _ _) (Nat.le_refl _) _
      have hX : BlkAt (w.alloc (.cells #[.int .i64 L, .int .i64 n, .slice A K.length c, .int .i64 r] 24)) w.heap.size #[.int .i64 L, .int .i64 n, .slice A K.length c, .int .i64 r] 24 := heap_alloc_new _ _
      obtain ⟨wa, hwa⟩ : ∃ wa, (w.alloc (.cells #[.int .i64 L, .int .i64 n, .slice A K.length c, .int .i64 r] 24)) = wa := ⟨_, rfl⟩
      rw [hwa] at hW hX ⊢
      clear hwa
      replace hA := hA.ext hW
      have q0 := obj_at hX 0 _ rfl
      have q1 := obj_at hX 1 _ rfl
      have q2 := obj_at hX 2 _ rfl
      have q3 := obj_at hX 3 _ rfl
      have ql := obj_lt hX
      have hWs := hW.size
      have tok0 : True := trivial
      go_wp2_with (first
          | (clear tok0; go_at_call 16; refine (HG.out A c _ hA).mono ?_; rintro e u1 ⟨rfl, hb1⟩; replace hb1 := ex_below hb1; have hz1 := hb1.size; have hB1 := below_step hW hb1 (by omega); have hzB1 := hB1.size; have hA_1 := hA.ext hb1; have hX_1 := hX.ext hb1; clear q0 q1 q2 q3 ql; have q0 := obj_at hX_1 0 _ rfl; have q1 := obj_at hX_1 1 _ rfl; have q2 := obj_at hX_1 2 _ rfl; have q3 := obj_at hX_1 3 _ rfl; have ql := obj_lt hX_1; have tok1 : True := trivial)
          | (clear tok1; go_at_call 25; refine (HC.out _ hA_1).mono ?_; rintro e u2 ⟨rfl, hb2⟩; replace hb2 := ex_below hb2; have hz2 := hb2.size; have hB2 := below_step hB1 hb2 (by omega); have hzB2 := hB2.size; have hA_2 := hA_1.ext hb2; have hX_2 := hX_1.ext hb2; clear q0 q1 q2 q3 ql; have q0 := obj_at hX_2 0 _ rfl; have q1 := obj_at hX_2 1 _ rfl; have q2 := obj_at hX_2 2 _ rfl; have q3 := obj_at hX_2 3 _ rfl; have ql := obj_lt hX_2; have tok2 : True := trivial))
      go_ret
      exact gives_of rfl hB2
  · have HG := hide (fun A c w (hA : I64 w A (zs k)) => great_fine l rest k hd A c w hA)
    by_cases hg : (gN l (k.length - 1) : Int) > 800
    · rw [decide_eq_true hg] at HG
      refine ⟨false, fun h => (by cases h), fun A c w hA => ?_⟩
      generalize (rest : Int) = r at *
      generalize (l : Int) = L at *
      generalize (k.length : Int) = n at *
      generalize zs k = K at *
      clear hd hg
      go_enter Try.func45, Try.ntmps45
      go_upto_region 1 with fail
      have hW : Below w.heap.size w (w.alloc (.cells #[.int .i64 L, .int .i64 n, .slice A K.length c, .int .i64 r] 24)) := below_alloc (Below.refl _ _) (Nat.le_refl _) _
      have hX : BlkAt (w.alloc (.cells #[.int .i64 L, .int .i64 n, .slice A K.length c, .int .i64 r] 24)) w.heap.size #[.int .i64 L, .int .i64 n, .slice A K.length c, .int .i64 r] 24 := heap_alloc_new _ _
      obtain ⟨wa, hwa⟩ : ∃ wa, (w.alloc (.cells #[.int .i64 L, .int .i64 n, .slice A K.length c, .int .i64 r] 24)) = wa := ⟨_, rfl⟩
      rw [hwa] at hW hX ⊢
      clear hwa
      replace hA := hA.ext hW
      have q0 := obj_at hX 0 _ rfl
      have q1 := obj_at hX 1 _ rfl
      have q2 := obj_at hX 2 _ rfl
      have q3 := obj_at hX 3 _ rfl
      have ql := obj_lt hX
      have hWs := hW.size
      have tok0 : True := trivial
      go_wp2_with (first
          | (clear tok0; go_at_call 16; refine (HG.out A c _ hA).mono ?_; rintro e u1 ⟨rfl, hb1⟩; replace hb1 := ex_below hb1; have hz1 := hb1.size; have hB1 := below_step hW hb1 (by omega); have hzB1 := hB1.size; have hA_1 := hA.ext hb1; have hX_1 := hX.ext hb1; clear q0 q1 q2 q3 ql; have q0 := obj_at hX_1 0 _ rfl; have q1 := obj_at hX_1 1 _ rfl; have q2 := obj_at hX_1 2 _ rfl; have q3 := obj_at hX_1 3 _ rfl; have ql := obj_lt hX_1; have tok1 : True := trivial))
      go_ret
      exact gives_of rfl hB1
    · rw [decide_eq_false hg] at HG
      refine ⟨true, fun _ => ⟨l, rest, k, rfl, rfl, rfl, rfl, hd, by omega⟩, fun A c w hA => ?_⟩
      have HC := hide (fun w' (h : I64 w' A (zs k)) => (rCheckDay_any l k.length A (zs k) c rest w' h (by rw [zs_len]; have := hd.2.2.2.1; omega)))
      rw [chk_zero hd] at HC
      generalize (rest : Int) = r at *
      generalize (l : Int) = L at *
      generalize (k.length : Int) = n at *
      generalize zs k = K at *
      clear hd hg
      go_enter Try.func45, Try.ntmps45
      go_upto_region 1 with fail
      have hW : Below w.heap.size w (w.alloc (.cells #[.int .i64 L, .int .i64 n, .slice A K.length c, .int .i64 r] 24)) := below_alloc (Below.refl _ _) (Nat.le_refl _) _
      have hX : BlkAt (w.alloc (.cells #[.int .i64 L, .int .i64 n, .slice A K.length c, .int .i64 r] 24)) w.heap.size #[.int .i64 L, .int .i64 n, .slice A K.length c, .int .i64 r] 24 := heap_alloc_new _ _
      obtain ⟨wa, hwa⟩ : ∃ wa, (w.alloc (.cells #[.int .i64 L, .int .i64 n, .slice A K.length c, .int .i64 r] 24)) = wa := ⟨_, rfl⟩
      rw [hwa] at hW hX ⊢
      clear hwa
      replace hA := hA.ext hW
      have q0 := obj_at hX 0 _ rfl
      have q1 := obj_at hX 1 _ rfl
      have q2 := obj_at hX 2 _ rfl
      have q3 := obj_at hX 3 _ rfl
      have ql := obj_lt hX
      have hWs := hW.size
      have tok0 : True := trivial
      go_wp2_with (first
          | (clear tok0; go_at_call 16; refine (HG.out A c _ hA).mono ?_; rintro e u1 ⟨rfl, hb1⟩; replace hb1 := ex_below hb1; have hz1 := hb1.size; have hB1 := below_step hW hb1 (by omega); have hzB1 := hB1.size; have hA_1 := hA.ext hb1; have hX_1 := hX.ext hb1; clear q0 q1 q2 q3 ql; have q0 := obj_at hX_1 0 _ rfl; have q1 := obj_at hX_1 1 _ rfl; have q2 := obj_at hX_1 2 _ rfl; have q3 := obj_at hX_1 3 _ rfl; have ql := obj_lt hX_1; have tok1 : True := trivial)
          | (clear tok1; go_at_call 25; refine (HC.out _ hA_1).mono ?_; rintro e u2 ⟨rfl, hb2⟩; replace hb2 := ex_below hb2; have hz2 := hb2.size; have hB2 := below_step hB1 hb2 (by omega); have hzB2 := hB2.size; have hA_2 := hA_1.ext hb2; have hX_2 := hX_1.ext hb2; clear q0 q1 q2 q3 ql; have q0 := obj_at hX_2 0 _ rfl; have q1 := obj_at hX_2 1 _ rfl; have q2 := obj_at hX_2 2 _ rfl; have q3 := obj_at hX_2 3 _ rfl; have ql := obj_lt hX_2; have tok2 : True := trivial))
      go_ret
      exact gives_of rfl hB2
set_option maxRecDepth 100000 in
set_option maxHeartbeats 4000000 in
theorem count_any (L rest : Nat) (A : Option Addr) (K : List Nat) (c : Nat) (w : World) (hd : OkD L rest K) (hA : I64 w A (zs K)) : Calls Try.prog 47 #[.agg #[.int .i64 (L : Nat), .int .i64 (K.length : Nat), .slice A K.length c, .int .i64 (rest : Nat)]] w (Gives w (.int .i64 ((Tt.codes L rest K).length : Nat))) := by
  have HRC := hide (fun w' (h : I64 w' A (zs K)) => rCodes_any L rest A K c w' hd h)
  go_enter Try.func47, Try.ntmps47
  go_upto_region 1 with fail
  have hW : Below w.heap.size w (w.alloc (.cells #[.int .i64 (L : Nat), .int .i64 (K.length : Nat), .slice A K.length c, .int .i64 (rest : Nat)] 24)) := below_alloc (Below.refl _ _) (Nat.le_refl _) _
  have hX : BlkAt (w.alloc (.cells #[.int .i64 (L : Nat), .int .i64 (K.length : Nat), .slice A K.length c, .int .i64 (rest : Nat)] 24)) w.heap.size #[.int .i64 (L : Nat), .int .i64 (K.length : Nat), .slice A K.length c, .int .i64 (rest : Nat)] 24 := heap_alloc_new _ _
  obtain ⟨wa, hwa⟩ : ∃ wa, (w.alloc (.cells #[.int .i64 (L : Nat), .int .i64 (K.length : Nat), .slice A K.length c, .int .i64 (rest : Nat)] 24)) = wa := ⟨_, rfl⟩
  rw [hwa] at hW hX ⊢
  clear hwa
  replace hA := hA.ext hW
  have q0 := obj_at hX 0 _ rfl
  have q1 := obj_at hX 1 _ rfl
  have q2 := obj_at hX 2 _ rfl
  have q3 := obj_at hX 3 _ rfl
  have ql := obj_lt hX
  have hWs := hW.size
  go_wp2_with (go_at_call 59; refine (HRC.out _ hA).mono ?_; rintro e w1 ⟨A1, c1, rfl, hb1, hO1⟩; have hz1 := hb1.size; rw [List.length_map])
  go_ret
  exact gives_of rfl (below_step hW hb1 hWs)
set_option maxRecDepth 100000 in
set_option maxHeartbeats 4000000 in
theorem torn_any (L rest : Nat) (A : Option Addr) (K : List Nat) (c : Nat) (B : Option Addr) (bs : List Nat) (bc : Nat) (w : World) (hd : OkD L rest K) (hA : I64 w A (zs K)) (hB : U8 w B bs) : Calls Try.prog 46 #[.agg #[.int .i64 (L : Nat), .int .i64 (K.length : Nat), .slice A K.length c, .int .i64 (rest : Nat)], .slice B bs.length bc] w (GivesLn w (tornL L K.length bs)) := by
  obtain ⟨ti, ih, iz, is, ib⟩ := info_parts info3k
  have hn8 := hd.2.2.2.1
  have hL2 := hd.1
  have hL6 := hd.2.1
  have hpw : 2 ^ L ≤ 2 ^ 6 := Nat.pow_le_pow_right (by decide) hL6
  have hp4 : 2 ^ 2 ≤ 2 ^ L := Nat.pow_le_pow_right (by decide) hL2
  have HTN := hide (fun i => (show (List.range (i + 1)).map (tornN L bs) = (List.range i).map (tornN L bs) ++ [tornN L bs i] by rw [List.range_succ, List.map_append]; rfl))
  have HTV := hide (fun i => (show tornN L bs i = if bs.length = 0 then 2 ^ L - 1 else 1 + bs.getD (i % bs.length) 0 % (2 ^ L - 1) from rfl))
  have HGD := hide (fun i (h : i < bs.length) => (show bs.getD i 0 = bs[i] by simp [List.getD, h]))
  have HTL : Hid (tornL L K.length bs = (List.range K.length).map (tornN L bs)) := hide rfl
  rw [HTL.out]
  generalize tornN L bs = fT at *
  obtain ⟨Q, hQ⟩ : ∃ Q, 2 ^ L = Q + 1 := ⟨2 ^ L - 1, by omega⟩
  have hsh : wrap64 (2 ^ L) = (Q : Int) + 1 := by
    have e : ((2 : Int) ^ L) = ((2 ^ L : Nat) : Int) := by push_cast; rfl
    rw [e, hQ]; simp only [wrap64]; omega
  rw [hQ] at hpw hp4 HTV
  rw [Nat.add_sub_cancel] at HTV
  have hsub : wrap64 ((Q : Int) + 1 - 1) = (Q : Int) := by simp only [wrap64]; omega
  have hsub2 : wrap64 (Q : Int) = (Q : Int) := by simp only [wrap64]; omega
  have HQ64 := hide (show Q < 64 ∧ 0 < Q by omega)
  clear hd hQ HTL
  go_enter Try.func46, Try.ntmps46
  go_upto_region 1 with fail
  have hW : Below w.heap.size w (w.alloc (.cells #[.int .i64 (L : Nat), .int .i64 (K.length : Nat), .slice A K.length c, .int .i64 (rest : Nat)] 24)) := below_alloc (Below.refl _ _) (Nat.le_refl _) _
  have hX : BlkAt (w.alloc (.cells #[.int .i64 (L : Nat), .int .i64 (K.length : Nat), .slice A K.length c, .int .i64 (rest : Nat)] 24)) w.heap.size #[.int .i64 (L : Nat), .int .i64 (K.length : Nat), .slice A K.length c, .int .i64 (rest : Nat)] 24 := heap_alloc_new _ _
  obtain ⟨wa, hwa⟩ : ∃ wa, (w.alloc (.cells #[.int .i64 (L : Nat), .int .i64 (K.length : Nat), .slice A K.length c, .int .i64 (rest : Nat)] 24)) = wa := ⟨_, rfl⟩
  rw [hwa] at hW hX ⊢
  clear hwa
  replace hA := hA.ext hW
  have q0 := obj_at hX 0 _ rfl
  have q1 := obj_at hX 1 _ rfl
  have q2 := obj_at hX 2 _ rfl
  have q3 := obj_at hX 3 _ rfl
  have ql := obj_lt hX
  have hWs := hW.size
  have hBr := hB.ext hW
  go_wp2
  go_loopw [5, 6] (fun o iv wr => ∃ (i : Nat) (A2 : Option Addr) (m2 c2 : Nat), i ≤ K.length ∧ iv = .int .i64 (i : Nat) ∧ o = .slice A2 m2 c2 ∧ Hid (m2 = i) ∧ wr.ownsRow wa.heap.size 3 1 (.slice A2 m2 c2) m2 ((zs ((List.range i).map fT)).map (Value.int .i64)) ∧ Below wa.heap.size wa wr) (fun _ iv _ => K.length - (intOf iv).toNat)
  case atStart => exact ⟨0, none, 0, 0, Nat.zero_le _, rfl, rfl, hide rfl, World.ownsRow_nil _ _ _ _, Below.refl _ _⟩
  case round =>
    obtain ⟨i, A2, m2, c2, hi, rfl, rfl, HM, hO, hb⟩ := hrel
    have hm2 : m2 ≤ K.length := by rw [HM.out]; exact hi
    have hzr := hb.size
    have hXr := hX.ext hb
    clear q0 q1 q2 q3 ql
    have q0 := obj_at hXr 0 _ rfl
    have q1 := obj_at hXr 1 _ rfl
    have q2 := obj_at hXr 2 _ rfl
    have q3 := obj_at hXr 3 _ rfl
    have ql := obj_lt hXr
    by_cases hlt : i < K.length
    · have hki : (i : Int) < (K.length : Int) := by omega
      have HS := hide (HTN.out i)
      by_cases hz : bs.length = 0
      · have hzi : ((bs.length : Int) > 0) = False := by simp [hz]
        have hzd : ¬ (0 < (bs.length : Int)) := by omega
        have HV := hide (show fT i = Q by rw [HTV.out, if_pos hz])
        clear HTV HGD
        generalize fT i = y at *
        go_wp2_with (first
          | (at_builtin; refine wpList_app _ rfl (.tmp 32) (.tmp 34) 22 rfl (wa.heap.size) 3 ti _ 1 8 und22k ih iz is ib rfl (by decide) ((.slice A2 m2 c2)) (m2) (_) rfl (hO.alloc _) (some ⟨wr.heap.size, 0, none⟩) (1) (1) ([.int .i64 (Q : Nat)]) rfl (rd_new1 _ _ _) (by simp [Value.oneCell']) (by unfold maxLen; omega) (by omega) (by (first | omega | (simp only [size_grow, World.size_alloc, size_drewN, size_drew, size_setCell]; omega) | (simp only [size_grow, World.size_alloc, size_drewN, size_drew, size_setCell] at *; omega) | (simp; done) | (simp; omega))) ?_; intro A7 c7 u7 hown7 hgr7))
        exact ⟨⟨i + 1, by omega, by go_num, A7, m2 + 1, c7, ⟨rfl, rfl, rfl⟩, hide (by rw [HM.out]), by rw [HS.out, HV.out, zs_snoc, List.map_append]; exact hown7, gb_below (below_alloc hb (by omega) _) hgr7 (by simp; omega) (fun r e => (hO.lt r e).1)⟩, by simp [intOf]; omega⟩
      · have hzd : 0 < (bs.length : Int) := by omega
        obtain ⟨ob, oo, rfl, hob, hcell⟩ := (hBr.ext hb).form (by omega)
        have hz0 : ¬ ((bs.length : Int) = 0) := by omega
        have hjl := Nat.mod_lt i (show bs.length > 0 by omega)
        have hrm := rem_nat i bs.length
        obtain ⟨hce, hce2⟩ := hcell (i % bs.length) hjl
        have HV := hide (show fT i = 1 + bs[i % bs.length] % Q by rw [HTV.out, if_neg hz, HGD.out _ hjl])
        generalize bs[i % bs.length] = y at *
        generalize i % bs.length = j at *
        have hji : (j : Int) < (bs.length : Int) := by omega
        go_upto_region 7 with fail
        clear hsh hsub hsub2 hpw hp4
        have hrm2 := rem_nat y Q
        have hpos : ¬ ((Q : Int) = 0) := by have := HQ64.out; omega
        have hpos2 : ¬ (Q = 0) := by have := HQ64.out; omega
        have hym := Nat.mod_lt y (show Q > 0 from HQ64.out.2)
        clear HTV HGD hcell
        obtain ⟨z, hz0⟩ : ∃ z, y % Q = z := ⟨_, rfl⟩
        rw [hz0] at HV hrm2 hym
        clear hz0
        have hQ64 := HQ64.out
        have hz1 : wrap64 (1 + (z : Int)) = 1 + (z : Int) := by simp only [wrap64]; omega
        clear hQ64
        go_wp2_with (first
          | (at_builtin; refine wpList_app _ rfl (.tmp 32) (.tmp 34) 22 rfl (wa.heap.size) 3 ti _ 1 8 und22k ih iz is ib rfl (by decide) ((.slice A2 m2 c2)) (m2) (_) rfl (hO.alloc _) (some ⟨wr.heap.size, 0, none⟩) (1) (1) ([.int .i64 (1 + (z : Int))]) rfl (rd_new1 _ _ _) (by simp [Value.oneCell']) (by unfold maxLen; omega) (by omega) (by (first | omega | (simp only [size_grow, World.size_alloc, size_drewN, size_drew, size_setCell]; omega) | (simp only [size_grow, World.size_alloc, size_drewN, size_drew, size_setCell] at *; omega) | (simp; done) | (simp; omega))) ?_; intro A7 c7 u7 hown7 hgr7))
        exact ⟨⟨i + 1, A7, m2 + 1, c7, by omega, by go_num, rfl, hide (by rw [HM.out]), by rw [HS.out, HV.out, zs_snoc, List.map_append]; exact hown7, gb_below (below_alloc hb (by omega) _) hgr7 (by simp; omega) (fun r e => (hO.lt r e).1)⟩, by simp [intOf]; omega⟩
    · have hki : ¬ ((i : Int) < (K.length : Int)) := by omega
      obtain rfl : i = K.length := by omega
      have hI := own_i64 hO
      have HM2 := HM
      clear HM
      go_wp2
      go_ret
      exact ⟨A2, c2, by rw [HM2.out]; simp, below_step hW hb (by omega), hI⟩
end Go.Proofs.Ytgjfejpibielaaa
