/- Proved here: the state behind a letter, a part of the proofs about the ticket laws. Conditions: those that each theorem names, no others. -/
import Derived.Test.YtgjfejpibielaaaQ07
import Derived.WalkKit
import Derived.WalkSpells
import Derived.WalkLawsBesides
import Derived.Below
import Derived.Deep.QuietTactic
import Derived.BigQuiet
import Derived.Deep.Light
import Derived.Deep.RegionHeld3
import Derived.Deep.CutRange
set_option linter.unusedSimpArgs false
set_option linter.unusedVariables false
namespace Go.Proofs.Ytgjfejpibielaaa
open Go.RowKit
def zs (l : List Nat) : List Int := l.map (fun (x : Nat) => (x : Int))
theorem zs_len (l : List Nat) : (zs l).length = l.length := List.length_map ..
theorem zs_at (l : List Nat) (k : Nat) (h : k < l.length) : (zs l)[k]'(by rw [zs_len]; exact h) = (l[k] : Int) := by simp [zs]
theorem I64.at0 {w : World} {A : Option Addr} {xs : List Nat} (h : I64 w A (zs xs)) {k : Nat} (hk : k < xs.length) : ∀ b o, A = some ⟨b, o, none⟩ → w.cell? ⟨b, o + k, none⟩ = some (.int .i64 (xs[k] : Nat)) := fun b o e => by
 subst e
 have := h.at (k := k) (by rw [zs_len]; exact hk)
 rwa [zs_at _ _ hk] at this
theorem bBit : ∀ x, x < 64 → ∀ i, i < 6 → bits BinOp.and .i64 ((x : Nat) / 2 ^ i : Int) 1 = if x.testBit i = true then 1 else 0 := by decide +kernel
/-- a state -/
def stC (p : Nat) (la : Int) (s : Nat) : Array Value := #[.int .i64 (p : Nat), .int .i64 la, .int .i64 (s : Nat)]
def stV (p : Nat) (la : Int) (s : Nat) : Value := .agg (stC p la s)
/-- a machine in memory: its day and its sets -/
def MachAt (w : World) (B M : Nat) (L rest : Nat) (A : Option Addr) (K : List Nat) (c : Nat) (S : Option Addr) (T : List Nat) (d : Nat) : Prop := BlkAt w B #[.int .i64 (L : Nat), .int .i64 (K.length : Nat), .slice A K.length c, .int .i64 (rest : Nat), .slice S T.length d, .map (some M)] 120 ∧ I64 w A (zs K) ∧ I64 w S (zs T)
theorem MachAt.ext {w w' : World} {B M : Nat} {L rest : Nat} {A : Option Addr} {K : List Nat} {c : Nat} {S : Option Addr} {T : List Nat} {d : Nat} (h : MachAt w B M L rest A K c S T d) (hb : Below w.heap.size w w') : MachAt w' B M L rest A K c S T d := ⟨h.1.ext hb, h.2.1.ext hb, h.2.2.ext hb⟩
/-- a day with sets that is valid -/
def OkM (L rest : Nat) (K T : List Nat) : Prop := 2 ≤ L ∧ L ≤ 6 ∧ 2 ≤ K.length ∧ K.length ≤ 8 ∧ T.length = K.length ∧ (∀ k, k ∈ K → k < L) ∧ (∀ t, t ∈ T → t < 64) ∧ rest < L
set_option maxRecDepth 100000 in
set_option maxHeartbeats 2000000 in
theorem next_any (B M : Nat) (L rest : Nat) (A : Option Addr) (K : List Nat) (c : Nat) (S : Option Addr) (T : List Nat) (d : Nat) (p : Nat) (la : Int) (s cc : Nat) (w : World) (hm : MachAt w B M L rest A K c S T d) (hok : OkM L rest K T) (hp : p < K.length) (hla : -1 ≤ la ∧ la ≤ 5) (hs : s < L) (hcc : cc < L) (htp : p < T.length) :
 Calls Try.prog 63 #[.pointer (some ⟨B, 0, none⟩), stV p la s, .int .i64 (cc : Nat)] w (Gives w (.tuple #[stV (p + 1) (cc : Nat) ((s + K[p] * cc) % L), .bool (decide ((cc : Int) ≠ la) && T[p].testBit cc)])) := by
 unfold stV stC
 obtain ⟨hB, hK, hT⟩ := hm
 obtain ⟨hL2, hL6, hn2, hn8, htl, hkL, htL, hrL⟩ := hok
 have hlt2 : p < T.length := by omega
 have hk6 := hkL _ (List.getElem_mem hp)
 have ht64 := htL _ (List.getElem_mem hlt2)
 have c0 := hK.at0 hp
 have c1 := hT.at0 hlt2
 obtain ⟨kb, ko, rfl, hkb⟩ := hK.form (by rw [zs_len]; omega)
 obtain ⟨sb, so, rfl, hsb⟩ := hT.form (by rw [zs_len]; omega)
 replace c0 := c0 kb ko rfl
 replace c1 := c1 sb so rfl
 generalize K[p] = k at *
 generalize T[p] = t at *
 have hk5 : k ≤ 5 := by omega
 have hc5 : cc ≤ 5 := by omega
 have hmb : k * cc ≤ 5 * 5 := Nat.mul_le_mul hk5 hc5
 have hml : (k : Int) * (cc : Int) = ((k * cc : Nat) : Int) := by simp
 have hm0 : (0 : Int) ≤ (k : Int) * (cc : Int) := by rw [hml]; omega
 have hm1 : (k : Int) * (cc : Int) ≤ 25 := by rw [hml]; omega
 have htm : ((s : Int) + (k : Int) * (cc : Int)).tmod (L : Int) = (((s + k * cc) % L : Nat) : Int) := by
  rw [hml, ← Int.natCast_add, Int.tmod_eq_emod_of_nonneg (by omega)]; simp
 have hw1 : IntKind.i64.wrap ((k : Int) * (cc : Int)) = (k : Int) * (cc : Int) := by rw [IntKind.wrap_i64]; omega
 have hw2 : IntKind.i64.wrap ((s : Int) + (k : Int) * (cc : Int)) = (s : Int) + (k : Int) * (cc : Int) := by rw [IntKind.wrap_i64]; omega
 have hw3 : IntKind.i64.wrap ((p : Int) + 1) = (p : Int) + 1 := by rw [IntKind.wrap_i64]; omega
 have hv6 : (s + k * cc) % L < 6 := by have := Nat.mod_lt (s + k * cc) (show 0 < L by omega); omega
 have hw4 : IntKind.i64.wrap (((s + k * cc) % L : Nat) : Int) = (((s + k * cc) % L : Nat) : Int) := by rw [IntKind.wrap_i64]; omega
 clear hml hmb
 generalize (s + k * cc) % L = v at *
 obtain ⟨rb, hrb⟩ : ∃ rb, (decide ((cc : Int) ≠ la) && t.testBit cc) = rb := ⟨_, rfl⟩
 rw [hrb]
 have HRB := hide hrb
 clear hrb
 have hL0 : (L : Int) ≠ 0 := by omega
 have hLn : ¬ L = 0 := by omega
 have hpK : (p : Int) < (K.length : Int) := by omega
 have hpT : (p : Int) < (T.length : Int) := by omega
 go_enter Try.func63, Try.ntmps63
 go_upto_region 1 with fail
 have hW : Below w.heap.size w ((w.alloc (.cells #[.int .i64 (p : Nat), .int .i64 la, .int .i64 (s : Nat)] 91)).alloc (.cells #[.int .i64 0, .int .i64 0, .int .i64 0] 91)) := by (repeat (first | exact Below.refl _ _ | assumption | (refine below_gr ?_ (by (first | omega | (simp only [zz] at *; omega))) _) | (refine below_alloc ?_ (by (first | omega | (simp only [zz] at *; omega))) _) | (refine Below.setCell ?_ (by (first | omega | (simp only [zz] at *; omega))) _) | refine below_drewN ?_ _ | refine below_drew ?_ | (refine below_step ?_ (by assumption) (by (first | omega | (simp only [zz] at *; omega))))))
 have hX : BlkAt ((w.alloc (.cells #[.int .i64 (p : Nat), .int .i64 la, .int .i64 (s : Nat)] 91)).alloc (.cells #[.int .i64 0, .int .i64 0, .int .i64 0] 91)) w.heap.size #[.int .i64 (p : Nat), .int .i64 la, .int .i64 (s : Nat)] 91 := heap_a _ _ _
 have hY : BlkAt ((w.alloc (.cells #[.int .i64 (p : Nat), .int .i64 la, .int .i64 (s : Nat)] 91)).alloc (.cells #[.int .i64 0, .int .i64 0, .int .i64 0] 91)) (w.heap.size + 1) #[.int .i64 0, .int .i64 0, .int .i64 0] 91 := heap_b _ _ _
 obtain ⟨wa, hwa⟩ : ∃ wa, ((w.alloc (.cells #[.int .i64 (p : Nat), .int .i64 la, .int .i64 (s : Nat)] 91)).alloc (.cells #[.int .i64 0, .int .i64 0, .int .i64 0] 91)) = wa := ⟨_, rfl⟩
 rw [hwa] at hW hX hY ⊢
 clear hwa
 have hBlt := obj_lt hB
 replace hB := hB.ext hW
 replace c0 := (hW.cell (p := ⟨kb, ko + p, none⟩) hkb).trans c0
 replace c1 := (hW.cell (p := ⟨sb, so + p, none⟩) hsb).trans c1
 have esb : sb ≠ w.heap.size + 1 := by omega
 have eB : B ≠ w.heap.size + 1 := by omega
 have esb' := esb.symm
 have eB' := eB.symm
 replace hkb := Nat.lt_of_lt_of_le hkb hW.size
 replace hsb := Nat.lt_of_lt_of_le hsb hW.size
 have hzw := obj_lt hY
 (try clear hBc0 hBc1 hBc2 hBc3 hBc4 hBc5 hBf hBl)
 have hBc0 := obj_at hB 0 _ rfl
 have hBc1 := obj_at hB 1 _ rfl
 have hBc2 := obj_at hB 2 _ rfl
 have hBc3 := obj_at hB 3 _ rfl
 have hBc4 := obj_at hB 4 _ rfl
 have hBc5 := obj_at hB 5 _ rfl
 have hBf := obj_fz hB 0
 have hBl := obj_lt hB
 (try clear hXc0 hXc1 hXc2 hXf hXl)
 have hXc0 := obj_at hX 0 _ rfl
 have hXc1 := obj_at hX 1 _ rfl
 have hXc2 := obj_at hX 2 _ rfl
 have hXf := obj_fz hX 0
 have hXl := obj_lt hX
 (try clear hYc0 hYc1 hYc2 hYf hYl)
 have hYc0 := obj_at hY 0 _ rfl
 have hYc1 := obj_at hY 1 _ rfl
 have hYc2 := obj_at hY 2 _ rfl
 have hYf := obj_fz hY 0
 have hYl := obj_lt hY
 go_cut [8] from 9 to 33 (fun sx wx => ∃ blk : Nat, sx = .pointer (some ⟨blk, 0, none⟩) ∧ BlkAt wx blk #[.int .i64 ((p : Int) + 1), .int .i64 (cc : Nat), .int .i64 (v : Nat)] 91 ∧ wa.heap.size ≤ blk ∧ Below wa.heap.size wa wx)
 case first =>
  go_region_held3 (fun w' => w'.cell? ⟨w.heap.size, 0, none⟩ = some (.int .i64 (p : Nat)) ∧ w'.cell? ⟨w.heap.size, 2, none⟩ = some (.int .i64 (s : Nat)) ∧ w'.cell? ⟨B, 0, none⟩ = some (.int .i64 (L : Nat)) ∧ w'.cell? ⟨B, 2, none⟩ = some (.slice (some ⟨kb, ko, none⟩) K.length c) ∧ w'.cell? ⟨kb, ko + p, none⟩ = some (.int .i64 (k : Nat))) (simp (maxDischargeDepth := 9) [*, World.cell?_alloc_some, World.cell?_setCell_far]) (fail)
  all_goals
   go_wp2_with fail
   go_meet
   first
    | exact ⟨_, rfl, heap_alloc_new wa _, Nat.le_refl _, by (repeat (first | exact Below.refl _ _ | assumption | (refine below_gr ?_ (by (first | omega | (simp only [zz] at *; omega))) _) | (refine below_alloc ?_ (by (first | omega | (simp only [zz] at *; omega))) _) | (refine Below.setCell ?_ (by (first | omega | (simp only [zz] at *; omega))) _) | refine below_drewN ?_ _ | refine below_drew ?_ | (refine below_step ?_ (by assumption) (by (first | omega | (simp only [zz] at *; omega))))))⟩
    | exact ⟨_, rfl, set_obj (set_obj (set_obj (heap_alloc_new wa _) 0 _) 1 _) 2 _, Nat.le_refl _, by (repeat (first | exact Below.refl _ _ | assumption | (refine below_gr ?_ (by (first | omega | (simp only [zz] at *; omega))) _) | (refine below_alloc ?_ (by (first | omega | (simp only [zz] at *; omega))) _) | (refine Below.setCell ?_ (by (first | omega | (simp only [zz] at *; omega))) _) | refine below_drewN ?_ _ | refine below_drew ?_ | (refine below_step ?_ (by assumption) (by (first | omega | (simp only [zz] at *; omega))))))⟩
 case rest =>
  obtain ⟨blk, rfl, hZ, hbl, hbc⟩ := hcut
  obtain ⟨v2, hv2⟩ : ∃ v, v = wc := ⟨_, rfl⟩
  rw [← hv2] at hZ hbc ⊢
  clear hv2
  replace hB := hB.ext hbc
  replace hX := hX.ext hbc
  replace hY := hY.ext hbc
  replace c0 := (hbc.cell (p := ⟨kb, ko + p, none⟩) hkb).trans c0
  replace c1 := (hbc.cell (p := ⟨sb, so + p, none⟩) hsb).trans c1
  replace hkb := Nat.lt_of_lt_of_le hkb hbc.size
  replace hsb := Nat.lt_of_lt_of_le hsb hbc.size
  replace hW := below_step hW hbc (by have := hW.size; omega)
  clear hbc
  (try clear hBc0 hBc1 hBc2 hBc3 hBc4 hBc5 hBf hBl)
  have hBc0 := obj_at hB 0 _ rfl
  have hBc1 := obj_at hB 1 _ rfl
  have hBc2 := obj_at hB 2 _ rfl
  have hBc3 := obj_at hB 3 _ rfl
  have hBc4 := obj_at hB 4 _ rfl
  have hBc5 := obj_at hB 5 _ rfl
  have hBf := obj_fz hB 0
  have hBl := obj_lt hB
  (try clear hXc0 hXc1 hXc2 hXf hXl)
  have hXc0 := obj_at hX 0 _ rfl
  have hXc1 := obj_at hX 1 _ rfl
  have hXc2 := obj_at hX 2 _ rfl
  have hXf := obj_fz hX 0
  have hXl := obj_lt hX
  (try clear hYc0 hYc1 hYc2 hYf hYl)
  have hYc0 := obj_at hY 0 _ rfl
  have hYc1 := obj_at hY 1 _ rfl
  have hYc2 := obj_at hY 2 _ rfl
  have hYf := obj_fz hY 0
  have hYl := obj_lt hY
  (try clear hZc0 hZc1 hZc2 hZf hZl)
  have hZc0 := obj_at hZ 0 _ rfl
  have hZc1 := obj_at hZ 1 _ rfl
  have hZc2 := obj_at hZ 2 _ rfl
  have hZf := obj_fz hZ 0
  have hZl := obj_lt hZ
  have ebl : blk ≠ w.heap.size + 1 := by omega
  have ebl' := ebl.symm
  have hYf1 := obj_fz hY 1
  have hYf2 := obj_fz hY 2
  have hbit : (bits BinOp.and .i64 ((t : Int) / 2 ^ cc) 1 == 1) = t.testBit cc := by
   rw [bBit t ht64 cc (by omega)]; cases t.testBit cc <;> rfl
  by_cases hcl : (cc : Int) = la
  · have hcn : ((cc : Int) != la) = false := by simp [hcl]
    obtain rfl : false = rb := by rw [← HRB.out]; simp [hcl]
    clear hcl
    go_upto_region 2 with fail
    refine wp_region_noPanic ?_
    refine wp_region_held_drew (S := fun w' => w'.cell? ⟨blk, 0, none⟩ = some (.int .i64 ((p : Int) + 1)) ∧ w'.cell? ⟨blk, 1, none⟩ = some (.int .i64 (cc : Nat)) ∧ w'.cell? ⟨blk, 2, none⟩ = some (.int .i64 (v : Nat)) ∧ w'.cell? ⟨w.heap.size, 0, none⟩ = some (.int .i64 (p : Nat)) ∧ w'.cell? ⟨w.heap.size, 1, none⟩ = some (.int .i64 la) ∧ w'.cell? ⟨B, 4, none⟩ = some (.slice (some ⟨sb, so, none⟩) T.length d) ∧ w'.cell? ⟨sb, so + p, none⟩ = some (.int .i64 (t : Nat))) (by kernel_rfl) ?_ (fun hHeld => ?_)
    · (try dsimp only)
      (simp (maxDischargeDepth := 9) [*, World.cell?_alloc_some, World.cell?_setCell_far])
    refine wpAnyH_take (i := 0) (v := ?_) rfl (by kernel_rfl) (by kernel_rfl) (by kernel_rfl) (fun _ _ _ h => h) (Or.inl ⟨by rfl, ?_⟩) hHeld ?_
    rotate_left
    · (intro ww hSw; (try dsimp only at hSw); go_simp; try with_reducible rfl)
    (try simp only [Act.put, List.getElem_toArray, List.getElem_cons_zero, List.getElem_cons_succ, List.setIfInBounds_toArray, List.set_cons_zero, List.set_cons_succ])
    refine wpAnyH_take (i := 1) (v := ?_) rfl (by kernel_rfl) (by kernel_rfl) (by kernel_rfl) (fun _ _ _ h => h) (Or.inl ⟨by rfl, ?_⟩) hHeld ?_
    rotate_left
    · (intro ww hSw; (try dsimp only at hSw); go_simp; try with_reducible rfl)
    (try simp only [Act.put, List.getElem_toArray, List.getElem_cons_zero, List.getElem_cons_succ, List.setIfInBounds_toArray, List.set_cons_zero, List.set_cons_succ])
    refine wpAnyH_take (i := 2) (v := ?_) rfl (by kernel_rfl) (by kernel_rfl) (by kernel_rfl) (fun _ _ _ h => h) (Or.inl ⟨by rfl, ?_⟩) hHeld ?_
    rotate_left
    · (intro ww hSw; (try dsimp only at hSw); go_simp; try with_reducible rfl)
    (try simp only [Act.put, List.getElem_toArray, List.getElem_cons_zero, List.getElem_cons_succ, List.setIfInBounds_toArray, List.set_cons_zero, List.set_cons_succ])
    refine wpAnyH_take (i := 3) (v := ?_) rfl (by kernel_rfl) (by kernel_rfl) (by kernel_rfl) (fun _ _ _ h => h) (Or.inl ⟨by rfl, ?_⟩) hHeld ?_
    rotate_left
    · (intro ww hSw; (try dsimp only at hSw); go_simp; try with_reducible rfl)
    (try simp only [Act.put, List.getElem_toArray, List.getElem_cons_zero, List.getElem_cons_succ, List.setIfInBounds_toArray, List.set_cons_zero, List.set_cons_succ])
    refine wpAnyH_take (i := 4) (v := ?_) rfl (by kernel_rfl) (by kernel_rfl) (by kernel_rfl) (fun _ _ _ h => h) (Or.inl ⟨by rfl, ?_⟩) hHeld ?_
    rotate_left
    · (intro ww hSw; (try dsimp only at hSw); go_simp; try with_reducible rfl)
    (try simp only [Act.put, List.getElem_toArray, List.getElem_cons_zero, List.getElem_cons_succ, List.setIfInBounds_toArray, List.set_cons_zero, List.set_cons_succ])
    refine wpAnyH_take (i := 5) (v := ?_) rfl (by kernel_rfl) (by kernel_rfl) (by kernel_rfl) (fun _ _ _ h => h) (Or.inl ⟨by rfl, ?_⟩) hHeld ?_
    rotate_left
    · (intro ww hSw; (try dsimp only at hSw); go_simp; try with_reducible rfl)
    (try simp only [Act.put, List.getElem_toArray, List.getElem_cons_zero, List.getElem_cons_succ, List.setIfInBounds_toArray, List.set_cons_zero, List.set_cons_succ])
    refine wpAnyH_take (i := 6) (v := undef) rfl (by kernel_rfl) (by kernel_rfl) (by kernel_rfl) (fun _ _ _ h => h) (Or.inr ⟨by rfl, rfl⟩) hHeld ?_
    (try simp only [Act.put, List.getElem_toArray, List.getElem_cons_zero, List.getElem_cons_succ, List.setIfInBounds_toArray, List.set_cons_zero, List.set_cons_succ])
    refine wpAnyH_take (i := 7) (v := undef) rfl (by kernel_rfl) (by kernel_rfl) (by kernel_rfl) (fun _ _ _ h => h) (Or.inr ⟨by rfl, rfl⟩) hHeld ?_
    (try simp only [Act.put, List.getElem_toArray, List.getElem_cons_zero, List.getElem_cons_succ, List.setIfInBounds_toArray, List.set_cons_zero, List.set_cons_succ])
    refine wpAnyH_take (i := 8) (v := undef) rfl (by kernel_rfl) (by kernel_rfl) (by kernel_rfl) (fun _ _ _ h => h) (Or.inr ⟨by rfl, rfl⟩) hHeld ?_
    (try simp only [Act.put, List.getElem_toArray, List.getElem_cons_zero, List.getElem_cons_succ, List.setIfInBounds_toArray, List.set_cons_zero, List.set_cons_succ])
    refine wpAnyH_take (i := 9) (v := undef) rfl (by kernel_rfl) (by kernel_rfl) (by kernel_rfl) (fun _ _ _ h => h) (Or.inr ⟨by rfl, rfl⟩) hHeld ?_
    (try simp only [Act.put, List.getElem_toArray, List.getElem_cons_zero, List.getElem_cons_succ, List.setIfInBounds_toArray, List.set_cons_zero, List.set_cons_succ])
    refine wpAnyH_take (i := 10) (v := undef) rfl (by kernel_rfl) (by kernel_rfl) (by kernel_rfl) (fun _ _ _ h => h) (Or.inr ⟨by rfl, rfl⟩) hHeld ?_
    (try simp only [Act.put, List.getElem_toArray, List.getElem_cons_zero, List.getElem_cons_succ, List.setIfInBounds_toArray, List.set_cons_zero, List.set_cons_succ])
    refine wpAnyH_take (i := 11) (v := undef) rfl (by kernel_rfl) (by kernel_rfl) (by kernel_rfl) (fun _ _ _ h => h) (Or.inr ⟨by rfl, rfl⟩) hHeld ?_
    (try simp only [Act.put, List.getElem_toArray, List.getElem_cons_zero, List.getElem_cons_succ, List.setIfInBounds_toArray, List.set_cons_zero, List.set_cons_succ])
    refine wpAnyH_take (i := 12) (v := undef) rfl (by kernel_rfl) (by kernel_rfl) (by kernel_rfl) (fun _ _ _ h => h) (Or.inr ⟨by rfl, rfl⟩) hHeld ?_
    (try simp only [Act.put, List.getElem_toArray, List.getElem_cons_zero, List.getElem_cons_succ, List.setIfInBounds_toArray, List.set_cons_zero, List.set_cons_succ])
    refine wpAnyH_take (i := 13) (v := undef) rfl (by kernel_rfl) (by kernel_rfl) (by kernel_rfl) (fun _ _ _ h => h) (Or.inr ⟨by rfl, rfl⟩) hHeld ?_
    (try simp only [Act.put, List.getElem_toArray, List.getElem_cons_zero, List.getElem_cons_succ, List.setIfInBounds_toArray, List.set_cons_zero, List.set_cons_succ])
    refine wpAnyH_take (i := 14) (v := undef) rfl (by kernel_rfl) (by kernel_rfl) (by kernel_rfl) (fun _ _ _ h => h) (Or.inr ⟨by rfl, rfl⟩) hHeld ?_
    (try simp only [Act.put, List.getElem_toArray, List.getElem_cons_zero, List.getElem_cons_succ, List.setIfInBounds_toArray, List.set_cons_zero, List.set_cons_succ])
    refine wpAnyH_take (i := 15) (v := undef) rfl (by kernel_rfl) (by kernel_rfl) (by kernel_rfl) (fun _ _ _ h => h) (Or.inr ⟨by rfl, rfl⟩) hHeld ?_
    (try simp only [Act.put, List.getElem_toArray, List.getElem_cons_zero, List.getElem_cons_succ, List.setIfInBounds_toArray, List.set_cons_zero, List.set_cons_succ])
    refine wpAnyH_take (i := 16) (v := undef) rfl (by kernel_rfl) (by kernel_rfl) (by kernel_rfl) (fun _ _ _ h => h) (Or.inr ⟨by rfl, rfl⟩) hHeld ?_
    (try simp only [Act.put, List.getElem_toArray, List.getElem_cons_zero, List.getElem_cons_succ, List.setIfInBounds_toArray, List.set_cons_zero, List.set_cons_succ])
    refine wpAnyH_take (i := 17) (v := undef) rfl (by kernel_rfl) (by kernel_rfl) (by kernel_rfl) (fun _ _ _ h => h) (Or.inr ⟨by rfl, rfl⟩) hHeld ?_
    (try simp only [Act.put, List.getElem_toArray, List.getElem_cons_zero, List.getElem_cons_succ, List.setIfInBounds_toArray, List.set_cons_zero, List.set_cons_succ])
    refine wpAnyH_take (i := 18) (v := ?_) rfl (by kernel_rfl) (by kernel_rfl) (by kernel_rfl) (fun _ _ _ h => h) (Or.inl ⟨by rfl, ?_⟩) hHeld ?_
    rotate_left
    · (intro ww hSw; (try dsimp only at hSw); go_simp; try with_reducible rfl)
    (try simp only [Act.put, List.getElem_toArray, List.getElem_cons_zero, List.getElem_cons_succ, List.setIfInBounds_toArray, List.set_cons_zero, List.set_cons_succ])
    refine wpAnyH_ready (rs := [19]) (by kernel_rfl) (by simp) ?_
    refine AllReadyH.cons rfl ?_ ?_
    · intro K' hK
      rw [if_pos (by rfl)]
      go_simp
      refine hK.out _ _ ?_ (fun hHeld2 => ?_)
      · (try dsimp only)
        (simp (maxDischargeDepth := 9) [*, World.cell?_alloc_some, World.cell?_setCell_far])
      clear hK K' hHeld
      have hHeld := hHeld2
      clear hHeld2
      (try simp only [Act.put, List.getElem_toArray, List.getElem_cons_zero, List.getElem_cons_succ, List.setIfInBounds_toArray, List.set_cons_zero, List.set_cons_succ])
      refine wpAnyH_take (i := 20) (v := ?_) rfl (by kernel_rfl) (by kernel_rfl) (by kernel_rfl) (fun _ _ _ h => h) (Or.inl ⟨by rfl, ?_⟩) hHeld ?_
      rotate_left
      · (intro ww hSw; (try dsimp only at hSw); go_simp; try with_reducible rfl)
      (try simp only [Act.put, List.getElem_toArray, List.getElem_cons_zero, List.getElem_cons_succ, List.setIfInBounds_toArray, List.set_cons_zero, List.set_cons_succ])
      refine wpAnyH_done (by kernel_rfl) ?_ _
      refine NoPanic.normal ?_
      go_wp2
      have s0 := set_obj hY 0 (.int .i64 ((p : Int) + 1))
      have s1 := set_obj s0 1 (.int .i64 (cc : Nat))
      have s2 := set_obj s1 2 (.int .i64 (v : Nat))
      have k0 := obj_at s2 0 (.int .i64 ((p : Int) + 1)) rfl
      have k1 := obj_at s2 1 (.int .i64 (cc : Nat)) rfl
      have k2 := obj_at s2 2 (.int .i64 (v : Nat)) rfl
      refine bodyPost_ret (v := .tuple #[.agg #[.int .i64 ((p : Int) + 1), .int .i64 (cc : Nat), .int .i64 (v : Nat)], .bool false]) (by simp [results, Try.results63, go_sem, k0, k1, k2]) rfl (gives_of rfl (by (repeat (first | exact Below.refl _ _ | assumption | refine below_drewN ?_ _ | refine below_drew ?_ | refine below_gr ?_ ?_ _ | refine below_alloc ?_ ?_ _ | refine Below.setCell ?_ ?_ _ | refine below_step ?_ (by assumption) ?_ | omega | (simp only [zz] at *; omega)))))
    exact AllReadyH.nil
  · have hcn : ((cc : Int) != la) = true := by simp [hcl]
    obtain rfl : t.testBit cc = rb := by rw [← HRB.out]; simp [hcl]
    clear hcl HRB
    generalize t.testBit cc = bb at *
    go_upto_region 2 with fail
    refine wp_region_noPanic ?_
    refine wp_region_held_drew (S := fun w' => w'.cell? ⟨blk, 0, none⟩ = some (.int .i64 ((p : Int) + 1)) ∧ w'.cell? ⟨blk, 1, none⟩ = some (.int .i64 (cc : Nat)) ∧ w'.cell? ⟨blk, 2, none⟩ = some (.int .i64 (v : Nat)) ∧ w'.cell? ⟨w.heap.size, 0, none⟩ = some (.int .i64 (p : Nat)) ∧ w'.cell? ⟨w.heap.size, 1, none⟩ = some (.int .i64 la) ∧ w'.cell? ⟨B, 4, none⟩ = some (.slice (some ⟨sb, so, none⟩) T.length d) ∧ w'.cell? ⟨sb, so + p, none⟩ = some (.int .i64 (t : Nat))) (by kernel_rfl) ?_ (fun hHeld => ?_)
    · (try dsimp only)
      (simp (maxDischargeDepth := 9) [*, World.cell?_alloc_some, World.cell?_setCell_far])
    refine wpAnyH_take (i := 0) (v := ?_) rfl (by kernel_rfl) (by kernel_rfl) (by kernel_rfl) (fun _ _ _ h => h) (Or.inl ⟨by rfl, ?_⟩) hHeld ?_
    rotate_left
    · (intro ww hSw; (try dsimp only at hSw); go_simp; try with_reducible rfl)
    (try simp only [Act.put, List.getElem_toArray, List.getElem_cons_zero, List.getElem_cons_succ, List.setIfInBounds_toArray, List.set_cons_zero, List.set_cons_succ])
    refine wpAnyH_take (i := 1) (v := ?_) rfl (by kernel_rfl) (by kernel_rfl) (by kernel_rfl) (fun _ _ _ h => h) (Or.inl ⟨by rfl, ?_⟩) hHeld ?_
    rotate_left
    · (intro ww hSw; (try dsimp only at hSw); go_simp; try with_reducible rfl)
    (try simp only [Act.put, List.getElem_toArray, List.getElem_cons_zero, List.getElem_cons_succ, List.setIfInBounds_toArray, List.set_cons_zero, List.set_cons_succ])
    refine wpAnyH_take (i := 2) (v := ?_) rfl (by kernel_rfl) (by kernel_rfl) (by kernel_rfl) (fun _ _ _ h => h) (Or.inl ⟨by rfl, ?_⟩) hHeld ?_
    rotate_left
    · (intro ww hSw; (try dsimp only at hSw); go_simp; try with_reducible rfl)
    (try simp only [Act.put, List.getElem_toArray, List.getElem_cons_zero, List.getElem_cons_succ, List.setIfInBounds_toArray, List.set_cons_zero, List.set_cons_succ])
    refine wpAnyH_take (i := 3) (v := ?_) rfl (by kernel_rfl) (by kernel_rfl) (by kernel_rfl) (fun _ _ _ h => h) (Or.inl ⟨by rfl, ?_⟩) hHeld ?_
    rotate_left
    · (intro ww hSw; (try dsimp only at hSw); go_simp; try with_reducible rfl)
    (try simp only [Act.put, List.getElem_toArray, List.getElem_cons_zero, List.getElem_cons_succ, List.setIfInBounds_toArray, List.set_cons_zero, List.set_cons_succ])
    refine wpAnyH_take (i := 4) (v := ?_) rfl (by kernel_rfl) (by kernel_rfl) (by kernel_rfl) (fun _ _ _ h => h) (Or.inl ⟨by rfl, ?_⟩) hHeld ?_
    rotate_left
    · (intro ww hSw; (try dsimp only at hSw); go_simp; try with_reducible rfl)
    (try simp only [Act.put, List.getElem_toArray, List.getElem_cons_zero, List.getElem_cons_succ, List.setIfInBounds_toArray, List.set_cons_zero, List.set_cons_succ])
    refine wpAnyH_take (i := 5) (v := ?_) rfl (by kernel_rfl) (by kernel_rfl) (by kernel_rfl) (fun _ _ _ h => h) (Or.inl ⟨by rfl, ?_⟩) hHeld ?_
    rotate_left
    · (intro ww hSw; (try dsimp only at hSw); go_simp; try with_reducible rfl)
    (try simp only [Act.put, List.getElem_toArray, List.getElem_cons_zero, List.getElem_cons_succ, List.setIfInBounds_toArray, List.set_cons_zero, List.set_cons_succ])
    refine wpAnyH_take (i := 6) (v := ?_) rfl (by kernel_rfl) (by kernel_rfl) (by kernel_rfl) (fun _ _ _ h => h) (Or.inl ⟨by rfl, ?_⟩) hHeld ?_
    rotate_left
    · (intro ww hSw; (try dsimp only at hSw); go_simp; try with_reducible rfl)
    (try simp only [Act.put, List.getElem_toArray, List.getElem_cons_zero, List.getElem_cons_succ, List.setIfInBounds_toArray, List.set_cons_zero, List.set_cons_succ])
    refine wpAnyH_take (i := 7) (v := ?_) rfl (by kernel_rfl) (by kernel_rfl) (by kernel_rfl) (fun _ _ _ h => h) (Or.inl ⟨by rfl, ?_⟩) hHeld ?_
    rotate_left
    · (intro ww hSw; (try dsimp only at hSw); go_simp; try with_reducible rfl)
    (try simp only [Act.put, List.getElem_toArray, List.getElem_cons_zero, List.getElem_cons_succ, List.setIfInBounds_toArray, List.set_cons_zero, List.set_cons_succ])
    refine wpAnyH_take (i := 8) (v := ?_) rfl (by kernel_rfl) (by kernel_rfl) (by kernel_rfl) (fun _ _ _ h => h) (Or.inl ⟨by rfl, ?_⟩) hHeld ?_
    rotate_left
    · (intro ww hSw; (try dsimp only at hSw); go_simp; try with_reducible rfl)
    (try simp only [Act.put, List.getElem_toArray, List.getElem_cons_zero, List.getElem_cons_succ, List.setIfInBounds_toArray, List.set_cons_zero, List.set_cons_succ])
    refine wpAnyH_take (i := 9) (v := ?_) rfl (by kernel_rfl) (by kernel_rfl) (by kernel_rfl) (fun _ _ _ h => h) (Or.inl ⟨by rfl, ?_⟩) hHeld ?_
    rotate_left
    · (intro ww hSw; (try dsimp only at hSw); go_simp; try with_reducible rfl)
    (try simp only [Act.put, List.getElem_toArray, List.getElem_cons_zero, List.getElem_cons_succ, List.setIfInBounds_toArray, List.set_cons_zero, List.set_cons_succ])
    refine wpAnyH_take (i := 10) (v := ?_) rfl (by kernel_rfl) (by kernel_rfl) (by kernel_rfl) (fun _ _ _ h => h) (Or.inl ⟨by rfl, ?_⟩) hHeld ?_
    rotate_left
    · (intro ww hSw; (try dsimp only at hSw); go_simp; try with_reducible rfl)
    (try simp only [Act.put, List.getElem_toArray, List.getElem_cons_zero, List.getElem_cons_succ, List.setIfInBounds_toArray, List.set_cons_zero, List.set_cons_succ])
    refine wpAnyH_take (i := 11) (v := ?_) rfl (by kernel_rfl) (by kernel_rfl) (by kernel_rfl) (fun _ _ _ h => h) (Or.inl ⟨by rfl, ?_⟩) hHeld ?_
    rotate_left
    · (intro ww hSw; (try dsimp only at hSw); go_simp; try with_reducible rfl)
    (try simp only [Act.put, List.getElem_toArray, List.getElem_cons_zero, List.getElem_cons_succ, List.setIfInBounds_toArray, List.set_cons_zero, List.set_cons_succ])
    refine wpAnyH_take (i := 12) (v := ?_) rfl (by kernel_rfl) (by kernel_rfl) (by kernel_rfl) (fun _ _ _ h => h) (Or.inl ⟨by rfl, ?_⟩) hHeld ?_
    rotate_left
    · (intro ww hSw; (try dsimp only at hSw); go_simp; try with_reducible rfl)
    (try simp only [Act.put, List.getElem_toArray, List.getElem_cons_zero, List.getElem_cons_succ, List.setIfInBounds_toArray, List.set_cons_zero, List.set_cons_succ])
    refine wpAnyH_take (i := 13) (v := ?_) rfl (by kernel_rfl) (by kernel_rfl) (by kernel_rfl) (fun _ _ _ h => h) (Or.inl ⟨by rfl, ?_⟩) hHeld ?_
    rotate_left
    · (intro ww hSw; (try dsimp only at hSw); go_simp; try with_reducible rfl)
    (try simp only [Act.put, List.getElem_toArray, List.getElem_cons_zero, List.getElem_cons_succ, List.setIfInBounds_toArray, List.set_cons_zero, List.set_cons_succ])
    refine wpAnyH_take (i := 14) (v := ?_) rfl (by kernel_rfl) (by kernel_rfl) (by kernel_rfl) (fun _ _ _ h => h) (Or.inl ⟨by rfl, ?_⟩) hHeld ?_
    rotate_left
    · (intro ww hSw; (try dsimp only at hSw); go_simp; try with_reducible rfl)
    (try simp only [Act.put, List.getElem_toArray, List.getElem_cons_zero, List.getElem_cons_succ, List.setIfInBounds_toArray, List.set_cons_zero, List.set_cons_succ])
    refine wpAnyH_take (i := 15) (v := ?_) rfl (by kernel_rfl) (by kernel_rfl) (by kernel_rfl) (fun _ _ _ h => h) (Or.inl ⟨by rfl, ?_⟩) hHeld ?_
    rotate_left
    · (intro ww hSw; (try dsimp only at hSw); go_simp; try with_reducible rfl)
    (try simp only [Act.put, List.getElem_toArray, List.getElem_cons_zero, List.getElem_cons_succ, List.setIfInBounds_toArray, List.set_cons_zero, List.set_cons_succ])
    refine wpAnyH_take (i := 16) (v := ?_) rfl (by kernel_rfl) (by kernel_rfl) (by kernel_rfl) (fun _ _ _ h => h) (Or.inl ⟨by rfl, ?_⟩) hHeld ?_
    rotate_left
    · (intro ww hSw; (try dsimp only at hSw); go_simp; try with_reducible rfl)
    (try simp only [Act.put, List.getElem_toArray, List.getElem_cons_zero, List.getElem_cons_succ, List.setIfInBounds_toArray, List.set_cons_zero, List.set_cons_succ])
    refine wpAnyH_take (i := 17) (v := ?_) rfl (by kernel_rfl) (by kernel_rfl) (by kernel_rfl) (fun _ _ _ h => h) (Or.inl ⟨by rfl, ?_⟩) hHeld ?_
    rotate_left
    · (intro ww hSw; (try dsimp only at hSw); go_simp; try with_reducible rfl)
    (try simp only [Act.put, List.getElem_toArray, List.getElem_cons_zero, List.getElem_cons_succ, List.setIfInBounds_toArray, List.set_cons_zero, List.set_cons_succ])
    refine wpAnyH_take (i := 18) (v := ?_) rfl (by kernel_rfl) (by kernel_rfl) (by kernel_rfl) (fun _ _ _ h => h) (Or.inl ⟨by rfl, ?_⟩) hHeld ?_
    rotate_left
    · (intro ww hSw; (try dsimp only at hSw); go_simp; try with_reducible rfl)
    (try simp only [Act.put, List.getElem_toArray, List.getElem_cons_zero, List.getElem_cons_succ, List.setIfInBounds_toArray, List.set_cons_zero, List.set_cons_succ])
    refine wpAnyH_ready (rs := [19]) (by kernel_rfl) (by simp) ?_
    refine AllReadyH.cons rfl ?_ ?_
    · intro K' hK
      rw [if_pos (by rfl)]
      go_simp
      refine hK.out _ _ ?_ (fun hHeld2 => ?_)
      · (try dsimp only)
        (simp (maxDischargeDepth := 9) [*, World.cell?_alloc_some, World.cell?_setCell_far])
      clear hK K' hHeld
      have hHeld := hHeld2
      clear hHeld2
      (try simp only [Act.put, List.getElem_toArray, List.getElem_cons_zero, List.getElem_cons_succ, List.setIfInBounds_toArray, List.set_cons_zero, List.set_cons_succ])
      refine wpAnyH_take (i := 20) (v := ?_) rfl (by kernel_rfl) (by kernel_rfl) (by kernel_rfl) (fun _ _ _ h => h) (Or.inl ⟨by rfl, ?_⟩) hHeld ?_
      rotate_left
      · (intro ww hSw; (try dsimp only at hSw); go_simp; try with_reducible rfl)
      (try simp only [Act.put, List.getElem_toArray, List.getElem_cons_zero, List.getElem_cons_succ, List.setIfInBounds_toArray, List.set_cons_zero, List.set_cons_succ])
      refine wpAnyH_done (by kernel_rfl) ?_ _
      refine NoPanic.normal ?_
      go_wp2
      have s0 := set_obj hY 0 (.int .i64 ((p : Int) + 1))
      have s1 := set_obj s0 1 (.int .i64 (cc : Nat))
      have s2 := set_obj s1 2 (.int .i64 (v : Nat))
      have k0 := obj_at s2 0 (.int .i64 ((p : Int) + 1)) rfl
      have k1 := obj_at s2 1 (.int .i64 (cc : Nat)) rfl
      have k2 := obj_at s2 2 (.int .i64 (v : Nat)) rfl
      refine bodyPost_ret (v := .tuple #[.agg #[.int .i64 ((p : Int) + 1), .int .i64 (cc : Nat), .int .i64 (v : Nat)], .bool bb]) (by simp [results, Try.results63, go_sem, k0, k1, k2]) rfl (gives_of rfl (by (repeat (first | exact Below.refl _ _ | assumption | refine below_drewN ?_ _ | refine below_drew ?_ | refine below_gr ?_ ?_ _ | refine below_alloc ?_ ?_ _ | refine Below.setCell ?_ ?_ _ | refine below_step ?_ (by assumption) ?_ | omega | (simp only [zz] at *; omega)))))
    exact AllReadyH.nil
end Go.Proofs.Ytgjfejpibielaaa
