/- Proved here: a word by numbers, a part of the proofs about the ticket laws. Conditions: those that each theorem names, no others. -/
import Derived.Test.YtgjfejpibielaaaO2
import Derived.WalkKit
import Derived.WalkSpells
import Derived.WalkLawsBesides
import Derived.Below
import Derived.Deep.QuietTactic
import Derived.BigQuiet
import Derived.Deep.Light
import Derived.Deep.RegionHeld3
set_option linter.unusedSimpArgs false
set_option linter.unusedVariables false
namespace Go.Proofs.Ytgjfejpibielaaa
open Go.RowKit Go.Maps Go.Shelf
attribute [local go_sem] Oper.semAt_some World.cell?_setCell_far
set_option maxRecDepth 100000 in
set_option maxHeartbeats 4000000 in
theorem word_any (L rest : Nat) (A : Option Addr) (K : List Nat) (c : Nat) (B : Option Addr) (bs : List Nat) (bc : Nat) (w : World) (hd : OkD L rest K) (hA : I64 w A (zs K)) (hB : U8 w B bs) : Calls Try.prog 49 #[.agg #[.int .i64 (L : Nat), .int .i64 (K.length : Nat), .slice A K.length c, .int .i64 (rest : Nat)], .slice B bs.length bc] w (Gives w (.string (strW (wordL L K.length bs)))) := by
  have hn8 := hd.2.2.2.1
  have hL2 := hd.1
  have hL6 := hd.2.1
  have HTN := hide (fun i => (show (List.range (i + 1)).map (letN L bs) = (List.range i).map (letN L bs) ++ [letN L bs i] by rw [List.range_succ, List.map_append]; rfl))
  have HTV := hide (fun i => (show letN L bs i = if bs.length = 0 then 0 else bs.getD (i % bs.length) 0 % L from rfl))
  have HGD := hide (fun i (h : i < bs.length) => (show bs.getD i 0 = bs[i] by simp [List.getD, h]))
  have HTL : Hid (wordL L K.length bs = (List.range K.length).map (letN L bs)) := hide rfl
  rw [HTL.out]
  generalize letN L bs = fT at *
  clear hd HTL
  go_enter Try.func49, Try.ntmps49
  go_upto_region 1 with fail
  have hW : Below w.heap.size w (w.alloc (.cells #[.int .i64 (L : Nat), .int .i64 (K.length : Nat), .slice A K.length c, .int .i64 (rest : Nat)] 24)) := below_alloc (Below.refl _ _) (Nat.le_refl _) _
  have hX : BlkAt (w.alloc (.cells #[.int .i64 (L : Nat), .int .i64 (K.length : Nat), .slice A K.length c, .int .i64 (rest : Nat)] 24)) w.heap.size #[.int .i64 (L : Nat), .int .i64 (K.length : Nat), .slice A K.length c, .int .i64 (rest : Nat)] 24 := heap_alloc_new _ _
  obtain ⟨wa, hwa⟩ : ∃ wa, (w.alloc (.cells #[.int .i64 (L : Nat), .int .i64 (K.length : Nat), .slice A K.length c, .int .i64 (rest : Nat)] 24)) = wa := ⟨_, rfl⟩
  rw [hwa] at hW hX ⊢
  clear hwa
  replace hA := hA.ext hW
  have q0 := obj_at hX 0 _ rfl
  have q1 := obj_at hX 1 _ rfl
  have q2 := obj_at hX 2 _ rfl
  have q3 := obj_at hX 3 _ rfl
  have ql := obj_lt hX
  have hWs := hW.size
  have hBr := hB.ext hW
  go_wp2
  go_loopw [5, 6] (fun sv iv wr => ∃ i : Nat, i ≤ K.length ∧ iv = .int .i64 (i : Nat) ∧ sv = .string (strW ((List.range i).map fT)) ∧ Below wa.heap.size wa wr) (fun _ iv _ => K.length - (intOf iv).toNat)
  case atStart => exact ⟨0, Nat.zero_le _, rfl, rfl, Below.refl _ _⟩
  case round =>
    obtain ⟨i, hi, rfl, rfl, hb⟩ := hrel
    have hzr := hb.size
    have hXr := hX.ext hb
    clear q0 q1 q2 q3 ql
    have q0 := obj_at hXr 0 _ rfl
    have q1 := obj_at hXr 1 _ rfl
    have q2 := obj_at hXr 2 _ rfl
    have q3 := obj_at hXr 3 _ rfl
    have ql := obj_lt hXr
    by_cases hlt : i < K.length
    · have hki : (i : Int) < (K.length : Int) := by omega
      have HS := hide (HTN.out i)
      have hwl : ((List.range i).map fT).length = i := by simp
      generalize (List.range i).map fT = ws at *
      have hss : (strW ws).size = i := by rw [strW_size, hwl]
      by_cases hz : bs.length = 0
      · have hzd : ¬ (0 < (bs.length : Int)) := by omega
        have HV := hide (show fT i = 0 by rw [HTV.out, if_pos hz])
        have hlet := u8_letter 0 (by omega)
        have hcv : (convert 62 9 (.slice (some ⟨wr.heap.size, 0, none⟩) 1 1)).run Try.prog (wr.alloc (.cells #[.int .u8 97] 5)) = .ok (.string (strW [0])) (wr.alloc (.cells #[.int .u8 97] 5)) := letter_conv 0 (by omega) wr
        have hbl : Below wr.heap.size wr (wr.alloc (.cells #[.int .u8 97] 5)) := below_alloc (Below.refl _ _) (Nat.le_refl _) _
        have hcat : ¬ 9223372036854775807 < (strW ws).size + (strW [0]).size := by rw [hss, strW_size]; simp; omega
        have hsapp := strW_app ws [0]
        clear HTV HGD hss
        go_wp2
        exact ⟨⟨i + 1, by omega, by go_num, by rw [HS.out, HV.out, ← hsapp], below_step hb hbl hzr⟩, by simp [intOf]; omega⟩
      · have hzd : 0 < (bs.length : Int) := by omega
        obtain ⟨ob, oo, rfl, hob, hcell⟩ := (hBr.ext hb).form (by omega)
        have hz0 : ¬ ((bs.length : Int) = 0) := by omega
        have hjl := Nat.mod_lt i (show bs.length > 0 by omega)
        have hrm := rem_nat i bs.length
        obtain ⟨hce, hce2⟩ := hcell (i % bs.length) hjl
        have HV := hide (show fT i = bs[i % bs.length] % L by rw [HTV.out, if_neg hz, HGD.out _ hjl])
        generalize bs[i % bs.length] = y at *
        generalize i % bs.length = j at *
        have hji : (j : Int) < (bs.length : Int) := by omega
        have hrm2 := rem_nat y L
        have hpos : ¬ ((L : Int) = 0) := by omega
        have hpos2 : ¬ (L = 0) := by omega
        have hym := Nat.mod_lt y (show L > 0 by omega)
        clear HTV HGD hcell
        obtain ⟨z, hz0e⟩ : ∃ z, y % L = z := ⟨_, rfl⟩
        rw [hz0e] at HV hrm2 hym
        clear hz0e
        have hz6 : z < 6 := by omega
        have hlet := u8_letter z hz6
        have hcat : ¬ 9223372036854775807 < (strW ws).size + (strW [z]).size := by rw [hss, strW_size]; simp; omega
        have hsapp := strW_app ws [z]
        go_upto_region 7 with fail
        refine wp_region_grow (by kernel_rfl) (by kernel_rfl) ?_
        repeat (go_big_quiet_step (fail))
        refine wpQuiet_nil ?_
        intro w4 hb4
        replace hb4 := ex_below hb4
        have hX4 := hXr.ext hb4
        have hcv := letter_conv z hz6 w4
        have hbl : Below w4.heap.size w4 (w4.alloc (.cells #[.int .u8 ((z : Int) + 97)] 5)) := below_alloc (Below.refl _ _) (Nat.le_refl _) _
        go_wp2
        exact ⟨⟨i + 1, by omega, by go_num, by rw [HS.out, HV.out, ← hsapp], below_step (below_step hb hb4 hzr) hbl (by have := hb4.size; omega)⟩, by simp [intOf]; omega⟩
    · have hki : ¬ ((i : Int) < (K.length : Int)) := by omega
      obtain rfl : i = K.length := by omega
      go_wp2
      go_ret
      exact gives_of rfl (below_step hW hb hWs)
end Go.Proofs.Ytgjfejpibielaaa
