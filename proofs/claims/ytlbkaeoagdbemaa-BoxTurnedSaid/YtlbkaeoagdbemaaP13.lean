/- Proved here: boxes are cut into parts: a race; the iterator over all parts, a part of the proofs about the box laws. Conditions: those that each theorem names, no others. -/
import Derived.Test.YtlbkaeoagdbemaaP12
import Derived.WalkKit
import Derived.WalkSpells
import Derived.WalkLawsBesides
import Derived.Below
import Derived.Deep.QuietTactic
import Derived.BigQuiet
import Derived.Deep.Light
import Derived.Deep.WholeRow
import Derived.Deep.RegionHeld3
set_option linter.unusedSimpArgs false
set_option linter.unusedVariables false
namespace Go.Proofs.Ytlbkaeoagdbemaa
open Go.RowKit Go.Maps Go.Shelf
set_option maxRecDepth 100000 in
set_option maxHeartbeats 4000000 in
theorem cut_loop (s : Nat) (A : Option Addr) (R : List Nat) (rc : Nat) (B : Option Addr) (ts : List Bm.Tk) (d : Nat) (base : World) (hS : SheetAt base s A (zs R) rc B (tz ts) d) (hR5 : R.length ≤ 5) (hR6 : ∀ n, n ∈ R → n ≤ 6) (ht10 : ts.length ≤ 10) (hu : ∀ t, t ∈ ts → t.2 ≤ 1000) (htl : ∀ t, t ∈ ts → t.1.length = R.length) (ht6 : ∀ t, t ∈ ts → ∀ x, x ∈ t.1 → x < 64) (l : Nat) (J : List Bm.Tk → World → Prop) (hi : Nat) (full : List Bm.Tk) (hJ : ∀ pre W W', J pre W → Grew W W' → J pre W') (hY : RoundP J base.heap.size hi l full base R.length) (S : List Nat) (r : Nat) (al : List Bool) (pre : List Bm.Tk) (X : Option Addr) (xc : Nat) (w : World) (hO : OldB base w hi) (hX : I64 w X (zs S)) (hXh : ∀ b o, X = some ⟨b, o, none⟩ → hi ≤ b) (hSl : S.length = R.length) (hxc : S.length ≤ xc) (hal : al.length = ts.length) (hSd : S.drop r = (R.drop r).map fun n => 2 ^ n - 1) (hJ0 : J pre w) (hpre : pre ++ Bm.partsC R ts S r al <+: full) (hr : r < R.length) (ha : al.any id = true) (IH : ∀ (S : List Nat) (al : List Bool) (pre : List Bm.Tk) (X : Option Addr) (xc : Nat) (w : World), OldB base w hi → I64 w X (zs S) → (∀ b o, X = some ⟨b, o, none⟩ → hi ≤ b) → S.length = R.length → S.length ≤ xc → al.length = ts.length → S.drop (r + 1) = ((R.drop (r + 1)).map fun n => 2 ^ n - 1) → J pre w → pre ++ Bm.partsC R ts S (r + 1) al <+: full → Calls Try.prog 89 #[.pointer (some ⟨s, 0, none⟩), .slice X S.length xc, .agg (mkP (r + 1) al), .func (.yield l) #[] #[]] w (CutPost J base.heap.size hi (pre ++ Bm.partsC R ts S (r + 1) al) w)) :
    Calls Try.prog 89 #[.pointer (some ⟨s, 0, none⟩), .slice X S.length xc, .agg (mkP r al), .func (.yield l) #[] #[]] w (CutPost J base.heap.size hi (pre ++ Bm.partsC R ts S r al) w) := by
  rw [Bm.partsC_loop hr hSl ha] at hpre ⊢
  have hSw := hS.old hO.old
  obtain ⟨r0, r1, rl, hA, hB⟩ := hSw
  rw [zs_len] at r0
  rw [tz_len] at r1
  have hsm := sameM_nil (al := al) (by omega)
  rw [ha] at hsm
  simp only [Bool.not_true] at hsm
  have hgr : ((r : Int) == (R.length : Int)) = false := by simp; omega
  have hn6 : R[r] ≤ 6 := hR6 _ (List.getElem_mem hr)
  have hSr : S[r]'(by omega) = 2 ^ R[r] - 1 := by
    have h1 : (S.drop r)[0]'(by simp; omega) = ((R.drop r).map fun n => 2 ^ n - 1)[0]'(by simp; omega) := by congr 1
    simpa using h1
  obtain ⟨sb, so, rfl, hsb⟩ := zsF hX (by omega)
  have hs0 := zsI hX (k := r) (by omega)
  have HD := hide (Bm.doneC_succ R ts S r al)
  have HDL := hide (fun i j h => Bm.doneC_le R ts S r al i j h)
  have HD0 := hide (show Bm.doneC R ts S r al 0 = [] from rfl)
  have HNX := hide (fun i w' h hi' => next_any s A R rc B ts d w' h hR5 hR6 ht10 r al i hr hal hi' htl ht6)
  rw [show colN ts r = Bm.colN ts r from rfl] at HNX
  have HFL := hide (fun i => Bm.nx_len (c := Bm.colN ts r) (al := al) (by simp [Bm.colN, hal]) i)
  generalize Bm.nx (Bm.colN ts r) al = f at *
  rw [hSr, ← Bm.left_zero R[r] f] at hs0
  obtain ⟨ab, ao, rfl, hab⟩ := zsF hA (by omega)
  have ha0 := zsI hA hr
  have hgn : R.getD r 0 = R[r] := getD_at _ _ hr _
  rw [hgn] at hpre HD ⊢
  have hLT := hide (fun i => (Nat.lt_of_lt_of_le (Bm.left_lt R[r] f i) (Bm.pow_le6 hn6)))
  have hOT := hide (fun i k => (Nat.lt_of_lt_of_le (Bm.own_lt R[r] f i k) (Bm.pow_le6 hn6)))
  have hSL := hide hSl
  have HXC := hide hxc
  have HSD := hide hSd
  have HAL := hide hal
  generalize hnn : R[r] = n at *
  have HNN := hide hnn
  have rl2 : s < w.heap.size + 1 := by omega
  have hlt1 : ∀ b, b < w.heap.size → b < w.heap.size + 1 := fun b h => by omega
  have hr' : (r : Int) ≤ 5 := by omega
  have hll : (S.length : Int) ≤ 5 := by omega
  have hlr : (r : Int) < (S.length : Int) := by omega
  have hRl : (R.length : Int) ≤ 5 := by omega
  have hRr : (r : Int) < (R.length : Int) := by omega
  have hn' : (n : Int) ≤ 6 := by omega
  have hSl5 : S.length ≤ 5 := by omega
  have hrS : r < S.length := by omega
  have HIH := hide IH
  have HJ := hide hJ
  have HPR := hide hpre
  have HXH := hide hXh
  clear hnn hgn hSr hSl hSd hal hxc ha hR6 htl ht6 hu IH hJ hpre hXh
  go_enter Try.func89, Try.ntmps89
  go_wp2
  refine wp_region_grow (by kernel_rfl) (by kernel_rfl) ?_
  repeat (go_big_quiet_step (fail))
  refine wpQuiet_nil ?_
  intro w2 hb2
  replace hb2 := ex_below hb2
  have hz2 := hb2.size
  (try simp only [zz] at hz2)
  have hs2 : w.heap.size < w2.heap.size := (by (first | omega | (simp only [zz] at *; omega)))
  have ho2 := own_cell hb2 (b := w.heap.size) (by (first | omega | (simp only [zz] at *; omega)))
  have hq2 := own_frozen hb2 (b := w.heap.size) (by (first | omega | (simp only [zz] at *; omega)))
  have hlt2 : ∀ b, b < w.heap.size → b < w2.heap.size := fun b hb => (by (first | omega | (simp only [zz] at *; omega)))
  have hc2 : ∀ b o, b < w.heap.size → w2.cell? ⟨b, o, none⟩ = w.cell? ⟨b, o, none⟩ := old_cell (by (repeat (first | exact Below.refl _ _ | assumption | refine below_drewN ?_ _ | refine below_drew ?_ | refine below_gr ?_ ?_ _ | refine below_alloc ?_ ?_ _ | refine Below.setCell ?_ ?_ _ | refine below_step ?_ (by assumption) ?_ | omega | (simp only [zz] at *; omega))))
  have hbw : Below w.heap.size w w2 := by (repeat (first | exact Below.refl _ _ | assumption | (refine below_gr ?_ (by (first | omega | (simp only [zz] at *; omega))) _) | (refine below_alloc ?_ (by (first | omega | (simp only [zz] at *; omega))) _) | (refine Below.setCell ?_ (by (first | omega | (simp only [zz] at *; omega))) _) | refine below_drewN ?_ _ | refine below_drew ?_ | (refine below_step ?_ (by assumption) (by (first | omega | (simp only [zz] at *; omega))))))
  go_wp2
  refine wp_region_grow (by kernel_rfl) (by kernel_rfl) ?_
  repeat (go_big_quiet_step (fail))
  refine wpQuiet_nil ?_
  intro w4 hb4
  replace hb4 := ex_below hb4
  have hz4 := hb4.size
  (try simp only [zz] at hz4)
  have hlt4 : ∀ b, b < w2.heap.size → b < w4.heap.size := fun b hb => (by (first | omega | (simp only [zz] at *; omega)))
  have hc4 : ∀ b o, b < w2.heap.size → w4.cell? ⟨b, o, none⟩ = w2.cell? ⟨b, o, none⟩ := old_cell (by (repeat (first | exact Below.refl _ _ | assumption | refine below_drewN ?_ _ | refine below_drew ?_ | refine below_gr ?_ ?_ _ | refine below_alloc ?_ ?_ _ | refine Below.setCell ?_ ?_ _ | refine below_step ?_ (by assumption) ?_ | omega | (simp only [zz] at *; omega))))
  have hbx : Below (w.heap.size + 1) (w.alloc (.cells (mkP r al) 110)) w4 := (hb2.mono (by simp)).trans (hb4.mono (by have := hb2.size; simp at this; omega))
  have hI4 : w4.heap[w.heap.size]? = some (.cells (mkP r al) 110 (0, 0)) := (hbx.block _ (by omega)).trans (heap_alloc_new w _)
  have hb4w : Below w.heap.size w w4 := by (repeat (first | exact Below.refl _ _ | assumption | (refine below_gr ?_ (by (first | omega | (simp only [zz] at *; omega))) _) | (refine below_alloc ?_ (by (first | omega | (simp only [zz] at *; omega))) _) | (refine Below.setCell ?_ (by (first | omega | (simp only [zz] at *; omega))) _) | refine below_drewN ?_ _ | refine below_drew ?_ | (refine below_step ?_ (by assumption) (by (first | omega | (simp only [zz] at *; omega))))))
  have hJ4 := HJ.out _ _ _ hJ0 (grew_of hb4w)
  have hk4 : KpR base.heap.size hi w w4 := KpR.below hb4w
  clear hbw hb2 hz2 hb4 hz4 hlt2 hc2 ho2 hq2 hs2 hlt4 hc4 hbx hb4w
  go_wp2
  go_loopw [9, 10, 11, 12, 13, 14, 51] (fun t9 _ _ _ _ _ t51 wr => ∃ i : Nat, i ≤ n ∧ t51 = .int .i64 i ∧ t9 = .int .i64 (Bm.leftN n f i : Nat) ∧ J (pre ++ Bm.doneC R ts S r al i) wr ∧ wr.heap[w.heap.size]? = some (.cells (mkP r al) 110 (0, 0)) ∧ KpR base.heap.size hi w wr) (fun _ _ _ _ _ _ t51 _ => n - (intOf t51).toNat)
  case atStart => exact ⟨0, Nat.zero_le _, rfl, rfl, by rw [HD0.out, List.append_nil]; exact hJ4, hI4, hk4⟩
  case round =>
    obtain ⟨i, hin, rfl, rfl, hJi, hI, hk⟩ := hrel
    clear hJ4 hI4 hk4 hJ0
    have hOi := hO.kp hk
    have hSi := hS.old hOi.old
    have hXi := hX.kp HXH.out hk
    obtain ⟨qr0, qr1, qrl, _, _⟩ := hSi
    rw [zs_len] at qr0
    rw [tz_len] at qr1
    have hce : ∀ o, wr.cell? ⟨w.heap.size, o, none⟩ = (mkP r al)[o]? := fun o => cell_of_row _ _ _ _ _ _ hI
    have hlw := obj_lt hI
    have hbt := bBit (Bm.leftN n f i) (hLT.out i) i
    have HL1 := hide (fun h => (Bm.left_bit (n := n) (f := f) (i := i) h))
    have HL2 := hide (fun h => (Bm.left_not (n := n) (f := f) (i := i) h))
    have HL3 := hide (Bm.left_lead (n := n) (f := f) (i := i))
    have hq6 := hLT.out i
    by_cases hlt : i < n
    · have HBK := hide (fun k (hk : k < n) (h : Bm.lead f i = true) => Bm.left_bit_k (n := n) (f := f) (i := i) (k := k) hk h)
      have HOZ := hide (Bm.own_zero n f i)
      replace hbt := hbt (by omega)
      rw [HL1.out hlt] at hbt
      generalize Bm.leftN n f i = q at *
      have hi6 : (i : Int) ≤ 5 := by omega
      have hi0 : (0 : Int) ≤ (i : Int) := by omega
      have hq0 : (0 : Int) ≤ (q : Int) := by omega
      have hq1 : (q : Int) ≤ 63 := by omega
      by_cases hl : Bm.lead f i = true
      · rw [hl] at hbt
        simp only [if_true] at hbt
        have HDi := HD.out i
        rw [hl] at HDi
        simp only [if_true] at HDi
        replace HDi := hide HDi
        have HLD := hide hl
        clear hl
        have hmz : (mkP (r + 1) (f i)).size = 11 := mkP_size _ _
        have hst := fun W : World => run_storeCells_new (P := Try.prog) W 110 #[.int .i64 0, .int .i64 0, .int .i64 0, .int .i64 0, .int .i64 0, .int .i64 0, .int .i64 0, .int .i64 0, .int .i64 0, .int .i64 0, .int .i64 0] (mkP (r + 1) (f i)) (by rw [mkP_size]; exact siz110) (by simp [mkP_size]) (mkP_one _ _)
        go_wp2_with (first
          | (go_at_call 91; refine (HNX.out i _ (hS.old hOi.old) (by omega)).mono ?_; rintro e w5 ⟨rfl, hb5⟩; replace hb5 := ex_below hb5; have hz5 := hb5.size))
        clear hmz hst
        have hI1 : (w5.alloc (.cells (mkP (r + 1) (f i)) 110)).heap[w.heap.size]? = some (.cells (mkP r al) 110 (0, 0)) := (Below.heap_alloc _ _ _ (by omega)).trans ((hb5.block _ hlw).trans hI)
        have hT1 : (w5.alloc (.cells (mkP (r + 1) (f i)) 110)).heap[w5.heap.size]? = some (.cells (mkP (r + 1) (f i)) 110 (0, 0)) := heap_alloc_new w5 _
        have hb1 : Below wr.heap.size wr (w5.alloc (.cells (mkP (r + 1) (f i)) 110)) := below_alloc hb5 hz5 _
        have hs1 : w5.heap.size < (w5.alloc (.cells (mkP (r + 1) (f i)) 110)).heap.size := by simp
        have hs2 : w.heap.size ≠ w5.heap.size := by omega
        obtain ⟨W1, hW1⟩ : ∃ W1, w5.alloc (.cells (mkP (r + 1) (f i)) 110) = W1 := ⟨_, rfl⟩
        rw [hW1] at hI1 hT1 hb1 hs1 ⊢
        clear hW1 hb5 hz5
        generalize w5.heap.size = b5 at *
        clear hce hI
        have hk1 := hk.trans (KpR.below hb1)
        have hO1 := hO.kp hk1
        have hJ1 := HJ.out _ _ _ hJi (grew_of hb1)
        clear hk hOi hJi hb1 qr0 qr1 qrl hXi hlw
        go_loopw [12, 13] (fun t12 t13 w2 => ∃ k : Nat, i ≤ k ∧ k ≤ n ∧ t13 = .int .i64 k ∧ t12 = .int .i64 (Bm.ownN n f i k : Nat) ∧ Below W1.heap.size W1 w2) (fun _ t13 _ => n - (intOf t13).toNat)
        case atStart => exact ⟨i, Nat.le_refl _, by omega, rfl, by rw [HOZ.out]; rfl, Below.refl _ _⟩
        case round =>
          obtain ⟨k, hik, hkn, rfl, rfl, hbk⟩ := hrel
          have hOk := hO1.below hbk
          have hSk := hS.old hOk.old
          have hS0 := hide hSk
          obtain ⟨qr0, qr1, qrl, hAk, _⟩ := hSk
          rw [zs_len] at qr0
          rw [tz_len] at qr1
          have qa := zsI hAk hr
          rw [HNN.out] at qa
          have hab2 : ab < wr.heap.size := by
            obtain ⟨ab', ao', he, hl'⟩ := zsF hAk (by omega)
            injection he with he
            injection he with e1 _ _
            omega
          have hIk := (hbk.block _ (obj_lt hI1)).trans hI1
          have hTk := (hbk.block _ hs1).trans hT1
          have hce : ∀ o, wr.cell? ⟨w.heap.size, o, none⟩ = (mkP r al)[o]? := fun o => cell_of_row _ _ _ _ _ _ hIk
          have hcT : ∀ o, wr.cell? ⟨b5, o, none⟩ = (mkP (r + 1) (f i))[o]? := fun o => cell_of_row _ _ _ _ _ _ hTk
          have hlI := obj_lt hIk
          have hlT := obj_lt hTk
          have hk6 : (k : Int) ≤ 6 := by omega
          have hk0 : (0 : Int) ≤ (k : Int) := by omega
          have ho6 := hOT.out i k
          have HOS := hide (fun h => Bm.own_step (n := n) (f := f) (i := i) (k := k) h hik)
          have HOL := hide (Bm.own_last (n := n) (f := f) (i := i) HLD.out)
          have hbq := bBit q hq6 k
          have hbo := bOr (Bm.ownN n f i k) ho6 k
          by_cases hlk : k < n
          · replace hbq := hbq (by omega)
            replace hbo := hbo (by omega)
            generalize Bm.ownN n f i k = own at *
            have hbk2 := HBK.out k hlk HLD.out
            by_cases htb : q.testBit k = true
            · rw [htb] at hbq hbk2
              simp only [if_true, Bool.true_and] at hbq hbk2
              have HSF := hide (sameM_eq (al := f k) (bl := f i) (by rw [HFL.out, HFL.out]) (by rw [HFL.out, HAL.out]; exact ht10))
              by_cases hfe : f k = f i
              all_goals
                have hsf := HSF.out
                first | rw [decide_eq_true hfe] at hsf | rw [decide_eq_false hfe] at hsf
                have HOK := HOS.out hlk
                first | rw [if_pos hfe] at HOK | rw [if_neg hfe] at HOK
                replace HOK := hide HOK
                clear hfe hbk2
                go_wp2
                refine wp_region_grow (by kernel_rfl) (by kernel_rfl) ?_
                repeat (go_big_quiet_step (fail))
                refine wpQuiet_nil ?_
                intro w7 hb7
                replace hb7 := ex_below hb7
                have hz7 := hb7.size
                (try simp only [zz] at hz7)
                have hlt7 : ∀ b, b < wr.heap.size → b < w7.heap.size := fun b hb => (by (first | omega | (simp only [zz] at *; omega)))
                have hc7 : ∀ b o, b < wr.heap.size → w7.cell? ⟨b, o, none⟩ = wr.cell? ⟨b, o, none⟩ := old_cell (by (repeat (first | exact Below.refl _ _ | assumption | refine below_drewN ?_ _ | refine below_drew ?_ | refine below_gr ?_ ?_ _ | refine below_alloc ?_ ?_ _ | refine Below.setCell ?_ ?_ _ | refine below_step ?_ (by assumption) ?_ | omega | (simp only [zz] at *; omega))))
                have hS7 := hS0.out.ext hb7
                have hcT7 : ∀ o, w7.cell? ⟨b5, o, none⟩ = (mkP (r + 1) (f i))[o]? := fun o => (hc7 _ _ hlT).trans (hcT o)
                go_wp2
                refine wp_region_grow (by kernel_rfl) (by kernel_rfl) ?_
                repeat (go_big_quiet_step (((go_at_call 91; exact Gives.quiet (HNX.out k _ (hS7.ext (by (repeat (first | exact Below.refl _ _ | assumption | refine below_drewN ?_ _ | refine below_drew ?_ | refine below_gr ?_ ?_ _ | refine below_alloc ?_ ?_ _ | refine Below.setCell ?_ ?_ _ | refine below_step ?_ (by assumption) ?_ | omega | (simp only [zz] at *; omega))))) (by omega))))))
                refine wpQuiet_nil ?_
                intro w8 hb8
                replace hb8 := ex_below hb8
                have hz8 := hb8.size
                (try simp only [zz] at hz8)
                have hlt8 : ∀ b, b < wr.heap.size → b < w8.heap.size := fun b hb => (by (first | omega | (simp only [zz] at *; omega)))
                have hc8 : ∀ b o, b < wr.heap.size → w8.cell? ⟨b, o, none⟩ = wr.cell? ⟨b, o, none⟩ := old_cell (by (repeat (first | exact Below.refl _ _ | assumption | refine below_drewN ?_ _ | refine below_drew ?_ | refine below_gr ?_ ?_ _ | refine below_alloc ?_ ?_ _ | refine Below.setCell ?_ ?_ _ | refine below_step ?_ (by assumption) ?_ | omega | (simp only [zz] at *; omega))))
                have hb8w : Below wr.heap.size wr w8 := by (repeat (first | exact Below.refl _ _ | assumption | (refine below_gr ?_ (by (first | omega | (simp only [zz] at *; omega))) _) | (refine below_alloc ?_ (by (first | omega | (simp only [zz] at *; omega))) _) | (refine Below.setCell ?_ (by (first | omega | (simp only [zz] at *; omega))) _) | refine below_drewN ?_ _ | refine below_drew ?_ | (refine below_step ?_ (by assumption) (by (first | omega | (simp only [zz] at *; omega))))))
                go_wp2
                try go_roundw
                try (case measure => simp [intOf]; omega)
                try refine ⟨?_, by simp [intOf]; omega⟩
                exact ⟨k + 1, by omega, by omega, by go_num, by rw [HOK.out], hbk.trans (hb8w.mono hbk.size)⟩
            · have hfe : ¬ (f k = f i) := by
                intro he
                simp [he] at hbk2
                exact htb hbk2
              have htb' : q.testBit k = false := by simpa using htb
              rw [htb'] at hbq
              simp only [Bool.false_eq_true, if_false] at hbq
              have HOK := HOS.out hlk
              rw [if_neg hfe] at HOK
              replace HOK := hide HOK
              clear hfe hbk2 htb htb'
              go_wp2
              refine wp_region_grow (by kernel_rfl) (by kernel_rfl) ?_
              repeat (go_big_quiet_step (fail))
              refine wpQuiet_nil ?_
              intro w7 hb7
              replace hb7 := ex_below hb7
              have hz7 := hb7.size
              (try simp only [zz] at hz7)
              have hlt7 : ∀ b, b < wr.heap.size → b < w7.heap.size := fun b hb => (by (first | omega | (simp only [zz] at *; omega)))
              have hc7 : ∀ b o, b < wr.heap.size → w7.cell? ⟨b, o, none⟩ = wr.cell? ⟨b, o, none⟩ := old_cell (by (repeat (first | exact Below.refl _ _ | assumption | refine below_drewN ?_ _ | refine below_drew ?_ | refine below_gr ?_ ?_ _ | refine below_alloc ?_ ?_ _ | refine Below.setCell ?_ ?_ _ | refine below_step ?_ (by assumption) ?_ | omega | (simp only [zz] at *; omega))))
              go_wp2
              refine wp_region_grow (by kernel_rfl) (by kernel_rfl) ?_
              repeat (go_big_quiet_step (fail))
              refine wpQuiet_nil ?_
              intro w8 hb8
              replace hb8 := ex_below hb8
              have hz8 := hb8.size
              (try simp only [zz] at hz8)
              have hlt8 : ∀ b, b < wr.heap.size → b < w8.heap.size := fun b hb => (by (first | omega | (simp only [zz] at *; omega)))
              have hc8 : ∀ b o, b < wr.heap.size → w8.cell? ⟨b, o, none⟩ = wr.cell? ⟨b, o, none⟩ := old_cell (by (repeat (first | exact Below.refl _ _ | assumption | refine below_drewN ?_ _ | refine below_drew ?_ | refine below_gr ?_ ?_ _ | refine below_alloc ?_ ?_ _ | refine Below.setCell ?_ ?_ _ | refine below_step ?_ (by assumption) ?_ | omega | (simp only [zz] at *; omega))))
              have hb8w : Below wr.heap.size wr w8 := by (repeat (first | exact Below.refl _ _ | assumption | (refine below_gr ?_ (by (first | omega | (simp only [zz] at *; omega))) _) | (refine below_alloc ?_ (by (first | omega | (simp only [zz] at *; omega))) _) | (refine Below.setCell ?_ (by (first | omega | (simp only [zz] at *; omega))) _) | refine below_drewN ?_ _ | refine below_drew ?_ | (refine below_step ?_ (by assumption) (by (first | omega | (simp only [zz] at *; omega))))))
              go_wp2
              go_roundw
              case measure => simp [intOf]; omega
              exact ⟨k + 1, by omega, by omega, by go_num, by rw [HOK.out], hbk.trans (hb8w.mono hbk.size)⟩
          · have hke : k = n := by omega
            rw [hke, HOL.out] at hbo ho6 ⊢
            clear hbq hbo HOS
            have hkk := hke ▸ hk6
            clear hke
            have HAN := bAndNot q hq6 (Bm.classN n f i) ho6
            have HST : Hid ((S.set r (Bm.classN n f i)).length = R.length ∧ (S.set r (Bm.classN n f i)).drop (r + 1) = (R.drop (r + 1)).map fun n => 2 ^ n - 1) := hide ⟨by rw [List.length_set]; exact hSL.out, by
              rw [List.drop_set_of_lt (by omega), show r + 1 = r + 1 from rfl, ← List.drop_drop, HSD.out, ← List.map_drop, List.drop_drop]⟩
            have HP2 : Hid (pre ++ Bm.doneC R ts S r al i ++ Bm.partsC R ts (S.set r (Bm.classN n f i)) (r + 1) (f i) <+: full) := hide (by
              rw [List.append_assoc, ← HDi.out]
              exact ((List.prefix_append_right_inj pre).2 (HDL.out (i + 1) n hlt)).trans HPR.out)
            generalize Bm.classN n f i = o at *
            have HCL := hide (fun w' Z (h1 : OldB base w' hi) (h2 : I64 w' Z (zs (S.set r o))) (h3 : ∀ b o, Z = some ⟨b, o, none⟩ → hi ≤ b) (h4 : J (pre ++ Bm.doneC R ts S r al i) w') => by
              have := HIH.out (S.set r o) (f i) (pre ++ Bm.doneC R ts S r al i) Z S.length w' h1 h2 h3 HST.out.1 (by rw [List.length_set]; exact Nat.le_refl _) (by rw [HFL.out]; exact HAL.out) HST.out.2 h4 HP2.out
              rw [List.length_set] at this
              exact this)
            have ho0 : (0 : Int) ≤ (o : Int) := by omega
            have ho1 : (o : Int) ≤ 63 := by omega
            have hmk := make_zeros S.length (by omega)
            have HZS := hide (zs_len S)
            have hJw := HJ.out _ _ _ hJ1 (grew_of hbk)
            have hkw := hk1.trans (KpR.below hbk)
            have hhi := hO.hi
            go_wp2
            refine wp_region_grow (by kernel_rfl) (by kernel_rfl) ?_
            repeat (go_big_quiet_step (fail))
            refine wpQuiet_nil ?_
            intro w7 hb7
            replace hb7 := ex_below hb7
            have hz7 := hb7.size
            (try simp only [zz] at hz7)
            have hlt7 : ∀ b, b < wr.heap.size → b < w7.heap.size := fun b hb => (by (first | omega | (simp only [zz] at *; omega)))
            have hc7 : ∀ b o, b < wr.heap.size → w7.cell? ⟨b, o, none⟩ = wr.cell? ⟨b, o, none⟩ := old_cell (by (repeat (first | exact Below.refl _ _ | assumption | refine below_drewN ?_ _ | refine below_drew ?_ | refine below_gr ?_ ?_ _ | refine below_alloc ?_ ?_ _ | refine Below.setCell ?_ ?_ _ | refine below_step ?_ (by assumption) ?_ | omega | (simp only [zz] at *; omega))))
            have hX7 : I64 w7 (some ⟨sb, so, none⟩) (zs S) := ((hX.kp HXH.out hkw).ext hb7)
            have hz77 := hb7.size
            have hlI7 : w.heap.size < w7.heap.size := by omega
            have hlT7 : b5 < w7.heap.size := by omega
            have hne7 : b5 ≠ w7.heap.size := by omega
            have hne8 : w.heap.size ≠ w7.heap.size := by omega
            have HSR := hide (fun (w9 : World) (h : w9.heap[w7.heap.size]? = some (.cells ((zs S).map (Value.int .i64)).toArray 3 (0, 0))) => (show w9.cell? ⟨w7.heap.size, r, none⟩ = some (.int .i64 (S[r] : Nat)) from obj_at h r _ (by simp [zs, List.getElem?_eq_getElem hrS])))
            generalize S[r] = sr at HSR
            go_wp2_with (first
              | ((with_reducible refine wpList_copy_splice rfl _ _ 22 22 rfl 3 und22 siz3 (some ⟨w7.heap.size, 0, none⟩) (some ⟨sb, so, none⟩) S.length S.length S.length xc rfl rfl w7.heap.size 0 (List.replicate S.length (.int .i64 0)) 3 (repl_new _ _) ((zs S).map (Value.int .i64)) (by simp [HZS.out]) (fun h => ⟨rfl, i64_src (hX7.ext (below_alloc (Below.refl _ _) (Nat.le_refl _) _)) (by simpa using h)⟩) (by simp [HZS.out]) (one_ints _) w7.heap.size w7 (by (repeat (first | exact Below.refl _ _ | assumption | refine below_drewN ?_ _ | refine below_drew ?_ | refine below_gr ?_ ?_ _ | refine below_alloc ?_ ?_ _ | refine Below.setCell ?_ ?_ _ | refine below_step ?_ (by assumption) ?_ | omega | (simp only [zz] at *; omega)))) (Nat.le_refl _) ?_; intro w9 HG9 hB9); (replace HG9 := HG9.out; rw [splice_zero _ _ _ (by simp [HZS.out])] at HG9; have hz9 := hB9.size; have hl9 := obj_lt HG9; have hc9 := old_cell hB9; have hs9 := HSR.out w9 HG9; have hf9 := obj_fz HG9 r; have hbX : Below wr.heap.size wr (w9.setCell ⟨w7.heap.size, r, none⟩ (.int .i64 (o : Nat))) := hb7.trans ((Below.setCell (p := ⟨w7.heap.size, r, none⟩) hB9 (Nat.le_refl _) _).mono hz77); have hO9 := hOk.below hbX; have hJ9 := HJ.out _ _ _ hJw (grew_of hbX); have hX9 : I64 (w9.setCell ⟨w7.heap.size, r, none⟩ (.int .i64 (o : Nat))) (some ⟨w7.heap.size, 0, none⟩) (zs (S.set r o)) := i64_block (by rw [← zs_set]; exact set_obj HG9 r _); replace HG9 := hide HG9))
              | (go_at_call 89; refine (HCL.out _ (some ⟨w7.heap.size, 0, none⟩) hO9 hX9 (fun b o h => by injection h with h; injection h with h1 _ _; omega) hJ9).mono ?_; rintro e w10 ⟨rfl, hJ10, hk10⟩))
            refine ⟨⟨i + 1, by omega, by go_num, by rw [HL3.out], by rw [HDi.out, ← List.append_assoc]; exact hJ10, ?_, hkw.trans ((KpR.below hbX).trans hk10)⟩, by simp [intOf]; omega⟩
            exact (hk10.same _ (by have := hbX.size; omega) (.inr hhi)).trans ((hbX.block _ hlI).trans hIk)
      · have hl' : Bm.lead f i = false := by simpa using hl
        rw [hl'] at hbt
        simp only [Bool.false_eq_true, if_false] at hbt
        have HDi := HD.out i
        rw [hl'] at HDi
        simp only [Bool.false_eq_true, if_false, List.append_nil] at HDi
        replace HDi := hide HDi
        have HL4 := hide (HL2.out hl')
        clear hl hl'
        go_wp2
        go_roundw
        case measure => simp [intOf]; omega
        exact ⟨i + 1, by omega, by go_num, by rw [HL4.out], by rw [HDi.out]; exact hJi, hI, hk⟩
    · have hie : i = n := by omega
      subst hie
      go_wp2
      go_ret
      exact ⟨rfl, hJi, hk⟩
end Go.Proofs.Ytlbkaeoagdbemaa
namespace Go.Proofs.Ytlbkaeoagdbemaa
open Go.RowKit Go.Maps Go.Shelf
theorem cut_any (s : Nat) (A : Option Addr) (R : List Nat) (rc : Nat) (B : Option Addr) (ts : List Bm.Tk) (d : Nat) (base : World) (hS : SheetAt base s A (zs R) rc B (tz ts) d) (hR5 : R.length ≤ 5) (hR6 : ∀ n, n ∈ R → n ≤ 6) (ht10 : ts.length ≤ 10) (hu : ∀ t, t ∈ ts → t.2 ≤ 1000) (htl : ∀ t, t ∈ ts → t.1.length = R.length) (ht6 : ∀ t, t ∈ ts → ∀ x, x ∈ t.1 → x < 64) (l : Nat) (J : List Bm.Tk → World → Prop) (hi : Nat) (full : List Bm.Tk) (hJ : ∀ pre W W', J pre W → Grew W W' → J pre W') (hY : RoundP J base.heap.size hi l full base R.length) : ∀ (j r : Nat), r + j = R.length → ∀ (S : List Nat) (al : List Bool) (pre : List Bm.Tk) (X : Option Addr) (xc : Nat) (w : World) (hO : OldB base w hi) (hX : I64 w X (zs S)) (hXh : ∀ b o, X = some ⟨b, o, none⟩ → hi ≤ b) (hSl : S.length = R.length) (hxc : S.length ≤ xc) (hal : al.length = ts.length) (hSd : S.drop r = (R.drop r).map fun n => 2 ^ n - 1) (hJ0 : J pre w) (hpre : pre ++ Bm.partsC R ts S r al <+: full),
    Calls Try.prog 89 #[.pointer (some ⟨s, 0, none⟩), .slice X S.length xc, .agg (mkP r al), .func (.yield l) #[] #[]] w (CutPost J base.heap.size hi (pre ++ Bm.partsC R ts S r al) w)
  | 0, r, hj, S, al, pre, X, xc, w, hO, hX, hXh, hSl, hxc, hal, hSd, hJ0, hpre => cut_stop s A R rc B ts d base hS hR5 hR6 ht10 hu htl ht6 l J hi full hJ hY S r al pre X xc w hO hX hXh hSl hxc hal hSd hJ0 hpre (by omega) (.inl (by omega))
  | j + 1, r, hj, S, al, pre, X, xc, w, hO, hX, hXh, hSl, hxc, hal, hSd, hJ0, hpre => by
    by_cases ha : al.any id = true
    · exact cut_loop s A R rc B ts d base hS hR5 hR6 ht10 hu htl ht6 l J hi full hJ hY S r al pre X xc w hO hX hXh hSl hxc hal hSd hJ0 hpre (by omega) ha (fun S al pre X xc w h1 h2 h3 h4 h5 h6 h7 h8 h9 => cut_any s A R rc B ts d base hS hR5 hR6 ht10 hu htl ht6 l J hi full hJ hY j (r + 1) (by omega) S al pre X xc w h1 h2 h3 h4 h5 h6 h7 h8 h9)
    · exact cut_stop s A R rc B ts d base hS hR5 hR6 ht10 hu htl ht6 l J hi full hJ hY S r al pre X xc w hO hX hXh hSl hxc hal hSd hJ0 hpre (by omega) (.inr (by simpa using ha))
/-- all parts -/
def allParts (R : List Nat) (ts : List Bm.Tk) : List Bm.Tk := Bm.partsC R ts (allP R) 0 (Bm.alls ts)
def PartsPost (J : List Bm.Tk → World → Prop) (lo hi : Nat) (done : List Bm.Tk) (W : World) (e : Ending) (W' : World) : Prop :=
  e = .returned (.tuple #[]) ∧ J done W' ∧ KpR lo hi W W'
theorem parts_any (s : Option Addr) (w : World) : Calls Try.prog 65 #[.pointer s] w (fun e w' => e = .returned (.func (.func 88) #[] #[.pointer (some ⟨w.heap.size, 0, none⟩)]) ∧ w' = w.alloc (.cells #[.pointer s] 80)) := by
  go_enter Try.func65, Try.ntmps65
  go_wp2
  go_ret
  exact ⟨rfl, rfl⟩
set_option maxRecDepth 100000 in
set_option maxHeartbeats 1000000 in
theorem parts1_any (s : Nat) (A : Option Addr) (R : List Nat) (rc : Nat) (B : Option Addr) (ts : List Bm.Tk) (d : Nat) (base : World) (hS : SheetAt base s A (zs R) rc B (tz ts) d) (hR5 : R.length ≤ 5) (hR6 : ∀ n, n ∈ R → n ≤ 6) (ht10 : ts.length ≤ 10) (hu : ∀ t, t ∈ ts → t.2 ≤ 1000) (htl : ∀ t, t ∈ ts → t.1.length = R.length) (ht6 : ∀ t, t ∈ ts → ∀ x, x ∈ t.1 → x < 64) (l : Nat) (J : List Bm.Tk → World → Prop) (hi : Nat) (full : List Bm.Tk) (hJ : ∀ pre W W', J pre W → Grew W W' → J pre W') (hY : RoundP J base.heap.size hi l full base R.length) (Bp : Nat) (hBp : hi ≤ Bp) (w : World) (hO : OldB base w hi) (hc : w.cell? ⟨Bp, 0, none⟩ = some (.pointer (some ⟨s, 0, none⟩))) (hBl : Bp < w.heap.size) (h0 : J [] w) (hfull : allParts R ts <+: full) :
    Calls Try.prog 88 #[.func (.yield l) #[] #[], .pointer (some ⟨Bp, 0, none⟩)] w (PartsPost J base.heap.size hi (allParts R ts) w) := by
  have HALL := hide (fun w' (h : SheetAt w' s A (zs R) rc B (tz ts) d) => all_any s A R rc B (tz ts) d w' h hR5 hR6)
  have HST := hide (fun w' (h : SheetAt w' s A (zs R) rc B (tz ts) d) => start_any s A R rc B ts d w' h hR5 hR6 ht10)
  have HZL := hide (show (zs (allP R)).length = (allP R).length from zs_len _)
  have HCUT := hide (fun Z zc w' (h1 : OldB base w' hi) (h2 : I64 w' Z (zs (allP R))) (h3 : ∀ b o, Z = some ⟨b, o, none⟩ → hi ≤ b) (h4 : (allP R).length ≤ zc) (h5 : J [] w') =>
    cut_any s A R rc B ts d base hS hR5 hR6 ht10 hu htl ht6 l J hi full hJ hY R.length 0 (by omega) (allP R) (Bm.alls ts) [] Z zc w' h1 h2 h3 (by simp [allP]) h4 (by simp [Bm.alls]) (by simp [allP]) h5 (by rw [List.nil_append]; exact hfull))
  have HJ := hide hJ
  have hhi := hO.hi
  clear hJ hY
  go_enter Try.func88, Try.ntmps88
  go_wp2
  go_region_held3 (fun w' => w'.cell? ⟨Bp, 0, none⟩ = some (.pointer (some ⟨s, 0, none⟩))) (go_keep) (first
    | (go_at_call 72; refine (HALL.out _ (hS.old (hO.below (by (repeat (first | exact Below.refl _ _ | assumption | refine below_drewN ?_ _ | refine below_drew ?_ | refine below_gr ?_ ?_ _ | refine below_alloc ?_ ?_ _ | refine Below.setCell ?_ ?_ _ | refine below_step ?_ (by assumption) ?_ | omega | (simp only [zz] at *; omega))))).old)).mono ?_; rintro e w3 ⟨Z, zc, rfl, hb3, hZ, hzc, hZh⟩; rw [HZL.out] at hzc ⊢; replace hb3 := ex_below hb3; have hz3 := hb3.size; (try simp only [size_drew, size_drewN] at hz3); have hc3 := own_cell hb3 (b := Bp) (by (first | omega | (simp only [zz]; omega) | (simp only [zz] at *; omega) | (simp; done) | (simp; omega))); have hd3 : w.heap.size ≤ w3.heap.size := (by (first | omega | (simp only [zz]; omega) | (simp only [zz] at *; omega) | (simp; done) | (simp; omega))))
    | (go_at_call 90; refine (HST.out _ (hS.old (hO.below (by (repeat (first | exact Below.refl _ _ | assumption | refine below_drewN ?_ _ | refine below_drew ?_ | refine below_gr ?_ ?_ _ | refine below_alloc ?_ ?_ _ | refine Below.setCell ?_ ?_ _ | refine below_step ?_ (by assumption) ?_ | omega | (simp only [zz] at *; omega))))).old)).mono ?_; rintro e w4 ⟨rfl, hb4⟩; replace hb4 := ex_below hb4; have hz4 := hb4.size; (try simp only [size_drew, size_drewN] at hz4); have hc4 := own_cell hb4 (b := Bp) (by (first | omega | (simp only [zz]; omega) | (simp only [zz] at *; omega) | (simp; done) | (simp; omega))); have hd4 : w.heap.size ≤ w4.heap.size := (by (first | omega | (simp only [zz]; omega) | (simp only [zz] at *; omega) | (simp; done) | (simp; omega))))
    | (go_at_call 89; refine (HCUT.out Z zc _ (hO.below (by (repeat (first | exact Below.refl _ _ | assumption | refine below_drewN ?_ _ | refine below_drew ?_ | refine below_gr ?_ ?_ _ | refine below_alloc ?_ ?_ _ | refine Below.setCell ?_ ?_ _ | refine below_step ?_ (by assumption) ?_ | omega | (simp only [zz] at *; omega))))) (hZ.ext (by (repeat (first | exact Below.refl _ _ | assumption | refine below_drewN ?_ _ | refine below_drew ?_ | refine below_gr ?_ ?_ _ | refine below_alloc ?_ ?_ _ | refine Below.setCell ?_ ?_ _ | refine below_step ?_ (by assumption) ?_ | omega | (simp only [zz] at *; omega))))) (fun b o h => by have := hZh b o h; (try simp only [size_drew, size_drewN] at this); omega) hzc (HJ.out _ _ _ h0 (grew_of (by (repeat (first | exact Below.refl _ _ | assumption | refine below_drewN ?_ _ | refine below_drew ?_ | refine below_gr ?_ ?_ _ | refine below_alloc ?_ ?_ _ | refine Below.setCell ?_ ?_ _ | refine below_step ?_ (by assumption) ?_ | omega | (simp only [zz] at *; omega))))))).mono ?_; rintro e w5 ⟨rfl, hJ5, hk5⟩; have hk6 := (KpR.below (X := w) (by (repeat (first | exact Below.refl _ _ | assumption | refine below_drewN ?_ _ | refine below_drew ?_ | refine below_gr ?_ ?_ _ | refine below_alloc ?_ ?_ _ | refine Below.setCell ?_ ?_ _ | refine below_step ?_ (by assumption) ?_ | omega | (simp only [zz] at *; omega))))).trans hk5; have hc5 := heap_cell (o := 0) (hk5.same Bp (by omega) (.inr hBp)); rw [List.nil_append] at hJ5))
  all_goals
    go_wp2
    refine bodyPost_ret (results_none rfl _ _ _) rfl ?_
    exact ⟨rfl, hJ5, hk6⟩
end Go.Proofs.Ytlbkaeoagdbemaa
