/- Proved here: contracts and laws of C47, a part of the proofs about the crowd laws: what some functions of the program and of the reference compute, and plain facts about it. Conditions: those that each theorem names, no others. -/
import Derived.Test.YtbfhkknpocbeaaaT1
import Derived.WalkKit
import Derived.WalkSpells
import Derived.WalkLawsBesides
import Derived.Below
import Derived.Deep.QuietTactic
import Derived.BigQuiet
import Derived.Deep.Light

set_option linter.unusedSimpArgs false
set_option linter.unusedVariables false
namespace Go.Proofs.Ytbfhkknpocbeaaa
open Go.RowKit
theorem I64.at {w : World} {b o : Nat} {xs : List Int} (h : I64 w (some ⟨b, o, none⟩) xs) {k : Nat} (hk : k < xs.length) : w.cell? ⟨b, o + k, none⟩ = some (.int .i64 (atI xs k)) := by
  obtain ⟨b', o', he, _, _, hc⟩ := h k (atI xs k) (atI_lt xs k hk)
  injection he with he
  injection he with e1 e2 _
  subst e1 e2
  exact hc
theorem I64.form {w : World} {A : Option Addr} {xs : List Int} (h : I64 w A xs) (hk : 0 < xs.length) : ∃ b o, A = some ⟨b, o, none⟩ ∧ b < w.heap.size := by
  obtain ⟨b, o, he, hl, _⟩ := h 0 (atI xs 0) (atI_lt xs 0 hk)
  exact ⟨b, o, he, hl⟩
theorem Ppl.form {w : World} {A : Option Addr} {ps : List P3} (h : Ppl w A ps) (hk : 0 < ps.length) : ∃ b o, A = some ⟨b, o, none⟩ ∧ b < w.heap.size := by
  obtain ⟨b, o, he, hl, _⟩ := h 0 ps[0] (by simp)
  exact ⟨b, o, he, hl⟩
theorem Ppl.at {w : World} {b o : Nat} {ps : List P3} (h : Ppl w (some ⟨b, o, none⟩) ps) {k : Nat} (hk : k < ps.length) : w.cell? ⟨b, o + k * 3, none⟩ = some (.int .i64 ps[k].lo) ∧ w.cell? ⟨b, o + k * 3 + 1, none⟩ = some (.int .i64 ps[k].hi) ∧ w.cell? ⟨b, o + k * 3 + 1 + 1, none⟩ = some (.int .i64 ps[k].un) := by
  obtain ⟨b', o', he, _, _, h0, h1, h2⟩ := h k ps[k] (by simp [hk])
  injection he with he
  injection he with e1 e2 _
  subst e1 e2
  exact ⟨h0, h1, h2⟩
theorem truthL_ok {m : Int} {ps : List P3} (h : Okay m ps) (bs : List Int) : isTruth ps (truthL bs ps) = true := by
  unfold isTruth
  rw [List.all_eq_true]
  intro x hx
  obtain ⟨i, hi, rfl⟩ := List.mem_iff_getElem.1 hx
  have hi2 : i < ps.length := by simp [truthL_len] at hi; exact hi
  rw [List.getElem_zip, truthL_at bs ps i hi2]
  have ho := h.ok _ (List.getElem_mem hi2)
  unfold truthB truthV
  simp only [Bool.and_eq_true, decide_eq_true_eq]
  by_cases e : bs.length = 0
  · rw [if_pos e]; omega
  · rw [if_neg e]
    have h1 := Int.emod_nonneg (atI bs (i % bs.length)) (show ps[i].hi - ps[i].lo + 1 ≠ 0 by omega)
    have h2 := Int.emod_lt_of_pos (atI bs (i % bs.length)) (show 0 < ps[i].hi - ps[i].lo + 1 by omega)
    omega
def lateF (ps : List P3) (ts os : List Int) (i : Nat) : Bool := decide (atI ts i ≤ untN ps i ∧ atI os i = 0)
theorem late_shutS {m k : Int} {ps : List P3} {ts : List Int} (h : Okay m ps) : (List.range ps.length).countP (lateF ps ts (outS m ps k ts)) = shutS m ps k ts := by
  unfold shutS shutN lateF
  refine cntP_congr (fun i hi => ?_)
  have := h.ok _ (List.getElem_mem hi)
  rw [Bool.eq_iff_iff, decide_eq_true_eq, decide_eq_true_eq, untN_at hi]
  omega
theorem countP_snoc (F : Nat → Bool) (q : Nat) : (List.range (q + 1)).countP F = (List.range q).countP F + if F q = true then 1 else 0 := by
  rw [List.range_succ, List.countP_append]; by_cases h : F q = true <;> simp [List.countP_cons, h]
set_option maxRecDepth 100000 in
set_option maxHeartbeats 2000000 in
theorem served_walk (m k : Int) (A : Option Addr) (ps : List P3) (c : Nat) (w : World) (hA : Ppl w A ps) (hfine : ps.length ≤ 40 ∧ checkHall m ps = 0) (B : Option Addr) (bs : List Int) (d : Nat) (hB8 : U8L w B bs) (hbl : bs.length ≤ 40) (z : Int) (hz : 0 ≤ z ∧ z ≤ 255) (hzk : z % 31 = k) (hk0 : 0 ≤ k) (hk1 : k ≤ 30)
    (ts os : List Int) (sh mlo mhi : Int) (F : Nat → Bool)
    (htr0 : ∀ W, Ppl W A ps → U8L W B bs → Calls Try.prog 41 #[.agg #[.int .i64 m, .slice A ps.length c], .slice B bs.length d] W (fun e w' => ∃ A' c', e = .returned (.slice A' ps.length c') ∧ (∃ g, w' = W.grow g) ∧ I64 w' A' ts))
    (hsv0 : ∀ W A1 c1, Ppl W A ps → I64 W A1 ts → Calls Try.prog 30 #[.agg #[.int .i64 m, .slice A ps.length c], .int .i64 k, .slice A1 ps.length c1] W (fun e w' => ∃ A' c', e = .returned (.tuple #[.slice A' ps.length c', .int .i64 sh, .int .i64 0]) ∧ (∃ g, w' = W.grow g) ∧ I64 w' A' os))
    (hma0 : ∀ W, Ppl W A ps → Calls Try.prog 24 #[.agg #[.int .i64 m, .slice A ps.length c]] W (Gives W (.tuple #[.agg #[.int .i64 mlo, .int .i64 mhi], .int .i64 0]))) (hcan0 : ∀ W, Ppl W A ps → Calls Try.prog 38 #[.agg #[.int .i64 m, .slice A ps.length c], .int .i64 k] W (Gives W (.tuple #[.bool (decide (mhi ≤ k)), .bool true])))
    (htl : ts.length = ps.length) (hol : os.length = ps.length) (hF : ∀ i, F i = decide (atI ts i ≤ untN ps i ∧ atI os i = 0)) (hcF : ((List.range ps.length).countP F : Int) = sh) (hsh : mhi ≤ k → sh = 0)
    (hrange : ∀ i, (h : i < ps.length) → (atI os i ≠ 0 → atI ts i ≤ atI os i ∧ atI os i ≤ ps[i].un) ∧ (atI os i ≠ 0 → (cntZ os (atI os i) : Int) ≤ k)) :
    Calls Try.prog 8 #[.agg #[.int .i64 m, .slice A ps.length c], .slice B bs.length d, .int .u8 z] w (Gives w (.bool true)) := by
  have hfi := hide (fun W hW => by have := fine_all m A ps c W hW; rw [decide_eq_true hfine] at this; exact this : ∀ W, Ppl W A ps → Calls Try.prog 37 #[.agg #[.int .i64 m, .slice A ps.length c]] W (Gives W (.bool true)))
  obtain ⟨hl4, h0⟩ := hfine
  have hl : ps.length ≤ 30 := (check_val h0).2.2.1
  clear h0
  have htr := hide htr0
  have hsv := hide hsv0
  have hma := hide hma0
  have hcan := hide hcan0
  have HTL := hide htl
  have HOL := hide hol
  have HCF := hide hcF
  have HSH := hide hsh
  have HFQ := hide hF
  have HRG := hide hrange
  clear htr0 hsv0 hma0 hcan0 htl hol hcF hsh hF hrange
  have tok0 : True := trivial
  go_enter Try.func8, Try.ntmps8
  go_wp2_with (first
    | (clear tok0; go_at_call 37; refine (hfi.out _ (hA.ext (by (repeat (first | exact Below.refl _ _ | assumption | (refine below_gr ?_ (by (first | omega | (simp only [size_grow, World.size_alloc, size_drewN, size_drew, size_setCell] at *; omega))) _) | (refine below_alloc ?_ (by (first | omega | (simp only [size_grow, World.size_alloc, size_drewN, size_drew, size_setCell] at *; omega))) _) | (refine Below.setCell ?_ (by (first | omega | (simp only [size_grow, World.size_alloc, size_drewN, size_drew, size_setCell] at *; omega))) _) | refine below_drewN ?_ _ | refine below_drew ?_ | (refine below_step ?_ (by assumption) (by (first | omega | (simp only [size_grow, World.size_alloc, size_drewN, size_drew, size_setCell] at *; omega))))))))).mono ?_; rintro e u1 ⟨rfl, hb1⟩; replace hb1 := ex_below hb1; have bob1 : Below (w.alloc (.cells #[.int .i64 m, .slice A ps.length c] 24)).heap.size (w.alloc (.cells #[.int .i64 m, .slice A ps.length c] 24)) u1 := (by (repeat (first | exact Below.refl _ _ | assumption | (refine below_gr ?_ (by (first | omega | (simp only [size_grow, World.size_alloc, size_drewN, size_drew, size_setCell] at *; omega))) _) | (refine below_alloc ?_ (by (first | omega | (simp only [size_grow, World.size_alloc, size_drewN, size_drew, size_setCell] at *; omega))) _) | (refine Below.setCell ?_ (by (first | omega | (simp only [size_grow, World.size_alloc, size_drewN, size_drew, size_setCell] at *; omega))) _) | refine below_drewN ?_ _ | refine below_drew ?_ | (refine below_step ?_ (by assumption) (by (first | omega | (simp only [size_grow, World.size_alloc, size_drewN, size_drew, size_setCell] at *; omega))))))); have hB := (ObjV.new w 24 (.int .i64 m) (.slice A ps.length c)).below bob1; have bel1 : Below w.heap.size w u1 := (by (repeat (first | exact Below.refl _ _ | assumption | (refine below_gr ?_ (by (first | omega | (simp only [size_grow, World.size_alloc, size_drewN, size_drew, size_setCell] at *; omega))) _) | (refine below_alloc ?_ (by (first | omega | (simp only [size_grow, World.size_alloc, size_drewN, size_drew, size_setCell] at *; omega))) _) | (refine Below.setCell ?_ (by (first | omega | (simp only [size_grow, World.size_alloc, size_drewN, size_drew, size_setCell] at *; omega))) _) | refine below_drewN ?_ _ | refine below_drew ?_ | (refine below_step ?_ (by assumption) (by (first | omega | (simp only [size_grow, World.size_alloc, size_drewN, size_drew, size_setCell] at *; omega))))))); clear bob1; clear hb1; have sz1 := bel1.size; replace hA := hA.ext bel1; replace hB8 := hB8.ext bel1; (try clear hBc0 hBc1 hBlt); have hBc0 := hB.c0; have hBc1 := hB.c1; have hBlt := hB.lt; have hW := bel1; clear bel1; have tok1 : True := trivial)
    | (clear tok1; go_at_call 41; refine (htr.out _ (hA.ext (by (repeat (first | exact Below.refl _ _ | assumption | (refine below_gr ?_ (by (first | omega | (simp only [size_grow, World.size_alloc, size_drewN, size_drew, size_setCell] at *; omega))) _) | (refine below_alloc ?_ (by (first | omega | (simp only [size_grow, World.size_alloc, size_drewN, size_drew, size_setCell] at *; omega))) _) | (refine Below.setCell ?_ (by (first | omega | (simp only [size_grow, World.size_alloc, size_drewN, size_drew, size_setCell] at *; omega))) _) | refine below_drewN ?_ _ | refine below_drew ?_ | (refine below_step ?_ (by assumption) (by (first | omega | (simp only [size_grow, World.size_alloc, size_drewN, size_drew, size_setCell] at *; omega)))))))) (hB8.ext (by (repeat (first | exact Below.refl _ _ | assumption | (refine below_gr ?_ (by (first | omega | (simp only [size_grow, World.size_alloc, size_drewN, size_drew, size_setCell] at *; omega))) _) | (refine below_alloc ?_ (by (first | omega | (simp only [size_grow, World.size_alloc, size_drewN, size_drew, size_setCell] at *; omega))) _) | (refine Below.setCell ?_ (by (first | omega | (simp only [size_grow, World.size_alloc, size_drewN, size_drew, size_setCell] at *; omega))) _) | refine below_drewN ?_ _ | refine below_drew ?_ | (refine below_step ?_ (by assumption) (by (first | omega | (simp only [size_grow, World.size_alloc, size_drewN, size_drew, size_setCell] at *; omega))))))))).mono ?_; rintro e u2 ⟨A1, c1, rfl, hb2, hI1⟩; replace hb2 := ex_below hb2; have bel2 : Below u1.heap.size u1 u2 := (by (repeat (first | exact Below.refl _ _ | assumption | (refine below_gr ?_ (by (first | omega | (simp only [size_grow, World.size_alloc, size_drewN, size_drew, size_setCell] at *; omega))) _) | (refine below_alloc ?_ (by (first | omega | (simp only [size_grow, World.size_alloc, size_drewN, size_drew, size_setCell] at *; omega))) _) | (refine Below.setCell ?_ (by (first | omega | (simp only [size_grow, World.size_alloc, size_drewN, size_drew, size_setCell] at *; omega))) _) | refine below_drewN ?_ _ | refine below_drew ?_ | (refine below_step ?_ (by assumption) (by (first | omega | (simp only [size_grow, World.size_alloc, size_drewN, size_drew, size_setCell] at *; omega))))))); clear hb2; have sz2 := bel2.size; replace hA := hA.ext bel2; replace hB8 := hB8.ext bel2; replace hB := hB.below bel2; replace hW := below_step hW bel2 (by have := hW.size; omega); (try clear hBc0 hBc1 hBlt); have hBc0 := hB.c0; have hBc1 := hB.c1; have hBlt := hB.lt; clear bel2; have tok2 : True := trivial)
    | (clear tok2; go_at_call 30; refine (hsv.out _ A1 c1 (hA.ext (by (repeat (first | exact Below.refl _ _ | assumption | (refine below_gr ?_ (by (first | omega | (simp only [size_grow, World.size_alloc, size_drewN, size_drew, size_setCell] at *; omega))) _) | (refine below_alloc ?_ (by (first | omega | (simp only [size_grow, World.size_alloc, size_drewN, size_drew, size_setCell] at *; omega))) _) | (refine Below.setCell ?_ (by (first | omega | (simp only [size_grow, World.size_alloc, size_drewN, size_drew, size_setCell] at *; omega))) _) | refine below_drewN ?_ _ | refine below_drew ?_ | (refine below_step ?_ (by assumption) (by (first | omega | (simp only [size_grow, World.size_alloc, size_drewN, size_drew, size_setCell] at *; omega)))))))) (hI1.ext (by (repeat (first | exact Below.refl _ _ | assumption | (refine below_gr ?_ (by (first | omega | (simp only [size_grow, World.size_alloc, size_drewN, size_drew, size_setCell] at *; omega))) _) | (refine below_alloc ?_ (by (first | omega | (simp only [size_grow, World.size_alloc, size_drewN, size_drew, size_setCell] at *; omega))) _) | (refine Below.setCell ?_ (by (first | omega | (simp only [size_grow, World.size_alloc, size_drewN, size_drew, size_setCell] at *; omega))) _) | refine below_drewN ?_ _ | refine below_drew ?_ | (refine below_step ?_ (by assumption) (by (first | omega | (simp only [size_grow, World.size_alloc, size_drewN, size_drew, size_setCell] at *; omega))))))))).mono ?_; rintro e u3 ⟨A2, c2, rfl, hb3, hI2⟩; replace hb3 := ex_below hb3; have bel3 : Below u2.heap.size u2 u3 := (by (repeat (first | exact Below.refl _ _ | assumption | (refine below_gr ?_ (by (first | omega | (simp only [size_grow, World.size_alloc, size_drewN, size_drew, size_setCell] at *; omega))) _) | (refine below_alloc ?_ (by (first | omega | (simp only [size_grow, World.size_alloc, size_drewN, size_drew, size_setCell] at *; omega))) _) | (refine Below.setCell ?_ (by (first | omega | (simp only [size_grow, World.size_alloc, size_drewN, size_drew, size_setCell] at *; omega))) _) | refine below_drewN ?_ _ | refine below_drew ?_ | (refine below_step ?_ (by assumption) (by (first | omega | (simp only [size_grow, World.size_alloc, size_drewN, size_drew, size_setCell] at *; omega))))))); clear hb3; have sz3 := bel3.size; replace hA := hA.ext bel3; replace hB8 := hB8.ext bel3; replace hB := hB.below bel3; replace hW := below_step hW bel3 (by have := hW.size; omega); replace hI1 := hI1.ext bel3; (try clear hBc0 hBc1 hBlt); have hBc0 := hB.c0; have hBc1 := hB.c1; have hBlt := hB.lt; clear bel3; have tok3 : True := trivial))
  go_loopw [12, 13, 14, 15, 16] (fun lt i _ _ _ wr => ∃ q : Nat, q ≤ ps.length ∧ i = .int .i64 q ∧ lt = .int .i64 ((List.range q).countP F : Nat) ∧ Below u3.heap.size u3 wr) (fun _ i _ _ _ _ => ps.length - (intOf i).toNat)
  case atStart => exact ⟨0, Nat.zero_le _, rfl, rfl, Below.refl _ _⟩
  case round =>
    obtain ⟨q, hq, rfl, rfl, hb⟩ := hrel
    have hcq : (List.range q).countP F ≤ q := Nat.le_trans List.countP_le_length (by simp)
    by_cases hlt : q < ps.length
    · obtain ⟨ob, oo, rfl, ol⟩ := hI2.form (by rw [HOL.out]; omega)
      obtain ⟨tb, to1, rfl, tl⟩ := hI1.form (by rw [HTL.out]; omega)
      obtain ⟨pb, po, rfl, pl⟩ := hA.form (by omega)
      have g1 := hB.c1
      have g2 := hI1.at (k := q) (by rw [HTL.out]; exact hlt)
      have g3 := (hA.at hlt).2.2
      have g4 := hI2.at (k := q) (by rw [HOL.out]; exact hlt)
      have HF := hide (countP_snoc F q)
      have hFq := HFQ.out q
      rw [untN_at hlt] at hFq
      obtain ⟨hr1, hr2⟩ := HRG.out q hlt
      have HCK := hide hr2
      have HOR := hide hr1
      clear hr1 hr2
      have HFq := hide hFq
      clear hFq
      generalize (List.range q).countP F = cn at *
      generalize F q = fq at *
      generalize atI ts q = x at *
      generalize ps[q].un = uq at *
      generalize atI os q = o at *
      have far : wr.cell? ⟨w.heap.size, 1, none⟩ = some (.slice (some ⟨pb, po, none⟩) ps.length c) := (old_cell hb _ _ hBlt).trans g1
      have farg : ∀ g, (wr.grow g).cell? ⟨w.heap.size, 1, none⟩ = some (.slice (some ⟨pb, po, none⟩) ps.length c) := fun g => by rw [cell_grow _ _ _ _ (Nat.lt_of_lt_of_le hBlt hb.size)]; exact far
      have fbr : wr.cell? ⟨tb, to1 + q, none⟩ = some (.int .i64 x) := (old_cell hb _ _ tl).trans g2
      have fbrg : ∀ g, (wr.grow g).cell? ⟨tb, to1 + q, none⟩ = some (.int .i64 x) := fun g => by rw [cell_grow _ _ _ _ (Nat.lt_of_lt_of_le tl hb.size)]; exact fbr
      have fcr : wr.cell? ⟨pb, po + q * 3 + 1 + 1, none⟩ = some (.int .i64 uq) := (old_cell hb _ _ pl).trans g3
      have fcrg : ∀ g, (wr.grow g).cell? ⟨pb, po + q * 3 + 1 + 1, none⟩ = some (.int .i64 uq) := fun g => by rw [cell_grow _ _ _ _ (Nat.lt_of_lt_of_le pl hb.size)]; exact fcr
      have fdr : wr.cell? ⟨ob, oo + q, none⟩ = some (.int .i64 o) := (old_cell hb _ _ ol).trans g4
      have fdrg : ∀ g, (wr.grow g).cell? ⟨ob, oo + q, none⟩ = some (.int .i64 o) := fun g => by rw [cell_grow _ _ _ _ (Nat.lt_of_lt_of_le ol hb.size)]; exact fdr
      by_cases ho : o = 0
      · have hd0 : decide (o = 0) = true := by simpa using ho
        have hdn : (o != 0) = false := by simp [ho]
        by_cases hin : x ≤ uq
        · have hdi : decide (x ≤ uq) = true := by simpa using hin
          have hfq : fq = true := by rw [HFq.out, decide_eq_true_eq]; exact ⟨hin, ho⟩
          have HFT := hide hfq
          have HO0 := hide ho
          clear hfq ho hin
          go_wp2
          refine wp_region_grow (by kernel_rfl) (by kernel_rfl) ?_
          repeat (go_big_quiet_step (fail))
          refine wpQuiet_nil ?_
          intro w6 hb6
          replace hb6 := ex_below hb6
          have hbw6 := below_step hb hb6 hb.size
          have fas : w6.cell? ⟨w.heap.size, 1, none⟩ = some (.slice (some ⟨pb, po, none⟩) ps.length c) := (old_cell hbw6 _ _ hBlt).trans g1
          have fasg : ∀ g, (w6.grow g).cell? ⟨w.heap.size, 1, none⟩ = some (.slice (some ⟨pb, po, none⟩) ps.length c) := fun g => by rw [cell_grow _ _ _ _ (Nat.lt_of_lt_of_le hBlt hbw6.size)]; exact fas
          have fbs : w6.cell? ⟨tb, to1 + q, none⟩ = some (.int .i64 x) := (old_cell hbw6 _ _ tl).trans g2
          have fbsg : ∀ g, (w6.grow g).cell? ⟨tb, to1 + q, none⟩ = some (.int .i64 x) := fun g => by rw [cell_grow _ _ _ _ (Nat.lt_of_lt_of_le tl hbw6.size)]; exact fbs
          have fcs : w6.cell? ⟨pb, po + q * 3 + 1 + 1, none⟩ = some (.int .i64 uq) := (old_cell hbw6 _ _ pl).trans g3
          have fcsg : ∀ g, (w6.grow g).cell? ⟨pb, po + q * 3 + 1 + 1, none⟩ = some (.int .i64 uq) := fun g => by rw [cell_grow _ _ _ _ (Nat.lt_of_lt_of_le pl hbw6.size)]; exact fcs
          have fds : w6.cell? ⟨ob, oo + q, none⟩ = some (.int .i64 o) := (old_cell hbw6 _ _ ol).trans g4
          have fdsg : ∀ g, (w6.grow g).cell? ⟨ob, oo + q, none⟩ = some (.int .i64 o) := fun g => by rw [cell_grow _ _ _ _ (Nat.lt_of_lt_of_le ol hbw6.size)]; exact fds
          go_wp2
          refine wp_region_grow (by kernel_rfl) (by kernel_rfl) ?_
          repeat (go_big_quiet_step (fail))
          refine wpQuiet_nil ?_
          intro w7 hb7
          replace hb7 := ex_below hb7
          have hbX := below_step hbw6 hb7 hbw6.size
          have fat : w7.cell? ⟨w.heap.size, 1, none⟩ = some (.slice (some ⟨pb, po, none⟩) ps.length c) := (old_cell hbX _ _ hBlt).trans g1
          have fatg : ∀ g, (w7.grow g).cell? ⟨w.heap.size, 1, none⟩ = some (.slice (some ⟨pb, po, none⟩) ps.length c) := fun g => by rw [cell_grow _ _ _ _ (Nat.lt_of_lt_of_le hBlt hbX.size)]; exact fat
          have fbt : w7.cell? ⟨tb, to1 + q, none⟩ = some (.int .i64 x) := (old_cell hbX _ _ tl).trans g2
          have fbtg : ∀ g, (w7.grow g).cell? ⟨tb, to1 + q, none⟩ = some (.int .i64 x) := fun g => by rw [cell_grow _ _ _ _ (Nat.lt_of_lt_of_le tl hbX.size)]; exact fbt
          have fct : w7.cell? ⟨pb, po + q * 3 + 1 + 1, none⟩ = some (.int .i64 uq) := (old_cell hbX _ _ pl).trans g3
          have fctg : ∀ g, (w7.grow g).cell? ⟨pb, po + q * 3 + 1 + 1, none⟩ = some (.int .i64 uq) := fun g => by rw [cell_grow _ _ _ _ (Nat.lt_of_lt_of_le pl hbX.size)]; exact fct
          have fdt : w7.cell? ⟨ob, oo + q, none⟩ = some (.int .i64 o) := (old_cell hbX _ _ ol).trans g4
          have fdtg : ∀ g, (w7.grow g).cell? ⟨ob, oo + q, none⟩ = some (.int .i64 o) := fun g => by rw [cell_grow _ _ _ _ (Nat.lt_of_lt_of_le ol hbX.size)]; exact fdt
          go_wp2
          go_loopw [15, 16] (fun sm kk wx => ∃ r : Nat, r ≤ ps.length ∧ kk = .int .i64 r ∧ sm = .int .i64 (cntZ (os.take r) o : Nat) ∧ Below u3.heap.size u3 wx) (fun _ kk _ => ps.length - (intOf kk).toNat)
          case atStart => exact ⟨0, Nat.zero_le _, rfl, rfl, hbX⟩
          case round =>
            obtain ⟨r, hr, rfl, rfl, hby⟩ := hrel
            have hcl := cntZ_le (os.take r) o
            rw [List.length_take] at hcl
            by_cases hlr : r < ps.length
            · have g5 := hI2.at (k := r) (by rw [HOL.out]; exact hlr)
              have HS := hide (cntZ_snoc (os.take r) (atI os r) o)
              rw [show os.take r ++ [atI os r] = os.take (r + 1) by rw [take_snoc _ _ (by rw [HOL.out]; exact hlr), atI_at (by rw [HOL.out]; exact hlr)]] at HS
              generalize cntZ (os.take r) o = N at *
              generalize atI os r = o2 at *
              have fay : wr.cell? ⟨w.heap.size, 1, none⟩ = some (.slice (some ⟨pb, po, none⟩) ps.length c) := (old_cell hby _ _ hBlt).trans g1
              have fayg : ∀ g, (wr.grow g).cell? ⟨w.heap.size, 1, none⟩ = some (.slice (some ⟨pb, po, none⟩) ps.length c) := fun g => by rw [cell_grow _ _ _ _ (Nat.lt_of_lt_of_le hBlt hby.size)]; exact fay
              have fby : wr.cell? ⟨tb, to1 + q, none⟩ = some (.int .i64 x) := (old_cell hby _ _ tl).trans g2
              have fbyg : ∀ g, (wr.grow g).cell? ⟨tb, to1 + q, none⟩ = some (.int .i64 x) := fun g => by rw [cell_grow _ _ _ _ (Nat.lt_of_lt_of_le tl hby.size)]; exact fby
              have fcy : wr.cell? ⟨pb, po + q * 3 + 1 + 1, none⟩ = some (.int .i64 uq) := (old_cell hby _ _ pl).trans g3
              have fcyg : ∀ g, (wr.grow g).cell? ⟨pb, po + q * 3 + 1 + 1, none⟩ = some (.int .i64 uq) := fun g => by rw [cell_grow _ _ _ _ (Nat.lt_of_lt_of_le pl hby.size)]; exact fcy
              have fdy : wr.cell? ⟨ob, oo + q, none⟩ = some (.int .i64 o) := (old_cell hby _ _ ol).trans g4
              have fdyg : ∀ g, (wr.grow g).cell? ⟨ob, oo + q, none⟩ = some (.int .i64 o) := fun g => by rw [cell_grow _ _ _ _ (Nat.lt_of_lt_of_le ol hby.size)]; exact fdy
              have fey : wr.cell? ⟨ob, oo + r, none⟩ = some (.int .i64 o2) := (old_cell hby _ _ ol).trans g5
              have feyg : ∀ g, (wr.grow g).cell? ⟨ob, oo + r, none⟩ = some (.int .i64 o2) := fun g => by rw [cell_grow _ _ _ _ (Nat.lt_of_lt_of_le ol hby.size)]; exact fey
              by_cases he : o2 = o
              · have hde : decide (o2 = o) = true := by simpa using he
                have hdf : (o2 == o) = true := by simpa using he
                rw [if_pos he] at HS
                have HE := hide he
                clear he
                go_wp2
                refine wp_region_grow (by kernel_rfl) (by kernel_rfl) ?_
                repeat (go_big_quiet_step (fail))
                refine wpQuiet_nil ?_
                intro w8 hb8
                replace hb8 := ex_below hb8
                go_wp2
                go_roundw
                case measure => simp [intOf]; omega
                exact ⟨r + 1, by omega, by go_num, by rw [HS.out]; go_num, below_step hby hb8 hby.size⟩
              · have hde : decide (o2 = o) = false := by simpa using he
                have hdf : (o2 == o) = false := by simpa using he
                rw [if_neg he] at HS
                go_wp2
                refine wp_region_grow (by kernel_rfl) (by kernel_rfl) ?_
                repeat (go_big_quiet_step (fail))
                refine wpQuiet_nil ?_
                intro w8 hb8
                replace hb8 := ex_below hb8
                go_wp2
                go_roundw
                case measure => simp [intOf]; omega
                exact ⟨r + 1, by omega, by go_num, by rw [HS.out]; go_num, below_step hby hb8 hby.size⟩
            · have hrn : r = ps.length := by omega
              subst hrn
              rw [List.take_of_length_le (by rw [HOL.out]; omega)] at hcl ⊢
              generalize cntZ os o = N at *
              have faz : wr.cell? ⟨w.heap.size, 1, none⟩ = some (.slice (some ⟨pb, po, none⟩) ps.length c) := (old_cell hby _ _ hBlt).trans g1
              have fazg : ∀ g, (wr.grow g).cell? ⟨w.heap.size, 1, none⟩ = some (.slice (some ⟨pb, po, none⟩) ps.length c) := fun g => by rw [cell_grow _ _ _ _ (Nat.lt_of_lt_of_le hBlt hby.size)]; exact faz
              have fbz : wr.cell? ⟨tb, to1 + q, none⟩ = some (.int .i64 x) := (old_cell hby _ _ tl).trans g2
              have fbzg : ∀ g, (wr.grow g).cell? ⟨tb, to1 + q, none⟩ = some (.int .i64 x) := fun g => by rw [cell_grow _ _ _ _ (Nat.lt_of_lt_of_le tl hby.size)]; exact fbz
              have fcz : wr.cell? ⟨pb, po + q * 3 + 1 + 1, none⟩ = some (.int .i64 uq) := (old_cell hby _ _ pl).trans g3
              have fczg : ∀ g, (wr.grow g).cell? ⟨pb, po + q * 3 + 1 + 1, none⟩ = some (.int .i64 uq) := fun g => by rw [cell_grow _ _ _ _ (Nat.lt_of_lt_of_le pl hby.size)]; exact fcz
              have fdz : wr.cell? ⟨ob, oo + q, none⟩ = some (.int .i64 o) := (old_cell hby _ _ ol).trans g4
              have fdzg : ∀ g, (wr.grow g).cell? ⟨ob, oo + q, none⟩ = some (.int .i64 o) := fun g => by rw [cell_grow _ _ _ _ (Nat.lt_of_lt_of_le ol hby.size)]; exact fdz
              go_wp2
              go_roundw
              case measure => simp [intOf]; omega
              exact ⟨q + 1, by omega, by go_num, by rw [HF.out, if_pos HFT.out]; go_num, hby⟩
        · have hdi : decide (x ≤ uq) = false := by simpa using hin
          have hfq : fq = false := by rw [HFq.out, decide_eq_false_iff_not]; omega
          have HFT := hide (show ¬ fq = true by rw [hfq]; decide)
          have HO0 := hide ho
          clear hfq ho hin
          go_wp2
          refine wp_region_grow (by kernel_rfl) (by kernel_rfl) ?_
          repeat (go_big_quiet_step (fail))
          refine wpQuiet_nil ?_
          intro w6 hb6
          replace hb6 := ex_below hb6
          have hbw6 := below_step hb hb6 hb.size
          have fas : w6.cell? ⟨w.heap.size, 1, none⟩ = some (.slice (some ⟨pb, po, none⟩) ps.length c) := (old_cell hbw6 _ _ hBlt).trans g1
          have fasg : ∀ g, (w6.grow g).cell? ⟨w.heap.size, 1, none⟩ = some (.slice (some ⟨pb, po, none⟩) ps.length c) := fun g => by rw [cell_grow _ _ _ _ (Nat.lt_of_lt_of_le hBlt hbw6.size)]; exact fas
          have fbs : w6.cell? ⟨tb, to1 + q, none⟩ = some (.int .i64 x) := (old_cell hbw6 _ _ tl).trans g2
          have fbsg : ∀ g, (w6.grow g).cell? ⟨tb, to1 + q, none⟩ = some (.int .i64 x) := fun g => by rw [cell_grow _ _ _ _ (Nat.lt_of_lt_of_le tl hbw6.size)]; exact fbs
          have fcs : w6.cell? ⟨pb, po + q * 3 + 1 + 1, none⟩ = some (.int .i64 uq) := (old_cell hbw6 _ _ pl).trans g3
          have fcsg : ∀ g, (w6.grow g).cell? ⟨pb, po + q * 3 + 1 + 1, none⟩ = some (.int .i64 uq) := fun g => by rw [cell_grow _ _ _ _ (Nat.lt_of_lt_of_le pl hbw6.size)]; exact fcs
          have fds : w6.cell? ⟨ob, oo + q, none⟩ = some (.int .i64 o) := (old_cell hbw6 _ _ ol).trans g4
          have fdsg : ∀ g, (w6.grow g).cell? ⟨ob, oo + q, none⟩ = some (.int .i64 o) := fun g => by rw [cell_grow _ _ _ _ (Nat.lt_of_lt_of_le ol hbw6.size)]; exact fds
          go_wp2
          refine wp_region_grow (by kernel_rfl) (by kernel_rfl) ?_
          repeat (go_big_quiet_step (fail))
          refine wpQuiet_nil ?_
          intro w7 hb7
          replace hb7 := ex_below hb7
          have hbX := below_step hbw6 hb7 hbw6.size
          have fat : w7.cell? ⟨w.heap.size, 1, none⟩ = some (.slice (some ⟨pb, po, none⟩) ps.length c) := (old_cell hbX _ _ hBlt).trans g1
          have fatg : ∀ g, (w7.grow g).cell? ⟨w.heap.size, 1, none⟩ = some (.slice (some ⟨pb, po, none⟩) ps.length c) := fun g => by rw [cell_grow _ _ _ _ (Nat.lt_of_lt_of_le hBlt hbX.size)]; exact fat
          have fbt : w7.cell? ⟨tb, to1 + q, none⟩ = some (.int .i64 x) := (old_cell hbX _ _ tl).trans g2
          have fbtg : ∀ g, (w7.grow g).cell? ⟨tb, to1 + q, none⟩ = some (.int .i64 x) := fun g => by rw [cell_grow _ _ _ _ (Nat.lt_of_lt_of_le tl hbX.size)]; exact fbt
          have fct : w7.cell? ⟨pb, po + q * 3 + 1 + 1, none⟩ = some (.int .i64 uq) := (old_cell hbX _ _ pl).trans g3
          have fctg : ∀ g, (w7.grow g).cell? ⟨pb, po + q * 3 + 1 + 1, none⟩ = some (.int .i64 uq) := fun g => by rw [cell_grow _ _ _ _ (Nat.lt_of_lt_of_le pl hbX.size)]; exact fct
          have fdt : w7.cell? ⟨ob, oo + q, none⟩ = some (.int .i64 o) := (old_cell hbX _ _ ol).trans g4
          have fdtg : ∀ g, (w7.grow g).cell? ⟨ob, oo + q, none⟩ = some (.int .i64 o) := fun g => by rw [cell_grow _ _ _ _ (Nat.lt_of_lt_of_le ol hbX.size)]; exact fdt
          go_wp2
          go_loopw [15, 16] (fun sm kk wx => ∃ r : Nat, r ≤ ps.length ∧ kk = .int .i64 r ∧ sm = .int .i64 (cntZ (os.take r) o : Nat) ∧ Below u3.heap.size u3 wx) (fun _ kk _ => ps.length - (intOf kk).toNat)
          case atStart => exact ⟨0, Nat.zero_le _, rfl, rfl, hbX⟩
          case round =>
            obtain ⟨r, hr, rfl, rfl, hby⟩ := hrel
            have hcl := cntZ_le (os.take r) o
            rw [List.length_take] at hcl
            by_cases hlr : r < ps.length
            · have g5 := hI2.at (k := r) (by rw [HOL.out]; exact hlr)
              have HS := hide (cntZ_snoc (os.take r) (atI os r) o)
              rw [show os.take r ++ [atI os r] = os.take (r + 1) by rw [take_snoc _ _ (by rw [HOL.out]; exact hlr), atI_at (by rw [HOL.out]; exact hlr)]] at HS
              generalize cntZ (os.take r) o = N at *
              generalize atI os r = o2 at *
              have fay : wr.cell? ⟨w.heap.size, 1, none⟩ = some (.slice (some ⟨pb, po, none⟩) ps.length c) := (old_cell hby _ _ hBlt).trans g1
              have fayg : ∀ g, (wr.grow g).cell? ⟨w.heap.size, 1, none⟩ = some (.slice (some ⟨pb, po, none⟩) ps.length c) := fun g => by rw [cell_grow _ _ _ _ (Nat.lt_of_lt_of_le hBlt hby.size)]; exact fay
              have fby : wr.cell? ⟨tb, to1 + q, none⟩ = some (.int .i64 x) := (old_cell hby _ _ tl).trans g2
              have fbyg : ∀ g, (wr.grow g).cell? ⟨tb, to1 + q, none⟩ = some (.int .i64 x) := fun g => by rw [cell_grow _ _ _ _ (Nat.lt_of_lt_of_le tl hby.size)]; exact fby
              have fcy : wr.cell? ⟨pb, po + q * 3 + 1 + 1, none⟩ = some (.int .i64 uq) := (old_cell hby _ _ pl).trans g3
              have fcyg : ∀ g, (wr.grow g).cell? ⟨pb, po + q * 3 + 1 + 1, none⟩ = some (.int .i64 uq) := fun g => by rw [cell_grow _ _ _ _ (Nat.lt_of_lt_of_le pl hby.size)]; exact fcy
              have fdy : wr.cell? ⟨ob, oo + q, none⟩ = some (.int .i64 o) := (old_cell hby _ _ ol).trans g4
              have fdyg : ∀ g, (wr.grow g).cell? ⟨ob, oo + q, none⟩ = some (.int .i64 o) := fun g => by rw [cell_grow _ _ _ _ (Nat.lt_of_lt_of_le ol hby.size)]; exact fdy
              have fey : wr.cell? ⟨ob, oo + r, none⟩ = some (.int .i64 o2) := (old_cell hby _ _ ol).trans g5
              have feyg : ∀ g, (wr.grow g).cell? ⟨ob, oo + r, none⟩ = some (.int .i64 o2) := fun g => by rw [cell_grow _ _ _ _ (Nat.lt_of_lt_of_le ol hby.size)]; exact fey
              by_cases he : o2 = o
              · have hde : decide (o2 = o) = true := by simpa using he
                have hdf : (o2 == o) = true := by simpa using he
                rw [if_pos he] at HS
                have HE := hide he
                clear he
                go_wp2
                refine wp_region_grow (by kernel_rfl) (by kernel_rfl) ?_
                repeat (go_big_quiet_step (fail))
                refine wpQuiet_nil ?_
                intro w8 hb8
                replace hb8 := ex_below hb8
                go_wp2
                go_roundw
                case measure => simp [intOf]; omega
                exact ⟨r + 1, by omega, by go_num, by rw [HS.out]; go_num, below_step hby hb8 hby.size⟩
              · have hde : decide (o2 = o) = false := by simpa using he
                have hdf : (o2 == o) = false := by simpa using he
                rw [if_neg he] at HS
                go_wp2
                refine wp_region_grow (by kernel_rfl) (by kernel_rfl) ?_
                repeat (go_big_quiet_step (fail))
                refine wpQuiet_nil ?_
                intro w8 hb8
                replace hb8 := ex_below hb8
                go_wp2
                go_roundw
                case measure => simp [intOf]; omega
                exact ⟨r + 1, by omega, by go_num, by rw [HS.out]; go_num, below_step hby hb8 hby.size⟩
            · have hrn : r = ps.length := by omega
              subst hrn
              rw [List.take_of_length_le (by rw [HOL.out]; omega)] at hcl ⊢
              generalize cntZ os o = N at *
              have faz : wr.cell? ⟨w.heap.size, 1, none⟩ = some (.slice (some ⟨pb, po, none⟩) ps.length c) := (old_cell hby _ _ hBlt).trans g1
              have fazg : ∀ g, (wr.grow g).cell? ⟨w.heap.size, 1, none⟩ = some (.slice (some ⟨pb, po, none⟩) ps.length c) := fun g => by rw [cell_grow _ _ _ _ (Nat.lt_of_lt_of_le hBlt hby.size)]; exact faz
              have fbz : wr.cell? ⟨tb, to1 + q, none⟩ = some (.int .i64 x) := (old_cell hby _ _ tl).trans g2
              have fbzg : ∀ g, (wr.grow g).cell? ⟨tb, to1 + q, none⟩ = some (.int .i64 x) := fun g => by rw [cell_grow _ _ _ _ (Nat.lt_of_lt_of_le tl hby.size)]; exact fbz
              have fcz : wr.cell? ⟨pb, po + q * 3 + 1 + 1, none⟩ = some (.int .i64 uq) := (old_cell hby _ _ pl).trans g3
              have fczg : ∀ g, (wr.grow g).cell? ⟨pb, po + q * 3 + 1 + 1, none⟩ = some (.int .i64 uq) := fun g => by rw [cell_grow _ _ _ _ (Nat.lt_of_lt_of_le pl hby.size)]; exact fcz
              have fdz : wr.cell? ⟨ob, oo + q, none⟩ = some (.int .i64 o) := (old_cell hby _ _ ol).trans g4
              have fdzg : ∀ g, (wr.grow g).cell? ⟨ob, oo + q, none⟩ = some (.int .i64 o) := fun g => by rw [cell_grow _ _ _ _ (Nat.lt_of_lt_of_le ol hby.size)]; exact fdz
              go_wp2
              go_roundw
              case measure => simp [intOf]; omega
              exact ⟨q + 1, by omega, by go_num, by rw [HF.out, if_neg HFT.out]; go_num, hby⟩
      · have hd0 : decide (o = 0) = false := by simpa using ho
        have hdn : (o != 0) = true := by simp [ho]
        obtain ⟨o1, o2'⟩ := HOR.out ho
        have hd1 : decide (o < x) = false := by simp; omega
        have hd2 : decide (uq < o) = false := by simp; omega
        have hfq : fq = false := by rw [HFq.out, decide_eq_false_iff_not]; omega
        have HFT := hide (show ¬ fq = true by rw [hfq]; decide)
        clear hfq
        go_wp2
        refine wp_region_grow (by kernel_rfl) (by kernel_rfl) ?_
        repeat (go_big_quiet_step (fail))
        refine wpQuiet_nil ?_
        intro w6 hb6
        replace hb6 := ex_below hb6
        have hbw6 := below_step hb hb6 hb.size
        have fas : w6.cell? ⟨w.heap.size, 1, none⟩ = some (.slice (some ⟨pb, po, none⟩) ps.length c) := (old_cell hbw6 _ _ hBlt).trans g1
        have fasg : ∀ g, (w6.grow g).cell? ⟨w.heap.size, 1, none⟩ = some (.slice (some ⟨pb, po, none⟩) ps.length c) := fun g => by rw [cell_grow _ _ _ _ (Nat.lt_of_lt_of_le hBlt hbw6.size)]; exact fas
        have fbs : w6.cell? ⟨tb, to1 + q, none⟩ = some (.int .i64 x) := (old_cell hbw6 _ _ tl).trans g2
        have fbsg : ∀ g, (w6.grow g).cell? ⟨tb, to1 + q, none⟩ = some (.int .i64 x) := fun g => by rw [cell_grow _ _ _ _ (Nat.lt_of_lt_of_le tl hbw6.size)]; exact fbs
        have fcs : w6.cell? ⟨pb, po + q * 3 + 1 + 1, none⟩ = some (.int .i64 uq) := (old_cell hbw6 _ _ pl).trans g3
        have fcsg : ∀ g, (w6.grow g).cell? ⟨pb, po + q * 3 + 1 + 1, none⟩ = some (.int .i64 uq) := fun g => by rw [cell_grow _ _ _ _ (Nat.lt_of_lt_of_le pl hbw6.size)]; exact fcs
        have fds : w6.cell? ⟨ob, oo + q, none⟩ = some (.int .i64 o) := (old_cell hbw6 _ _ ol).trans g4
        have fdsg : ∀ g, (w6.grow g).cell? ⟨ob, oo + q, none⟩ = some (.int .i64 o) := fun g => by rw [cell_grow _ _ _ _ (Nat.lt_of_lt_of_le ol hbw6.size)]; exact fds
        go_wp2
        refine wp_region_grow (by kernel_rfl) (by kernel_rfl) ?_
        repeat (go_big_quiet_step (fail))
        refine wpQuiet_nil ?_
        intro w7 hb7
        replace hb7 := ex_below hb7
        have hbX := below_step hbw6 hb7 hbw6.size
        have fat : w7.cell? ⟨w.heap.size, 1, none⟩ = some (.slice (some ⟨pb, po, none⟩) ps.length c) := (old_cell hbX _ _ hBlt).trans g1
        have fatg : ∀ g, (w7.grow g).cell? ⟨w.heap.size, 1, none⟩ = some (.slice (some ⟨pb, po, none⟩) ps.length c) := fun g => by rw [cell_grow _ _ _ _ (Nat.lt_of_lt_of_le hBlt hbX.size)]; exact fat
        have fbt : w7.cell? ⟨tb, to1 + q, none⟩ = some (.int .i64 x) := (old_cell hbX _ _ tl).trans g2
        have fbtg : ∀ g, (w7.grow g).cell? ⟨tb, to1 + q, none⟩ = some (.int .i64 x) := fun g => by rw [cell_grow _ _ _ _ (Nat.lt_of_lt_of_le tl hbX.size)]; exact fbt
        have fct : w7.cell? ⟨pb, po + q * 3 + 1 + 1, none⟩ = some (.int .i64 uq) := (old_cell hbX _ _ pl).trans g3
        have fctg : ∀ g, (w7.grow g).cell? ⟨pb, po + q * 3 + 1 + 1, none⟩ = some (.int .i64 uq) := fun g => by rw [cell_grow _ _ _ _ (Nat.lt_of_lt_of_le pl hbX.size)]; exact fct
        have fdt : w7.cell? ⟨ob, oo + q, none⟩ = some (.int .i64 o) := (old_cell hbX _ _ ol).trans g4
        have fdtg : ∀ g, (w7.grow g).cell? ⟨ob, oo + q, none⟩ = some (.int .i64 o) := fun g => by rw [cell_grow _ _ _ _ (Nat.lt_of_lt_of_le ol hbX.size)]; exact fdt
        go_wp2
        go_loopw [15, 16] (fun sm kk wx => ∃ r : Nat, r ≤ ps.length ∧ kk = .int .i64 r ∧ sm = .int .i64 (cntZ (os.take r) o : Nat) ∧ Below u3.heap.size u3 wx) (fun _ kk _ => ps.length - (intOf kk).toNat)
        case atStart => exact ⟨0, Nat.zero_le _, rfl, rfl, hbX⟩
        case round =>
          obtain ⟨r, hr, rfl, rfl, hby⟩ := hrel
          have hcl := cntZ_le (os.take r) o
          rw [List.length_take] at hcl
          by_cases hlr : r < ps.length
          · have g5 := hI2.at (k := r) (by rw [HOL.out]; exact hlr)
            have HS := hide (cntZ_snoc (os.take r) (atI os r) o)
            rw [show os.take r ++ [atI os r] = os.take (r + 1) by rw [take_snoc _ _ (by rw [HOL.out]; exact hlr), atI_at (by rw [HOL.out]; exact hlr)]] at HS
            generalize cntZ (os.take r) o = N at *
            generalize atI os r = o2 at *
            have fay : wr.cell? ⟨w.heap.size, 1, none⟩ = some (.slice (some ⟨pb, po, none⟩) ps.length c) := (old_cell hby _ _ hBlt).trans g1
            have fayg : ∀ g, (wr.grow g).cell? ⟨w.heap.size, 1, none⟩ = some (.slice (some ⟨pb, po, none⟩) ps.length c) := fun g => by rw [cell_grow _ _ _ _ (Nat.lt_of_lt_of_le hBlt hby.size)]; exact fay
            have fby : wr.cell? ⟨tb, to1 + q, none⟩ = some (.int .i64 x) := (old_cell hby _ _ tl).trans g2
            have fbyg : ∀ g, (wr.grow g).cell? ⟨tb, to1 + q, none⟩ = some (.int .i64 x) := fun g => by rw [cell_grow _ _ _ _ (Nat.lt_of_lt_of_le tl hby.size)]; exact fby
            have fcy : wr.cell? ⟨pb, po + q * 3 + 1 + 1, none⟩ = some (.int .i64 uq) := (old_cell hby _ _ pl).trans g3
            have fcyg : ∀ g, (wr.grow g).cell? ⟨pb, po + q * 3 + 1 + 1, none⟩ = some (.int .i64 uq) := fun g => by rw [cell_grow _ _ _ _ (Nat.lt_of_lt_of_le pl hby.size)]; exact fcy
            have fdy : wr.cell? ⟨ob, oo + q, none⟩ = some (.int .i64 o) := (old_cell hby _ _ ol).trans g4
            have fdyg : ∀ g, (wr.grow g).cell? ⟨ob, oo + q, none⟩ = some (.int .i64 o) := fun g => by rw [cell_grow _ _ _ _ (Nat.lt_of_lt_of_le ol hby.size)]; exact fdy
            have fey : wr.cell? ⟨ob, oo + r, none⟩ = some (.int .i64 o2) := (old_cell hby _ _ ol).trans g5
            have feyg : ∀ g, (wr.grow g).cell? ⟨ob, oo + r, none⟩ = some (.int .i64 o2) := fun g => by rw [cell_grow _ _ _ _ (Nat.lt_of_lt_of_le ol hby.size)]; exact fey
            by_cases he : o2 = o
            · have hde : decide (o2 = o) = true := by simpa using he
              have hdf : (o2 == o) = true := by simpa using he
              rw [if_pos he] at HS
              have HE := hide he
              clear he
              go_wp2
              refine wp_region_grow (by kernel_rfl) (by kernel_rfl) ?_
              repeat (go_big_quiet_step (fail))
              refine wpQuiet_nil ?_
              intro w8 hb8
              replace hb8 := ex_below hb8
              go_wp2
              go_roundw
              case measure => simp [intOf]; omega
              exact ⟨r + 1, by omega, by go_num, by rw [HS.out]; go_num, below_step hby hb8 hby.size⟩
            · have hde : decide (o2 = o) = false := by simpa using he
              have hdf : (o2 == o) = false := by simpa using he
              rw [if_neg he] at HS
              go_wp2
              refine wp_region_grow (by kernel_rfl) (by kernel_rfl) ?_
              repeat (go_big_quiet_step (fail))
              refine wpQuiet_nil ?_
              intro w8 hb8
              replace hb8 := ex_below hb8
              go_wp2
              go_roundw
              case measure => simp [intOf]; omega
              exact ⟨r + 1, by omega, by go_num, by rw [HS.out]; go_num, below_step hby hb8 hby.size⟩
          · have hrn : r = ps.length := by omega
            subst hrn
            rw [List.take_of_length_le (by rw [HOL.out]; omega)] at hcl ⊢
            have hck := HCK.out ho
            generalize cntZ os o = N at *
            have faz : wr.cell? ⟨w.heap.size, 1, none⟩ = some (.slice (some ⟨pb, po, none⟩) ps.length c) := (old_cell hby _ _ hBlt).trans g1
            have fazg : ∀ g, (wr.grow g).cell? ⟨w.heap.size, 1, none⟩ = some (.slice (some ⟨pb, po, none⟩) ps.length c) := fun g => by rw [cell_grow _ _ _ _ (Nat.lt_of_lt_of_le hBlt hby.size)]; exact faz
            have fbz : wr.cell? ⟨tb, to1 + q, none⟩ = some (.int .i64 x) := (old_cell hby _ _ tl).trans g2
            have fbzg : ∀ g, (wr.grow g).cell? ⟨tb, to1 + q, none⟩ = some (.int .i64 x) := fun g => by rw [cell_grow _ _ _ _ (Nat.lt_of_lt_of_le tl hby.size)]; exact fbz
            have fcz : wr.cell? ⟨pb, po + q * 3 + 1 + 1, none⟩ = some (.int .i64 uq) := (old_cell hby _ _ pl).trans g3
            have fczg : ∀ g, (wr.grow g).cell? ⟨pb, po + q * 3 + 1 + 1, none⟩ = some (.int .i64 uq) := fun g => by rw [cell_grow _ _ _ _ (Nat.lt_of_lt_of_le pl hby.size)]; exact fcz
            have fdz : wr.cell? ⟨ob, oo + q, none⟩ = some (.int .i64 o) := (old_cell hby _ _ ol).trans g4
            have fdzg : ∀ g, (wr.grow g).cell? ⟨ob, oo + q, none⟩ = some (.int .i64 o) := fun g => by rw [cell_grow _ _ _ _ (Nat.lt_of_lt_of_le ol hby.size)]; exact fdz
            go_wp2
            go_roundw
            case measure => simp [intOf]; omega
            exact ⟨q + 1, by omega, by go_num, by rw [HF.out, if_neg HFT.out]; go_num, hby⟩
    · have hqn : q = ps.length := by omega
      subst hqn
      have hls := HCF.out
      generalize (List.range ps.length).countP F = cn at *
      replace hA := hA.ext hb
      replace hB := hB.below hb
      replace hW := below_step hW hb (by have := hW.size; omega)
      have hBc0 := hB.c0
      have hBc1 := hB.c1
      have hBlt := hB.lt
      by_cases hf : mhi ≤ k
      · have hs0 := HSH.out hf
        have hdf : decide (mhi ≤ k) = true := by simpa using hf
        rw [hdf] at hcan
        rw [hs0] at hls
        have hc0 : cn = 0 := by omega
        subst hs0 hc0
        have tok0 : True := trivial
        go_wp2_with (first
    | (clear tok0; go_at_call 24; refine (hma.out _ (hA.ext (by (repeat (first | exact Below.refl _ _ | assumption | (refine below_gr ?_ (by (first | omega | (simp only [size_grow, World.size_alloc, size_drewN, size_drew, size_setCell] at *; omega))) _) | (refine below_alloc ?_ (by (first | omega | (simp only [size_grow, World.size_alloc, size_drewN, size_drew, size_setCell] at *; omega))) _) | (refine Below.setCell ?_ (by (first | omega | (simp only [size_grow, World.size_alloc, size_drewN, size_drew, size_setCell] at *; omega))) _) | refine below_drewN ?_ _ | refine below_drew ?_ | (refine below_step ?_ (by assumption) (by (first | omega | (simp only [size_grow, World.size_alloc, size_drewN, size_drew, size_setCell] at *; omega))))))))).mono ?_; rintro e u1 ⟨rfl, hb1⟩; replace hb1 := ex_below hb1; have bel1 : Below wr.heap.size wr u1 := (by (repeat (first | exact Below.refl _ _ | assumption | (refine below_gr ?_ (by (first | omega | (simp only [size_grow, World.size_alloc, size_drewN, size_drew, size_setCell] at *; omega))) _) | (refine below_alloc ?_ (by (first | omega | (simp only [size_grow, World.size_alloc, size_drewN, size_drew, size_setCell] at *; omega))) _) | (refine Below.setCell ?_ (by (first | omega | (simp only [size_grow, World.size_alloc, size_drewN, size_drew, size_setCell] at *; omega))) _) | refine below_drewN ?_ _ | refine below_drew ?_ | (refine below_step ?_ (by assumption) (by (first | omega | (simp only [size_grow, World.size_alloc, size_drewN, size_drew, size_setCell] at *; omega))))))); clear hb1; have sz1 := bel1.size; replace hA := hA.ext bel1; replace hB := hB.below bel1; replace hW := below_step hW bel1 (by have := hW.size; omega); (try clear hBc0 hBc1 hBlt); have hBc0 := hB.c0; have hBc1 := hB.c1; have hBlt := hB.lt; clear bel1; have tok1 : True := trivial)
    | (clear tok1; go_at_call 38; refine (hcan.out _ (hA.ext (by (repeat (first | exact Below.refl _ _ | assumption | (refine below_gr ?_ (by (first | omega | (simp only [size_grow, World.size_alloc, size_drewN, size_drew, size_setCell] at *; omega))) _) | (refine below_alloc ?_ (by (first | omega | (simp only [size_grow, World.size_alloc, size_drewN, size_drew, size_setCell] at *; omega))) _) | (refine Below.setCell ?_ (by (first | omega | (simp only [size_grow, World.size_alloc, size_drewN, size_drew, size_setCell] at *; omega))) _) | refine below_drewN ?_ _ | refine below_drew ?_ | (refine below_step ?_ (by assumption) (by (first | omega | (simp only [size_grow, World.size_alloc, size_drewN, size_drew, size_setCell] at *; omega))))))))).mono ?_; rintro e u2 ⟨rfl, hb2⟩; replace hb2 := ex_below hb2; have bob2 : Below (u1.alloc (.cells #[.int .i64 mlo, .int .i64 mhi] 36)).heap.size (u1.alloc (.cells #[.int .i64 mlo, .int .i64 mhi] 36)) u2 := (by (repeat (first | exact Below.refl _ _ | assumption | (refine below_gr ?_ (by (first | omega | (simp only [size_grow, World.size_alloc, size_drewN, size_drew, size_setCell] at *; omega))) _) | (refine below_alloc ?_ (by (first | omega | (simp only [size_grow, World.size_alloc, size_drewN, size_drew, size_setCell] at *; omega))) _) | (refine Below.setCell ?_ (by (first | omega | (simp only [size_grow, World.size_alloc, size_drewN, size_drew, size_setCell] at *; omega))) _) | refine below_drewN ?_ _ | refine below_drew ?_ | (refine below_step ?_ (by assumption) (by (first | omega | (simp only [size_grow, World.size_alloc, size_drewN, size_drew, size_setCell] at *; omega))))))); have hR := (ObjV.new u1 36 (.int .i64 mlo) (.int .i64 mhi)).below bob2; have bel2 : Below u1.heap.size u1 u2 := (by (repeat (first | exact Below.refl _ _ | assumption | (refine below_gr ?_ (by (first | omega | (simp only [size_grow, World.size_alloc, size_drewN, size_drew, size_setCell] at *; omega))) _) | (refine below_alloc ?_ (by (first | omega | (simp only [size_grow, World.size_alloc, size_drewN, size_drew, size_setCell] at *; omega))) _) | (refine Below.setCell ?_ (by (first | omega | (simp only [size_grow, World.size_alloc, size_drewN, size_drew, size_setCell] at *; omega))) _) | refine below_drewN ?_ _ | refine below_drew ?_ | (refine below_step ?_ (by assumption) (by (first | omega | (simp only [size_grow, World.size_alloc, size_drewN, size_drew, size_setCell] at *; omega))))))); clear bob2; clear hb2; have sz2 := bel2.size; replace hA := hA.ext bel2; replace hB := hB.below bel2; replace hW := below_step hW bel2 (by have := hW.size; omega); (try clear hBc0 hBc1 hBlt); have hBc0 := hB.c0; have hBc1 := hB.c1; have hBlt := hB.lt; (try clear hRc0 hRc1 hRlt); have hRc0 := hR.c0; have hRc1 := hR.c1; have hRlt := hR.lt; clear bel2; have tok2 : True := trivial)
    | (clear tok2; go_at_call 17; refine (works_any _).mono ?_; rintro e u3 ⟨rfl, hb3⟩; replace hb3 := ex_below hb3; have bel3 : Below u2.heap.size u2 u3 := (by (repeat (first | exact Below.refl _ _ | assumption | (refine below_gr ?_ (by (first | omega | (simp only [size_grow, World.size_alloc, size_drewN, size_drew, size_setCell] at *; omega))) _) | (refine below_alloc ?_ (by (first | omega | (simp only [size_grow, World.size_alloc, size_drewN, size_drew, size_setCell] at *; omega))) _) | (refine Below.setCell ?_ (by (first | omega | (simp only [size_grow, World.size_alloc, size_drewN, size_drew, size_setCell] at *; omega))) _) | refine below_drewN ?_ _ | refine below_drew ?_ | (refine below_step ?_ (by assumption) (by (first | omega | (simp only [size_grow, World.size_alloc, size_drewN, size_drew, size_setCell] at *; omega))))))); clear hb3; have sz3 := bel3.size; replace hA := hA.ext bel3; replace hB := hB.below bel3; replace hW := below_step hW bel3 (by have := hW.size; omega); replace hR := hR.below bel3; (try clear hBc0 hBc1 hBlt); have hBc0 := hB.c0; have hBc1 := hB.c1; have hBlt := hB.lt; (try clear hRc0 hRc1 hRlt); have hRc0 := hR.c0; have hRc1 := hR.c1; have hRlt := hR.lt; clear bel3; have tok3 : True := trivial))
        go_ret
        exact gives_of (rfl) (by (repeat (first | exact Below.refl _ _ | assumption | (refine below_gr ?_ (by (first | omega | (simp only [size_grow, World.size_alloc, size_drewN, size_drew, size_setCell] at *; omega))) _) | (refine below_alloc ?_ (by (first | omega | (simp only [size_grow, World.size_alloc, size_drewN, size_drew, size_setCell] at *; omega))) _) | (refine Below.setCell ?_ (by (first | omega | (simp only [size_grow, World.size_alloc, size_drewN, size_drew, size_setCell] at *; omega))) _) | refine below_drewN ?_ _ | refine below_drew ?_ | (refine below_step ?_ (by assumption) (by (first | omega | (simp only [size_grow, World.size_alloc, size_drewN, size_drew, size_setCell] at *; omega)))))))
      · have hdf : decide (mhi ≤ k) = false := by simpa using hf
        rw [hdf] at hcan
        subst hls
        have tok0 : True := trivial
        go_wp2_with (first
    | (clear tok0; go_at_call 24; refine (hma.out _ (hA.ext (by (repeat (first | exact Below.refl _ _ | assumption | (refine below_gr ?_ (by (first | omega | (simp only [size_grow, World.size_alloc, size_drewN, size_drew, size_setCell] at *; omega))) _) | (refine below_alloc ?_ (by (first | omega | (simp only [size_grow, World.size_alloc, size_drewN, size_drew, size_setCell] at *; omega))) _) | (refine Below.setCell ?_ (by (first | omega | (simp only [size_grow, World.size_alloc, size_drewN, size_drew, size_setCell] at *; omega))) _) | refine below_drewN ?_ _ | refine below_drew ?_ | (refine below_step ?_ (by assumption) (by (first | omega | (simp only [size_grow, World.size_alloc, size_drewN, size_drew, size_setCell] at *; omega))))))))).mono ?_; rintro e u1 ⟨rfl, hb1⟩; replace hb1 := ex_below hb1; have bel1 : Below wr.heap.size wr u1 := (by (repeat (first | exact Below.refl _ _ | assumption | (refine below_gr ?_ (by (first | omega | (simp only [size_grow, World.size_alloc, size_drewN, size_drew, size_setCell] at *; omega))) _) | (refine below_alloc ?_ (by (first | omega | (simp only [size_grow, World.size_alloc, size_drewN, size_drew, size_setCell] at *; omega))) _) | (refine Below.setCell ?_ (by (first | omega | (simp only [size_grow, World.size_alloc, size_drewN, size_drew, size_setCell] at *; omega))) _) | refine below_drewN ?_ _ | refine below_drew ?_ | (refine below_step ?_ (by assumption) (by (first | omega | (simp only [size_grow, World.size_alloc, size_drewN, size_drew, size_setCell] at *; omega))))))); clear hb1; have sz1 := bel1.size; replace hA := hA.ext bel1; replace hB := hB.below bel1; replace hW := below_step hW bel1 (by have := hW.size; omega); (try clear hBc0 hBc1 hBlt); have hBc0 := hB.c0; have hBc1 := hB.c1; have hBlt := hB.lt; clear bel1; have tok1 : True := trivial)
    | (clear tok1; go_at_call 38; refine (hcan.out _ (hA.ext (by (repeat (first | exact Below.refl _ _ | assumption | (refine below_gr ?_ (by (first | omega | (simp only [size_grow, World.size_alloc, size_drewN, size_drew, size_setCell] at *; omega))) _) | (refine below_alloc ?_ (by (first | omega | (simp only [size_grow, World.size_alloc, size_drewN, size_drew, size_setCell] at *; omega))) _) | (refine Below.setCell ?_ (by (first | omega | (simp only [size_grow, World.size_alloc, size_drewN, size_drew, size_setCell] at *; omega))) _) | refine below_drewN ?_ _ | refine below_drew ?_ | (refine below_step ?_ (by assumption) (by (first | omega | (simp only [size_grow, World.size_alloc, size_drewN, size_drew, size_setCell] at *; omega))))))))).mono ?_; rintro e u2 ⟨rfl, hb2⟩; replace hb2 := ex_below hb2; have bob2 : Below (u1.alloc (.cells #[.int .i64 mlo, .int .i64 mhi] 36)).heap.size (u1.alloc (.cells #[.int .i64 mlo, .int .i64 mhi] 36)) u2 := (by (repeat (first | exact Below.refl _ _ | assumption | (refine below_gr ?_ (by (first | omega | (simp only [size_grow, World.size_alloc, size_drewN, size_drew, size_setCell] at *; omega))) _) | (refine below_alloc ?_ (by (first | omega | (simp only [size_grow, World.size_alloc, size_drewN, size_drew, size_setCell] at *; omega))) _) | (refine Below.setCell ?_ (by (first | omega | (simp only [size_grow, World.size_alloc, size_drewN, size_drew, size_setCell] at *; omega))) _) | refine below_drewN ?_ _ | refine below_drew ?_ | (refine below_step ?_ (by assumption) (by (first | omega | (simp only [size_grow, World.size_alloc, size_drewN, size_drew, size_setCell] at *; omega))))))); have hR := (ObjV.new u1 36 (.int .i64 mlo) (.int .i64 mhi)).below bob2; have bel2 : Below u1.heap.size u1 u2 := (by (repeat (first | exact Below.refl _ _ | assumption | (refine below_gr ?_ (by (first | omega | (simp only [size_grow, World.size_alloc, size_drewN, size_drew, size_setCell] at *; omega))) _) | (refine below_alloc ?_ (by (first | omega | (simp only [size_grow, World.size_alloc, size_drewN, size_drew, size_setCell] at *; omega))) _) | (refine Below.setCell ?_ (by (first | omega | (simp only [size_grow, World.size_alloc, size_drewN, size_drew, size_setCell] at *; omega))) _) | refine below_drewN ?_ _ | refine below_drew ?_ | (refine below_step ?_ (by assumption) (by (first | omega | (simp only [size_grow, World.size_alloc, size_drewN, size_drew, size_setCell] at *; omega))))))); clear bob2; clear hb2; have sz2 := bel2.size; replace hA := hA.ext bel2; replace hB := hB.below bel2; replace hW := below_step hW bel2 (by have := hW.size; omega); (try clear hBc0 hBc1 hBlt); have hBc0 := hB.c0; have hBc1 := hB.c1; have hBlt := hB.lt; (try clear hRc0 hRc1 hRlt); have hRc0 := hR.c0; have hRc1 := hR.c1; have hRlt := hR.lt; clear bel2; have tok2 : True := trivial)
    | (clear tok2; go_at_call 17; refine (works_any _).mono ?_; rintro e u3 ⟨rfl, hb3⟩; replace hb3 := ex_below hb3; have bel3 : Below u2.heap.size u2 u3 := (by (repeat (first | exact Below.refl _ _ | assumption | (refine below_gr ?_ (by (first | omega | (simp only [size_grow, World.size_alloc, size_drewN, size_drew, size_setCell] at *; omega))) _) | (refine below_alloc ?_ (by (first | omega | (simp only [size_grow, World.size_alloc, size_drewN, size_drew, size_setCell] at *; omega))) _) | (refine Below.setCell ?_ (by (first | omega | (simp only [size_grow, World.size_alloc, size_drewN, size_drew, size_setCell] at *; omega))) _) | refine below_drewN ?_ _ | refine below_drew ?_ | (refine below_step ?_ (by assumption) (by (first | omega | (simp only [size_grow, World.size_alloc, size_drewN, size_drew, size_setCell] at *; omega))))))); clear hb3; have sz3 := bel3.size; replace hA := hA.ext bel3; replace hB := hB.below bel3; replace hW := below_step hW bel3 (by have := hW.size; omega); replace hR := hR.below bel3; (try clear hBc0 hBc1 hBlt); have hBc0 := hB.c0; have hBc1 := hB.c1; have hBlt := hB.lt; (try clear hRc0 hRc1 hRlt); have hRc0 := hR.c0; have hRc1 := hR.c1; have hRlt := hR.lt; clear bel3; have tok3 : True := trivial))
        go_ret
        exact gives_of (rfl) (by (repeat (first | exact Below.refl _ _ | assumption | (refine below_gr ?_ (by (first | omega | (simp only [size_grow, World.size_alloc, size_drewN, size_drew, size_setCell] at *; omega))) _) | (refine below_alloc ?_ (by (first | omega | (simp only [size_grow, World.size_alloc, size_drewN, size_drew, size_setCell] at *; omega))) _) | (refine Below.setCell ?_ (by (first | omega | (simp only [size_grow, World.size_alloc, size_drewN, size_drew, size_setCell] at *; omega))) _) | refine below_drewN ?_ _ | refine below_drew ?_ | (refine below_step ?_ (by assumption) (by (first | omega | (simp only [size_grow, World.size_alloc, size_drewN, size_drew, size_setCell] at *; omega)))))))
set_option maxRecDepth 100000 in
set_option maxHeartbeats 1000000 in
theorem served_any (m : Int) (A : Option Addr) (ps : List P3) (c : Nat) (w : World) (hA : Ppl w A ps) (B : Option Addr) (bs : List Int) (d : Nat) (hB8 : U8L w B bs) (z : Int) (hz : 0 ≤ z ∧ z ≤ 255) :
    Calls Try.prog 8 #[.agg #[.int .i64 m, .slice A ps.length c], .slice B bs.length d, .int .u8 z] w (Gives w (.bool true)) := by
  by_cases hfine : ps.length ≤ 40 ∧ checkHall m ps = 0
  · by_cases hbl : 40 < bs.length
    · have hfi := hide (fun W hW => by have := fine_all m A ps c W hW; rw [decide_eq_true hfine] at this; exact this : ∀ W, Ppl W A ps → Calls Try.prog 37 #[.agg #[.int .i64 m, .slice A ps.length c]] W (Gives W (.bool true)))
      have HBL := hide hbl
      go_enter Try.func8, Try.ntmps8
      go_wp2_with (first
        | (go_at_call 37; refine (hfi.out _ (hA.ext (by (repeat (first | exact Below.refl _ _ | assumption | (refine below_gr ?_ (by (first | omega | (simp only [size_grow, World.size_alloc, size_drewN, size_drew, size_setCell] at *; omega))) _) | (refine below_alloc ?_ (by (first | omega | (simp only [size_grow, World.size_alloc, size_drewN, size_drew, size_setCell] at *; omega))) _) | (refine Below.setCell ?_ (by (first | omega | (simp only [size_grow, World.size_alloc, size_drewN, size_drew, size_setCell] at *; omega))) _) | refine below_drewN ?_ _ | refine below_drew ?_ | (refine below_step ?_ (by assumption) (by (first | omega | (simp only [size_grow, World.size_alloc, size_drewN, size_drew, size_setCell] at *; omega))))))))).mono ?_; rintro e w1 ⟨rfl, hb1⟩; replace hb1 := ex_below hb1; have hz1 := hb1.size; (try simp only [size_grow, World.size_alloc, size_drewN, size_drew, size_setCell] at hz1); have hs1 : w.heap.size < w1.heap.size := (by (first | omega | (simp only [size_grow, World.size_alloc, size_drewN, size_drew, size_setCell] at *; omega))); have ho1 := own_cell hb1 (b := w.heap.size) (by (first | omega | (simp only [size_grow, World.size_alloc, size_drewN, size_drew, size_setCell] at *; omega))); have hq1 := own_frozen hb1 (b := w.heap.size) (by (first | omega | (simp only [size_grow, World.size_alloc, size_drewN, size_drew, size_setCell] at *; omega))); have hlt1 : ∀ b, b < w.heap.size → b < w1.heap.size := fun b hb => (by (first | omega | (simp only [size_grow, World.size_alloc, size_drewN, size_drew, size_setCell] at *; omega))); have hc1 : ∀ b o, b < w.heap.size → w1.cell? ⟨b, o, none⟩ = w.cell? ⟨b, o, none⟩ := old_cell (by (repeat (first | exact Below.refl _ _ | assumption | (refine below_gr ?_ (by (first | omega | (simp only [size_grow, World.size_alloc, size_drewN, size_drew, size_setCell] at *; omega))) _) | (refine below_alloc ?_ (by (first | omega | (simp only [size_grow, World.size_alloc, size_drewN, size_drew, size_setCell] at *; omega))) _) | (refine Below.setCell ?_ (by (first | omega | (simp only [size_grow, World.size_alloc, size_drewN, size_drew, size_setCell] at *; omega))) _) | refine below_drewN ?_ _ | refine below_drew ?_ | (refine below_step ?_ (by assumption) (by (first | omega | (simp only [size_grow, World.size_alloc, size_drewN, size_drew, size_setCell] at *; omega))))))))
        | (go_at_call 17; refine (works_any _).mono ?_; rintro e w9 ⟨rfl, hb1⟩; replace hb1 := ex_below hb1; have hz1 := hb1.size; (try simp only [size_grow, World.size_alloc, size_drewN, size_drew, size_setCell] at hz1); have hs1 : w.heap.size < w9.heap.size := (by (first | omega | (simp only [size_grow, World.size_alloc, size_drewN, size_drew, size_setCell] at *; omega))); have ho1 := own_cell hb1 (b := w.heap.size) (by (first | omega | (simp only [size_grow, World.size_alloc, size_drewN, size_drew, size_setCell] at *; omega))); have hq1 := own_frozen hb1 (b := w.heap.size) (by (first | omega | (simp only [size_grow, World.size_alloc, size_drewN, size_drew, size_setCell] at *; omega))); have hlt1 : ∀ b, b < w.heap.size → b < w9.heap.size := fun b hb => (by (first | omega | (simp only [size_grow, World.size_alloc, size_drewN, size_drew, size_setCell] at *; omega))); have hc1 : ∀ b o, b < w.heap.size → w9.cell? ⟨b, o, none⟩ = w.cell? ⟨b, o, none⟩ := old_cell (by (repeat (first | exact Below.refl _ _ | assumption | (refine below_gr ?_ (by (first | omega | (simp only [size_grow, World.size_alloc, size_drewN, size_drew, size_setCell] at *; omega))) _) | (refine below_alloc ?_ (by (first | omega | (simp only [size_grow, World.size_alloc, size_drewN, size_drew, size_setCell] at *; omega))) _) | (refine Below.setCell ?_ (by (first | omega | (simp only [size_grow, World.size_alloc, size_drewN, size_drew, size_setCell] at *; omega))) _) | refine below_drewN ?_ _ | refine below_drew ?_ | (refine below_step ?_ (by assumption) (by (first | omega | (simp only [size_grow, World.size_alloc, size_drewN, size_drew, size_setCell] at *; omega)))))))))
      all_goals first | omega | (go_ret; exact gives_of (rfl) (by (repeat (first | exact Below.refl _ _ | assumption | (refine below_gr ?_ (by (first | omega | (simp only [size_grow, World.size_alloc, size_drewN, size_drew, size_setCell] at *; omega))) _) | (refine below_alloc ?_ (by (first | omega | (simp only [size_grow, World.size_alloc, size_drewN, size_drew, size_setCell] at *; omega))) _) | (refine Below.setCell ?_ (by (first | omega | (simp only [size_grow, World.size_alloc, size_drewN, size_drew, size_setCell] at *; omega))) _) | refine below_drewN ?_ _ | refine below_drew ?_ | (refine below_step ?_ (by assumption) (by (first | omega | (simp only [size_grow, World.size_alloc, size_drewN, size_drew, size_setCell] at *; omega))))))))
    · have h0 := hfine.2
      have hok := okay_of h0
      obtain ⟨v1, v2, v3, v4⟩ := check_val h0
      have hl : ps.length ≤ 100 := by omega
      have hk0 : 0 ≤ z % 31 := by omega
      have hk1 : z % 31 ≤ 30 := by omega
      have ha := asked_zero h0 hk0 hk1
      have htl := truthL_len bs ps
      have htr := truthL_ok hok bs
      refine served_walk m (z % 31) A ps c w hA hfine B bs d hB8 (by omega) z hz rfl hk0 hk1 (truthL bs ps) (outS m ps (z % 31) (truthL bs ps)) (shutS m ps (z % 31) (truthL bs ps)) (fewest m (ps.map soonP)) (fewest m ps) (lateF ps (truthL bs ps) (outS m ps (z % 31) (truthL bs ps))) ?_ ?_ (fun W hW => vmach m A ps c W hW hl h0) (fun W hW => can_T (z % 31) m A ps c W hW hl ha) htl outS_len (fun i => rfl) ?_ ?_ ?_
      · intro W hW hW8
        refine (truth_any B bs d m A ps c W hW hl hW8 (by omega) (fun p hp => by have := v4 p hp; omega)).mono ?_
        rintro e w' ⟨A', c', rfl, hg, hr⟩
        rw [htl]
        exact ⟨A', c', rfl, hg, own_i64 (c := c') hr⟩
      · intro W A1 c1 hW hI
        have := pserve_T (z % 31) A1 (truthL bs ps) c1 m A ps c W hW hl hI (by omega)
        have e : serveV m ps (z % 31) (truthL bs ps) = (outS m ps (z % 31) (truthL bs ps), (shutS m ps (z % 31) (truthL bs ps) : Int), 0) := by
          unfold serveV; rw [if_neg (by simp [ha]), if_neg (by simp [htl]), if_neg (by simp [htr])]
        rw [e, htl] at this
        refine this.mono ?_
        rintro e w' ⟨A', c', rfl, hg, hi⟩
        exact ⟨A', c', by simp only [outS_len], hg, hi⟩
      · rw [late_shutS hok]
      · intro hf
        rw [truth_few hok hk0 htl htr hf]; rfl
      · intro i hi
        refine ⟨fun h => outS_at i hi h, fun h => ?_⟩
        have h1 := served_range (u := untN ps) (cm := truthL bs ps) (n := ps.length) (mc := (z % 31).toNat) m.toNat i
        exact outS_cnt (by omega) hk0 _ (by unfold outS at h ⊢; omega)
  · have hfi := hide (fun W hW => by have := fine_all m A ps c W hW; rw [decide_eq_false hfine] at this; exact this : ∀ W, Ppl W A ps → Calls Try.prog 37 #[.agg #[.int .i64 m, .slice A ps.length c]] W (Gives W (.bool false)))
    go_enter Try.func8, Try.ntmps8
    go_wp2_with (first
      | (go_at_call 37; refine (hfi.out _ (hA.ext (by (repeat (first | exact Below.refl _ _ | assumption | (refine below_gr ?_ (by (first | omega | (simp only [size_grow, World.size_alloc, size_drewN, size_drew, size_setCell] at *; omega))) _) | (refine below_alloc ?_ (by (first | omega | (simp only [size_grow, World.size_alloc, size_drewN, size_drew, size_setCell] at *; omega))) _) | (refine Below.setCell ?_ (by (first | omega | (simp only [size_grow, World.size_alloc, size_drewN, size_drew, size_setCell] at *; omega))) _) | refine below_drewN ?_ _ | refine below_drew ?_ | (refine below_step ?_ (by assumption) (by (first | omega | (simp only [size_grow, World.size_alloc, size_drewN, size_drew, size_setCell] at *; omega))))))))).mono ?_; rintro e w1 ⟨rfl, hb1⟩; replace hb1 := ex_below hb1; have hz1 := hb1.size; (try simp only [size_grow, World.size_alloc, size_drewN, size_drew, size_setCell] at hz1); have hs1 : w.heap.size < w1.heap.size := (by (first | omega | (simp only [size_grow, World.size_alloc, size_drewN, size_drew, size_setCell] at *; omega))); have ho1 := own_cell hb1 (b := w.heap.size) (by (first | omega | (simp only [size_grow, World.size_alloc, size_drewN, size_drew, size_setCell] at *; omega))); have hq1 := own_frozen hb1 (b := w.heap.size) (by (first | omega | (simp only [size_grow, World.size_alloc, size_drewN, size_drew, size_setCell] at *; omega))); have hlt1 : ∀ b, b < w.heap.size → b < w1.heap.size := fun b hb => (by (first | omega | (simp only [size_grow, World.size_alloc, size_drewN, size_drew, size_setCell] at *; omega))); have hc1 : ∀ b o, b < w.heap.size → w1.cell? ⟨b, o, none⟩ = w.cell? ⟨b, o, none⟩ := old_cell (by (repeat (first | exact Below.refl _ _ | assumption | (refine below_gr ?_ (by (first | omega | (simp only [size_grow, World.size_alloc, size_drewN, size_drew, size_setCell] at *; omega))) _) | (refine below_alloc ?_ (by (first | omega | (simp only [size_grow, World.size_alloc, size_drewN, size_drew, size_setCell] at *; omega))) _) | (refine Below.setCell ?_ (by (first | omega | (simp only [size_grow, World.size_alloc, size_drewN, size_drew, size_setCell] at *; omega))) _) | refine below_drewN ?_ _ | refine below_drew ?_ | (refine below_step ?_ (by assumption) (by (first | omega | (simp only [size_grow, World.size_alloc, size_drewN, size_drew, size_setCell] at *; omega))))))))
      | (go_at_call 17; refine (works_any _).mono ?_; rintro e w9 ⟨rfl, hb1⟩; replace hb1 := ex_below hb1; have hz1 := hb1.size; (try simp only [size_grow, World.size_alloc, size_drewN, size_drew, size_setCell] at hz1); have hs1 : w.heap.size < w9.heap.size := (by (first | omega | (simp only [size_grow, World.size_alloc, size_drewN, size_drew, size_setCell] at *; omega))); have ho1 := own_cell hb1 (b := w.heap.size) (by (first | omega | (simp only [size_grow, World.size_alloc, size_drewN, size_drew, size_setCell] at *; omega))); have hq1 := own_frozen hb1 (b := w.heap.size) (by (first | omega | (simp only [size_grow, World.size_alloc, size_drewN, size_drew, size_setCell] at *; omega))); have hlt1 : ∀ b, b < w.heap.size → b < w9.heap.size := fun b hb => (by (first | omega | (simp only [size_grow, World.size_alloc, size_drewN, size_drew, size_setCell] at *; omega))); have hc1 : ∀ b o, b < w.heap.size → w9.cell? ⟨b, o, none⟩ = w.cell? ⟨b, o, none⟩ := old_cell (by (repeat (first | exact Below.refl _ _ | assumption | (refine below_gr ?_ (by (first | omega | (simp only [size_grow, World.size_alloc, size_drewN, size_drew, size_setCell] at *; omega))) _) | (refine below_alloc ?_ (by (first | omega | (simp only [size_grow, World.size_alloc, size_drewN, size_drew, size_setCell] at *; omega))) _) | (refine Below.setCell ?_ (by (first | omega | (simp only [size_grow, World.size_alloc, size_drewN, size_drew, size_setCell] at *; omega))) _) | refine below_drewN ?_ _ | refine below_drew ?_ | (refine below_step ?_ (by assumption) (by (first | omega | (simp only [size_grow, World.size_alloc, size_drewN, size_drew, size_setCell] at *; omega)))))))))
    go_ret
    exact gives_of (rfl) (by (repeat (first | exact Below.refl _ _ | assumption | (refine below_gr ?_ (by (first | omega | (simp only [size_grow, World.size_alloc, size_drewN, size_drew, size_setCell] at *; omega))) _) | (refine below_alloc ?_ (by (first | omega | (simp only [size_grow, World.size_alloc, size_drewN, size_drew, size_setCell] at *; omega))) _) | (refine Below.setCell ?_ (by (first | omega | (simp only [size_grow, World.size_alloc, size_drewN, size_drew, size_setCell] at *; omega))) _) | refine below_drewN ?_ _ | refine below_drew ?_ | (refine below_step ?_ (by assumption) (by (first | omega | (simp only [size_grow, World.size_alloc, size_drewN, size_drew, size_setCell] at *; omega)))))))
end Go.Proofs.Ytbfhkknpocbeaaa
