/- Proved here: contracts and laws of C36, a part of the proofs about the crowd laws: what some functions of the program and of the reference compute, and plain facts about it. Conditions: those that each theorem names, no others. -/
import Derived.Test.YtbfhkknpocbeaaaC33
import Derived.WalkKit
import Derived.WalkSpells
import Derived.WalkLawsBesides
import Derived.Below
import Derived.Deep.QuietTactic
import Derived.BigQuiet
import Derived.Deep.Light

set_option linter.unusedSimpArgs false
set_option linter.unusedVariables false
namespace Go.Proofs.Ytbfhkknpocbeaaa
open Go.RowKit
def bestV : Option Nat → Int
  | none => -1
  | some b => b
def St2 (w0 wr : World) (n : Nat) (out : List Int) : Prop := Below n w0 wr ∧ OwnI wr n out
set_option maxRecDepth 100000 in
set_option maxHeartbeats 2000000 in
theorem rserved_any (m : Nat) (A : Option Addr) (ps : List P3) (c mc : Nat) (C : Option Addr) (cm : List Int) (cc : Nat) (w : World) (hA : Ppl w A ps) (hl : ps.length ≤ 100) (hC : I64 w C cm)
    (hlen : cm.length = ps.length) (hm : m ≤ 60) (hu : ∀ i, i < ps.length → untN ps i ≤ m) (hmc : mc ≤ 30) :
    Calls Try.prog 64 #[.agg #[.int .i64 m, .slice A ps.length c], .int .i64 mc, .slice C ps.length cc] w (GivesServe w (servedT (untN ps) cm ps.length mc m) (shutN (untN ps) cm (servedT (untN ps) cm ps.length mc m) ps.length (m + 1))) := by
  have hmk := run_makeI ps.length (by omega)
  have hun : ∀ k, (h : k < ps.length) → ps[k].un = untN ps k := fun k h => by simp [untN, List.getD_eq_getElem?_getD, h]
  have HUN := hide hun
  clear hun
  generalize untN ps = u at *
  have HLEN := hide hlen
  clear hlen
  go_enter Try.func64, Try.ntmps64
  go_wp2
  go_loopw [9, 10, 11, 12, 13] (fun mi _ _ _ _ wr => ∃ (T : Nat) (t : Int), t = (T : Int) + 1 ∧ T ≤ m ∧ mi = .int .i64 t ∧ St2 (w.alloc (Obj.cells #[Value.int IntKind.i64 m, Value.slice A ps.length c] 24)) wr (w.heap.size + 1) (servedT u cm ps.length mc T)) (fun mi _ _ _ _ _ => m + 1 - (intOf mi).toNat)
  case atStart =>
    refine ⟨0, 1, rfl, Nat.zero_le _, rfl, by (repeat (first | exact Below.refl _ _ | assumption | (refine below_gr ?_ (by (first | omega | (simp only [size_grow, World.size_alloc, size_drewN, size_drew, size_setCell] at *; omega))) _) | (refine below_alloc ?_ (by (first | omega | (simp only [size_grow, World.size_alloc, size_drewN, size_drew, size_setCell] at *; omega))) _) | (refine Below.setCell ?_ (by (first | omega | (simp only [size_grow, World.size_alloc, size_drewN, size_drew, size_setCell] at *; omega))) _) | refine below_drewN ?_ _ | refine below_drew ?_ | (refine below_step ?_ (by assumption) (by (first | omega | (simp only [size_grow, World.size_alloc, size_drewN, size_drew, size_setCell] at *; omega)))))), ?_⟩
    have := OwnI.new (w.alloc (Obj.cells #[Value.int IntKind.i64 m, Value.slice A ps.length c] 24)) (List.replicate ps.length 0)
    simpa [servedT] using this
  case round =>
    obtain ⟨T, t, ht, hT, rfl, hst⟩ := hrel
    have hol := servedT_len (u := u) (cm := cm) (n := ps.length) (mc := mc) T
    have hlast := hide (show servedT u cm ps.length mc (T + 1) = minuteM u cm ps.length t mc (servedT u cm ps.length mc T) by rw [ht]; rfl)
    generalize hgo : servedT u cm ps.length mc T = out at *
    replace hgo := hide hgo
    have ht1 : 1 ≤ t := by omega
    have ht2 : t ≤ m + 1 := by omega
    have hT1 := hide ht
    clear ht
    obtain ⟨hBA, hOA⟩ := hst
    have hbwA : Below w.heap.size w wr := ((Below.refl _ w).alloc (Nat.le_refl _) _).trans (hBA.mono (by simp))
    have hzA := hBA.size
    (try simp only [World.size_alloc] at hzA)
    have hloA := hOA.lt
    have e0A := own_cell hBA (b := w.heap.size) (by omega)
    have q0A := own_frozen hBA (b := w.heap.size) (by omega)
    have hcA : ∀ b o, b < w.heap.size → wr.cell? ⟨b, o, none⟩ = w.cell? ⟨b, o, none⟩ := old_cell hbwA
    have hltA : ∀ b, b < w.heap.size → b < wr.heap.size := fun b hb => (by omega)
    by_cases hlt : t ≤ m
    · go_wp2
      obtain ⟨wo, rfl⟩ : ∃ wo : World, wo = wr := ⟨_, rfl⟩
      go_loopw [10, 11, 12, 13] (fun mi _ _ _ wr => ∃ j : Nat, j ≤ mc ∧ mi = .int .i64 j ∧ St2 (w.alloc (Obj.cells #[Value.int IntKind.i64 m, Value.slice A ps.length c] 24)) wr (w.heap.size + 1) (minuteM u cm ps.length t j out)) (fun mi _ _ _ _ => mc - (intOf mi).toNat)
      case atStart => exact ⟨0, Nat.zero_le _, rfl, hBA, hOA⟩
      case round =>
        obtain ⟨j, hj, rfl, hst⟩ := hrel
        have hojl : (minuteM u cm ps.length t j out).length = ps.length := by rw [minuteM_len, hol]
        have hnext := hide (show minuteM u cm ps.length t (j + 1) out = stepM u cm ps.length t (minuteM u cm ps.length t j out) from rfl)
        generalize hoj : minuteM u cm ps.length t j out = oj at *
        replace hoj := hide hoj
        clear hBA hOA hbwA hzA hloA e0A q0A hcA hltA
        obtain ⟨hBB, hOB⟩ := hst
        have hbwB : Below w.heap.size w wr := ((Below.refl _ w).alloc (Nat.le_refl _) _).trans (hBB.mono (by simp))
        have hzB := hBB.size
        (try simp only [World.size_alloc] at hzB)
        have hloB := hOB.lt
        have e0B := own_cell hBB (b := w.heap.size) (by omega)
        have q0B := own_frozen hBB (b := w.heap.size) (by omega)
        have hcB : ∀ b o, b < w.heap.size → wr.cell? ⟨b, o, none⟩ = w.cell? ⟨b, o, none⟩ := old_cell hbwB
        have hltB : ∀ b, b < w.heap.size → b < wr.heap.size := fun b hb => (by omega)
        by_cases hlj : j < mc
        · go_wp2
          obtain ⟨wo2, rfl⟩ : ∃ wo2 : World, wo2 = wr := ⟨_, rfl⟩
          go_loopw [11, 12, 13] (fun bs i _ wr => ∃ (q : Nat) (v : Int), q ≤ ps.length ∧ i = .int .i64 q ∧ bs = .int .i64 v ∧ bestV (pickN (inQ u cm oj t) u q) = v ∧ wr = wo2) (fun _ i _ _ => ps.length - (intOf i).toNat)
          case atStart => exact ⟨0, -1, Nat.zero_le _, rfl, rfl, rfl, rfl⟩
          case round =>
            obtain ⟨q, v, hq, rfl, rfl, hv, rfl⟩ := hrel
            by_cases hlq : q < ps.length
            · obtain ⟨b, off, hAe, hbl, hbl2, -, -, hp2⟩ := hA q ps[q] (by simp [hlq])
              rw [HUN.out q hlq] at hp2
              obtain ⟨tb, toff, hCe, htl, htl2, ht0⟩ := hC q (atI cm q) (by rw [atI_lt cm q (by rw [HLEN.out]; exact hlq)])
              have hoc := hOB.cell (k := q) (by omega)
              have HQ := hide (show inQ u cm oj t q = decide (atI oj q = 0 ∧ atI cm q ≤ t ∧ atI cm q ≤ u q ∧ t ≤ u q) from rfl)
              have hnx := show pickN (inQ u cm oj t) u (q + 1) = match pickN (inQ u cm oj t) u q with | none => if inQ u cm oj t q = true then some q else none | some b => if inQ u cm oj t q = true ∧ u q < u b then some q else some b from rfl
              cases hp : pickN (inQ u cm oj t) u q with
              | none =>
                rw [hp] at hnx hv
                have hv1 : v = -1 := hv.symm
                have H1 := hide (show inQ u cm oj t q = true → bestV (pickN (inQ u cm oj t) u (q + 1)) = q from fun h => by rw [hnx]; simp only [h, if_true]; rfl)
                have H2 := hide (show inQ u cm oj t q = false → bestV (pickN (inQ u cm oj t) u (q + 1)) = -1 from fun h => by rw [hnx]; simp only [h, Bool.false_eq_true, if_false]; rfl)
                clear hnx hv hp
                subst hv1 hAe hCe
                generalize atI oj q = x at *
                generalize atI cm q = y at *
                generalize u q = uq at *
                go_wp2
                all_goals
                  first
                    | exact ⟨⟨q + 1, -1, by omega, by go_num, by go_num, H2.out (by rw [HQ.out, decide_eq_false_iff_not]; omega), by trivial⟩, by simp [intOf]; omega⟩
                    | exact ⟨⟨q + 1, q, by omega, by go_num, by go_num, H1.out (by rw [HQ.out, decide_eq_true_eq]; omega), by trivial⟩, by simp [intOf]; omega⟩
              | some bb =>
                rw [hp] at hnx hv
                have hv1 : v = bb := hv.symm
                obtain ⟨hb1, -, -⟩ := pickN_some hp
                have hbn : bb < ps.length := by omega
                obtain ⟨b', off', hAe', -, -, -, -, hq2⟩ := hA bb ps[bb] (by simp [hbn])
                rw [HUN.out bb hbn] at hq2
                rw [hAe] at hAe'
                injection hAe' with hAe'
                injection hAe' with e1 e2 _
                subst e1 e2
                have H1 := hide (show inQ u cm oj t q = true → u q < u bb → bestV (pickN (inQ u cm oj t) u (q + 1)) = q from fun h h' => by rw [hnx]; simp only [h, h', and_self, if_true]; rfl)
                have H2 := hide (show ¬ (inQ u cm oj t q = true ∧ u q < u bb) → bestV (pickN (inQ u cm oj t) u (q + 1)) = bb from fun h => by rw [hnx]; simp only; rw [if_neg h]; rfl)
                clear hnx hv hp
                subst hv1 hAe hCe
                generalize atI oj q = x at *
                generalize atI cm q = y at *
                generalize hU : u q = uq at *
                replace hU := hide hU
                generalize hV : u bb = ub at *
                replace hV := hide hV
                go_wp2
                all_goals
                  first
                    | exact ⟨⟨q + 1, bb, by omega, by go_num, by go_num, H2.out (by rw [HQ.out, decide_eq_true_eq]; omega), by trivial⟩, by simp [intOf]; omega⟩
                    | exact ⟨⟨q + 1, q, by omega, by go_num, by go_num, H1.out (by rw [HQ.out, decide_eq_true_eq]; omega) (by omega), by trivial⟩, by simp [intOf]; omega⟩
            · have hqn : q = ps.length := by omega
              subst hqn
              have hsm := show stepM u cm ps.length t oj = match pickN (inQ u cm oj t) u ps.length with | none => oj | some b => oj.set b t from rfl
              cases hp : pickN (inQ u cm oj t) u ps.length with
              | none =>
                rw [hp] at hsm hv
                have hv1 : v = -1 := hv.symm
                have HS := hide hsm
                clear hsm hv hp
                subst hv1
                go_wp2
                go_roundw
                case measure => simp [intOf]; omega
                exact ⟨j + 1, by omega, by go_num, hBB, by rw [hnext.out, HS.out]; exact hOB⟩
              | some bb =>
                rw [hp] at hsm hv
                have hv1 : v = bb := hv.symm
                obtain ⟨hb1, -, -⟩ := pickN_some hp
                have HS := hide hsm
                clear hsm hv hp
                subst hv1
                have hoc := hOB.cell (k := bb) (by omega)
                have hof := hOB.frozen bb
                go_wp2
                go_roundw
                case measure => simp [intOf]; omega
                exact ⟨j + 1, by omega, by go_num, Below.setCell (p := ⟨w.heap.size + 1, bb, none⟩) hBB (Nat.le_refl _) _, by rw [hnext.out, HS.out]; exact hOB.set bb t⟩
        · have hjm : j = mc := by omega
          subst hjm
          go_wp2
          go_roundw
          case measure => simp [intOf]; omega
          exact ⟨T + 1, t + 1, by have := hT1.out; omega, by have := hT1.out; omega, by go_num, hBB, by rw [hlast.out, hoj.out]; exact hOB⟩
    · have hTm : T = m := by have := hT1.out; omega
      subst hTm
      have HSN := hide (show shutN u cm out ps.length (T + 1) = (List.range ps.length).countP (fun i => decide (atI cm i ≤ u i ∧ atI out i = 0 ∧ u i < (T : Int) + 1)) from rfl)
      have HST := hide (fun q => show (List.range (q + 1)).countP (fun i => decide (atI cm i ≤ u i ∧ atI out i = 0 ∧ u i < (T : Int) + 1)) = (List.range q).countP (fun i => decide (atI cm i ≤ u i ∧ atI out i = 0 ∧ u i < (T : Int) + 1)) + if atI cm q ≤ u q ∧ atI out q = 0 ∧ u q < (T : Int) + 1 then 1 else 0 by
        rw [List.range_succ, List.countP_append]; by_cases h : atI cm q ≤ u q ∧ atI out q = 0 ∧ u q < (T : Int) + 1 <;> simp [List.countP_cons, h])
      have HCL := hide (fun q => show (List.range q).countP (fun i => decide (atI cm i ≤ u i ∧ atI out i = 0 ∧ u i < (T : Int) + 1)) ≤ q from Nat.le_trans List.countP_le_length (by simp))
      generalize (fun i : Nat => decide (atI cm i ≤ u i ∧ atI out i = 0 ∧ u i < (T : Int) + 1)) = F at *
      go_wp2
      go_loopw [14, 15] (fun sh i wr => ∃ q : Nat, q ≤ ps.length ∧ i = .int .i64 q ∧ sh = .int .i64 ((List.range q).countP F : Nat) ∧ St2 (w.alloc (Obj.cells #[Value.int IntKind.i64 T, Value.slice A ps.length c] 24)) wr (w.heap.size + 1) out) (fun _ i _ => ps.length - (intOf i).toNat)
      case atStart => exact ⟨0, Nat.zero_le _, rfl, rfl, hBA, hOA⟩
      case round =>
        obtain ⟨q, hq, rfl, rfl, hst⟩ := hrel
        clear hBA hOA hbwA hzA hloA e0A q0A hcA hltA
        obtain ⟨hBB, hOB⟩ := hst
        have hbwB : Below w.heap.size w wr := ((Below.refl _ w).alloc (Nat.le_refl _) _).trans (hBB.mono (by simp))
        have hzB := hBB.size
        (try simp only [World.size_alloc] at hzB)
        have hloB := hOB.lt
        have e0B := own_cell hBB (b := w.heap.size) (by omega)
        have q0B := own_frozen hBB (b := w.heap.size) (by omega)
        have hcB : ∀ b o, b < w.heap.size → wr.cell? ⟨b, o, none⟩ = w.cell? ⟨b, o, none⟩ := old_cell hbwB
        have hltB : ∀ b, b < w.heap.size → b < wr.heap.size := fun b hb => (by omega)
        have hcl := HCL.out q
        by_cases hlq : q < ps.length
        · obtain ⟨b, off, hAe, hbl, hbl2, -, -, hp2⟩ := hA q ps[q] (by simp [hlq])
          have huq := hu q hlq
          rw [HUN.out q hlq] at hp2
          obtain ⟨tb, toff, hCe, htl, htl2, ht0⟩ := hC q (atI cm q) (by rw [atI_lt cm q (by rw [HLEN.out]; exact hlq)])
          have hoc := hOB.cell (k := q) (by omega)
          have HC := hide (HST.out q)
          generalize (List.range q).countP F = cn at *
          subst hAe hCe
          generalize atI out q = x at *
          generalize atI cm q = y at *
          generalize u q = uq at *
          have e01 : wr.cell? ⟨w.heap.size, 1, none⟩ = some (.slice (some ⟨b, off, none⟩) ps.length c) := by rw [e0B]; simp [go_sem]
          have hg1 : ∀ g, (wr.grow g).cell? ⟨tb, toff + q, none⟩ = some (.int .i64 y) := fun g => by rw [cell_grow _ _ _ _ (hltB _ htl), hcB _ _ htl]; exact ht0
          have hg2 : ∀ g, (wr.grow g).cell? ⟨b, off + q * 3 + 1 + 1, none⟩ = some (.int .i64 uq) := fun g => by rw [cell_grow _ _ _ _ (hltB _ hbl), hcB _ _ hbl]; exact hp2
          have hg3 : ∀ g, (wr.grow g).cell? ⟨w.heap.size, 1, none⟩ = some (.slice (some ⟨b, off, none⟩) ps.length c) := fun g => by rw [cell_grow _ _ _ _ (by omega)]; exact e01
          have hg4 : ∀ g, (wr.grow g).cell? ⟨w.heap.size + 1, q, none⟩ = some (.int .i64 x) := fun g => by rw [cell_grow _ _ _ _ hloB]; exact hoc
          by_cases hy : y ≤ uq
          · have hd : decide (y ≤ uq) = true := by simpa using hy
            by_cases hx : x = 0
            · have hd2 : decide (x = 0) = true := by simpa using hx
              go_wp2
              refine wp_region_grow (by kernel_rfl) (by kernel_rfl) ?_
              repeat (go_big_quiet_step (fail))
              refine wpQuiet_nil ?_
              intro w2 hb2
              replace hb2 := ex_below hb2
              have hz2 := hb2.size
              (try simp only [size_grow, World.size_alloc, size_drewN, size_drew, size_setCell] at hz2)
              have hlt2 : ∀ b, b < w.heap.size → b < w2.heap.size := fun b hb => (by (first | omega | (simp only [size_grow, World.size_alloc, size_drewN, size_drew, size_setCell] at *; omega)))
              have hc2 : ∀ b o, b < w.heap.size → w2.cell? ⟨b, o, none⟩ = w.cell? ⟨b, o, none⟩ := old_cell (by (repeat (first | exact Below.refl _ _ | assumption | (refine below_gr ?_ (by (first | omega | (simp only [size_grow, World.size_alloc, size_drewN, size_drew, size_setCell] at *; omega))) _) | (refine below_alloc ?_ (by (first | omega | (simp only [size_grow, World.size_alloc, size_drewN, size_drew, size_setCell] at *; omega))) _) | (refine Below.setCell ?_ (by (first | omega | (simp only [size_grow, World.size_alloc, size_drewN, size_drew, size_setCell] at *; omega))) _) | refine below_drewN ?_ _ | refine below_drew ?_ | (refine below_step ?_ (by assumption) (by (first | omega | (simp only [size_grow, World.size_alloc, size_drewN, size_drew, size_setCell] at *; omega)))))))
              go_wp2
              exact ⟨⟨q + 1, by omega, by go_num, by rw [HC.out, if_pos ⟨hy, hx, by omega⟩]; go_num, hBB.trans (hb2.mono (by omega)), hOB.below hb2⟩, by simp [intOf]; omega⟩
            · have hd2 : decide (x = 0) = false := by simpa using hx
              go_wp2
              refine wp_region_grow (by kernel_rfl) (by kernel_rfl) ?_
              repeat (go_big_quiet_step (fail))
              refine wpQuiet_nil ?_
              intro w2 hb2
              replace hb2 := ex_below hb2
              have hz2 := hb2.size
              (try simp only [size_grow, World.size_alloc, size_drewN, size_drew, size_setCell] at hz2)
              have hlt2 : ∀ b, b < w.heap.size → b < w2.heap.size := fun b hb => (by (first | omega | (simp only [size_grow, World.size_alloc, size_drewN, size_drew, size_setCell] at *; omega)))
              have hc2 : ∀ b o, b < w.heap.size → w2.cell? ⟨b, o, none⟩ = w.cell? ⟨b, o, none⟩ := old_cell (by (repeat (first | exact Below.refl _ _ | assumption | (refine below_gr ?_ (by (first | omega | (simp only [size_grow, World.size_alloc, size_drewN, size_drew, size_setCell] at *; omega))) _) | (refine below_alloc ?_ (by (first | omega | (simp only [size_grow, World.size_alloc, size_drewN, size_drew, size_setCell] at *; omega))) _) | (refine Below.setCell ?_ (by (first | omega | (simp only [size_grow, World.size_alloc, size_drewN, size_drew, size_setCell] at *; omega))) _) | refine below_drewN ?_ _ | refine below_drew ?_ | (refine below_step ?_ (by assumption) (by (first | omega | (simp only [size_grow, World.size_alloc, size_drewN, size_drew, size_setCell] at *; omega)))))))
              go_wp2
              exact ⟨⟨q + 1, by omega, by go_num, by rw [HC.out, if_neg (by omega)]; go_num, hBB.trans (hb2.mono (by omega)), hOB.below hb2⟩, by simp [intOf]; omega⟩
          · have hd : decide (y ≤ uq) = false := by simpa using hy
            go_wp2
            refine wp_region_grow (by kernel_rfl) (by kernel_rfl) ?_
            repeat (go_big_quiet_step (fail))
            refine wpQuiet_nil ?_
            intro w2 hb2
            replace hb2 := ex_below hb2
            have hz2 := hb2.size
            (try simp only [size_grow, World.size_alloc, size_drewN, size_drew, size_setCell] at hz2)
            have hlt2 : ∀ b, b < w.heap.size → b < w2.heap.size := fun b hb => (by (first | omega | (simp only [size_grow, World.size_alloc, size_drewN, size_drew, size_setCell] at *; omega)))
            have hc2 : ∀ b o, b < w.heap.size → w2.cell? ⟨b, o, none⟩ = w.cell? ⟨b, o, none⟩ := old_cell (by (repeat (first | exact Below.refl _ _ | assumption | (refine below_gr ?_ (by (first | omega | (simp only [size_grow, World.size_alloc, size_drewN, size_drew, size_setCell] at *; omega))) _) | (refine below_alloc ?_ (by (first | omega | (simp only [size_grow, World.size_alloc, size_drewN, size_drew, size_setCell] at *; omega))) _) | (refine Below.setCell ?_ (by (first | omega | (simp only [size_grow, World.size_alloc, size_drewN, size_drew, size_setCell] at *; omega))) _) | refine below_drewN ?_ _ | refine below_drew ?_ | (refine below_step ?_ (by assumption) (by (first | omega | (simp only [size_grow, World.size_alloc, size_drewN, size_drew, size_setCell] at *; omega)))))))
            go_wp2
            exact ⟨⟨q + 1, by omega, by go_num, by rw [HC.out, if_neg (by omega)]; go_num, hBB.trans (hb2.mono (by omega)), hOB.below hb2⟩, by simp [intOf]; omega⟩
        · have hqn : q = ps.length := by omega
          subst hqn
          go_wp2
          go_ret2
          rw [hgo.out]
          exact ⟨some ⟨w.heap.size + 1, 0, none⟩, ps.length, by rw [hol, HSN.out]; rfl, below_grow hbwB, hOB.i64⟩
end Go.Proofs.Ytbfhkknpocbeaaa
