/- Proved here: the law TapeWrong, a part of the proofs about the tape laws. Conditions: those that each theorem names, no others. -/
import Derived.Test.YtafncmgijbkomaaP30
import Derived.WalkKit
import Derived.WalkSpells
import Derived.WalkLawsBesides
import Derived.Below
import Derived.Deep.QuietTactic
import Derived.BigQuiet
import Derived.Deep.Light
import Derived.Test.YtafncmgijbkomaaE6
import Derived.Test.YtafncmgijbkomaaE5
import Derived.Test.YtafncmgijbkomaaP22
import Derived.Test.YtafncmgijbkomaaP26
import Derived.Test.YtafncmgijbkomaaP27
import Derived.Deep.RegionHeld3
import Derived.Deep.RegionLaw
import Derived.Deep.DeepCutAuto
import Derived.Deep.CutBlock

set_option linter.unusedSimpArgs false
set_option linter.unusedVariables false
namespace Go.Proofs.Ytafncmgijbkomaa
open Go.RowKit Go.Maps Go.Lib
set_option maxRecDepth 100000 in
set_option maxHeartbeats 16000000 in
theorem wrong_law (W : Int) (A : Option Addr) (ts : List ByteArray) (c : Nat) (w : World) (hA : Strs w A ts) (hl9 : ts.length ≤ 9223372036854775807) (hs9 : ∀ s, s ∈ ts → s.size ≤ 9223372036854775807) (l : Nat) (hl8 : l < 256) : Calls Try.prog 14 #[.agg #[.int .i64 W, .slice A ts.length c], .int .u8 (l : Nat)] w (Gives w (.bool true)) := by
  have tok0 : True := trivial
  have HFI := hide (fun w' (hA : Strs w' A ts) => fine_any W A ts c w' hA hl9 hs9)
  cases hf : fineB W ts with
  | false =>
    rw [hf] at HFI
    go_enter Try.func14, Try.ntmps14
    go_wp2_with (first
    | (clear tok0; go_at_call 42; refine (HFI.out _ (hA.ext (by (repeat (first | exact Below.refl _ _ | assumption | refine below_drewN ?_ _ | refine below_drew ?_ | refine below_gr ?_ ?_ _ | refine below_alloc ?_ ?_ _ | refine Below.setCell ?_ ?_ _ | refine below_step ?_ (by assumption) ?_ | omega | (simp only [zz] at *; omega)))))).mono ?_; rintro e u1 ⟨rfl, hb1⟩; replace hb1 := ex_below hb1; have bob1 : Below (w.alloc (.cells #[.int .i64 W, .slice A ts.length c] 24)).heap.size (w.alloc (.cells #[.int .i64 W, .slice A ts.length c] 24)) u1 := (by (repeat (first | exact Below.refl _ _ | assumption | refine below_drewN ?_ _ | refine below_drew ?_ | refine below_gr ?_ ?_ _ | refine below_alloc ?_ ?_ _ | refine Below.setCell ?_ ?_ _ | refine below_step ?_ (by assumption) ?_ | omega | (simp only [zz] at *; omega)))); have hX := (ObjV.new w 24 (.int .i64 W) (.slice A ts.length c)).below bob1; have bel1 : Below w.heap.size w u1 := (by (repeat (first | exact Below.refl _ _ | assumption | refine below_drewN ?_ _ | refine below_drew ?_ | refine below_gr ?_ ?_ _ | refine below_alloc ?_ ?_ _ | refine Below.setCell ?_ ?_ _ | refine below_step ?_ (by assumption) ?_ | omega | (simp only [zz] at *; omega)))); clear bob1; clear hb1; have sz1 := bel1.size; replace hA := hA.ext bel1; (try clear hXc0 hXc1 hXlt); have hXc0 := hX.c0; have hXc1 := hX.c1; have hXlt := hX.lt; have hW := bel1; clear bel1; have tok1 : True := trivial)
    | (clear tok1; go_at_call 18; refine (works_any _).mono ?_; rintro e u2 ⟨rfl, hb2⟩; replace hb2 := ex_below hb2; have bel2 : Below u1.heap.size u1 u2 := (by (repeat (first | exact Below.refl _ _ | assumption | refine below_drewN ?_ _ | refine below_drew ?_ | refine below_gr ?_ ?_ _ | refine below_alloc ?_ ?_ _ | refine Below.setCell ?_ ?_ _ | refine below_step ?_ (by assumption) ?_ | omega | (simp only [zz] at *; omega)))); clear hb2; have sz2 := bel2.size; replace hA := hA.ext bel2; replace hX := hX.below bel2; replace hW := below_step hW bel2 (by have := hW.size; omega); (try clear hXc0 hXc1 hXlt); have hXc0 := hX.c0; have hXc1 := hX.c1; have hXlt := hX.lt; clear bel2; have tok2 : True := trivial))
    go_ret
    exact gives_of rfl hW
  | true =>
    rw [hf] at HFI
    obtain ⟨hl, hsz⟩ := fine_len hf
    have hc := fine_chk hf
    obtain ⟨hW1, hW2, h30, h3, hsm, hfi, -⟩ := chk_val hc
    obtain ⟨i0, ih, iz, is, ib⟩ := info_parts infoI
    obtain ⟨n, hxn, hn⟩ : ∃ n : Nat, (l : Int) % 20 = (n : Nat) ∧ n < 20 := ⟨l % 20, by omega, by omega⟩
    obtain ⟨L, hL1, hL2, hLN, hLB, hLS, hLF, hLO⟩ := wrong_fine hc (n := n) (by omega)
    obtain ⟨M, hM1, hM2, -, -, -, -, -⟩ := wrong_fine hc (n := n + 1) (by omega)
    have hML : M.length ≤ L.length := by rw [hL2, hM2]; exact wrong_more hc n
    have HWL : Hid (∀ w', Strs w' A ts → Calls Try.prog 37 #[.agg #[.int .i64 W, .slice A ts.length c], .int .i64 (n : Nat)] w' (fun e w'' => ∃ A' c', e = .returned (.tuple #[.slice A' L.length c', .int .i64 0]) ∧ Grew w' w'' ∧ I64 w'' A' (natI L))) := hide (fun w' hA => by
      have h := Wrong_any W A ts c w' hA hl hsz (n : Nat)
      rw [hL1] at h
      unfold GivesIntsL at h
      simpa only [natI_len] using h)
    have HWM : Hid (∀ w', Strs w' A ts → Calls Try.prog 37 #[.agg #[.int .i64 W, .slice A ts.length c], .int .i64 ((n : Int) + 1)] w' (fun e w'' => ∃ A' c', e = .returned (.tuple #[.slice A' M.length c', .int .i64 0]) ∧ Grew w' w'' ∧ I64 w'' A' (natI M))) := hide (fun w' hA => by
      have h := Wrong_any W A ts c w' hA hl hsz ((n + 1 : Nat) : Int)
      rw [hM1] at h
      unfold GivesIntsL at h
      rw [show ((n + 1 : Nat) : Int) = (n : Int) + 1 by omega] at h
      simpa only [natI_len] using h)
    have HFEW : Hid (∀ (l : List Int), 0 < (othB ts l ts.length).length → ∀ w' A2 c2, Strs w' A2 (othB ts l ts.length) → Calls Try.prog 23 #[.agg #[.int .i64 W, .slice A2 (othB ts l ts.length).length c2]] w' (Gives w' (.tuple #[.int .i64 (Tm.fewN W.toNat (lts (othB ts l ts.length)) : Nat), .int .i64 0]))) := hide (fun l h0 w' A2 c2 h => by
      have hcu := oth_chk hc l h0
      have := Fewest_any W A2 (othB ts l ts.length) c2 w' h (Nat.le_trans (othB_len _ _ _) hl) (chk_val hcu).2.2.2.2.2.2.1
      rwa [show fewR W (othB ts l ts.length) = (((Tm.fewN W.toNat (lts (othB ts l ts.length)) : Nat) : Int), 0) by simp [fewR, hcu]] at this)
    have HOT0 : Hid (∀ (L : List Nat), L.length ≤ 1000 → ∀ w', Strs w' A ts → ∀ AL cL, I64 w' AL (natI L) → Calls Try.prog 51 #[.slice A ts.length c, .slice AL L.length cL] w' (GivesStrs w' (othB ts (natI L) ts.length))) := hide (fun L h0 w' hA AL cL hL => by
      have h := rOthers_any A ts c AL (natI L) cL w' hA hL hl (by rw [natI_len]; exact h0)
      rwa [natI_len] at h)
    have HOT := hide (HOT0.out L (by omega))
    have HFU := hide (HFEW.out (natI L))
    have hsh := wrap_small h3
    have hN8 : 2 ^ ts.length ≤ 8 := Nat.pow_le_pow_right (n := 2) (by omega) h3
    have HNO : Hid (∀ b, b < 2 ^ ts.length → (Tm.bitsL ts.length b).length < L.length → ∃ (vs : List ByteArray) (fv : Nat), Hid (∀ w', Strs w' A ts → ∀ AL cL, I64 w' AL (natI (Tm.bitsL ts.length b)) → Calls Try.prog 51 #[.slice A ts.length c, .slice AL (Tm.bitsL ts.length b).length cL] w' (GivesStrs w' vs)) ∧ n < fv ∧ Hid (∀ w' A2 c2, Strs w' A2 vs → Calls Try.prog 23 #[.agg #[.int .i64 W, .slice A2 vs.length c2]] w' (Gives w' (.tuple #[.int .i64 (fv : Nat), .int .i64 0])))) := hide (fun b hb h => by
      obtain ⟨g1, g2⟩ := hLO b hb h
      exact ⟨_, _, hide (HOT0.out _ (by omega)), g1, hide (HFEW.out _ g2)⟩)
    generalize othB ts (natI L) ts.length = us at *
    generalize Tm.fewN W.toNat (lts us) = fu at *
    obtain ⟨NN, hNN⟩ : ∃ NN, 2 ^ ts.length = NN := ⟨_, rfl⟩
    rw [hNN] at hsh hN8 HNO
    have HSH := hide hsh
    clear hsh
    have HLB := hide hLB
    have HLS := hide hLS
    have hq1 : decide (ts.length < L.length) = false := decide_eq_false (by omega)
    have hq2 : decide (L.length < M.length) = false := decide_eq_false (by omega)
    have hq3 : decide (n < fu) = false := decide_eq_false (by omega)
    unfold GivesStrs at HOT
    unfold GivesStrs at HNO
    clear hNN hLO hLB hLS hLF hL1 hL2 hM1 hM2 HFEW HOT0 hsm hfi
    replace hc := hide hc
    go_enter Try.func14, Try.ntmps14
    go_wp2_with (first
    | (clear tok0; go_at_call 42; refine (HFI.out _ (hA.ext (by (repeat (first | exact Below.refl _ _ | assumption | refine below_drewN ?_ _ | refine below_drew ?_ | refine below_gr ?_ ?_ _ | refine below_alloc ?_ ?_ _ | refine Below.setCell ?_ ?_ _ | refine below_step ?_ (by assumption) ?_ | omega | (simp only [zz] at *; omega)))))).mono ?_; rintro e u1 ⟨rfl, hb1⟩; replace hb1 := ex_below hb1; have bob1 : Below (w.alloc (.cells #[.int .i64 W, .slice A ts.length c] 24)).heap.size (w.alloc (.cells #[.int .i64 W, .slice A ts.length c] 24)) u1 := (by (repeat (first | exact Below.refl _ _ | assumption | refine below_drewN ?_ _ | refine below_drew ?_ | refine below_gr ?_ ?_ _ | refine below_alloc ?_ ?_ _ | refine Below.setCell ?_ ?_ _ | refine below_step ?_ (by assumption) ?_ | omega | (simp only [zz] at *; omega)))); have hX := (ObjV.new w 24 (.int .i64 W) (.slice A ts.length c)).below bob1; have bel1 : Below w.heap.size w u1 := (by (repeat (first | exact Below.refl _ _ | assumption | refine below_drewN ?_ _ | refine below_drew ?_ | refine below_gr ?_ ?_ _ | refine below_alloc ?_ ?_ _ | refine Below.setCell ?_ ?_ _ | refine below_step ?_ (by assumption) ?_ | omega | (simp only [zz] at *; omega)))); clear bob1; clear hb1; have sz1 := bel1.size; replace hA := hA.ext bel1; (try clear hXc0 hXc1 hXlt); have hXc0 := hX.c0; have hXc1 := hX.c1; have hXlt := hX.lt; have hW := bel1; clear bel1; have tok1 : True := trivial)
    | (clear tok1; go_at_call 37; refine (HWL.out _ (hA.ext (by (repeat (first | exact Below.refl _ _ | assumption | refine below_drewN ?_ _ | refine below_drew ?_ | refine below_gr ?_ ?_ _ | refine below_alloc ?_ ?_ _ | refine Below.setCell ?_ ?_ _ | refine below_step ?_ (by assumption) ?_ | omega | (simp only [zz] at *; omega)))))).mono ?_; rintro e u2 ⟨AL, cL, rfl, hb2, hL⟩; replace hb2 := ex_below hb2; have bel2 : Below u1.heap.size u1 u2 := (by (repeat (first | exact Below.refl _ _ | assumption | refine below_drewN ?_ _ | refine below_drew ?_ | refine below_gr ?_ ?_ _ | refine below_alloc ?_ ?_ _ | refine Below.setCell ?_ ?_ _ | refine below_step ?_ (by assumption) ?_ | omega | (simp only [zz] at *; omega)))); clear hb2; have sz2 := bel2.size; replace hA := hA.ext bel2; replace hX := hX.below bel2; replace hW := below_step hW bel2 (by have := hW.size; omega); (try clear hXc0 hXc1 hXlt); have hXc0 := hX.c0; have hXc1 := hX.c1; have hXlt := hX.lt; clear bel2; have tok2 : True := trivial)
    | (clear tok2; go_at_call 37; refine (HWM.out _ (hA.ext (by (repeat (first | exact Below.refl _ _ | assumption | refine below_drewN ?_ _ | refine below_drew ?_ | refine below_gr ?_ ?_ _ | refine below_alloc ?_ ?_ _ | refine Below.setCell ?_ ?_ _ | refine below_step ?_ (by assumption) ?_ | omega | (simp only [zz] at *; omega)))))).mono ?_; rintro e u3 ⟨AM, cM, rfl, hb3, -⟩; replace hb3 := ex_below hb3; have bel3 : Below u2.heap.size u2 u3 := (by (repeat (first | exact Below.refl _ _ | assumption | refine below_drewN ?_ _ | refine below_drew ?_ | refine below_gr ?_ ?_ _ | refine below_alloc ?_ ?_ _ | refine Below.setCell ?_ ?_ _ | refine below_step ?_ (by assumption) ?_ | omega | (simp only [zz] at *; omega)))); clear hb3; have sz3 := bel3.size; replace hA := hA.ext bel3; replace hX := hX.below bel3; replace hW := below_step hW bel3 (by have := hW.size; omega); replace hL := hL.ext bel3; (try clear hXc0 hXc1 hXlt); have hXc0 := hX.c0; have hXc1 := hX.c1; have hXlt := hX.lt; clear bel3; have tok3 : True := trivial))
    go_loopw [10] (fun i wr => ∃ k : Nat, k ≤ L.length ∧ i = .int .i64 (k : Nat) ∧ Below u3.heap.size u3 wr) (fun i _ => L.length - (intOf i).toNat)
    case atStart => exact ⟨0, Nat.zero_le _, rfl, Below.refl _ _⟩
    case round =>
      obtain ⟨k, hk, rfl, hb⟩ := hrel
      have hbr := hb
      have szwr := hb.size
      replace hA := hA.ext hb
      replace hX := hX.below hb
      (try clear hXc0 hXc1 hXlt)
      have hXc0 := hX.c0
      have hXc1 := hX.c1
      have hXlt := hX.lt
      replace hW := below_step hW hb (by have := hW.size; omega)
      replace hL := hL.ext hb
      clear hb
      by_cases hkl : k < L.length
      · have hkli : (k : Int) < (L.length : Nat) := by omega
        have hk0 : (0 : Int) ≤ (k : Int) := by omega
        obtain ⟨pb, po, hpA, hpb, _, cp⟩ := hL k ((L[k] : Nat) : Int) (by simp [natI, hkl])
        subst hpA
        have hx1 : decide (((L[k] : Nat) : Int) < 0) = false := decide_eq_false (by omega)
        have hx2 : decide (((ts.length : Nat) : Int) ≤ (L[k] : Nat)) = false := decide_eq_false (by have := HLB.out k hkl; omega)
        have hx2n : decide (ts.length ≤ L[k]) = false := decide_eq_false (by have := HLB.out k hkl; omega)
        by_cases hkz : k = 0
        · have hkzi : decide ((0 : Int) < (k : Int)) = false := decide_eq_false (by omega)
          have hkzn : decide (0 < k) = false := decide_eq_false (by omega)
          replace hkz := hide hkz
          generalize L[k] = x at *
          go_wp2
          refine wp_region_grow (by kernel_rfl) (by kernel_rfl) ?_
          repeat (go_big_quiet_step (fail))
          refine wpQuiet_nil ?_
          intro wq hbq
          replace hbq := ex_below hbq
          go_wp2
          go_roundw
          case rel => exact ⟨k + 1, by omega, by go_num, by (repeat (first | exact Below.refl _ _ | assumption | (refine below_gr ?_ (by (first | omega | (simp only [zz] at *; omega))) _) | (refine below_alloc ?_ (by (first | omega | (simp only [zz] at *; omega))) _) | (refine Below.setCell ?_ (by (first | omega | (simp only [zz] at *; omega))) _) | refine below_drewN ?_ _ | refine below_drew ?_ | (refine below_step ?_ (by assumption) (by (first | omega | (simp only [zz] at *; omega))))))⟩
          case measure => simp [intOf]; omega
        · have hkzi : decide ((0 : Int) < (k : Int)) = true := decide_eq_true (by omega)
          have hkzn : decide (0 < k) = true := decide_eq_true (by omega)
          obtain ⟨j, hkj⟩ : ∃ j : Nat, k = j + 1 := ⟨k - 1, by omega⟩
          have hkji : (k : Int) - 1 = (j : Nat) := by omega
          have hjl : (j : Int) < (L.length : Nat) := by omega
          have hj0 : (0 : Int) ≤ (j : Int) := by omega
          obtain ⟨_, _, hpA2, _, _, cq⟩ := hL j ((L[j] : Nat) : Int) (by rw [natI, List.getElem?_map, List.getElem?_eq_getElem (by omega)]; rfl)
          injection hpA2 with hpA2
          injection hpA2 with e1 e2 _
          subst e1 e2
          have hx3n : decide (L[k] ≤ L[j]) = false := decide_eq_false (by have := HLS.out j (by omega); simp only [hkj]; omega)
          have hx3 : decide (((L[k] : Nat) : Int) ≤ (L[j] : Nat)) = false := decide_eq_false (by have := of_decide_eq_false hx3n; omega)
          generalize L[k] = x at *
          generalize L[j] = y at *
          replace hkj := hide hkj
          go_wp2
          refine wp_region_grow (by kernel_rfl) (by kernel_rfl) ?_
          repeat (go_big_quiet_step (fail))
          refine wpQuiet_nil ?_
          intro wq hbq
          replace hbq := ex_below hbq
          go_wp2
          go_roundw
          case rel => exact ⟨k + 1, by omega, by go_num, by (repeat (first | exact Below.refl _ _ | assumption | (refine below_gr ?_ (by (first | omega | (simp only [zz] at *; omega))) _) | (refine below_alloc ?_ (by (first | omega | (simp only [zz] at *; omega))) _) | (refine Below.setCell ?_ (by (first | omega | (simp only [zz] at *; omega))) _) | refine below_drewN ?_ _ | refine below_drew ?_ | (refine below_step ?_ (by assumption) (by (first | omega | (simp only [zz] at *; omega))))))⟩
          case measure => simp [intOf]; omega
      · have hkli : ¬ (k : Int) < (L.length : Nat) := by omega
        clear hbr
        have n1 : wr.heap.size ≠ w.heap.size := by omega
        go_upto_region 13 with fail
        go_cut [11] from 97 to 103 (fun sx wx => ∃ (blk : Nat) (A2 : Option Addr) (c2 : Nat), sx = .pointer (some ⟨blk, 0, none⟩) ∧ ObjV wx blk 24 (.int .i64 W) (.slice A2 (us.length) c2) ∧ Strs wx A2 (us) ∧ wr.heap.size ≤ blk ∧ Below wr.heap.size wr wx)
        case first =>
          as_aux_lemma =>
          go_region_held3 (fun w' => w'.cell? ⟨w.heap.size, 0, none⟩ = some (.int .i64 W) ∧ w'.cell? ⟨w.heap.size, 1, none⟩ = some (.slice A ts.length c)) (go_keep) (first
            | (go_at_call 51; refine (HOT.out _ (hA.ext (by (repeat (first | exact Below.refl _ _ | assumption | refine below_drewN ?_ _ | refine below_drew ?_ | refine below_gr ?_ ?_ _ | refine below_alloc ?_ ?_ _ | refine Below.setCell ?_ ?_ _ | refine below_step ?_ (by assumption) ?_ | omega | (simp only [zz] at *; omega))))) AL cL (hL.ext (by (repeat (first | exact Below.refl _ _ | assumption | refine below_drewN ?_ _ | refine below_drew ?_ | refine below_gr ?_ ?_ _ | refine below_alloc ?_ ?_ _ | refine Below.setCell ?_ ?_ _ | refine below_step ?_ (by assumption) ?_ | omega | (simp only [zz] at *; omega)))))).mono ?_; rintro e w3 ⟨A2, c2, rfl, hb3, hV⟩; replace hb3 := ex_below hb3; have hz3 := hb3.size; (try simp only [World.size_alloc, size_drew, size_drewN] at hz3); have hc3 := own_cell hb3 (b := w.heap.size) (by (first | omega | (simp only [zz]; omega) | (simp only [zz] at *; omega) | (simp; done) | (simp; omega))); have hbw3 : Below wr.heap.size wr w3 := (by (repeat (first | exact Below.refl _ _ | assumption | refine below_drewN ?_ _ | refine below_drew ?_ | refine below_gr ?_ ?_ _ | refine below_alloc ?_ ?_ _ | refine Below.setCell ?_ ?_ _ | refine below_step ?_ (by assumption) ?_ | omega | (simp only [zz] at *; omega)))); have n3 : w3.heap.size ≠ w.heap.size := (by omega); (try have hf3 := own_frozen hb3 (b := wr.heap.size) (by (first | omega | (simp only [zz]; omega) | (simp only [zz] at *; omega) | (simp; done) | (simp; omega)))); (try have hd3 := own_cell hb3 (b := wr.heap.size) (by (first | omega | (simp only [zz]; omega) | (simp only [zz] at *; omega) | (simp; done) | (simp; omega))))))
          · go_wp2_with fail
            go_meet
            exact ⟨_, A2, c2, rfl, ObjV.new _ _ _ _, hV.ext (by (repeat (first | exact Below.refl _ _ | assumption | refine below_drewN ?_ _ | refine below_drew ?_ | refine below_gr ?_ ?_ _ | refine below_alloc ?_ ?_ _ | refine Below.setCell ?_ ?_ _ | refine below_step ?_ (by assumption) ?_ | omega | (simp only [zz] at *; omega)))), by (first | omega | (simp only [zz]; omega) | (simp only [zz] at *; omega) | (simp; done) | (simp; omega)), by (repeat (first | exact Below.refl _ _ | assumption | (refine below_gr ?_ (by (first | omega | (simp only [zz] at *; omega))) _) | (refine below_alloc ?_ (by (first | omega | (simp only [zz] at *; omega))) _) | (refine Below.setCell ?_ (by (first | omega | (simp only [zz] at *; omega))) _) | refine below_drewN ?_ _ | refine below_drew ?_ | (refine below_step ?_ (by assumption) (by (first | omega | (simp only [zz] at *; omega))))))⟩
          · go_wp2_with fail
            go_meet
            have hh := (hb3.block wr.heap.size (by (first | omega | (simp only [zz]; omega) | (simp only [zz] at *; omega) | (simp; done) | (simp; omega)))).trans (heap_alloc_new wr.drew _)
            exact ⟨_, A2, c2, rfl, set_two hh, strs_set hV hh _ _, Nat.le_refl _, by (repeat (first | exact Below.refl _ _ | assumption | (refine below_gr ?_ (by (first | omega | (simp only [zz] at *; omega))) _) | (refine below_alloc ?_ (by (first | omega | (simp only [zz] at *; omega))) _) | (refine Below.setCell ?_ (by (first | omega | (simp only [zz] at *; omega))) _) | refine below_drewN ?_ _ | refine below_drew ?_ | (refine below_step ?_ (by assumption) (by (first | omega | (simp only [zz] at *; omega))))))⟩
        case rest =>
          obtain ⟨blk, A2, c2, rfl, hY, hV, hblk, hb3⟩ := hcut
          have hbq := hb3
          have szwc := hb3.size
          replace hA := hA.ext hb3
          replace hX := hX.below hb3
          (try clear hXc0 hXc1 hXlt)
          have hXc0 := hX.c0
          have hXc1 := hX.c1
          have hXlt := hX.lt
          replace hW := below_step hW hb3 (by have := hW.size; omega)
          replace hL := hL.ext hb3
          clear hb3
          have hYc0 := hY.c0
          have hYc1 := hY.c1
          have hYlt := hY.lt
          by_cases hu0 : 0 < us.length
          · have hu0i : (0 : Int) < (us.length : Nat) := by omega
            have hu0d : decide (0 < us.length) = true := decide_eq_true hu0
            have HFX := hide (HFU.out hu0)
            go_wp2_with (first
                | (clear tok3; go_at_call 23; refine (HFX.out _ A2 c2 (hV.ext (by (repeat (first | exact Below.refl _ _ | assumption | refine below_drewN ?_ _ | refine below_drew ?_ | refine below_gr ?_ ?_ _ | refine below_alloc ?_ ?_ _ | refine Below.setCell ?_ ?_ _ | refine below_step ?_ (by assumption) ?_ | omega | (simp only [zz] at *; omega)))))).mono ?_; rintro e u4 ⟨rfl, hb4⟩; replace hb4 := ex_below hb4; have bel4 : Below wc.heap.size wc u4 := (by (repeat (first | exact Below.refl _ _ | assumption | refine below_drewN ?_ _ | refine below_drew ?_ | refine below_gr ?_ ?_ _ | refine below_alloc ?_ ?_ _ | refine Below.setCell ?_ ?_ _ | refine below_step ?_ (by assumption) ?_ | omega | (simp only [zz] at *; omega)))); clear hb4; have sz4 := bel4.size; replace hA := hA.ext bel4; replace hX := hX.below bel4; replace hW := below_step hW bel4 (by have := hW.size; omega); replace hL := hL.ext bel4; replace hY := hY.below bel4; (try clear hXc0 hXc1 hXlt); have hXc0 := hX.c0; have hXc1 := hX.c1; have hXlt := hX.lt; (try clear hYc0 hYc1 hYlt); have hYc0 := hY.c0; have hYc1 := hY.c1; have hYlt := hY.lt; clear bel4; have tok4 : True := trivial))
            go_loopw [14, 15, 16, 17, 18] (fun q _ _ _ _ wr => ∃ b : Nat, b ≤ NN ∧ q = .int .i64 (b : Nat) ∧ Below u4.heap.size u4 wr) (fun q _ _ _ _ _ => NN - (intOf q).toNat)
            case atStart => exact ⟨0, Nat.zero_le _, rfl, by (repeat (first | exact Below.refl _ _ | assumption | (refine below_gr ?_ (by (first | omega | (simp only [zz] at *; omega))) _) | (refine below_alloc ?_ (by (first | omega | (simp only [zz] at *; omega))) _) | (refine Below.setCell ?_ (by (first | omega | (simp only [zz] at *; omega))) _) | refine below_drewN ?_ _ | refine below_drew ?_ | (refine below_step ?_ (by assumption) (by (first | omega | (simp only [zz] at *; omega))))))⟩
            case round =>
              obtain ⟨b, hbN, rfl, hb⟩ := hrel
              have hbr := hb
              have szwr := hb.size
              replace hA := hA.ext hb
              replace hX := hX.below hb
              (try clear hXc0 hXc1 hXlt)
              have hXc0 := hX.c0
              have hXc1 := hX.c1
              have hXlt := hX.lt
              replace hW := below_step hW hb (by have := hW.size; omega)
              replace hL := hL.ext hb
              replace hY := hY.below hb
              (try clear hYc0 hYc1 hYlt)
              have hYc0 := hY.c0
              have hYc1 := hY.c1
              have hYlt := hY.lt
              clear hb
              obtain ⟨wo, rfl⟩ : ∃ wo : World, wo = wr := ⟨_, rfl⟩
              by_cases hbn : b < NN
              · have hbni : (b : Int) < (NN : Nat) := by omega
                have hbnd : decide (b < NN) = true := decide_eq_true hbn
                have hsh := HSH.out
                go_wp2
                clear hsh
                go_loopw [15, 16] (fun lv ix wr => ∃ (k : Nat) (A5 : Option Addr) (c5 : Nat), k ≤ ts.length ∧ ix = .int .i64 (k : Nat) ∧ lv = .slice A5 (bitK b k).length c5 ∧ wr.ownsRow wo.heap.size 3 1 (.slice A5 (bitK b k).length c5) (bitK b k).length ((natI (bitK b k)).map (Value.int .i64)) ∧ Below wo.heap.size wo wr) (fun _ ix _ => ts.length - (intOf ix).toNat)
                case atStart => exact ⟨0, none, 0, Nat.zero_le _, rfl, rfl, World.ownsRow_nil _ _ _ _, Below.refl _ _⟩
                case round =>
                  obtain ⟨k, A5, c5, hk, rfl, rfl, hown, hb5⟩ := hrel
                  have hz5 := hb5.size
                  have hb5k := hb5
                  have szwr := hb5.size
                  replace hA := hA.ext hb5
                  replace hX := hX.below hb5
                  (try clear hXc0 hXc1 hXlt)
                  have hXc0 := hX.c0
                  have hXc1 := hX.c1
                  have hXlt := hX.lt
                  replace hW := below_step hW hb5 (by have := hW.size; omega)
                  replace hL := hL.ext hb5
                  replace hY := hY.below hb5
                  (try clear hYc0 hYc1 hYlt)
                  have hYc0 := hY.c0
                  have hYc1 := hY.c1
                  have hYlt := hY.lt
                  clear hb5
                  have hlk := bitK_len b k
                  by_cases hkl : k < ts.length
                  · have hkli : (k : Int) < (ts.length : Nat) := by omega
                    have hba := bit_and b (by omega) k (by omega)
                    have HBK := hide (bitK_succ b k)
                    have hk0 : (0 : Int) ≤ (k : Int) := by omega
                    obtain ⟨bk, hbk⟩ : ∃ bk, bitK b k = bk := ⟨_, rfl⟩
                    rw [hbk] at HBK hown hlk ⊢
                    clear hbk
                    by_cases hbit : (b >>> k) % 2 = 1
                    · have hbit1 : (bits BinOp.and IntKind.i64 ((b : Nat) / 2 ^ k : Int) 1 == 1) = true := by rw [hba, decide_eq_true hbit]
                      have HBK1 : Hid (bitK b (k + 1) = bk ++ [k]) := hide (by rw [HBK.out, if_pos hbit])
                      clear hba hbit HBK
                      go_wp2_with (at_builtin; refine wpList_appN _ rfl (.tmp 140) (.tmp 142) 32 rfl (wo.heap.size) 3 i0 _ 1 8 und32 ih iz is ib rfl (by decide) (_) (bk.length) (_) rfl (hown.alloc _) (some ⟨wr.heap.size, 0, none⟩) (1) (1) ([_]) rfl (rd_new1 _ _ _) (by simp [Value.oneCell']) (by unfold maxLen; omega) (by omega) (by (first | omega | (simp only [zz]; omega) | (simp only [zz] at *; omega) | (simp; done) | (simp; omega))) ?_; intro A6 c6 w6 hown6 hgr6 far6; have hbx6 : Below wo.heap.size wo w6 := gb_below (below_alloc hb5k (by omega) _) hgr6 (by (first | omega | (simp only [zz]; omega) | (simp only [zz] at *; omega) | (simp; done) | (simp; omega))) (fun g hg => (hown.lt g hg).1); clear hgr6 far6)
                      exact ⟨⟨k + 1, A6, c6, by omega, by go_num, by rw [HBK1.out, List.length_append]; rfl, by rw [HBK1.out, List.length_append, ← natI_snoc, List.map_append]; exact hown6, hbx6⟩, by simp [intOf]; omega⟩
                    · have hbit1 : (bits BinOp.and IntKind.i64 ((b : Nat) / 2 ^ k : Int) 1 == 1) = false := by rw [hba, decide_eq_false hbit]
                      have HBK1 : Hid (bitK b (k + 1) = bk) := hide (by rw [HBK.out, if_neg hbit])
                      clear hba hbit HBK
                      go_wp2
                      exact ⟨⟨k + 1, A5, c5, by omega, by go_num, by rw [HBK1.out], by rw [HBK1.out]; exact hown, by (repeat (first | exact Below.refl _ _ | assumption | (refine below_gr ?_ (by (first | omega | (simp only [zz] at *; omega))) _) | (refine below_alloc ?_ (by (first | omega | (simp only [zz] at *; omega))) _) | (refine Below.setCell ?_ (by (first | omega | (simp only [zz] at *; omega))) _) | refine below_drewN ?_ _ | refine below_drew ?_ | (refine below_step ?_ (by assumption) (by (first | omega | (simp only [zz] at *; omega))))))⟩, by simp [intOf]; omega⟩
                  · have hke : k = ts.length := by omega
                    subst hke
                    have hkli : ¬ ((ts.length : Nat) : Int) < (ts.length : Nat) := by omega
                    have HQ := hide (HNO.out b (by omega))
                    rw [← bitK_all] at HQ
                    have hB : I64 wr A5 (natI (bitK b ts.length)) := own_i64 hown
                    have hbr6 := hbr.trans (hb5k.mono (by have := hbr.size; omega))
                    clear hown hb5k hbr
                    generalize bitK b ts.length = lb at *
                    by_cases hll : L.length ≤ lb.length
                    · have hlli : ((L.length : Nat) : Int) ≤ (lb.length : Nat) := by omega
                      go_wp2
                      exact ⟨⟨b + 1, by omega, by go_num, by (repeat (first | exact Below.refl _ _ | assumption | (refine below_gr ?_ (by (first | omega | (simp only [zz] at *; omega))) _) | (refine below_alloc ?_ (by (first | omega | (simp only [zz] at *; omega))) _) | (refine Below.setCell ?_ (by (first | omega | (simp only [zz] at *; omega))) _) | refine below_drewN ?_ _ | refine below_drew ?_ | (refine below_step ?_ (by assumption) (by (first | omega | (simp only [zz] at *; omega))))))⟩, by simp [intOf]; omega⟩
                    · have hlli : ¬ ((L.length : Nat) : Int) ≤ (lb.length : Nat) := by omega
                      obtain ⟨vs, fv, HOB, hfv, HFV⟩ := HQ.out (by omega)
                      have hfvi : ¬ ((fv : Nat) : Int) ≤ (n : Nat) := by omega
                      have n1 : wr.heap.size ≠ w.heap.size := by omega
                      go_upto_region 28 with fail
                      go_region_held3 (fun w' => w'.cell? ⟨w.heap.size, 0, none⟩ = some (.int .i64 W) ∧ w'.cell? ⟨w.heap.size, 1, none⟩ = some (.slice A ts.length c)) (go_keep) (first
                        | (go_at_call 51; refine (HOB.out _ (hA.ext (by (repeat (first | exact Below.refl _ _ | assumption | refine below_drewN ?_ _ | refine below_drew ?_ | refine below_gr ?_ ?_ _ | refine below_alloc ?_ ?_ _ | refine Below.setCell ?_ ?_ _ | refine below_step ?_ (by assumption) ?_ | omega | (simp only [zz] at *; omega))))) A5 c5 (hB.ext (by (repeat (first | exact Below.refl _ _ | assumption | refine below_drewN ?_ _ | refine below_drew ?_ | refine below_gr ?_ ?_ _ | refine below_alloc ?_ ?_ _ | refine Below.setCell ?_ ?_ _ | refine below_step ?_ (by assumption) ?_ | omega | (simp only [zz] at *; omega)))))).mono ?_; rintro e w3 ⟨A3, c3, rfl, hb3, hV⟩; replace hb3 := ex_below hb3; have hz3 := hb3.size; (try simp only [zz] at hz3); have hs3 : w.heap.size < w3.heap.size := (by (first | omega | (simp only [zz] at *; omega))); have ho3 := own_cell hb3 (b := w.heap.size) (by (first | omega | (simp only [zz] at *; omega))); have hq3 := own_frozen hb3 (b := w.heap.size) (by (first | omega | (simp only [zz] at *; omega))); have hlt3 : ∀ b, b < wr.heap.size → b < w3.heap.size := fun b hb => (by (first | omega | (simp only [zz] at *; omega))); have hc3 : ∀ b o, b < wr.heap.size → w3.cell? ⟨b, o, none⟩ = wr.cell? ⟨b, o, none⟩ := old_cell (by (repeat (first | exact Below.refl _ _ | assumption | refine below_drewN ?_ _ | refine below_drew ?_ | refine below_gr ?_ ?_ _ | refine below_alloc ?_ ?_ _ | refine Below.setCell ?_ ?_ _ | refine below_step ?_ (by assumption) ?_ | omega | (simp only [zz] at *; omega)))))
                        | (go_at_call 23; refine (HFV.out _ A3 c3 (hV.ext (by (repeat (first | exact Below.refl _ _ | assumption | refine below_drewN ?_ _ | refine below_drew ?_ | refine below_gr ?_ ?_ _ | refine below_alloc ?_ ?_ _ | refine Below.setCell ?_ ?_ _ | refine below_step ?_ (by assumption) ?_ | omega | (simp only [zz] at *; omega)))))).mono ?_; rintro e w4 ⟨rfl, hb4⟩; replace hb4 := ex_below hb4; have hz4 := hb4.size; (try simp only [zz] at hz4); have hs4 : w.heap.size < w4.heap.size := (by (first | omega | (simp only [zz] at *; omega))); have ho4 := own_cell hb4 (b := w.heap.size) (by (first | omega | (simp only [zz] at *; omega))); have hq4 := own_frozen hb4 (b := w.heap.size) (by (first | omega | (simp only [zz] at *; omega))); have hlt4 : ∀ b, b < wr.heap.size → b < w4.heap.size := fun b hb => (by (first | omega | (simp only [zz] at *; omega))); have hc4 : ∀ b o, b < wr.heap.size → w4.cell? ⟨b, o, none⟩ = wr.cell? ⟨b, o, none⟩ := old_cell (by (repeat (first | exact Below.refl _ _ | assumption | refine below_drewN ?_ _ | refine below_drew ?_ | refine below_gr ?_ ?_ _ | refine below_alloc ?_ ?_ _ | refine Below.setCell ?_ ?_ _ | refine below_step ?_ (by assumption) ?_ | omega | (simp only [zz] at *; omega))))))
                      have bel4 : Below wr.heap.size wr w4 := by (repeat (first | exact Below.refl _ _ | assumption | (refine below_gr ?_ (by (first | omega | (simp only [zz] at *; omega))) _) | (refine below_alloc ?_ (by (first | omega | (simp only [zz] at *; omega))) _) | (refine Below.setCell ?_ (by (first | omega | (simp only [zz] at *; omega))) _) | refine below_drewN ?_ _ | refine below_drew ?_ | (refine below_step ?_ (by assumption) (by (first | omega | (simp only [zz] at *; omega))))))
                      clear hb3 hb4 hV ho3 hq3 hlt3 hc3 ho4 hq4 hlt4 hc4
                      have hbr7 := hbr6.trans (bel4.mono (by have := hbr6.size; omega))
                      have szw4 := bel4.size
                      replace hA := hA.ext bel4
                      replace hX := hX.below bel4
                      (try clear hXc0 hXc1 hXlt)
                      have hXc0 := hX.c0
                      have hXc1 := hX.c1
                      have hXlt := hX.lt
                      replace hW := below_step hW bel4 (by have := hW.size; omega)
                      replace hL := hL.ext bel4
                      replace hY := hY.below bel4
                      (try clear hYc0 hYc1 hYlt)
                      have hYc0 := hY.c0
                      have hYc1 := hY.c1
                      have hYlt := hY.lt
                      clear bel4
                      go_wp2
                      exact ⟨⟨b + 1, by omega, by go_num, by (repeat (first | exact Below.refl _ _ | assumption | (refine below_gr ?_ (by (first | omega | (simp only [zz] at *; omega))) _) | (refine below_alloc ?_ (by (first | omega | (simp only [zz] at *; omega))) _) | (refine Below.setCell ?_ (by (first | omega | (simp only [zz] at *; omega))) _) | refine below_drewN ?_ _ | refine below_drew ?_ | (refine below_step ?_ (by assumption) (by (first | omega | (simp only [zz] at *; omega))))))⟩, by simp [intOf]; omega⟩
              · have hbni : ¬ (b : Int) < (NN : Nat) := by omega
                have hsh := HSH.out
                clear hbr
                go_wp2_with (first
                    | (clear tok4; go_at_call 18; refine (works_any _).mono ?_; rintro e u5 ⟨rfl, hb5⟩; replace hb5 := ex_below hb5; have bel5 : Below wo.heap.size wo u5 := (by (repeat (first | exact Below.refl _ _ | assumption | refine below_drewN ?_ _ | refine below_drew ?_ | refine below_gr ?_ ?_ _ | refine below_alloc ?_ ?_ _ | refine Below.setCell ?_ ?_ _ | refine below_step ?_ (by assumption) ?_ | omega | (simp only [zz] at *; omega)))); clear hb5; have sz5 := bel5.size; replace hA := hA.ext bel5; replace hX := hX.below bel5; replace hW := below_step hW bel5 (by have := hW.size; omega); replace hL := hL.ext bel5; replace hY := hY.below bel5; (try clear hXc0 hXc1 hXlt); have hXc0 := hX.c0; have hXc1 := hX.c1; have hXlt := hX.lt; (try clear hYc0 hYc1 hYlt); have hYc0 := hY.c0; have hYc1 := hY.c1; have hYlt := hY.lt; clear bel5; have tok5 : True := trivial))
                go_ret
                exact gives_of rfl hW
          · have hu0i : ¬ (0 : Int) < (us.length : Nat) := by omega
            have hu0d : decide (0 < us.length) = false := decide_eq_false hu0
            go_wp2
            go_loopw [14, 15, 16, 17, 18] (fun q _ _ _ _ wr => ∃ b : Nat, b ≤ NN ∧ q = .int .i64 (b : Nat) ∧ Below wc.heap.size wc wr) (fun q _ _ _ _ _ => NN - (intOf q).toNat)
            case atStart => exact ⟨0, Nat.zero_le _, rfl, by (repeat (first | exact Below.refl _ _ | assumption | (refine below_gr ?_ (by (first | omega | (simp only [zz] at *; omega))) _) | (refine below_alloc ?_ (by (first | omega | (simp only [zz] at *; omega))) _) | (refine Below.setCell ?_ (by (first | omega | (simp only [zz] at *; omega))) _) | refine below_drewN ?_ _ | refine below_drew ?_ | (refine below_step ?_ (by assumption) (by (first | omega | (simp only [zz] at *; omega))))))⟩
            case round =>
              obtain ⟨b, hbN, rfl, hb⟩ := hrel
              have hbr := hb
              have szwr := hb.size
              replace hA := hA.ext hb
              replace hX := hX.below hb
              (try clear hXc0 hXc1 hXlt)
              have hXc0 := hX.c0
              have hXc1 := hX.c1
              have hXlt := hX.lt
              replace hW := below_step hW hb (by have := hW.size; omega)
              replace hL := hL.ext hb
              replace hY := hY.below hb
              (try clear hYc0 hYc1 hYlt)
              have hYc0 := hY.c0
              have hYc1 := hY.c1
              have hYlt := hY.lt
              clear hb
              obtain ⟨wo, rfl⟩ : ∃ wo : World, wo = wr := ⟨_, rfl⟩
              by_cases hbn : b < NN
              · have hbni : (b : Int) < (NN : Nat) := by omega
                have hbnd : decide (b < NN) = true := decide_eq_true hbn
                have hsh := HSH.out
                go_wp2
                clear hsh
                go_loopw [15, 16] (fun lv ix wr => ∃ (k : Nat) (A5 : Option Addr) (c5 : Nat), k ≤ ts.length ∧ ix = .int .i64 (k : Nat) ∧ lv = .slice A5 (bitK b k).length c5 ∧ wr.ownsRow wo.heap.size 3 1 (.slice A5 (bitK b k).length c5) (bitK b k).length ((natI (bitK b k)).map (Value.int .i64)) ∧ Below wo.heap.size wo wr) (fun _ ix _ => ts.length - (intOf ix).toNat)
                case atStart => exact ⟨0, none, 0, Nat.zero_le _, rfl, rfl, World.ownsRow_nil _ _ _ _, Below.refl _ _⟩
                case round =>
                  obtain ⟨k, A5, c5, hk, rfl, rfl, hown, hb5⟩ := hrel
                  have hz5 := hb5.size
                  have hb5k := hb5
                  have szwr := hb5.size
                  replace hA := hA.ext hb5
                  replace hX := hX.below hb5
                  (try clear hXc0 hXc1 hXlt)
                  have hXc0 := hX.c0
                  have hXc1 := hX.c1
                  have hXlt := hX.lt
                  replace hW := below_step hW hb5 (by have := hW.size; omega)
                  replace hL := hL.ext hb5
                  replace hY := hY.below hb5
                  (try clear hYc0 hYc1 hYlt)
                  have hYc0 := hY.c0
                  have hYc1 := hY.c1
                  have hYlt := hY.lt
                  clear hb5
                  have hlk := bitK_len b k
                  by_cases hkl : k < ts.length
                  · have hkli : (k : Int) < (ts.length : Nat) := by omega
                    have hba := bit_and b (by omega) k (by omega)
                    have HBK := hide (bitK_succ b k)
                    have hk0 : (0 : Int) ≤ (k : Int) := by omega
                    obtain ⟨bk, hbk⟩ : ∃ bk, bitK b k = bk := ⟨_, rfl⟩
                    rw [hbk] at HBK hown hlk ⊢
                    clear hbk
                    by_cases hbit : (b >>> k) % 2 = 1
                    · have hbit1 : (bits BinOp.and IntKind.i64 ((b : Nat) / 2 ^ k : Int) 1 == 1) = true := by rw [hba, decide_eq_true hbit]
                      have HBK1 : Hid (bitK b (k + 1) = bk ++ [k]) := hide (by rw [HBK.out, if_pos hbit])
                      clear hba hbit HBK
                      go_wp2_with (at_builtin; refine wpList_appN _ rfl (.tmp 140) (.tmp 142) 32 rfl (wo.heap.size) 3 i0 _ 1 8 und32 ih iz is ib rfl (by decide) (_) (bk.length) (_) rfl (hown.alloc _) (some ⟨wr.heap.size, 0, none⟩) (1) (1) ([_]) rfl (rd_new1 _ _ _) (by simp [Value.oneCell']) (by unfold maxLen; omega) (by omega) (by (first | omega | (simp only [zz]; omega) | (simp only [zz] at *; omega) | (simp; done) | (simp; omega))) ?_; intro A6 c6 w6 hown6 hgr6 far6; have hbx6 : Below wo.heap.size wo w6 := gb_below (below_alloc hb5k (by omega) _) hgr6 (by (first | omega | (simp only [zz]; omega) | (simp only [zz] at *; omega) | (simp; done) | (simp; omega))) (fun g hg => (hown.lt g hg).1); clear hgr6 far6)
                      exact ⟨⟨k + 1, A6, c6, by omega, by go_num, by rw [HBK1.out, List.length_append]; rfl, by rw [HBK1.out, List.length_append, ← natI_snoc, List.map_append]; exact hown6, hbx6⟩, by simp [intOf]; omega⟩
                    · have hbit1 : (bits BinOp.and IntKind.i64 ((b : Nat) / 2 ^ k : Int) 1 == 1) = false := by rw [hba, decide_eq_false hbit]
                      have HBK1 : Hid (bitK b (k + 1) = bk) := hide (by rw [HBK.out, if_neg hbit])
                      clear hba hbit HBK
                      go_wp2
                      exact ⟨⟨k + 1, A5, c5, by omega, by go_num, by rw [HBK1.out], by rw [HBK1.out]; exact hown, by (repeat (first | exact Below.refl _ _ | assumption | (refine below_gr ?_ (by (first | omega | (simp only [zz] at *; omega))) _) | (refine below_alloc ?_ (by (first | omega | (simp only [zz] at *; omega))) _) | (refine Below.setCell ?_ (by (first | omega | (simp only [zz] at *; omega))) _) | refine below_drewN ?_ _ | refine below_drew ?_ | (refine below_step ?_ (by assumption) (by (first | omega | (simp only [zz] at *; omega))))))⟩, by simp [intOf]; omega⟩
                  · have hke : k = ts.length := by omega
                    subst hke
                    have hkli : ¬ ((ts.length : Nat) : Int) < (ts.length : Nat) := by omega
                    have HQ := hide (HNO.out b (by omega))
                    rw [← bitK_all] at HQ
                    have hB : I64 wr A5 (natI (bitK b ts.length)) := own_i64 hown
                    have hbr6 := hbr.trans (hb5k.mono (by have := hbr.size; omega))
                    clear hown hb5k hbr
                    generalize bitK b ts.length = lb at *
                    by_cases hll : L.length ≤ lb.length
                    · have hlli : ((L.length : Nat) : Int) ≤ (lb.length : Nat) := by omega
                      go_wp2
                      exact ⟨⟨b + 1, by omega, by go_num, by (repeat (first | exact Below.refl _ _ | assumption | (refine below_gr ?_ (by (first | omega | (simp only [zz] at *; omega))) _) | (refine below_alloc ?_ (by (first | omega | (simp only [zz] at *; omega))) _) | (refine Below.setCell ?_ (by (first | omega | (simp only [zz] at *; omega))) _) | refine below_drewN ?_ _ | refine below_drew ?_ | (refine below_step ?_ (by assumption) (by (first | omega | (simp only [zz] at *; omega))))))⟩, by simp [intOf]; omega⟩
                    · have hlli : ¬ ((L.length : Nat) : Int) ≤ (lb.length : Nat) := by omega
                      obtain ⟨vs, fv, HOB, hfv, HFV⟩ := HQ.out (by omega)
                      have hfvi : ¬ ((fv : Nat) : Int) ≤ (n : Nat) := by omega
                      have n1 : wr.heap.size ≠ w.heap.size := by omega
                      go_upto_region 28 with fail
                      go_region_held3 (fun w' => w'.cell? ⟨w.heap.size, 0, none⟩ = some (.int .i64 W) ∧ w'.cell? ⟨w.heap.size, 1, none⟩ = some (.slice A ts.length c)) (go_keep) (first
                        | (go_at_call 51; refine (HOB.out _ (hA.ext (by (repeat (first | exact Below.refl _ _ | assumption | refine below_drewN ?_ _ | refine below_drew ?_ | refine below_gr ?_ ?_ _ | refine below_alloc ?_ ?_ _ | refine Below.setCell ?_ ?_ _ | refine below_step ?_ (by assumption) ?_ | omega | (simp only [zz] at *; omega))))) A5 c5 (hB.ext (by (repeat (first | exact Below.refl _ _ | assumption | refine below_drewN ?_ _ | refine below_drew ?_ | refine below_gr ?_ ?_ _ | refine below_alloc ?_ ?_ _ | refine Below.setCell ?_ ?_ _ | refine below_step ?_ (by assumption) ?_ | omega | (simp only [zz] at *; omega)))))).mono ?_; rintro e w3 ⟨A3, c3, rfl, hb3, hV⟩; replace hb3 := ex_below hb3; have hz3 := hb3.size; (try simp only [zz] at hz3); have hs3 : w.heap.size < w3.heap.size := (by (first | omega | (simp only [zz] at *; omega))); have ho3 := own_cell hb3 (b := w.heap.size) (by (first | omega | (simp only [zz] at *; omega))); have hq3 := own_frozen hb3 (b := w.heap.size) (by (first | omega | (simp only [zz] at *; omega))); have hlt3 : ∀ b, b < wr.heap.size → b < w3.heap.size := fun b hb => (by (first | omega | (simp only [zz] at *; omega))); have hc3 : ∀ b o, b < wr.heap.size → w3.cell? ⟨b, o, none⟩ = wr.cell? ⟨b, o, none⟩ := old_cell (by (repeat (first | exact Below.refl _ _ | assumption | refine below_drewN ?_ _ | refine below_drew ?_ | refine below_gr ?_ ?_ _ | refine below_alloc ?_ ?_ _ | refine Below.setCell ?_ ?_ _ | refine below_step ?_ (by assumption) ?_ | omega | (simp only [zz] at *; omega)))))
                        | (go_at_call 23; refine (HFV.out _ A3 c3 (hV.ext (by (repeat (first | exact Below.refl _ _ | assumption | refine below_drewN ?_ _ | refine below_drew ?_ | refine below_gr ?_ ?_ _ | refine below_alloc ?_ ?_ _ | refine Below.setCell ?_ ?_ _ | refine below_step ?_ (by assumption) ?_ | omega | (simp only [zz] at *; omega)))))).mono ?_; rintro e w4 ⟨rfl, hb4⟩; replace hb4 := ex_below hb4; have hz4 := hb4.size; (try simp only [zz] at hz4); have hs4 : w.heap.size < w4.heap.size := (by (first | omega | (simp only [zz] at *; omega))); have ho4 := own_cell hb4 (b := w.heap.size) (by (first | omega | (simp only [zz] at *; omega))); have hq4 := own_frozen hb4 (b := w.heap.size) (by (first | omega | (simp only [zz] at *; omega))); have hlt4 : ∀ b, b < wr.heap.size → b < w4.heap.size := fun b hb => (by (first | omega | (simp only [zz] at *; omega))); have hc4 : ∀ b o, b < wr.heap.size → w4.cell? ⟨b, o, none⟩ = wr.cell? ⟨b, o, none⟩ := old_cell (by (repeat (first | exact Below.refl _ _ | assumption | refine below_drewN ?_ _ | refine below_drew ?_ | refine below_gr ?_ ?_ _ | refine below_alloc ?_ ?_ _ | refine Below.setCell ?_ ?_ _ | refine below_step ?_ (by assumption) ?_ | omega | (simp only [zz] at *; omega))))))
                      have bel4 : Below wr.heap.size wr w4 := by (repeat (first | exact Below.refl _ _ | assumption | (refine below_gr ?_ (by (first | omega | (simp only [zz] at *; omega))) _) | (refine below_alloc ?_ (by (first | omega | (simp only [zz] at *; omega))) _) | (refine Below.setCell ?_ (by (first | omega | (simp only [zz] at *; omega))) _) | refine below_drewN ?_ _ | refine below_drew ?_ | (refine below_step ?_ (by assumption) (by (first | omega | (simp only [zz] at *; omega))))))
                      clear hb3 hb4 hV ho3 hq3 hlt3 hc3 ho4 hq4 hlt4 hc4
                      have hbr7 := hbr6.trans (bel4.mono (by have := hbr6.size; omega))
                      have szw4 := bel4.size
                      replace hA := hA.ext bel4
                      replace hX := hX.below bel4
                      (try clear hXc0 hXc1 hXlt)
                      have hXc0 := hX.c0
                      have hXc1 := hX.c1
                      have hXlt := hX.lt
                      replace hW := below_step hW bel4 (by have := hW.size; omega)
                      replace hL := hL.ext bel4
                      replace hY := hY.below bel4
                      (try clear hYc0 hYc1 hYlt)
                      have hYc0 := hY.c0
                      have hYc1 := hY.c1
                      have hYlt := hY.lt
                      clear bel4
                      go_wp2
                      exact ⟨⟨b + 1, by omega, by go_num, by (repeat (first | exact Below.refl _ _ | assumption | (refine below_gr ?_ (by (first | omega | (simp only [zz] at *; omega))) _) | (refine below_alloc ?_ (by (first | omega | (simp only [zz] at *; omega))) _) | (refine Below.setCell ?_ (by (first | omega | (simp only [zz] at *; omega))) _) | refine below_drewN ?_ _ | refine below_drew ?_ | (refine below_step ?_ (by assumption) (by (first | omega | (simp only [zz] at *; omega))))))⟩, by simp [intOf]; omega⟩
              · have hbni : ¬ (b : Int) < (NN : Nat) := by omega
                have hsh := HSH.out
                clear hbr
                go_wp2_with (first
                    | (clear tok3; go_at_call 18; refine (works_any _).mono ?_; rintro e u4 ⟨rfl, hb4⟩; replace hb4 := ex_below hb4; have bel4 : Below wo.heap.size wo u4 := (by (repeat (first | exact Below.refl _ _ | assumption | refine below_drewN ?_ _ | refine below_drew ?_ | refine below_gr ?_ ?_ _ | refine below_alloc ?_ ?_ _ | refine Below.setCell ?_ ?_ _ | refine below_step ?_ (by assumption) ?_ | omega | (simp only [zz] at *; omega)))); clear hb4; have sz4 := bel4.size; replace hA := hA.ext bel4; replace hX := hX.below bel4; replace hW := below_step hW bel4 (by have := hW.size; omega); replace hL := hL.ext bel4; replace hY := hY.below bel4; (try clear hXc0 hXc1 hXlt); have hXc0 := hX.c0; have hXc1 := hX.c1; have hXlt := hX.lt; (try clear hYc0 hYc1 hYlt); have hYc0 := hY.c0; have hYc1 := hY.c1; have hYlt := hY.lt; clear bel4; have tok4 : True := trivial))
                go_ret
                exact gives_of rfl hW
end Go.Proofs.Ytafncmgijbkomaa
