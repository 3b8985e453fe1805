/- Proved here: the law TapeTwo, a part of the proofs about the tape laws. Conditions: those that each theorem names, no others. -/
import Derived.Test.YtafncmgijbkomaaP30
import Derived.WalkKit
import Derived.WalkSpells
import Derived.WalkLawsBesides
import Derived.Below
import Derived.Deep.QuietTactic
import Derived.BigQuiet
import Derived.Deep.Light
import Derived.Test.YtafncmgijbkomaaD7

set_option linter.unusedSimpArgs false
set_option linter.unusedVariables false
namespace Go.Proofs.Ytafncmgijbkomaa
open Go.RowKit Go.Maps Go.Lib
theorem two_plain {W : Int} {s t : ByteArray} (hc : chkSet W [s, t] = 0) : ∃ v : ByteArray, comR W [s, t] = (v, 0) ∧ Tm.fewN W.toNat (lts [s, t]) + v.size = s.size + t.size ∧ Tm.hasT (lt s) (lt v) = true ∧ Tm.hasT (lt t) (lt v) = true ∧ v.size ≤ 1000 ∧ Tm.fewN W.toNat (lts [s, t]) ≤ 1000 ∧ s.size ≤ 1000 ∧ t.size ≤ 1000 := by
  obtain ⟨hW1, hW2, h0, h3, hs, hf, _, hlo⟩ := chk_val hc
  have hb := comV_best (W := W.toNat) (by omega) (ts := lts [s, t]) (by simp [lts]) hlo
  have h1 := Tm.few_two (W := W.toNat) (by omega) (lt s) (lt t) hlo
  have h2 := Tm.best_lcs (s := lt s) (t := lt t) hb
  have hs0 := hs 0 (by simp)
  have hs1 := hs 1 (by simp)
  simp only [List.getElem_cons_zero, List.getElem_cons_succ] at hs0 hs1
  rw [lt_len] at h2
  rw [lt_len, lt_len] at h1
  refine ⟨comV W.toNat (lts [s, t]), by simp [comR, hc], ?_, hb.1 (lt s) (by simp [lts]), hb.1 (lt t) (by simp [lts]), ?_⟩
  · rw [h2]; exact h1
  · have h4 : Tm.fewN W.toNat (lts [s, t]) + Tm.lcs (lt s) (lt t) = s.size + t.size := h1
    omega
set_option maxRecDepth 100000 in
set_option maxHeartbeats 4000000 in
theorem two_law (W : Int) (A : Option Addr) (ts : List ByteArray) (c : Nat) (w : World) (hA : Strs w A ts) (hl9 : ts.length ≤ 9223372036854775807) (hs9 : ∀ s, s ∈ ts → s.size ≤ 9223372036854775807) : Calls Try.prog 12 #[.agg #[.int .i64 W, .slice A ts.length c]] w (Gives w (.bool true)) := by
  have tok0 : True := trivial
  have HFI := hide (fun w' (hA : Strs w' A ts) => fine_any W A ts c w' hA hl9 hs9)
  cases hf : fineB W ts with
  | false =>
    rw [hf] at HFI
    go_enter Try.func12, Try.ntmps12
    go_wp2_with (first
    | (clear tok0; go_at_call 42; refine (HFI.out _ (hA.ext (by (repeat (first | exact Below.refl _ _ | assumption | refine below_drewN ?_ _ | refine below_drew ?_ | refine below_gr ?_ ?_ _ | refine below_alloc ?_ ?_ _ | refine Below.setCell ?_ ?_ _ | refine below_step ?_ (by assumption) ?_ | omega | (simp only [zz] at *; omega)))))).mono ?_; rintro e u1 ⟨rfl, hb1⟩; replace hb1 := ex_below hb1; have bob1 : Below (w.alloc (.cells #[.int .i64 W, .slice A ts.length c] 24)).heap.size (w.alloc (.cells #[.int .i64 W, .slice A ts.length c] 24)) u1 := (by (repeat (first | exact Below.refl _ _ | assumption | refine below_drewN ?_ _ | refine below_drew ?_ | refine below_gr ?_ ?_ _ | refine below_alloc ?_ ?_ _ | refine Below.setCell ?_ ?_ _ | refine below_step ?_ (by assumption) ?_ | omega | (simp only [zz] at *; omega)))); have hX := (ObjV.new w 24 (.int .i64 W) (.slice A ts.length c)).below bob1; have bel1 : Below w.heap.size w u1 := (by (repeat (first | exact Below.refl _ _ | assumption | refine below_drewN ?_ _ | refine below_drew ?_ | refine below_gr ?_ ?_ _ | refine below_alloc ?_ ?_ _ | refine Below.setCell ?_ ?_ _ | refine below_step ?_ (by assumption) ?_ | omega | (simp only [zz] at *; omega)))); clear bob1; clear hb1; have sz1 := bel1.size; replace hA := hA.ext bel1; (try clear hXc0 hXc1 hXlt); have hXc0 := hX.c0; have hXc1 := hX.c1; have hXlt := hX.lt; have hW := bel1; clear bel1; have tok1 : True := trivial)
    | (clear tok1; go_at_call 18; refine (works_any _).mono ?_; rintro e u2 ⟨rfl, hb2⟩; replace hb2 := ex_below hb2; have bel2 : Below u1.heap.size u1 u2 := (by (repeat (first | exact Below.refl _ _ | assumption | refine below_drewN ?_ _ | refine below_drew ?_ | refine below_gr ?_ ?_ _ | refine below_alloc ?_ ?_ _ | refine Below.setCell ?_ ?_ _ | refine below_step ?_ (by assumption) ?_ | omega | (simp only [zz] at *; omega)))); clear hb2; have sz2 := bel2.size; replace hA := hA.ext bel2; replace hX := hX.below bel2; replace hW := below_step hW bel2 (by have := hW.size; omega); (try clear hXc0 hXc1 hXlt); have hXc0 := hX.c0; have hXc1 := hX.c1; have hXlt := hX.lt; clear bel2; have tok2 : True := trivial))
    go_ret
    exact gives_of rfl hW
  | true =>
    rw [hf] at HFI
    obtain ⟨hl, hsz⟩ := fine_len hf
    by_cases h2 : ts.length = 2
    · obtain ⟨s, t, rfl⟩ : ∃ s t, ts = [s, t] := by
        match ts, h2 with
        | [s, t], _ => exact ⟨s, t, rfl⟩
      obtain ⟨tb, toff, rfl, htb⟩ := strs_form hA (by simp)
      obtain ⟨v, hv, h4, ht1, ht2, hv9, hf9, hs9', ht9⟩ := two_plain (fine_chk hf)
      have HF := hide (fun w' hA => Fewest_any W (some ⟨tb, toff, none⟩) [s, t] c w' hA hl hsz)
      have HC := hide (fun w' hA => Common_any W (some ⟨tb, toff, none⟩) [s, t] c w' hA hl hsz)
      have HT1 : Hid (∀ (x : ByteArray) (w' : World), x = s ∨ x = t → Calls Try.prog 50 #[.string x, .string v] w' (Gives w' (.bool true))) := hide (fun x w' h => by
        rcases h with rfl | rfl
        · have := rHasTape_any x v w' (by omega) (by omega); rwa [ht1] at this
        · have := rHasTape_any x v w' (by omega) (by omega); rwa [ht2] at this)
      rw [hv] at HC
      rw [show fewR W [s, t] = (((Tm.fewN W.toNat (lts [s, t]) : Nat) : Int), 0) by simp [fewR, fine_chk hf]] at HF
      unfold tup2V at HF
      unfold strE at HC
      simp only [List.length_cons, List.length_nil, Nat.zero_add, Nat.reduceAdd] at HF HC HFI
      generalize Tm.fewN W.toNat (lts [s, t]) = f at *
      have h4i : IntKind.i64.wrap ((f : Int) + (v.size : Nat)) = IntKind.i64.wrap ((s.size : Int) + (t.size : Nat)) := by rw [show (f : Int) + (v.size : Nat) = (s.size : Int) + (t.size : Nat) by omega]
      replace hf := hide hf
      clear hv ht1 ht2 hs9 hsz h2
      go_enter Try.func12, Try.ntmps12
      go_wp2_with (first
    | (clear tok0; go_at_call 42; refine (HFI.out _ (hA.ext (by (repeat (first | exact Below.refl _ _ | assumption | refine below_drewN ?_ _ | refine below_drew ?_ | refine below_gr ?_ ?_ _ | refine below_alloc ?_ ?_ _ | refine Below.setCell ?_ ?_ _ | refine below_step ?_ (by assumption) ?_ | omega | (simp only [zz] at *; omega)))))).mono ?_; rintro e u1 ⟨rfl, hb1⟩; replace hb1 := ex_below hb1; have bob1 : Below (w.alloc (.cells #[.int .i64 W, .slice (some ⟨tb, toff, none⟩) 2 c] 24)).heap.size (w.alloc (.cells #[.int .i64 W, .slice (some ⟨tb, toff, none⟩) 2 c] 24)) u1 := (by (repeat (first | exact Below.refl _ _ | assumption | refine below_drewN ?_ _ | refine below_drew ?_ | refine below_gr ?_ ?_ _ | refine below_alloc ?_ ?_ _ | refine Below.setCell ?_ ?_ _ | refine below_step ?_ (by assumption) ?_ | omega | (simp only [zz] at *; omega)))); have hX := (ObjV.new w 24 (.int .i64 W) (.slice (some ⟨tb, toff, none⟩) 2 c)).below bob1; have bel1 : Below w.heap.size w u1 := (by (repeat (first | exact Below.refl _ _ | assumption | refine below_drewN ?_ _ | refine below_drew ?_ | refine below_gr ?_ ?_ _ | refine below_alloc ?_ ?_ _ | refine Below.setCell ?_ ?_ _ | refine below_step ?_ (by assumption) ?_ | omega | (simp only [zz] at *; omega)))); clear bob1; clear hb1; have sz1 := bel1.size; replace hA := hA.ext bel1; (try clear hXc0 hXc1 hXlt); have hXc0 := hX.c0; have hXc1 := hX.c1; have hXlt := hX.lt; have hW := bel1; clear bel1; have tok1 : True := trivial)
    | (clear tok1; go_at_call 23; refine (HF.out _ (hA.ext (by (repeat (first | exact Below.refl _ _ | assumption | refine below_drewN ?_ _ | refine below_drew ?_ | refine below_gr ?_ ?_ _ | refine below_alloc ?_ ?_ _ | refine Below.setCell ?_ ?_ _ | refine below_step ?_ (by assumption) ?_ | omega | (simp only [zz] at *; omega)))))).mono ?_; rintro e u2 ⟨rfl, hb2⟩; replace hb2 := ex_below hb2; have bel2 : Below u1.heap.size u1 u2 := (by (repeat (first | exact Below.refl _ _ | assumption | refine below_drewN ?_ _ | refine below_drew ?_ | refine below_gr ?_ ?_ _ | refine below_alloc ?_ ?_ _ | refine Below.setCell ?_ ?_ _ | refine below_step ?_ (by assumption) ?_ | omega | (simp only [zz] at *; omega)))); clear hb2; have sz2 := bel2.size; replace hA := hA.ext bel2; replace hX := hX.below bel2; replace hW := below_step hW bel2 (by have := hW.size; omega); (try clear hXc0 hXc1 hXlt); have hXc0 := hX.c0; have hXc1 := hX.c1; have hXlt := hX.lt; clear bel2; have tok2 : True := trivial)
    | (clear tok2; go_at_call 25; refine (HC.out _ (hA.ext (by (repeat (first | exact Below.refl _ _ | assumption | refine below_drewN ?_ _ | refine below_drew ?_ | refine below_gr ?_ ?_ _ | refine below_alloc ?_ ?_ _ | refine Below.setCell ?_ ?_ _ | refine below_step ?_ (by assumption) ?_ | omega | (simp only [zz] at *; omega)))))).mono ?_; rintro e u3 ⟨rfl, hb3⟩; replace hb3 := ex_below hb3; have bel3 : Below u2.heap.size u2 u3 := (by (repeat (first | exact Below.refl _ _ | assumption | refine below_drewN ?_ _ | refine below_drew ?_ | refine below_gr ?_ ?_ _ | refine below_alloc ?_ ?_ _ | refine Below.setCell ?_ ?_ _ | refine below_step ?_ (by assumption) ?_ | omega | (simp only [zz] at *; omega)))); clear hb3; have sz3 := bel3.size; replace hA := hA.ext bel3; replace hX := hX.below bel3; replace hW := below_step hW bel3 (by have := hW.size; omega); (try clear hXc0 hXc1 hXlt); have hXc0 := hX.c0; have hXc1 := hX.c1; have hXlt := hX.lt; clear bel3; have tok3 : True := trivial))
      have k0 := strs_cell hA (k := 0) rfl
      have k1 := strs_cell hA (k := 1) rfl
      have kl := strs_lt hA (k := 0) rfl
      rw [Nat.add_zero] at k0
      refine wp_region_grow (by kernel_rfl) (by kernel_rfl) ?_
      repeat (go_big_quiet_step ((first | (go_at_call 50; exact Gives.quiet (HT1.out _ _ (by first | exact .inl rfl | exact .inr rfl))) | (go_at_call 18; exact Gives.quiet (works_any _)))))
      refine wpQuiet_nil ?_
      intro w8 hb8
      replace hb8 := ex_below hb8
      have hz8 := hb8.size
      (try simp only [zz] at hz8)
      have hlt8 : ∀ b, b < u3.heap.size → b < w8.heap.size := fun b hb => (by (first | omega | (simp only [zz] at *; omega)))
      have hc8 : ∀ b o, b < u3.heap.size → w8.cell? ⟨b, o, none⟩ = u3.cell? ⟨b, o, none⟩ := old_cell (by (repeat (first | exact Below.refl _ _ | assumption | refine below_drewN ?_ _ | refine below_drew ?_ | refine below_gr ?_ ?_ _ | refine below_alloc ?_ ?_ _ | refine Below.setCell ?_ ?_ _ | refine below_step ?_ (by assumption) ?_ | omega | (simp only [zz] at *; omega))))
      go_wp2
      go_ret
      exact gives_of rfl (below_step hW (by assumption) (by omega))
    · have h2b : ((ts.length : Int) != 2) = true := by simp; omega
      go_enter Try.func12, Try.ntmps12
      go_wp2_with (first
    | (clear tok0; go_at_call 42; refine (HFI.out _ (hA.ext (by (repeat (first | exact Below.refl _ _ | assumption | refine below_drewN ?_ _ | refine below_drew ?_ | refine below_gr ?_ ?_ _ | refine below_alloc ?_ ?_ _ | refine Below.setCell ?_ ?_ _ | refine below_step ?_ (by assumption) ?_ | omega | (simp only [zz] at *; omega)))))).mono ?_; rintro e u1 ⟨rfl, hb1⟩; replace hb1 := ex_below hb1; have bob1 : Below (w.alloc (.cells #[.int .i64 W, .slice A ts.length c] 24)).heap.size (w.alloc (.cells #[.int .i64 W, .slice A ts.length c] 24)) u1 := (by (repeat (first | exact Below.refl _ _ | assumption | refine below_drewN ?_ _ | refine below_drew ?_ | refine below_gr ?_ ?_ _ | refine below_alloc ?_ ?_ _ | refine Below.setCell ?_ ?_ _ | refine below_step ?_ (by assumption) ?_ | omega | (simp only [zz] at *; omega)))); have hX := (ObjV.new w 24 (.int .i64 W) (.slice A ts.length c)).below bob1; have bel1 : Below w.heap.size w u1 := (by (repeat (first | exact Below.refl _ _ | assumption | refine below_drewN ?_ _ | refine below_drew ?_ | refine below_gr ?_ ?_ _ | refine below_alloc ?_ ?_ _ | refine Below.setCell ?_ ?_ _ | refine below_step ?_ (by assumption) ?_ | omega | (simp only [zz] at *; omega)))); clear bob1; clear hb1; have sz1 := bel1.size; replace hA := hA.ext bel1; (try clear hXc0 hXc1 hXlt); have hXc0 := hX.c0; have hXc1 := hX.c1; have hXlt := hX.lt; have hW := bel1; clear bel1; have tok1 : True := trivial)
    | (clear tok1; go_at_call 18; refine (works_any _).mono ?_; rintro e u2 ⟨rfl, hb2⟩; replace hb2 := ex_below hb2; have bel2 : Below u1.heap.size u1 u2 := (by (repeat (first | exact Below.refl _ _ | assumption | refine below_drewN ?_ _ | refine below_drew ?_ | refine below_gr ?_ ?_ _ | refine below_alloc ?_ ?_ _ | refine Below.setCell ?_ ?_ _ | refine below_step ?_ (by assumption) ?_ | omega | (simp only [zz] at *; omega)))); clear hb2; have sz2 := bel2.size; replace hA := hA.ext bel2; replace hX := hX.below bel2; replace hW := below_step hW bel2 (by have := hW.size; omega); (try clear hXc0 hXc1 hXlt); have hXc0 := hX.c0; have hXc1 := hX.c1; have hXlt := hX.lt; clear bel2; have tok2 : True := trivial))
      go_ret
      exact gives_of rfl hW
end Go.Proofs.Ytafncmgijbkomaa
