/- Proved here: which cards and tickets a law takes; an outcome by numbers, a part of the proofs about the box laws. Conditions: those that each theorem names, no others. -/
import Derived.Test.YtlbkaeoagdbemaaP37
import Derived.WalkKit
import Derived.WalkSpells
import Derived.WalkLawsBesides
import Derived.Below
import Derived.Deep.QuietTactic
import Derived.BigQuiet
import Derived.Deep.Light
import Derived.Test.YtlbkaeoagdbemaaG2
import Derived.Deep.RegionHeld3
import Derived.Deep.WholeRow
set_option linter.unusedSimpArgs false
set_option linter.unusedVariables false
namespace Go.Proofs.Ytlbkaeoagdbemaa
open Go.RowKit Go.Maps
/-- valid, and not too much for a statement -/
def fineB (R : List Int) (ts : List Tz) : Bool := !greatB R && (!wideB ts 15 && (chkT R ts == 0))
set_option maxRecDepth 100000 in
set_option maxHeartbeats 8000000 in
theorem fine_any (A : Option Addr) (R : List Int) (c : Nat) (B : Option Addr) (ts : List Tz) (d : Nat) (w : World) (hA : I64 w A R) (hB : Tks w B ts) (hl9 : R.length ≤ 9223372036854775807) (hd : ts.length ≤ d) (hd9 : d ≤ 9223372036854775807) (hts9 : ∀ t, t ∈ ts → t.1.length ≤ 9223372036854775807) : Calls Try.prog 45 #[.agg #[.slice A R.length c], .slice B ts.length d] w (Gives w (.bool (fineB R ts))) := by
  cases hg : greatB R with
  | true =>
    have tok0 : True := trivial
    go_enter Try.func45, Try.ntmps45
    go_wp2_with (first
    | (clear tok0; go_at_call 18; refine (great_any A R c _ (hA.ext (by (repeat (first | exact Below.refl _ _ | assumption | (refine below_gr ?_ (by (first | omega | (simp only [size_grow, World.size_alloc, size_drewN, size_drew, size_setCell] at *; omega))) _) | (refine below_alloc ?_ (by (first | omega | (simp only [size_grow, World.size_alloc, size_drewN, size_drew, size_setCell] at *; omega))) _) | (refine Below.setCell ?_ (by (first | omega | (simp only [size_grow, World.size_alloc, size_drewN, size_drew, size_setCell] at *; omega))) _) | refine below_drewN ?_ _ | refine below_drew ?_ | (refine below_step ?_ (by assumption) (by (first | omega | (simp only [size_grow, World.size_alloc, size_drewN, size_drew, size_setCell] at *; omega)))))))) hl9).mono ?_; rintro e u1 ⟨rfl, hb_u1⟩; replace hb_u1 := ex_below hb_u1; have hX : BlkAt u1 w.heap.size #[.slice A R.length c] 24 := (show BlkAt (w.alloc (.cells #[.slice A R.length c] 24)) w.heap.size #[.slice A R.length c] 24 from heap_alloc_new _ _).ext hb_u1; (try rw [hg]); have bel_u1 : Below w.heap.size w u1 := (by (repeat (first | exact Below.refl _ _ | assumption | (refine below_gr ?_ (by (first | omega | (simp only [size_grow, World.size_alloc, size_drewN, size_drew, size_setCell] at *; omega))) _) | (refine below_alloc ?_ (by (first | omega | (simp only [size_grow, World.size_alloc, size_drewN, size_drew, size_setCell] at *; omega))) _) | (refine Below.setCell ?_ (by (first | omega | (simp only [size_grow, World.size_alloc, size_drewN, size_drew, size_setCell] at *; omega))) _) | refine below_drewN ?_ _ | refine below_drew ?_ | (refine below_step ?_ (by assumption) (by (first | omega | (simp only [size_grow, World.size_alloc, size_drewN, size_drew, size_setCell] at *; omega))))))); clear hb_u1; have sz_u1 := bel_u1.size; replace hA := hA.ext bel_u1; replace hB := hB.ext bel_u1; (try clear hXc0 hXf hXl); have hXc0 := obj_at hX 0 _ rfl; have hXf := obj_fz hX 0; have hXl := obj_lt hX; have hW := bel_u1; clear bel_u1; have tok1 : True := trivial))

    go_ret
    exact gives_of (v_bool (by unfold fineB; rw [hg]; rfl)) hW
  | false =>
   cases hw : wideB ts 15 with
   | true =>
    have tok0 : True := trivial
    go_enter Try.func45, Try.ntmps45
    go_wp2_with (first
    | (clear tok0; go_at_call 18; refine (great_any A R c _ (hA.ext (by (repeat (first | exact Below.refl _ _ | assumption | (refine below_gr ?_ (by (first | omega | (simp only [size_grow, World.size_alloc, size_drewN, size_drew, size_setCell] at *; omega))) _) | (refine below_alloc ?_ (by (first | omega | (simp only [size_grow, World.size_alloc, size_drewN, size_drew, size_setCell] at *; omega))) _) | (refine Below.setCell ?_ (by (first | omega | (simp only [size_grow, World.size_alloc, size_drewN, size_drew, size_setCell] at *; omega))) _) | refine below_drewN ?_ _ | refine below_drew ?_ | (refine below_step ?_ (by assumption) (by (first | omega | (simp only [size_grow, World.size_alloc, size_drewN, size_drew, size_setCell] at *; omega)))))))) hl9).mono ?_; rintro e u1 ⟨rfl, hb_u1⟩; replace hb_u1 := ex_below hb_u1; have hX : BlkAt u1 w.heap.size #[.slice A R.length c] 24 := (show BlkAt (w.alloc (.cells #[.slice A R.length c] 24)) w.heap.size #[.slice A R.length c] 24 from heap_alloc_new _ _).ext hb_u1; (try rw [hg]); have bel_u1 : Below w.heap.size w u1 := (by (repeat (first | exact Below.refl _ _ | assumption | (refine below_gr ?_ (by (first | omega | (simp only [size_grow, World.size_alloc, size_drewN, size_drew, size_setCell] at *; omega))) _) | (refine below_alloc ?_ (by (first | omega | (simp only [size_grow, World.size_alloc, size_drewN, size_drew, size_setCell] at *; omega))) _) | (refine Below.setCell ?_ (by (first | omega | (simp only [size_grow, World.size_alloc, size_drewN, size_drew, size_setCell] at *; omega))) _) | refine below_drewN ?_ _ | refine below_drew ?_ | (refine below_step ?_ (by assumption) (by (first | omega | (simp only [size_grow, World.size_alloc, size_drewN, size_drew, size_setCell] at *; omega))))))); clear hb_u1; have sz_u1 := bel_u1.size; replace hA := hA.ext bel_u1; replace hB := hB.ext bel_u1; (try clear hXc0 hXf hXl); have hXc0 := obj_at hX 0 _ rfl; have hXf := obj_fz hX 0; have hXl := obj_lt hX; have hW := bel_u1; clear bel_u1; have tok1 : True := trivial)
    | (clear tok1; go_at_call 19; refine (wide_any B ts d 15 _ (hB.ext (by (repeat (first | exact Below.refl _ _ | assumption | (refine below_gr ?_ (by (first | omega | (simp only [size_grow, World.size_alloc, size_drewN, size_drew, size_setCell] at *; omega))) _) | (refine below_alloc ?_ (by (first | omega | (simp only [size_grow, World.size_alloc, size_drewN, size_drew, size_setCell] at *; omega))) _) | (refine Below.setCell ?_ (by (first | omega | (simp only [size_grow, World.size_alloc, size_drewN, size_drew, size_setCell] at *; omega))) _) | refine below_drewN ?_ _ | refine below_drew ?_ | (refine below_step ?_ (by assumption) (by (first | omega | (simp only [size_grow, World.size_alloc, size_drewN, size_drew, size_setCell] at *; omega)))))))) (by omega) hts9).mono ?_; rintro e u2 ⟨rfl, hb_u2⟩; replace hb_u2 := ex_below hb_u2; (try rw [hw]); have bel_u2 : Below u1.heap.size u1 u2 := (by (repeat (first | exact Below.refl _ _ | assumption | (refine below_gr ?_ (by (first | omega | (simp only [size_grow, World.size_alloc, size_drewN, size_drew, size_setCell] at *; omega))) _) | (refine below_alloc ?_ (by (first | omega | (simp only [size_grow, World.size_alloc, size_drewN, size_drew, size_setCell] at *; omega))) _) | (refine Below.setCell ?_ (by (first | omega | (simp only [size_grow, World.size_alloc, size_drewN, size_drew, size_setCell] at *; omega))) _) | refine below_drewN ?_ _ | refine below_drew ?_ | (refine below_step ?_ (by assumption) (by (first | omega | (simp only [size_grow, World.size_alloc, size_drewN, size_drew, size_setCell] at *; omega))))))); clear hb_u2; have sz_u2 := bel_u2.size; replace hA := hA.ext bel_u2; replace hB := hB.ext bel_u2; replace hX := hX.ext bel_u2; replace hW := below_step hW bel_u2 (by have := hW.size; omega); (try clear hXc0 hXf hXl); have hXc0 := obj_at hX 0 _ rfl; have hXf := obj_fz hX 0; have hXl := obj_lt hX; clear bel_u2; have tok2 : True := trivial))

    go_ret
    exact gives_of (v_bool (by unfold fineB; rw [hg, hw]; rfl)) hW
   | false =>
    have hl10 := great_no hg
    obtain ⟨hl15, hs10⟩ := wide_no hw
    have hl : R.length ≤ 1000000 := by omega
    have hl2 : ts.length ≤ 1000000 := by omega
    have hts : ∀ t, t ∈ ts → t.1.length ≤ 1000000 := fun t ht => by have := hs10 t ht; omega
    have HT := hide (fun w' (h1 : I64 w' A R) (h2 : Tks w' B ts) => rCheckTickets_any A R c B ts d w' h1 h2 hl hl2 hts)
    have HV := hide (show fineB R ts = (chkT R ts == 0) by unfold fineB; rw [hg, hw]; rfl)
    rw [HV.out]
    generalize chkT R ts = k2 at *
    have tok0 : True := trivial
    go_enter Try.func45, Try.ntmps45
    go_wp2_with (first
    | (clear tok0; go_at_call 18; refine (great_any A R c _ (hA.ext (by (repeat (first | exact Below.refl _ _ | assumption | (refine below_gr ?_ (by (first | omega | (simp only [size_grow, World.size_alloc, size_drewN, size_drew, size_setCell] at *; omega))) _) | (refine below_alloc ?_ (by (first | omega | (simp only [size_grow, World.size_alloc, size_drewN, size_drew, size_setCell] at *; omega))) _) | (refine Below.setCell ?_ (by (first | omega | (simp only [size_grow, World.size_alloc, size_drewN, size_drew, size_setCell] at *; omega))) _) | refine below_drewN ?_ _ | refine below_drew ?_ | (refine below_step ?_ (by assumption) (by (first | omega | (simp only [size_grow, World.size_alloc, size_drewN, size_drew, size_setCell] at *; omega)))))))) hl9).mono ?_; rintro e u1 ⟨rfl, hb_u1⟩; replace hb_u1 := ex_below hb_u1; have hX : BlkAt u1 w.heap.size #[.slice A R.length c] 24 := (show BlkAt (w.alloc (.cells #[.slice A R.length c] 24)) w.heap.size #[.slice A R.length c] 24 from heap_alloc_new _ _).ext hb_u1; (try rw [hg]); have bel_u1 : Below w.heap.size w u1 := (by (repeat (first | exact Below.refl _ _ | assumption | (refine below_gr ?_ (by (first | omega | (simp only [size_grow, World.size_alloc, size_drewN, size_drew, size_setCell] at *; omega))) _) | (refine below_alloc ?_ (by (first | omega | (simp only [size_grow, World.size_alloc, size_drewN, size_drew, size_setCell] at *; omega))) _) | (refine Below.setCell ?_ (by (first | omega | (simp only [size_grow, World.size_alloc, size_drewN, size_drew, size_setCell] at *; omega))) _) | refine below_drewN ?_ _ | refine below_drew ?_ | (refine below_step ?_ (by assumption) (by (first | omega | (simp only [size_grow, World.size_alloc, size_drewN, size_drew, size_setCell] at *; omega))))))); clear hb_u1; have sz_u1 := bel_u1.size; replace hA := hA.ext bel_u1; replace hB := hB.ext bel_u1; (try clear hXc0 hXf hXl); have hXc0 := obj_at hX 0 _ rfl; have hXf := obj_fz hX 0; have hXl := obj_lt hX; have hW := bel_u1; clear bel_u1; have tok1 : True := trivial)
    | (clear tok1; go_at_call 19; refine (wide_any B ts d 15 _ (hB.ext (by (repeat (first | exact Below.refl _ _ | assumption | (refine below_gr ?_ (by (first | omega | (simp only [size_grow, World.size_alloc, size_drewN, size_drew, size_setCell] at *; omega))) _) | (refine below_alloc ?_ (by (first | omega | (simp only [size_grow, World.size_alloc, size_drewN, size_drew, size_setCell] at *; omega))) _) | (refine Below.setCell ?_ (by (first | omega | (simp only [size_grow, World.size_alloc, size_drewN, size_drew, size_setCell] at *; omega))) _) | refine below_drewN ?_ _ | refine below_drew ?_ | (refine below_step ?_ (by assumption) (by (first | omega | (simp only [size_grow, World.size_alloc, size_drewN, size_drew, size_setCell] at *; omega)))))))) (by omega) hts9).mono ?_; rintro e u2 ⟨rfl, hb_u2⟩; replace hb_u2 := ex_below hb_u2; (try rw [hw]); have bel_u2 : Below u1.heap.size u1 u2 := (by (repeat (first | exact Below.refl _ _ | assumption | (refine below_gr ?_ (by (first | omega | (simp only [size_grow, World.size_alloc, size_drewN, size_drew, size_setCell] at *; omega))) _) | (refine below_alloc ?_ (by (first | omega | (simp only [size_grow, World.size_alloc, size_drewN, size_drew, size_setCell] at *; omega))) _) | (refine Below.setCell ?_ (by (first | omega | (simp only [size_grow, World.size_alloc, size_drewN, size_drew, size_setCell] at *; omega))) _) | refine below_drewN ?_ _ | refine below_drew ?_ | (refine below_step ?_ (by assumption) (by (first | omega | (simp only [size_grow, World.size_alloc, size_drewN, size_drew, size_setCell] at *; omega))))))); clear hb_u2; have sz_u2 := bel_u2.size; replace hA := hA.ext bel_u2; replace hB := hB.ext bel_u2; replace hX := hX.ext bel_u2; replace hW := below_step hW bel_u2 (by have := hW.size; omega); (try clear hXc0 hXf hXl); have hXc0 := obj_at hX 0 _ rfl; have hXf := obj_fz hX 0; have hXl := obj_lt hX; clear bel_u2; have tok2 : True := trivial)
    | (clear tok2; go_at_call 24; refine (HT.out _ (hA.ext (by (repeat (first | exact Below.refl _ _ | assumption | (refine below_gr ?_ (by (first | omega | (simp only [size_grow, World.size_alloc, size_drewN, size_drew, size_setCell] at *; omega))) _) | (refine below_alloc ?_ (by (first | omega | (simp only [size_grow, World.size_alloc, size_drewN, size_drew, size_setCell] at *; omega))) _) | (refine Below.setCell ?_ (by (first | omega | (simp only [size_grow, World.size_alloc, size_drewN, size_drew, size_setCell] at *; omega))) _) | refine below_drewN ?_ _ | refine below_drew ?_ | (refine below_step ?_ (by assumption) (by (first | omega | (simp only [size_grow, World.size_alloc, size_drewN, size_drew, size_setCell] at *; omega)))))))) (hB.ext (by (repeat (first | exact Below.refl _ _ | assumption | (refine below_gr ?_ (by (first | omega | (simp only [size_grow, World.size_alloc, size_drewN, size_drew, size_setCell] at *; omega))) _) | (refine below_alloc ?_ (by (first | omega | (simp only [size_grow, World.size_alloc, size_drewN, size_drew, size_setCell] at *; omega))) _) | (refine Below.setCell ?_ (by (first | omega | (simp only [size_grow, World.size_alloc, size_drewN, size_drew, size_setCell] at *; omega))) _) | refine below_drewN ?_ _ | refine below_drew ?_ | (refine below_step ?_ (by assumption) (by (first | omega | (simp only [size_grow, World.size_alloc, size_drewN, size_drew, size_setCell] at *; omega))))))))).mono ?_; rintro e u3 ⟨rfl, hb_u3⟩; replace hb_u3 := ex_below hb_u3; have bel_u3 : Below u2.heap.size u2 u3 := (by (repeat (first | exact Below.refl _ _ | assumption | (refine below_gr ?_ (by (first | omega | (simp only [size_grow, World.size_alloc, size_drewN, size_drew, size_setCell] at *; omega))) _) | (refine below_alloc ?_ (by (first | omega | (simp only [size_grow, World.size_alloc, size_drewN, size_drew, size_setCell] at *; omega))) _) | (refine Below.setCell ?_ (by (first | omega | (simp only [size_grow, World.size_alloc, size_drewN, size_drew, size_setCell] at *; omega))) _) | refine below_drewN ?_ _ | refine below_drew ?_ | (refine below_step ?_ (by assumption) (by (first | omega | (simp only [size_grow, World.size_alloc, size_drewN, size_drew, size_setCell] at *; omega))))))); clear hb_u3; have sz_u3 := bel_u3.size; replace hA := hA.ext bel_u3; replace hB := hB.ext bel_u3; replace hX := hX.ext bel_u3; replace hW := below_step hW bel_u3 (by have := hW.size; omega); (try clear hXc0 hXf hXl); have hXc0 := obj_at hX 0 _ rfl; have hXf := obj_fz hX 0; have hXl := obj_lt hX; clear bel_u3; have tok3 : True := trivial))

    go_ret
    exact gives_of rfl hW
/-- the outcome that numbers name -/
def outcomeN (R X : List Nat) : List Nat := List.zipWith (fun n x => x % n) R X
theorem outcomeN_len {R X : List Nat} (h : R.length ≤ X.length) : (outcomeN R X).length = R.length := by simp [outcomeN]; omega
theorem bytes_at (x0 x1 x2 x3 x4 k : Nat) (h : k < 5) : (#[.int .u8 (x0 : Nat), .int .u8 (x1 : Nat), .int .u8 (x2 : Nat), .int .u8 (x3 : Nat), .int .u8 (x4 : Nat)] : Array Value)[k]? = some (.int .u8 ([x0, x1, x2, x3, x4].getD k 0 : Nat)) := by
  have : k = 0 ∨ k = 1 ∨ k = 2 ∨ k = 3 ∨ k = 4 := by omega
  rcases this with rfl | rfl | rfl | rfl | rfl <;> rfl
set_option maxRecDepth 100000 in
set_option maxHeartbeats 8000000 in
theorem Outcome_any (A : Option Addr) (R : List Nat) (c : Nat) (x0 x1 x2 x3 x4 : Nat) (w : World) (hA : I64 w A (zs R)) (h5 : R.length ≤ 5) (h1 : ∀ n, n ∈ R → 1 ≤ n) (h6 : ∀ n, n ∈ R → n ≤ 6) (b0 : x0 < 256) (b1 : x1 < 256) (b2 : x2 < 256) (b3 : x3 < 256) (b4 : x4 < 256) :
    Calls Try.prog 47 #[.agg #[.slice A R.length c], .agg #[.int .u8 (x0 : Nat), .int .u8 (x1 : Nat), .int .u8 (x2 : Nat), .int .u8 (x3 : Nat), .int .u8 (x4 : Nat)]] w (GivesI w (zs (outcomeN R [x0, x1, x2, x3, x4]))) := by
  obtain ⟨i0, ih, iz, is, ib⟩ := info_parts info3
  have h5i : (R.length : Int) ≤ 5 := by omega
  have HOL := hide (outcomeN_len (R := R) (X := [x0, x1, x2, x3, x4]) h5)
  have HX := hide (fun k (hk : k < R.length) => (show (outcomeN R [x0, x1, x2, x3, x4]).take (k + 1) = (outcomeN R [x0, x1, x2, x3, x4]).take k ++ [[x0, x1, x2, x3, x4].getD k 0 % R[k]] by
    rw [take_snoc _ k (by rw [outcomeN_len h5]; exact hk)]
    simp only [outcomeN, List.getElem_zipWith]
    rw [getD_at [x0, x1, x2, x3, x4] k (by simp; omega)]))
  have HBB := hide (fun k (hk : k < 5) => (show [x0, x1, x2, x3, x4].getD k 0 < 256 by
    have : k = 0 ∨ k = 1 ∨ k = 2 ∨ k = 3 ∨ k = 4 := by omega
    rcases this with rfl | rfl | rfl | rfl | rfl <;> simpa))
  have HAT := hide (bytes_at x0 x1 x2 x3 x4)
  generalize outcomeN R [x0, x1, x2, x3, x4] = ol at *
  generalize [x0, x1, x2, x3, x4] = X at *
  go_enter Try.func47, Try.ntmps47
  go_wp2
  obtain ⟨W0, hW0⟩ : ∃ W0, ((w.alloc (.cells #[.slice A R.length c] 24)).alloc (.cells #[.int .u8 (x0 : Nat), .int .u8 (x1 : Nat), .int .u8 (x2 : Nat), .int .u8 (x3 : Nat), .int .u8 (x4 : Nat)] 53)) = W0 := ⟨_, rfl⟩
  have hbW : Below w.heap.size w W0 := by rw [← hW0]; (repeat (first | exact Below.refl _ _ | assumption | (refine below_gr ?_ (by (first | omega | (simp only [size_grow, World.size_alloc, size_drewN, size_drew, size_setCell] at *; omega))) _) | (refine below_alloc ?_ (by (first | omega | (simp only [size_grow, World.size_alloc, size_drewN, size_drew, size_setCell] at *; omega))) _) | (refine Below.setCell ?_ (by (first | omega | (simp only [size_grow, World.size_alloc, size_drewN, size_drew, size_setCell] at *; omega))) _) | refine below_drewN ?_ _ | refine below_drew ?_ | (refine below_step ?_ (by assumption) (by (first | omega | (simp only [size_grow, World.size_alloc, size_drewN, size_drew, size_setCell] at *; omega))))))
  have hs0 : W0.heap.size = w.heap.size + 1 + 1 := by rw [← hW0]; simp
  have e0 : W0.cell? ⟨w.heap.size, 0, none⟩ = some (.slice A R.length c) := by rw [← hW0]; exact obj_at (heap_a _ _ _) 0 _ rfl
  have e1 : ∀ k, k < 5 → W0.cell? ⟨w.heap.size + 1, k, none⟩ = some (.int .u8 (X.getD k 0 : Nat)) := fun k hk => by rw [← hW0]; exact obj_at (heap_b _ _ _) k _ (HAT.out k hk)
  rw [hW0]
  clear hW0 HAT
  replace hA := hA.ext hbW
  go_loopw [5, 6] (fun t5 t6 wr => ∃ (k : Nat) (O : Option Addr) (oc : Nat), k ≤ R.length ∧ t6 = .int .i64 (k : Nat) ∧ t5 = .slice O k oc ∧ Below W0.heap.size W0 wr ∧ wr.ownsRow W0.heap.size 3 1 (.slice O k oc) k ((zs (ol.take k)).map (Value.int .i64))) (fun _ i _ => R.length - (intOf i).toNat)
  case atStart => exact ⟨0, none, 0, Nat.zero_le _, rfl, rfl, Below.refl _ _, World.ownsRow_nil _ _ _ _⟩
  case round =>
    obtain ⟨k, O, oc, hk, rfl, rfl, hb, hown⟩ := hrel
    have hbz := hb.size
    have c0 := Below.blk hb (by omega) e0
    by_cases hlt : k < R.length
    · have hA1 := hA.ext hb
      obtain ⟨ab, ao, rfl, hab⟩ := zsF hA (by omega)
      have r0 := zsI (hA.ext hb) hlt
      clear hA1
      have c1 : wr.cell? ⟨w.heap.size + 1, k, none⟩ = _ := (hb.cell (p := ⟨w.heap.size + 1, k, none⟩) (by show w.heap.size + 1 < _; omega)).trans (e1 k (by omega))
      have HXK := hide (HX.out k hlt)
      have hn1 := h1 _ (List.getElem_mem hlt)
      have hn6 := h6 _ (List.getElem_mem hlt)
      have hx8 := HBB.out k (by omega)
      generalize R[k] = n at *
      generalize X.getD k 0 = x at *
      have hk5 : (k : Int) < 5 := by omega
      have hki : (k : Int) < (R.length : Int) := by omega
      have hn0 : (n : Int) ≠ 0 := by omega
      have hnn : ¬ n = 0 := by omega
      have hqm : ((x : Int)).tmod (n : Int) = (x : Int) % (n : Int) := Int.tmod_eq_emod_of_nonneg (by omega)
      have hxe : (x : Int) % (n : Int) = ((x % n : Nat) : Int) := by simp
      have hl1 : w.heap.size < wr.heap.size := by omega
      have hl2 : w.heap.size + 1 < wr.heap.size := by omega
      have hxl : x % n < 6 := Nat.lt_of_lt_of_le (Nat.mod_lt _ (by omega)) hn6
      have hr0 : (0 : Int) ≤ (x : Int) % (n : Int) := by rw [hxe]; omega
      have hr6 : (x : Int) % (n : Int) < 6 := by rw [hxe]; omega
      have HXE := hide hxe
      clear hxe
      go_wp2
      go_region_held3 (fun w' => w'.cell? ⟨w.heap.size, 0, none⟩ = some (.slice (some ⟨ab, ao, none⟩) R.length c) ∧ w'.cell? ⟨w.heap.size + 1, k, none⟩ = some (.int .u8 (x : Nat)) ∧ w'.cell? ⟨ab, ao + k, none⟩ = some (.int .i64 (n : Nat))) (go_keep) (first
        | (refine step_app _ rfl (.tmp 14) (.tmp 25) 22 rfl W0.heap.size 3 i0 _ 1 8 und22 ih iz is ib rfl (by decide) _ k ((zs (ol.take k)).map (Value.int .i64)) rfl ?own (some ⟨wr.heap.size, 0, none⟩) 1 1 [.int .i64 ((IntKind.i64.wrap (x : Nat)).tmod (n : Int))] rfl ?rd ?one ?b1 ?b2 ?b3 ?_
           case own => exact (hown.alloc _)
           case rd => exact rd_new1 wr _ _
           case one => simp [Value.oneCell']
           case b1 => unfold maxLen; omega
           case b2 => omega
           case b3 => (first | omega | (simp only [size_grow, World.size_alloc, size_drewN, size_drew, size_setCell]; omega) | (simp only [size_grow, World.size_alloc, size_drewN, size_drew, size_setCell] at *; omega) | (simp; done) | (simp; omega))
           intro A2 c2 w7 hown7 hgr7
           have hz7 := hgr7.size
           have hfar : ∀ b, b < W0.heap.size → ∀ kk, (Value.slice O k oc).ownBlock = some kk → b ≠ kk := fun b hb kk h => by have := (hown.lt kk h).1; omega
           have g0 : w7.cell? ⟨w.heap.size, 0, none⟩ = some (.slice (some ⟨ab, ao, none⟩) R.length c) := (gb_cell hgr7 w.heap.size (by (first | omega | (simp only [size_grow, World.size_alloc, size_drewN, size_drew, size_setCell]; omega) | (simp only [size_grow, World.size_alloc, size_drewN, size_drew, size_setCell] at *; omega) | (simp; done) | (simp; omega))) (hfar _ (by omega)) 0).trans (by go_keep)
           have g1 : w7.cell? ⟨w.heap.size + 1, k, none⟩ = some (.int .u8 (x : Nat)) := (gb_cell hgr7 (w.heap.size + 1) (by (first | omega | (simp only [size_grow, World.size_alloc, size_drewN, size_drew, size_setCell]; omega) | (simp only [size_grow, World.size_alloc, size_drewN, size_drew, size_setCell] at *; omega) | (simp; done) | (simp; omega))) (hfar _ (by omega)) k).trans (by go_keep)
           have g2 : w7.cell? ⟨ab, ao + k, none⟩ = some (.int .i64 (n : Nat)) := (gb_cell hgr7 ab (by (first | omega | (simp only [size_grow, World.size_alloc, size_drewN, size_drew, size_setCell]; omega) | (simp only [size_grow, World.size_alloc, size_drewN, size_drew, size_setCell] at *; omega) | (simp; done) | (simp; omega))) (hfar _ hab) (ao + k)).trans (by go_keep)
           have G7 := hide hgr7
           have O7 := hide hown7
           clear hgr7 hown7 hfar))
      go_wp2
      go_roundw
      case measure => simp [intOf]; omega
      have hwx : IntKind.i64.wrap (x : Nat) = ((x : Nat) : Int) := by rw [IntKind.wrap_i64]; omega
      have hbe : Below W0.heap.size W0 w7 := gb_below (below_drew (below_alloc hb (by omega) _)) (show _ from G7.out) (by simp; omega) (fun kk h => (hown.lt kk h).1)
      refine ⟨k + 1, A2, c2, by omega, by go_num, rfl, hbe, ?_⟩
      have h7 := O7.out
      rw [hwx, hqm, HXE.out] at h7
      rw [HXK.out]
      simpa [zs] using h7
    · have hkl : k = R.length := by omega
      rw [List.take_of_length_le (by rw [HOL.out, hkl]; exact Nat.le_refl _)] at hown
      have hI := own_i64 (xs := zs ol) (c := oc) (by rw [zs_len, HOL.out, ← hkl]; exact hown)
      have HI := hide hI
      have HK := hide hkl
      clear hI hown hkl
      go_wp2
      go_ret
      exact ⟨O, oc, by rw [zs_len, HOL.out, ← HK.out]; rfl, below_grow (hbW.trans (hb.mono hbW.size)), HI.out.1, HI.out.2.1, fun b o e => by have := HI.out.2.2 b o e; omega⟩
end Go.Proofs.Ytlbkaeoagdbemaa
