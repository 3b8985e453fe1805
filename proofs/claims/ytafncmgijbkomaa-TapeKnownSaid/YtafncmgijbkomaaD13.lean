/- Proved here: the law TapeKnown, a part of the proofs about the tape laws. Conditions: those that each theorem names, no others. -/
import Derived.Test.YtafncmgijbkomaaP30
import Derived.WalkKit
import Derived.WalkSpells
import Derived.WalkLawsBesides
import Derived.Below
import Derived.Deep.QuietTactic
import Derived.BigQuiet
import Derived.Deep.Light
import Derived.Test.YtafncmgijbkomaaP25
import Derived.Test.YtafncmgijbkomaaE1
import Derived.Deep.RegionHeld3

set_option linter.unusedSimpArgs false
set_option linter.unusedVariables false
namespace Go.Proofs.Ytafncmgijbkomaa
open Go.RowKit Go.Maps Go.Lib
set_option maxRecDepth 100000
theorem x_has : hasR 3 setL ⟨#[97, 98, 99, 99]⟩ = (false, 0) := by decide +kernel
theorem x_odd : tabR 3 setL [5, 4, 3, 3, 4, 3, 2, 2, 3, 2, 2, 1, 3, 2, 1, 0] = (0, 14) := by decide +kernel
theorem x_zer : tabR 3 setL [0, 0, 0, 0, 0, 0, 0, 0, 0, 0, 0, 0, 0, 0, 0, 0] = (0, 0) := by decide +kernel
theorem x_cnt : countR 3 setL 3 = (0, 0) := by decide +kernel
theorem x_ng : nightR 3 setL 4 0 = (⟨#[97, 98, 99, 98]⟩, 0) := by decide +kernel
theorem x_pl : pullsA 3 setL 4 97 = ((1, 1), 0) := by decide +kernel
theorem x_k1 : kindA 3 setL 4 97 1 98 1 = (2, 0) := by decide +kernel
theorem x_k2 : kindA 3 setL 4 98 2 99 1 = (0, 0) := by decide +kernel
theorem x_w4 : wrgR 3 setL 4 = ([], 0) := by decide +kernel
theorem x_w2 : wrgR 3 setL 2 = ([0, 1], 0) := by decide +kernel
def tableT : List Int := [4, 3, 3, 4, 3, 2, 2, 3, 2, 2, 1, 3, 2, 1, 0]
def oddL : List Int := [5, 4, 3, 3, 4, 3, 2, 2, 3, 2, 2, 1, 3, 2, 1, 0]
def zerL : List Int := [0, 0, 0, 0, 0, 0, 0, 0, 0, 0, 0, 0, 0, 0, 0, 0]
theorem nthL (b n : Int) (w : World) : Calls Try.prog 48 #[.int .u8 b, .int .i64 n] w (Gives w (.agg #[.int .u8 b, .int .i64 n])) := by
  go_enter Try.func48, Try.ntmps48
  go_wp2
  refine bodyPost_ret (v := .agg #[.int .u8 b, .int .i64 n]) (by simp [results, Try.results48, go_sem]) rfl ?_
  exact gives_of (rfl) (by (repeat (first | exact Below.refl _ _ | assumption | refine below_drewN ?_ _ | refine below_drew ?_ | refine below_gr ?_ ?_ _ | refine below_alloc ?_ ?_ _ | refine Below.setCell ?_ ?_ _ | refine below_step ?_ (by assumption) ?_ | omega | (simp only [zz] at *; omega))))
theorem ints01 (P : Option Addr) (c : Nat) (Q : Option Addr) (d : Nat) (w : World) (hP : I64 w P [0, 1]) (hQ : I64 w Q [0, 1]) : Calls Try.prog 39 #[.slice P 2 c, .slice Q 2 d] w (Gives w (.bool true)) := ints_any P [0, 1] c Q [0, 1] d w hP hQ (by decide) (by decide)
theorem table2_any (w : World) : Calls Try.prog 53 #[] w (fun e w' => ∃ b, e = .returned (.slice (some ⟨b, 0, none⟩) 16 16) ∧ Grew w w' ∧ I64 w' (some ⟨b, 0, none⟩) tableL) := by
  go_enter Try.func53, Try.ntmps53
  go_wp2
  go_ret
  exact ⟨_, rfl, grew_of (by (repeat (first | exact Below.refl _ _ | assumption | refine below_drewN ?_ _ | refine below_drew ?_ | refine below_gr ?_ ?_ _ | refine below_alloc ?_ ?_ _ | refine Below.setCell ?_ ?_ _ | refine below_step ?_ (by assumption) ?_ | omega | (simp only [zz] at *; omega)))), i64_new w tableL 3 _ rfl⟩
theorem i64_zer (w : World) : I64 ((w.alloc (.cells #[.int .i64 0, .int .i64 0, .int .i64 0, .int .i64 0, .int .i64 0, .int .i64 0, .int .i64 0, .int .i64 0, .int .i64 0, .int .i64 0, .int .i64 0, .int .i64 0, .int .i64 0, .int .i64 0, .int .i64 0, .int .i64 0] 3)).drew) (some ⟨w.heap.size, 0, none⟩) zerL := (i64_new w zerL 3 _ rfl).ext (below_drew (Below.refl _ _))
theorem rd_tail {w : World} {b : Nat} (h : I64 w (some ⟨b, 0, none⟩) tableL) : Rd w 1 (some ⟨b, 1, none⟩) 15 (tableT.map (Value.int .i64)) := by
  refine i64_rd (xs := tableT) (fun k x hk => ?_)
  obtain ⟨b1, o1, e1, e2, e3, e4⟩ := h (k + 1) x hk
  injection e1 with e1
  injection e1 with e5 e6 _
  subst e5 e6
  exact ⟨b, 1, rfl, e2, e3, by rw [← e4, show 0 + (k + 1) = 1 + k by omega]⟩
theorem y_has (A : Option Addr) (c : Nat) (w : World) (hA : Strs w A setL) : Calls Try.prog 19 #[.agg #[.int .i64 3, .slice A 2 c], .string ⟨#[97, 98, 99, 99]⟩] w (Gives w (.tuple #[.bool false, .int .i64 0])) := by
  have h := Has_any 3 A setL c w hA (by decide) set_sz ⟨#[97, 98, 99, 99]⟩ (by decide)
  rw [x_has] at h
  exact h
theorem y_odd (A : Option Addr) (c : Nat) (w : World) (hA : Strs w A setL) (T : Option Addr) (d : Nat) (hT : I64 w T (oddL)) : Calls Try.prog 27 #[.agg #[.int .i64 3, .slice A 2 c], .slice T 16 d] w (Gives w (.tuple #[.int .i64 0, .int .i64 14])) := by
  have h := CheckTable_any 3 A setL c w hA (by decide) set_sz T oddL d hT (by decide)
  rw [show tabR 3 setL oddL = (0, 14) from x_odd] at h
  exact h
theorem y_zer (A : Option Addr) (c : Nat) (w : World) (hA : Strs w A setL) (T : Option Addr) (d : Nat) (hT : I64 w T (zerL)) : Calls Try.prog 27 #[.agg #[.int .i64 3, .slice A 2 c], .slice T 16 d] w (Gives w (.tuple #[.int .i64 0, .int .i64 0])) := by
  have h := CheckTable_any 3 A setL c w hA (by decide) set_sz T zerL d hT (by decide)
  rw [show tabR 3 setL zerL = (0, 0) from x_zer] at h
  exact h
theorem y_cnt (A : Option Addr) (c : Nat) (w : World) (hA : Strs w A setL) : Calls Try.prog 30 #[.agg #[.int .i64 3, .slice A 2 c], .int .i64 3] w (Gives w (.tuple #[.int .i64 0, .int .i64 0])) := by
  have h := Count_any 3 A setL c w hA (by decide) set_sz 3
  rw [x_cnt] at h
  exact h
theorem y_ng (A : Option Addr) (c : Nat) (w : World) (hA : Strs w A setL) : Calls Try.prog 32 #[.agg #[.int .i64 3, .slice A 2 c], .int .i64 4, .int .i64 0] w (Gives w (.tuple #[.string ⟨#[97, 98, 99, 98]⟩, .int .i64 0])) := by
  have h := Night_any 3 A setL c w hA (by decide) set_sz 4 0
  rw [x_ng] at h
  exact h
theorem y_pl (A : Option Addr) (c : Nat) (w : World) (hA : Strs w A setL) : Calls Try.prog 35 #[.agg #[.int .i64 3, .slice A 2 c], .int .i64 4, .int .u8 97] w (Gives w (.tuple #[.agg #[.int .i64 1, .int .i64 1], .int .i64 0])) := by
  have h := Pulls_any 3 A setL c w hA (by decide) set_sz 97 (by decide) 4
  rw [x_pl] at h
  exact h
theorem y_k1 (A : Option Addr) (c : Nat) (w : World) (hA : Strs w A setL) : Calls Try.prog 40 #[.agg #[.int .i64 3, .slice A 2 c], .int .i64 4, .agg #[.int .u8 97, .int .i64 1], .agg #[.int .u8 98, .int .i64 1]] w (Gives w (.tuple #[.int .i64 2, .int .i64 0])) := by
  have h := Kind_any 3 A setL c w hA (by decide) set_sz 97 1 98 1 (by decide) (by decide) 4
  rw [x_k1] at h
  exact h
theorem y_k2 (A : Option Addr) (c : Nat) (w : World) (hA : Strs w A setL) : Calls Try.prog 40 #[.agg #[.int .i64 3, .slice A 2 c], .int .i64 4, .agg #[.int .u8 98, .int .i64 2], .agg #[.int .u8 99, .int .i64 1]] w (Gives w (.tuple #[.int .i64 0, .int .i64 0])) := by
  have h := Kind_any 3 A setL c w hA (by decide) set_sz 98 2 99 1 (by decide) (by decide) 4
  rw [x_k2] at h
  exact h
theorem y_w4 (A : Option Addr) (c : Nat) (w : World) (hA : Strs w A setL) : Calls Try.prog 37 #[.agg #[.int .i64 3, .slice A 2 c], .int .i64 4] w (GivesIntsL w ([], 0)) := by
  have h := Wrong_any 3 A setL c w hA (by decide) set_sz 4
  rw [x_w4] at h
  exact h
theorem y_w2 (A : Option Addr) (c : Nat) (w : World) (hA : Strs w A setL) : Calls Try.prog 37 #[.agg #[.int .i64 3, .slice A 2 c], .int .i64 2] w (GivesIntsL w ([0, 1], 0)) := by
  have h := Wrong_any 3 A setL c w hA (by decide) set_sz 2
  rw [x_w2] at h
  exact h
set_option maxHeartbeats 8000000 in
theorem known_law (w : World) : Calls Try.prog 16 #[] w (Gives w (.bool true)) := by
  have tok0 : True := trivial
  obtain ⟨i0, ih, iz, is, ib⟩ := info_parts infoI
  have hmk : ∀ W : World, (Instr.makeSlice 32 (.int .i64 16) (.int .i64 16)).run Try.prog W = .ok (.slice (some ⟨W.heap.size, 0, none⟩) 16 16) (W.alloc (.cells #[.int .i64 0, .int .i64 0, .int .i64 0, .int .i64 0, .int .i64 0, .int .i64 0, .int .i64 0, .int .i64 0, .int .i64 0, .int .i64 0, .int .i64 0, .int .i64 0, .int .i64 0, .int .i64 0, .int .i64 0, .int .i64 0] 3)) := fun W => make_zeros 16 32 3 i0 (.int .i64 0) und32 ih iz is (by rw [ib]; decide) rfl (by decide) W
  go_enter Try.func16, Try.ntmps16
  go_wp2_with (first
    | (clear tok0; go_at_call 52; refine (set_any _).mono ?_; rintro e u1 ⟨b, rfl, hb1, hA⟩; replace hb1 := ex_below hb1; have bel1 : Below w.heap.size w u1 := (by (repeat (first | exact Below.refl _ _ | assumption | refine below_drewN ?_ _ | refine below_drew ?_ | refine below_gr ?_ ?_ _ | refine below_alloc ?_ ?_ _ | refine Below.setCell ?_ ?_ _ | refine below_step ?_ (by assumption) ?_ | omega | (simp only [zz] at *; omega)))); clear hb1; have sz1 := bel1.size; have hW := bel1; clear bel1; have tok1 : True := trivial)
    | (clear tok1; go_at_call 19; refine (y_has _ 2 _ (hA.ext (by (repeat (first | exact Below.refl _ _ | assumption | refine below_drewN ?_ _ | refine below_drew ?_ | refine below_gr ?_ ?_ _ | refine below_alloc ?_ ?_ _ | refine Below.setCell ?_ ?_ _ | refine below_step ?_ (by assumption) ?_ | omega | (simp only [zz] at *; omega)))))).mono ?_; rintro e u2 ⟨rfl, hb2⟩; replace hb2 := ex_below hb2; have bob2 : Below (u1.alloc (.cells #[.int .i64 3, .slice (some ⟨b, 0, none⟩) 2 2] 24)).heap.size (u1.alloc (.cells #[.int .i64 3, .slice (some ⟨b, 0, none⟩) 2 2] 24)) u2 := (by (repeat (first | exact Below.refl _ _ | assumption | refine below_drewN ?_ _ | refine below_drew ?_ | refine below_gr ?_ ?_ _ | refine below_alloc ?_ ?_ _ | refine Below.setCell ?_ ?_ _ | refine below_step ?_ (by assumption) ?_ | omega | (simp only [zz] at *; omega)))); have hX := (ObjV.new u1 24 (.int .i64 3) (.slice (some ⟨b, 0, none⟩) 2 2)).below bob2; have bel2 : Below u1.heap.size u1 u2 := (by (repeat (first | exact Below.refl _ _ | assumption | refine below_drewN ?_ _ | refine below_drew ?_ | refine below_gr ?_ ?_ _ | refine below_alloc ?_ ?_ _ | refine Below.setCell ?_ ?_ _ | refine below_step ?_ (by assumption) ?_ | omega | (simp only [zz] at *; omega)))); clear bob2; clear hb2; have sz2 := bel2.size; replace hA := hA.ext bel2; replace hW := below_step hW bel2 (by have := hW.size; omega); (try clear hXc0 hXc1 hXlt); have hXc0 := hX.c0; have hXc1 := hX.c1; have hXlt := hX.lt; clear bel2; have tok2 : True := trivial)
    | (clear tok2; go_at_call 53; refine (table2_any _).mono ?_; rintro e u3 ⟨bt, rfl, hb3, hT⟩; replace hb3 := ex_below hb3; have bel3 : Below u2.heap.size u2 u3 := (by (repeat (first | exact Below.refl _ _ | assumption | refine below_drewN ?_ _ | refine below_drew ?_ | refine below_gr ?_ ?_ _ | refine below_alloc ?_ ?_ _ | refine Below.setCell ?_ ?_ _ | refine below_step ?_ (by assumption) ?_ | omega | (simp only [zz] at *; omega)))); have hown := own_below (own_lit1 u2 3 (.int .i64 5)) hb3; clear hb3; have sz3 := bel3.size; have hrd := rd_tail hT; have tok3 : True := trivial)
    | (clear tok3; at_builtin; refine wpList_appN _ rfl (.tmp 29) (.tmp 31) 32 rfl (u2.heap.size) 3 i0 _ 1 8 und32 ih iz is ib rfl (by decide) (_) (1) ([.int .i64 5]) rfl hown (some ⟨bt, 1, none⟩) (15) (15) (tableT.map (Value.int .i64)) rfl hrd (one_ints _) (by decide) (by decide) (by omega) ?_; intro Ao co u4 hown4 hgr4 far4; have hO : I64 u4 Ao oddL := own_i64 hown4; have bel4 : Below u2.heap.size u2 u4 := gb_below bel3 hgr4 (by omega) (fun k hk => (hown.lt k hk).1); clear hgr4 far4 hown4 hown hrd hT bel3; have sz4 := bel4.size; replace hA := hA.ext bel4; replace hW := below_step hW bel4 (by have := hW.size; omega); replace hX := hX.below bel4; (try clear hXc0 hXc1 hXlt); have hXc0 := hX.c0; have hXc1 := hX.c1; have hXlt := hX.lt; clear bel4; have tok4 : True := trivial)
    | (clear tok4; go_at_call 27; refine (y_odd _ 2 _ (hA.ext (by (repeat (first | exact Below.refl _ _ | assumption | refine below_drewN ?_ _ | refine below_drew ?_ | refine below_gr ?_ ?_ _ | refine below_alloc ?_ ?_ _ | refine Below.setCell ?_ ?_ _ | refine below_step ?_ (by assumption) ?_ | omega | (simp only [zz] at *; omega))))) _ _ (hO.ext (by (repeat (first | exact Below.refl _ _ | assumption | refine below_drewN ?_ _ | refine below_drew ?_ | refine below_gr ?_ ?_ _ | refine below_alloc ?_ ?_ _ | refine Below.setCell ?_ ?_ _ | refine below_step ?_ (by assumption) ?_ | omega | (simp only [zz] at *; omega)))))).mono ?_; rintro e u5 ⟨rfl, hb5⟩; replace hb5 := ex_below hb5; have bel5 : Below u4.heap.size u4 u5 := (by (repeat (first | exact Below.refl _ _ | assumption | refine below_drewN ?_ _ | refine below_drew ?_ | refine below_gr ?_ ?_ _ | refine below_alloc ?_ ?_ _ | refine Below.setCell ?_ ?_ _ | refine below_step ?_ (by assumption) ?_ | omega | (simp only [zz] at *; omega)))); clear hb5; have sz5 := bel5.size; replace hA := hA.ext bel5; replace hW := below_step hW bel5 (by have := hW.size; omega); replace hX := hX.below bel5; replace hO := hO.ext bel5; (try clear hXc0 hXc1 hXlt); have hXc0 := hX.c0; have hXc1 := hX.c1; have hXlt := hX.lt; clear bel5; have tok5 : True := trivial))
  go_region_held3 (fun w' => w'.cell? ⟨u1.heap.size, 0, none⟩ = some (.int .i64 3) ∧ w'.cell? ⟨u1.heap.size, 1, none⟩ = some (.slice (some ⟨b, 0, none⟩) 2 2)) (go_keep) (first
    | (go_at_call 27; refine (y_zer _ 2 _ (hA.ext (by (repeat (first | exact Below.refl _ _ | assumption | refine below_drewN ?_ _ | refine below_drew ?_ | refine below_gr ?_ ?_ _ | refine below_alloc ?_ ?_ _ | refine Below.setCell ?_ ?_ _ | refine below_step ?_ (by assumption) ?_ | omega | (simp only [zz] at *; omega))))) _ _ (i64_zer u5)).mono ?_; rintro e u6 ⟨rfl, hb6⟩; replace hb6 := ex_below hb6; have hz6 := hb6.size; (try simp only [zz] at hz6); have hs6 : u1.heap.size < u6.heap.size := (by (first | omega | (simp only [zz] at *; omega))); have ho6 := own_cell hb6 (b := u1.heap.size) (by (first | omega | (simp only [zz] at *; omega))); have hq6 := own_frozen hb6 (b := u1.heap.size) (by (first | omega | (simp only [zz] at *; omega))); have hlt6 : ∀ b, b < u5.heap.size → b < u6.heap.size := fun b hb => (by (first | omega | (simp only [zz] at *; omega))); have hc6 : ∀ b o, b < u5.heap.size → u6.cell? ⟨b, o, none⟩ = u5.cell? ⟨b, o, none⟩ := old_cell (by (repeat (first | exact Below.refl _ _ | assumption | refine below_drewN ?_ _ | refine below_drew ?_ | refine below_gr ?_ ?_ _ | refine below_alloc ?_ ?_ _ | refine Below.setCell ?_ ?_ _ | refine below_step ?_ (by assumption) ?_ | omega | (simp only [zz] at *; omega))))))
  have bel6 : Below u5.heap.size u5 u6 := by (repeat (first | exact Below.refl _ _ | assumption | (refine below_gr ?_ (by (first | omega | (simp only [zz] at *; omega))) _) | (refine below_alloc ?_ (by (first | omega | (simp only [zz] at *; omega))) _) | (refine Below.setCell ?_ (by (first | omega | (simp only [zz] at *; omega))) _) | refine below_drewN ?_ _ | refine below_drew ?_ | (refine below_step ?_ (by assumption) (by (first | omega | (simp only [zz] at *; omega))))))
  clear hb6 ho6 hq6 hlt6 hc6
  have szu6 := bel6.size
  replace hA := hA.ext bel6
  replace hW := below_step hW bel6 (by have := hW.size; omega)
  replace hX := hX.below bel6
  (try clear hXc0 hXc1 hXlt)
  have hXc0 := hX.c0
  have hXc1 := hX.c1
  have hXlt := hX.lt
  have tok6 : True := trivial
  go_wp2_with (first
    | (clear tok6; go_at_call 30; refine (y_cnt _ 2 _ (hA.ext (by (repeat (first | exact Below.refl _ _ | assumption | refine below_drewN ?_ _ | refine below_drew ?_ | refine below_gr ?_ ?_ _ | refine below_alloc ?_ ?_ _ | refine Below.setCell ?_ ?_ _ | refine below_step ?_ (by assumption) ?_ | omega | (simp only [zz] at *; omega)))))).mono ?_; rintro e u7 ⟨rfl, hb7⟩; replace hb7 := ex_below hb7; have bel7 : Below u6.heap.size u6 u7 := (by (repeat (first | exact Below.refl _ _ | assumption | refine below_drewN ?_ _ | refine below_drew ?_ | refine below_gr ?_ ?_ _ | refine below_alloc ?_ ?_ _ | refine Below.setCell ?_ ?_ _ | refine below_step ?_ (by assumption) ?_ | omega | (simp only [zz] at *; omega)))); clear hb7; have sz7 := bel7.size; replace hA := hA.ext bel7; replace hW := below_step hW bel7 (by have := hW.size; omega); replace hX := hX.below bel7; (try clear hXc0 hXc1 hXlt); have hXc0 := hX.c0; have hXc1 := hX.c1; have hXlt := hX.lt; clear bel7; have tok7 : True := trivial)
    | (clear tok7; go_at_call 32; refine (y_ng _ 2 _ (hA.ext (by (repeat (first | exact Below.refl _ _ | assumption | refine below_drewN ?_ _ | refine below_drew ?_ | refine below_gr ?_ ?_ _ | refine below_alloc ?_ ?_ _ | refine Below.setCell ?_ ?_ _ | refine below_step ?_ (by assumption) ?_ | omega | (simp only [zz] at *; omega)))))).mono ?_; rintro e u8 ⟨rfl, hb8⟩; replace hb8 := ex_below hb8; have bel8 : Below u7.heap.size u7 u8 := (by (repeat (first | exact Below.refl _ _ | assumption | refine below_drewN ?_ _ | refine below_drew ?_ | refine below_gr ?_ ?_ _ | refine below_alloc ?_ ?_ _ | refine Below.setCell ?_ ?_ _ | refine below_step ?_ (by assumption) ?_ | omega | (simp only [zz] at *; omega)))); clear hb8; have sz8 := bel8.size; replace hA := hA.ext bel8; replace hW := below_step hW bel8 (by have := hW.size; omega); replace hX := hX.below bel8; (try clear hXc0 hXc1 hXlt); have hXc0 := hX.c0; have hXc1 := hX.c1; have hXlt := hX.lt; clear bel8; have tok8 : True := trivial)
    | (clear tok8; go_at_call 35; refine (y_pl _ 2 _ (hA.ext (by (repeat (first | exact Below.refl _ _ | assumption | refine below_drewN ?_ _ | refine below_drew ?_ | refine below_gr ?_ ?_ _ | refine below_alloc ?_ ?_ _ | refine Below.setCell ?_ ?_ _ | refine below_step ?_ (by assumption) ?_ | omega | (simp only [zz] at *; omega)))))).mono ?_; rintro e u9 ⟨rfl, hb9⟩; replace hb9 := ex_below hb9; have bel9 : Below u8.heap.size u8 u9 := (by (repeat (first | exact Below.refl _ _ | assumption | refine below_drewN ?_ _ | refine below_drew ?_ | refine below_gr ?_ ?_ _ | refine below_alloc ?_ ?_ _ | refine Below.setCell ?_ ?_ _ | refine below_step ?_ (by assumption) ?_ | omega | (simp only [zz] at *; omega)))); clear hb9; have sz9 := bel9.size; replace hA := hA.ext bel9; replace hW := below_step hW bel9 (by have := hW.size; omega); replace hX := hX.below bel9; (try clear hXc0 hXc1 hXlt); have hXc0 := hX.c0; have hXc1 := hX.c1; have hXlt := hX.lt; clear bel9; have tok9 : True := trivial))
  have hQ : ObjV (u9.alloc (.cells #[.int .i64 1, .int .i64 1] 47)) u9.heap.size 47 (.int .i64 1) (.int .i64 1) := ObjV.new _ _ _ _
  have belq : Below u9.heap.size u9 (u9.alloc (.cells #[.int .i64 1, .int .i64 1] 47)) := below_alloc (Below.refl _ _) (Nat.le_refl _) _
  obtain ⟨uq, huq⟩ : ∃ uq, (u9.alloc (.cells #[.int .i64 1, .int .i64 1] 47)) = uq := ⟨_, rfl⟩
  rw [huq] at hQ belq ⊢
  clear huq
  have szuq := belq.size
  replace hA := hA.ext belq
  replace hW := below_step hW belq (by have := hW.size; omega)
  replace hX := hX.below belq
  (try clear hXc0 hXc1 hXlt)
  have hXc0 := hX.c0
  have hXc1 := hX.c1
  have hXlt := hX.lt
  have hQlt := hQ.lt
  go_wp2
  refine wp_region_grow (by kernel_rfl) (by kernel_rfl) ?_
  repeat (go_big_quiet_step (first | (go_at_call 48; exact Gives.quiet (nthL _ _ _)) | (go_at_call 40; exact Gives.quiet (y_k1 _ 2 _ (hA.ext (by (repeat (first | exact Below.refl _ _ | assumption | refine below_drewN ?_ _ | refine below_drew ?_ | refine below_gr ?_ ?_ _ | refine below_alloc ?_ ?_ _ | refine Below.setCell ?_ ?_ _ | refine below_step ?_ (by assumption) ?_ | omega | (simp only [zz] at *; omega)))))))))
  refine wpQuiet_nil ?_
  intro v0 hbv
  replace hbv := ex_below hbv
  have szv0 := hbv.size
  replace hA := hA.ext hbv
  replace hW := below_step hW hbv (by have := hW.size; omega)
  replace hX := hX.below hbv
  (try clear hXc0 hXc1 hXlt)
  have hXc0 := hX.c0
  have hXc1 := hX.c1
  have hXlt := hX.lt
  replace hQ := hQ.below hbv
  (try clear hQc0 hQc1 hQlt)
  have hQc0 := hQ.c0
  have hQc1 := hQ.c1
  have hQlt := hQ.lt
  go_wp2
  refine wp_region_grow (by kernel_rfl) (by kernel_rfl) ?_
  repeat (go_big_quiet_step (first | (go_at_call 48; exact Gives.quiet (nthL _ _ _)) | (go_at_call 40; exact Gives.quiet (y_k2 _ 2 _ (hA.ext (by (repeat (first | exact Below.refl _ _ | assumption | refine below_drewN ?_ _ | refine below_drew ?_ | refine below_gr ?_ ?_ _ | refine below_alloc ?_ ?_ _ | refine Below.setCell ?_ ?_ _ | refine below_step ?_ (by assumption) ?_ | omega | (simp only [zz] at *; omega)))))))))
  refine wpQuiet_nil ?_
  intro v1 hbx
  replace hbx := ex_below hbx
  have szv1 := hbx.size
  replace hA := hA.ext hbx
  replace hW := below_step hW hbx (by have := hW.size; omega)
  replace hX := hX.below hbx
  (try clear hXc0 hXc1 hXlt)
  have hXc0 := hX.c0
  have hXc1 := hX.c1
  have hXlt := hX.lt
  replace hQ := hQ.below hbx
  (try clear hQc0 hQc1 hQlt)
  have hQc0 := hQ.c0
  have hQc1 := hQ.c1
  have hQlt := hQ.lt
  go_wp2_with (first
    | (clear tok9; go_at_call 37; refine (y_w4 _ 2 _ (hA.ext (by (repeat (first | exact Below.refl _ _ | assumption | refine below_drewN ?_ _ | refine below_drew ?_ | refine below_gr ?_ ?_ _ | refine below_alloc ?_ ?_ _ | refine Below.setCell ?_ ?_ _ | refine below_step ?_ (by assumption) ?_ | omega | (simp only [zz] at *; omega)))))).mono ?_; rintro e u10 ⟨A4, c4, rfl, hb10, hV4⟩; replace hb10 := ex_below hb10; have bel10 : Below v1.heap.size v1 u10 := (by (repeat (first | exact Below.refl _ _ | assumption | refine below_drewN ?_ _ | refine below_drew ?_ | refine below_gr ?_ ?_ _ | refine below_alloc ?_ ?_ _ | refine Below.setCell ?_ ?_ _ | refine below_step ?_ (by assumption) ?_ | omega | (simp only [zz] at *; omega)))); clear hb10; have sz10 := bel10.size; replace hA := hA.ext bel10; replace hW := below_step hW bel10 (by have := hW.size; omega); replace hX := hX.below bel10; replace hQ := hQ.below bel10; (try clear hXc0 hXc1 hXlt); have hXc0 := hX.c0; have hXc1 := hX.c1; have hXlt := hX.lt; (try clear hQc0 hQc1 hQlt); have hQc0 := hQ.c0; have hQc1 := hQ.c1; have hQlt := hQ.lt; clear bel10; have tok10 : True := trivial)
    | (clear tok10; go_at_call 37; refine (y_w2 _ 2 _ (hA.ext (by (repeat (first | exact Below.refl _ _ | assumption | refine below_drewN ?_ _ | refine below_drew ?_ | refine below_gr ?_ ?_ _ | refine below_alloc ?_ ?_ _ | refine Below.setCell ?_ ?_ _ | refine below_step ?_ (by assumption) ?_ | omega | (simp only [zz] at *; omega)))))).mono ?_; rintro e u11 ⟨Aw, cw, rfl, hb11, hV⟩; replace hb11 := ex_below hb11; have bel11 : Below u10.heap.size u10 u11 := (by (repeat (first | exact Below.refl _ _ | assumption | refine below_drewN ?_ _ | refine below_drew ?_ | refine below_gr ?_ ?_ _ | refine below_alloc ?_ ?_ _ | refine Below.setCell ?_ ?_ _ | refine below_step ?_ (by assumption) ?_ | omega | (simp only [zz] at *; omega)))); clear hb11; have sz11 := bel11.size; replace hA := hA.ext bel11; replace hW := below_step hW bel11 (by have := hW.size; omega); replace hX := hX.below bel11; replace hQ := hQ.below bel11; (try clear hXc0 hXc1 hXlt); have hXc0 := hX.c0; have hXc1 := hX.c1; have hXlt := hX.lt; (try clear hQc0 hQc1 hQlt); have hQc0 := hQ.c0; have hQc1 := hQ.c1; have hQlt := hQ.lt; clear bel11; have tok11 : True := trivial)
    | (clear tok11; go_at_call 39; refine (ints01 _ _ _ _ _ (hV.ext (by (repeat (first | exact Below.refl _ _ | assumption | refine below_drewN ?_ _ | refine below_drew ?_ | refine below_gr ?_ ?_ _ | refine below_alloc ?_ ?_ _ | refine Below.setCell ?_ ?_ _ | refine below_step ?_ (by assumption) ?_ | omega | (simp only [zz] at *; omega))))) (i64_new _ [0, 1] 3 _ rfl)).mono ?_; rintro e u12 ⟨rfl, hb12⟩; replace hb12 := ex_below hb12; have bel12 : Below u11.heap.size u11 u12 := (by (repeat (first | exact Below.refl _ _ | assumption | refine below_drewN ?_ _ | refine below_drew ?_ | refine below_gr ?_ ?_ _ | refine below_alloc ?_ ?_ _ | refine Below.setCell ?_ ?_ _ | refine below_step ?_ (by assumption) ?_ | omega | (simp only [zz] at *; omega)))); clear hb12; have sz12 := bel12.size; replace hA := hA.ext bel12; replace hW := below_step hW bel12 (by have := hW.size; omega); replace hX := hX.below bel12; replace hQ := hQ.below bel12; replace hV := hV.ext bel12; (try clear hXc0 hXc1 hXlt); have hXc0 := hX.c0; have hXc1 := hX.c1; have hXlt := hX.lt; (try clear hQc0 hQc1 hQlt); have hQc0 := hQ.c0; have hQc1 := hQ.c1; have hQlt := hQ.lt; clear bel12; have tok12 : True := trivial)
    | (clear tok12; go_at_call 18; refine (works_any _).mono ?_; rintro e u13 ⟨rfl, hb13⟩; replace hb13 := ex_below hb13; have bel13 : Below u12.heap.size u12 u13 := (by (repeat (first | exact Below.refl _ _ | assumption | refine below_drewN ?_ _ | refine below_drew ?_ | refine below_gr ?_ ?_ _ | refine below_alloc ?_ ?_ _ | refine Below.setCell ?_ ?_ _ | refine below_step ?_ (by assumption) ?_ | omega | (simp only [zz] at *; omega)))); clear hb13; have sz13 := bel13.size; replace hA := hA.ext bel13; replace hW := below_step hW bel13 (by have := hW.size; omega); replace hX := hX.below bel13; replace hQ := hQ.below bel13; replace hV := hV.ext bel13; (try clear hXc0 hXc1 hXlt); have hXc0 := hX.c0; have hXc1 := hX.c1; have hXlt := hX.lt; (try clear hQc0 hQc1 hQlt); have hQc0 := hQ.c0; have hQc1 := hQ.c1; have hQlt := hQ.lt; clear bel13; have tok13 : True := trivial))
  go_ret
  exact gives_of rfl hW
end Go.Proofs.Ytafncmgijbkomaa
