/- Proved here: what was sold, by numbers, a part of the proofs about the ticket laws. Conditions: those that each theorem names, no others. -/
import Derived.Test.YtgjfejpibielaaaO2
import Derived.WalkKit
import Derived.WalkSpells
import Derived.WalkLawsBesides
import Derived.Below
import Derived.Deep.QuietTactic
import Derived.BigQuiet
import Derived.Deep.Light
import Derived.Deep.RegionHeld3
set_option linter.unusedSimpArgs false
set_option linter.unusedVariables false
namespace Go.Proofs.Ytgjfejpibielaaa
open Go.RowKit Go.Maps Go.Shelf
attribute [local go_sem] Oper.semAt_some World.cell?_setCell_far
/-- what was sold, by numbers -/
def soldL (N : Nat) : Nat → Nat → List Nat → List (Nat × Nat)
  | m + 1, a, x :: y :: bs => if N ≤ a + x % 9 then [] else (a + x % 9, min (N - 1) (a + x % 9 + y % 40)) :: soldL N m (min (N - 1) (a + x % 9 + y % 40) + 1) bs
  | _, _, _ => []
theorem soldL_zero (N a : Nat) (bs : List Nat) : soldL N 0 a bs = [] := by unfold soldL; rfl
theorem soldL_short (N m a : Nat) (bs : List Nat) (h : bs.length < 2) : soldL N m a bs = [] := by
  match m, bs, h with
  | 0, _, _ => exact soldL_zero _ _ _
  | m + 1, [], _ => unfold soldL; rfl
  | m + 1, [x], _ => unfold soldL; rfl
theorem soldL_ok (N : Nat) : ∀ (m a : Nat) (bs : List Nat), Tt.okSold N a (soldL N m a bs) = true ∧ (soldL N m a bs).length ≤ m
  | 0, a, bs => by rw [soldL_zero]; exact ⟨rfl, Nat.le_refl _⟩
  | m + 1, a, [] => by rw [soldL_short _ _ _ _ (by simp)]; exact ⟨rfl, Nat.zero_le _⟩
  | m + 1, a, [x] => by rw [soldL_short _ _ _ _ (by simp)]; exact ⟨rfl, Nat.zero_le _⟩
  | m + 1, a, x :: y :: bs => by
    rw [soldL]
    split
    · exact ⟨rfl, Nat.zero_le _⟩
    · obtain ⟨h1, h2⟩ := soldL_ok N m (min (N - 1) (a + x % 9 + y % 40) + 1) bs
      refine ⟨?_, by simpa using h2⟩
      rw [Tt.okSold]
      simp only [Bool.and_eq_true, decide_eq_true_eq]
      exact ⟨⟨by omega, by omega⟩, h1⟩
theorem soldL_step (N m a k : Nat) (bs : List Nat) (h : 2 * k + 1 < bs.length) : soldL N (m + 1) a (bs.drop (2 * k)) = if N ≤ a + bs[2 * k] % 9 then [] else (a + bs[2 * k] % 9, min (N - 1) (a + bs[2 * k] % 9 + bs[2 * k + 1] % 40)) :: soldL N m (min (N - 1) (a + bs[2 * k] % 9 + bs[2 * k + 1] % 40) + 1) (bs.drop (2 * (k + 1))) := by
  rw [List.drop_eq_getElem_cons (show 2 * k < bs.length by omega), List.drop_eq_getElem_cons (show 2 * k + 1 < bs.length by omega), soldL, show 2 * k + 1 + 1 = 2 * (k + 1) by omega]
theorem w64 {x : Int} (h : -9223372036854775808 ≤ x ∧ x ≤ 9223372036854775807) : wrap64 x = x := by simp only [wrap64]; omega
theorem zr_snoc (l : List (Nat × Nat)) (a b : Nat) : zr (l ++ [(a, b)]) = zr l ++ [((a : Int), (b : Int))] := by unfold zr; rw [List.map_append]; rfl
/-- words in memory -/
def GivesR (w : World) (ps : List (Int × Int)) (e : Ending) (w' : World) : Prop := ∃ D dc, e = .returned (.slice D ps.length dc) ∧ Below w.heap.size w w' ∧ Rng w' D ps
theorem rd_own2 {w : World} {B : Nat} {n c : Nat} {A : Option Addr} {ps : List (Int × Int)} (h : w.ownsRow B 74 2 (.slice A n c) n (rngC ps)) (hn : ps.length = n) : Rng w A ps := by
  subst hn
  exact rd_own h (by decide)
theorem rngC_snoc (l : List (Int × Int)) (a b : Int) : rngC (l ++ [(a, b)]) = rngC l ++ [.int .i64 a, .int .i64 b] := by unfold rngC; rw [List.flatMap_append]; rfl
set_option maxRecDepth 100000 in
set_option maxHeartbeats 4000000 in
theorem sold_any (N : Nat) (B : Option Addr) (bs : List Nat) (bc : Nat) (w : World) (hN : N ≤ 1679616) (hB : U8 w B bs) (hl : bs.length ≤ 1000) : Calls Try.prog 48 #[.int .i64 (N : Nat), .slice B bs.length bc] w (GivesR w (zr (soldL N 10 0 bs))) := by
  obtain ⟨ti, ih, iz, is, ib⟩ := info_parts infoR
  have HST := hide (fun m a k (h : 2 * k + 1 < bs.length) => soldL_step N m a k bs h)
  have HZ := hide (fun a (l : List Nat) => soldL_zero N a l)
  have HSH := hide (fun m a (l : List Nat) (h : l.length < 2) => soldL_short N m a l h)
  obtain ⟨R, hR⟩ : ∃ R, soldL N 10 0 bs = R := ⟨_, rfl⟩
  have HR := hide hR
  rw [hR]
  clear hR
  go_enter Try.func48, Try.ntmps48
  go_wp2
  go_loopw [5, 6, 7] (fun o av iv wr => ∃ (k a : Nat) (A2 : Option Addr) (c2 : Nat) (front : List (Nat × Nat)), k ≤ 10 ∧ 2 * k ≤ bs.length + 1 ∧ a ≤ N ∧ iv = .int .i64 ((2 * k : Nat) : Int) ∧ av = .int .i64 (a : Nat) ∧ o = .slice A2 k c2 ∧ Hid (front.length = k ∧ R = front ++ soldL N (10 - k) a (bs.drop (2 * k))) ∧ wr.ownsRow w.heap.size 74 2 (.slice A2 k c2) k (rngC (zr front)) ∧ Below w.heap.size w wr) (fun _ _ iv _ => bs.length + 2 - (intOf iv).toNat)
  case atStart => exact ⟨0, 0, none, 0, [], by omega, by omega, by omega, rfl, rfl, rfl, hide ⟨rfl, HR.out.symm⟩, World.ownsRow_nil _ _ _ _, Below.refl _ _⟩
  case round =>
    obtain ⟨k, a, A2, c2, front, hk, hkl, haN, rfl, rfl, rfl, HF, hO, hb⟩ := hrel
    have hzr := hb.size
    by_cases hlt : 2 * k + 1 < bs.length
    · by_cases hk10 : k < 10
      · have hki : ((2 * k + 1 : Nat) : Int) < (bs.length : Int) := by omega
        have hkj : ((2 * k : Nat) : Int) < (bs.length : Int) := by omega
        have hk1 : (k : Int) < 10 := by omega
        obtain ⟨ob, oo, rfl, hob, hcell⟩ := (hB.ext hb).form (by omega)
        obtain ⟨cx, hx8⟩ := hcell (2 * k) (by omega)
        obtain ⟨cy, hy8⟩ := hcell (2 * k + 1) hlt
        have HS := hide (HST.out (9 - k) a k hlt)
        generalize bs[2 * k] = x at *
        generalize bs[2 * k + 1] = y at *
        have hr9 : Int.tmod (x : Int) 9 = ((x % 9 : Nat) : Int) := rem_nat x 9
        have hr40 : Int.tmod (y : Int) 40 = ((y % 40 : Nat) : Int) := rem_nat y 40
        have hx9 := Nat.mod_lt x (show 9 > 0 by omega)
        have hy40 := Nat.mod_lt y (show 40 > 0 by omega)
        obtain ⟨x9, hx9e⟩ : ∃ v, x % 9 = v := ⟨_, rfl⟩
        obtain ⟨y40, hy40e⟩ : ∃ v, y % 40 = v := ⟨_, rfl⟩
        rw [hx9e] at hx9 hr9 HS
        rw [hy40e] at hy40 hr40 HS
        clear hx9e hy40e hcell
        clear HST HSH HZ HR
        have hkw : (2 * (k : Int) + 1) < (bs.length : Int) := by omega
        have hkv : (2 * (k : Int)) < (bs.length : Int) := by omega
        clear hki hkj
        by_cases hNa : N ≤ a + x9
        · have HE : Hid (R = front) := hide (by rw [HF.out.2, show 10 - k = 9 - k + 1 by omega, HS.out, if_pos hNa, List.append_nil])
          clear HS
          have hgt : (N : Int) - 1 < (a : Int) + (x9 : Int) := by omega
          have hmn : (N : Int) - 1 ≤ (a : Int) + (x9 : Int) + (y40 : Int) := by omega
          go_wp2
          all_goals first | (exfalso; omega) | skip
          go_ret
          exact ⟨A2, c2, by rw [HE.out, zr_len, HF.out.1]; rfl, hb, by rw [HE.out]; exact rd_own2 hO (by rw [zr_len, HF.out.1])⟩
        · have HE := hide (show R = (front ++ [(a + x9, min (N - 1) (a + x9 + y40))]) ++ soldL N (10 - (k + 1)) (min (N - 1) (a + x9 + y40) + 1) (bs.drop (2 * (k + 1))) by
            rw [HF.out.2, show 10 - k = 9 - k + 1 by omega, HS.out, if_neg hNa, show 10 - (k + 1) = 9 - k by omega, List.append_assoc]; rfl)
          clear HS
          have HL := hide (show (front ++ [(a + x9, min (N - 1) (a + x9 + y40))]).length = k + 1 by rw [List.length_append, HF.out.1]; rfl)
          by_cases hmn : (N : Int) - 1 ≤ (a : Int) + (x9 : Int) + (y40 : Int)
          · have hgt : ¬ ((N : Int) - 1 < (a : Int) + (x9 : Int)) := by omega
            have HV := hide (show ((min (N - 1) (a + x9 + y40) : Nat) : Int) = (N : Int) - 1 by omega)
            go_wp2_with (first
              | (at_builtin; refine wpList_app _ rfl (.tmp 45) (.tmp 49) 35 rfl (w.heap.size) 74 ti _ 2 16 und35 ih iz is ib rfl (by decide) ((.slice A2 k c2)) (k) (_) rfl (hO.alloc _) (some ⟨wr.heap.size, 0, none⟩) (1) (1) ([.int .i64 ((a : Int) + (x9 : Int)), .int .i64 ((N : Int) - 1)]) rfl (rd_new2 _ _ _ _) (by simp [Value.oneCell']) (by unfold maxLen; omega) (by omega) (by (first | omega | (simp only [size_grow, World.size_alloc, size_drewN, size_drew, size_setCell]; omega) | (simp only [size_grow, World.size_alloc, size_drewN, size_drew, size_setCell] at *; omega) | (simp; done) | (simp; omega))) ?_; intro A7 c7 u7 hown7 hgr7))
            all_goals first | (exfalso; omega) | skip
            exact ⟨⟨k + 1, _, A7, c7, _, by omega, by omega, by have := HV.out; omega, (by congr 1 <;> omega), (by have := HV.out; congr 1 <;> omega), rfl, hide ⟨HL.out, HE.out⟩, by rw [zr_snoc, rngC_snoc, HV.out]; exact hown7, gb_below (below_alloc hb (by omega) _) hgr7 (by simp; omega) (fun r e => (hO.lt r e).1)⟩, by simp [intOf]; omega⟩
          · have hgt : ¬ ((a : Int) + (x9 : Int) + (y40 : Int) < (a : Int) + (x9 : Int)) := by omega
            have hgt2 : decide ((a : Int) + (x9 : Int) + (y40 : Int) < (a : Int) + (x9 : Int)) = false := decide_eq_false hgt
            replace hmn := Int.not_le.1 hmn
            have hmn2 : ¬ ((N : Int) - 1 < (a : Int) + (x9 : Int) + (y40 : Int)) := by omega
            have HV := hide (show ((min (N - 1) (a + x9 + y40) : Nat) : Int) = (a : Int) + (x9 : Int) + (y40 : Int) by omega)
            go_wp2_with (first
              | (at_builtin; refine wpList_app _ rfl (.tmp 45) (.tmp 49) 35 rfl (w.heap.size) 74 ti _ 2 16 und35 ih iz is ib rfl (by decide) ((.slice A2 k c2)) (k) (_) rfl (hO.alloc _) (some ⟨wr.heap.size, 0, none⟩) (1) (1) ([.int .i64 ((a : Int) + (x9 : Int)), .int .i64 ((a : Int) + (x9 : Int) + (y40 : Int))]) rfl (rd_new2 _ _ _ _) (by simp [Value.oneCell']) (by unfold maxLen; omega) (by omega) (by (first | omega | (simp only [size_grow, World.size_alloc, size_drewN, size_drew, size_setCell]; omega) | (simp only [size_grow, World.size_alloc, size_drewN, size_drew, size_setCell] at *; omega) | (simp; done) | (simp; omega))) ?_; intro A7 c7 u7 hown7 hgr7))
            all_goals first | (exfalso; omega) | skip
            exact ⟨⟨k + 1, _, A7, c7, _, by omega, by omega, by have := HV.out; omega, (by congr 1 <;> omega), (by have := HV.out; congr 1 <;> omega), rfl, hide ⟨HL.out, HE.out⟩, by rw [zr_snoc, rngC_snoc, HV.out]; exact hown7, gb_below (below_alloc hb (by omega) _) hgr7 (by simp; omega) (fun r e => (hO.lt r e).1)⟩, by simp [intOf]; omega⟩
      · have hki : ((2 * k + 1 : Nat) : Int) < (bs.length : Int) := by omega
        have hk1 : ¬ ((k : Int) < 10) := by omega
        have HE : Hid (R = front) := hide (by rw [HF.out.2, show 10 - k = 0 by omega, HZ.out, List.append_nil])
        clear HST HSH HZ HR
        have hkw : (2 * (k : Int) + 1) < (bs.length : Int) := by omega
        clear hki
        go_wp2
        go_ret
        exact ⟨A2, c2, by rw [HE.out, zr_len, HF.out.1]; rfl, hb, by rw [HE.out]; exact rd_own2 hO (by rw [zr_len, HF.out.1])⟩
    · have hki : ¬ (((2 * k + 1 : Nat) : Int) < (bs.length : Int)) := by omega
      have HE : Hid (R = front) := hide (by rw [HF.out.2, HSH.out _ _ _ (by rw [List.length_drop]; omega), List.append_nil])
      clear HST HSH HZ HR
      have hkw : ¬ ((2 * (k : Int) + 1) < (bs.length : Int)) := by omega
      clear hki
      go_wp2
      go_ret
      exact ⟨A2, c2, by rw [HE.out, zr_len, HF.out.1]; rfl, hb, by rw [HE.out]; exact rd_own2 hO (by rw [zr_len, HF.out.1])⟩
end Go.Proofs.Ytgjfejpibielaaa
