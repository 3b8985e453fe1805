/- Proved here: the box of one outcome, and of all; places: the first one, a part of the proofs about the box laws. Conditions: those that each theorem names, no others. -/
import Derived.Test.YtlbkaeoagdbemaaP07
import Derived.WalkKit
import Derived.WalkSpells
import Derived.WalkLawsBesides
import Derived.Below
import Derived.Deep.QuietTactic
import Derived.BigQuiet
import Derived.Deep.Light
import Derived.Test.YtlbkaeoagdbemaaP03
import Derived.Laws.Tables
import Derived.Laws.Rows
set_option linter.unusedSimpArgs false
set_option linter.unusedVariables false
namespace Go.Proofs.Ytlbkaeoagdbemaa
open Go.RowKit Go.Maps
theorem info_parts {t : TypeId} {z : Value} {s b : Nat} (h : (Try.prog.info? t).map (fun i => (i.zero, i.size, i.bytes)) = some (some z, s, b)) : ∃ i, Try.prog.info? t = some i ∧ i.zero = some z ∧ i.size = s ∧ i.bytes = b := by
  cases hi : Try.prog.info? t with
  | none => rw [hi] at h; simp at h
  | some i => rw [hi] at h; simp at h; exact ⟨i, rfl, h.1, h.2.1, h.2.2⟩
theorem info3 : (Try.prog.info? 3).map (fun i => (i.zero, i.size, i.bytes)) = some (some (.int .i64 0), 1, 8) := by kernel_rfl
theorem info64 : (Try.prog.info? 2).map (fun i => (i.zero, i.size, i.bytes)) = some (some (.int .i64 0), 1, 8) := by kernel_rfl
theorem und22 : Try.prog.underlying 22 = some (.slice 3) := by kernel_rfl
theorem und85 : Try.prog.underlying 85 = some (.slice 2) := by kernel_rfl
theorem own_i64 {w : World} {B : Nat} {e : TypeId} {A : Option Addr} {c : Nat} {xs : List Int} (h : w.ownsRow B e 1 (.slice A xs.length c) xs.length (xs.map (Value.int .i64))) : I64 w A xs ∧ xs.length ≤ c ∧ ∀ b o, A = some ⟨b, o, none⟩ → B ≤ b := by
  have hcap : xs.length ≤ c := by
    rcases h.2 with ⟨h1, h2⟩ | ⟨g, cap, cur, h1, _, _, h4, _⟩
    · omega
    · cases h1; exact h4
  refine ⟨?_, hcap, fun b o hA => ?_⟩
  rotate_left
  · rcases h.2 with ⟨h1, h2⟩ | ⟨g, cap, cur, h1, h2, _⟩
    · rw [hA] at h1; cases h1
    · rw [hA] at h1
      injection h1 with h1
      injection h1 with h1
      injection h1 with h1
      omega
  intro k x hk
  have hl : k < xs.length := (List.getElem?_eq_some_iff.1 hk).1
  obtain ⟨g, cap, cur, hv, hB, hh, _⟩ := h.2.resolve_left (by rintro ⟨_, h0⟩; omega)
  injection hv with hA _ _
  subst hA
  have hlt : g < w.heap.size := by
    rcases Nat.lt_or_ge g w.heap.size with h1 | h1
    · exact h1
    · rw [Array.getElem?_eq_none h1] at hh; cases hh
  have hc := h.cells (g := g) rfl
  refine ⟨g, 0, rfl, hlt, by omega, ?_⟩
  have := hc k (.int .i64 x) (by simp [hk])
  rw [add_none] at this
  exact this
def singleP (o : List Nat) : List Nat := o.map fun i => 2 ^ i
def allP (R : List Nat) : List Nat := R.map fun n => 2 ^ n - 1
theorem shlW (n : Nat) (h : n < 7) : wrap64 (2 ^ n) = ((2 ^ n : Nat) : Int) ∧ wrap64 (wrap64 ((2 : Int) ^ n) - 1) = ((2 ^ n - 1 : Nat) : Int) := by
  have : n = 0 ∨ n = 1 ∨ n = 2 ∨ n = 3 ∨ n = 4 ∨ n = 5 ∨ n = 6 := by omega
  rcases this with rfl | rfl | rfl | rfl | rfl | rfl | rfl <;> decide +kernel
set_option maxRecDepth 100000 in
set_option maxHeartbeats 1000000 in
theorem single_any (A : Option Addr) (o : List Nat) (c : Nat) (w : World) (hA : I64 w A (zs o)) (h5 : o.length ≤ 10) (h6 : ∀ i, i ∈ o → i < 6) :
    Calls Try.prog 79 #[.slice A o.length c] w (GivesI w (zs (singleP o))) := by
  obtain ⟨i0, ih, iz, is, ib⟩ := info_parts info3
  have h5' : (o.length : Int) ≤ 10 := by omega
  have HSL := hide (show (zs (singleP o)).length = o.length by simp [zs, singleP])
  go_enter Try.func79, Try.ntmps79
  go_wp2
  go_loopw [3, 5, 8] (fun v _ i wr => ∃ (k : Nat) (A' : Option Addr) (c' : Nat), k ≤ o.length ∧ i = .int .i64 k ∧ v = .slice A' k c' ∧ Below w.heap.size w wr ∧ wr.ownsRow w.heap.size 3 1 (.slice A' k c') k (((zs (singleP o)).take k).map (Value.int .i64))) (fun _ _ i _ => o.length - (intOf i).toNat)
  case atStart => exact ⟨0, none, 0, Nat.zero_le _, rfl, rfl, Below.refl _ _, World.ownsRow_nil _ _ _ _⟩
  case round =>
    obtain ⟨k, A', c', hk, rfl, rfl, hb, hown⟩ := hrel
    have hzr := hb.size
    have hcr : ∀ b o, b < w.heap.size → wr.cell? ⟨b, o, none⟩ = w.cell? ⟨b, o, none⟩ := old_cell hb
    by_cases hlt : k < o.length
    · obtain ⟨tb, toff, rfl, htl⟩ := zsF hA (by omega)
      have ht0 := zsI hA hlt
      have hs := h6 o[k] (List.getElem_mem hlt)
      have HT := hide (show (zs (singleP o)).take (k + 1) = (zs (singleP o)).take k ++ [((2 ^ o[k] : Nat) : Int)] by rw [take_snoc _ k (by rw [HSL.out]; exact hlt)]; simp [zs, singleP])
      generalize o[k] = x at *
      have HW := hide (shlW x (by omega)).1
      have x0 : (0 : Int) ≤ (x : Int) := by omega
      have x1 : (x : Int) ≤ 5 := by omega
      go_wp2_with (at_builtin; refine wpList_append_own _ rfl (.tmp 12) (.tmp 15) 22 rfl w.heap.size 3 i0 _ 1 8 und22 ih iz is ib rfl (by decide) _ k _ rfl (hown.alloc _) ⟨wr.heap.size, 0, none⟩ 1 1 [.int .i64 (wrap64 (2 ^ x))] rfl rfl ?c1 (by simp [Value.oneCell']) (by unfold maxLen; omega) (by omega) (by simp; omega) ?_)
      case c1 => exact cells_new wr [.int .i64 (wrap64 (2 ^ x))] _ _ (by simp)
      intro v' w5 hown' hgr' _
      obtain ⟨A2, c2, rfl⟩ := own_form hown'
      have hge := own_ge hown
      have hb2 := gb_below (below_alloc hb (by omega) _) hgr' (by simp; omega) (fun k hk => by have := hge k hk; omega)
      have hown2 : w5.ownsRow w.heap.size 3 1 (.slice A2 (k + 1) c2) (k + 1) (((zs (singleP o)).take (k + 1)).map (Value.int .i64)) := by
        rw [HT.out, List.map_append, ← HW.out]; simpa using hown'
      clear hgr' hge hown hown'
      go_wp2
      go_roundw
      case measure => simp [intOf]; omega
      exact ⟨k + 1, A2, c2, by omega, by go_num, rfl, hb2, hown2⟩
    · have hkl : k = o.length := by omega
      subst hkl
      rw [List.take_of_length_le (by rw [HSL.out]; exact Nat.le_refl _)] at hown
      have hown2 := own_i64 (xs := zs (singleP o)) (c := c') (by rw [HSL.out]; exact hown)
      clear hown
      go_wp2
      go_ret
      exact ⟨A', c', by rw [HSL.out]; rfl, below_grow (by (repeat (first | exact Below.refl _ _ | assumption | refine below_drewN ?_ _ | refine below_drew ?_ | refine below_gr ?_ ?_ _ | refine below_alloc ?_ ?_ _ | refine Below.setCell ?_ ?_ _ | refine below_step ?_ (by assumption) ?_ | omega | (simp only [zz] at *; omega)))), hown2⟩
set_option maxRecDepth 100000 in
set_option maxHeartbeats 1000000 in
theorem all_any (s : Nat) (A : Option Addr) (R : List Nat) (rc : Nat) (B : Option Addr) (ts : List Tz) (d : Nat) (w : World) (hS : SheetAt w s A (zs R) rc B ts d) (h5 : R.length ≤ 5) (h6 : ∀ n, n ∈ R → n ≤ 6) :
    Calls Try.prog 72 #[.pointer (some ⟨s, 0, none⟩)] w (GivesI w (zs (allP R))) := by
  obtain ⟨i0, ih, iz, is, ib⟩ := info_parts info3
  have h5' : (R.length : Int) ≤ 5 := by omega
  have HSL := hide (show (zs (allP R)).length = R.length by simp [zs, allP])
  obtain ⟨r0, r1, rl, hA, hB⟩ := hS
  rw [zs_len] at r0
  go_enter Try.func72, Try.ntmps72
  go_wp2
  go_loopw [3, 5, 12] (fun v _ i wr => ∃ (k : Nat) (A' : Option Addr) (c' : Nat), k ≤ R.length ∧ i = .int .i64 k ∧ v = .slice A' k c' ∧ Below w.heap.size w wr ∧ wr.ownsRow w.heap.size 3 1 (.slice A' k c') k (((zs (allP R)).take k).map (Value.int .i64))) (fun _ _ i _ => R.length - (intOf i).toNat)
  case atStart => exact ⟨0, none, 0, Nat.zero_le _, rfl, rfl, Below.refl _ _, World.ownsRow_nil _ _ _ _⟩
  case round =>
    obtain ⟨k, A', c', hk, rfl, rfl, hb, hown⟩ := hrel
    have hzr := hb.size
    have hcr : ∀ b o, b < w.heap.size → wr.cell? ⟨b, o, none⟩ = w.cell? ⟨b, o, none⟩ := old_cell hb
    by_cases hlt : k < R.length
    · obtain ⟨tb, toff, rfl, htl⟩ := zsF hA (by omega)
      have ht0 := zsI hA hlt
      have hs := h6 R[k] (List.getElem_mem hlt)
      have HT := hide (show (zs (allP R)).take (k + 1) = (zs (allP R)).take k ++ [((2 ^ R[k] - 1 : Nat) : Int)] by rw [take_snoc _ k (by rw [HSL.out]; exact hlt)]; simp [zs, allP])
      generalize R[k] = x at *
      have HW := hide (shlW x (by omega)).2
      have x0 : (0 : Int) ≤ (x : Int) := by omega
      have x1 : (x : Int) ≤ 6 := by omega
      go_wp2_with (at_builtin; refine wpList_append_own _ rfl (.tmp 16) (.tmp 20) 22 rfl w.heap.size 3 i0 _ 1 8 und22 ih iz is ib rfl (by decide) _ k _ rfl (hown.alloc _) ⟨wr.heap.size, 0, none⟩ 1 1 [.int .i64 (wrap64 (wrap64 (2 ^ x) - 1))] rfl rfl ?c1 (by simp [Value.oneCell']) (by unfold maxLen; omega) (by omega) (by simp; omega) ?_)
      case c1 => exact cells_new wr [.int .i64 (wrap64 (wrap64 (2 ^ x) - 1))] _ _ (by simp)
      intro v' w5 hown' hgr' _
      obtain ⟨A2, c2, rfl⟩ := own_form hown'
      have hge := own_ge hown
      have hb2 := gb_below (below_alloc hb (by omega) _) hgr' (by simp; omega) (fun k hk => by have := hge k hk; omega)
      have hown2 : w5.ownsRow w.heap.size 3 1 (.slice A2 (k + 1) c2) (k + 1) (((zs (allP R)).take (k + 1)).map (Value.int .i64)) := by
        rw [HT.out, List.map_append, ← HW.out]; simpa using hown'
      clear hgr' hge hown hown'
      go_wp2
      go_roundw
      case measure => simp [intOf]; omega
      exact ⟨k + 1, A2, c2, by omega, by go_num, rfl, hb2, hown2⟩
    · have hkl : k = R.length := by omega
      subst hkl
      rw [List.take_of_length_le (by rw [HSL.out]; exact Nat.le_refl _)] at hown
      have hown2 := own_i64 (xs := zs (allP R)) (c := c') (by rw [HSL.out]; exact hown)
      clear hown
      go_wp2
      go_ret
      exact ⟨A', c', by rw [HSL.out]; rfl, below_grow (by (repeat (first | exact Below.refl _ _ | assumption | refine below_drewN ?_ _ | refine below_drew ?_ | refine below_gr ?_ ?_ _ | refine below_alloc ?_ ?_ _ | refine Below.setCell ?_ ?_ _ | refine below_step ?_ (by assumption) ?_ | omega | (simp only [zz] at *; omega)))), hown2⟩
end Go.Proofs.Ytlbkaeoagdbemaa
namespace Go.Proofs.Ytlbkaeoagdbemaa
open Go.RowKit Go.Maps
/-- the cells of marks, and of a place -/
def mk1 (al : List Bool) (i : Nat) : Value := .int .i64 (if al.getD i false = true then 1 else 0)
def mk (al : List Bool) : Array Value := ((List.range 10).map (mk1 al)).toArray
def mkP (r : Nat) (al : List Bool) : Array Value := (Value.int .i64 (r : Nat) :: (List.range 10).map (mk1 al)).toArray
theorem mk_at (al : List Bool) (k : Nat) (h : k < 10) : (mk al)[k]? = some (mk1 al k) := by
  unfold mk; simp [List.getElem?_range h]
theorem mkP_at (r : Nat) (al : List Bool) (k : Nat) (h : k < 10) : (mkP r al)[1 + k]? = some (mk1 al k) := by
  unfold mkP; rw [Nat.add_comm]; simp [List.getElem?_range h]
theorem mkP_zero (r : Nat) (al : List Bool) : (mkP r al)[0]? = some (.int .i64 (r : Nat)) := by simp [mkP]
theorem mkP_size (r : Nat) (al : List Bool) : (mkP r al).size = 11 := by simp [mkP]
theorem mk_size (al : List Bool) : (mk al).size = 10 := by simp [mk]
theorem mkP_one (r : Nat) (al : List Bool) : (mkP r al).all (·.oneCell') = true := by
  rw [Array.all_eq_true_iff_forall_mem]
  intro v hv
  simp only [mkP, List.mem_toArray, List.mem_cons, List.mem_map] at hv
  rcases hv with rfl | ⟨i, _, rfl⟩ <;> rfl
theorem mkP_set (r : Nat) (al bl : List Bool) (k : Nat) (v : Value) (hk : k < 10) (hv : v = mk1 bl k) (h : ∀ i, i ≠ k → bl.getD i false = al.getD i false) : (mkP r al).setIfInBounds (1 + k) v = mkP r bl := by
  subst hv
  apply Array.ext_getElem?
  intro i
  rw [Array.getElem?_setIfInBounds]
  by_cases hi : 1 + k = i
  · subst hi
    rw [if_pos rfl, if_pos (by rw [mkP_size]; omega), mkP_at r bl k hk]
  · rw [if_neg hi]
    cases i with
    | zero => rw [mkP_zero, mkP_zero]
    | succ i =>
      rcases Nat.lt_or_ge i 10 with h1 | h1
      · rw [show i + 1 = 1 + i by omega, mkP_at r al i h1, mkP_at r bl i h1]
        unfold mk1; rw [h i (by omega)]
      · rw [Array.getElem?_eq_none (by rw [mkP_size]; omega), Array.getElem?_eq_none (by rw [mkP_size]; omega)]
theorem mkP_zeros : (#[.int .i64 0, .int .i64 0, .int .i64 0, .int .i64 0, .int .i64 0, .int .i64 0, .int .i64 0, .int .i64 0, .int .i64 0, .int .i64 0, .int .i64 0] : Array Value) = mkP 0 [] := by simp [mkP, mk1, List.range, List.range.loop]
theorem und110 : ∃ fs, Try.prog.underlying 110 = some (.struct fs) := ⟨_, Try.underlying110⟩
theorem siz110 : (Try.prog.info? 110).map (·.size) = some 11 := by kernel_rfl
theorem siz108 : (Try.prog.info? 108).map (·.size) = some 10 := by kernel_rfl
theorem setRow_same' {w : World} {g : Nat} {old cs : Array Value} {t : TypeId} (hg : w.heap[g]? = some (.cells old t (0, 0))) : (w.setRow g cs).heap[g]? = some (.cells cs t (0, 0)) := setRow_heap w g old cs t (0, 0) hg
theorem below_setRow {B g : Nat} {w w' : World} {cs : Array Value} (h : Below B w w') (hb : B ≤ g) : Below B w (w'.setRow g cs) :=
  ⟨h.os, h.tape, h.output, by rw [setRow_size]; exact h.size, fun k hk => (setRow_other w' g k cs (by omega)).trans (h.block k hk)⟩
set_option maxRecDepth 100000 in
set_option maxHeartbeats 1000000 in
theorem start_any (s : Nat) (A : Option Addr) (R : List Nat) (rc : Nat) (B : Option Addr) (ts : List Bm.Tk) (d : Nat) (w : World) (hS : SheetAt w s A (zs R) rc B (tz ts) d) (hR5 : R.length ≤ 5) (hR6 : ∀ n, n ∈ R → n ≤ 6) (ht10 : ts.length ≤ 10) :
    Calls Try.prog 90 #[.pointer (some ⟨s, 0, none⟩)] w (Gives w (.agg (mkP 0 (Bm.alls ts)))) := by
  obtain ⟨r0, r1, rl, hA, hB⟩ := hS
  rw [tz_len] at r1
  have ht' : (ts.length : Int) ≤ 10 := by omega
  have HST := hide (fun k (hk : k < 10) => mkP_set 0 (List.replicate k true) (List.replicate (k + 1) true) k (.int .i64 1) hk (by simp [mk1, List.getD_eq_getElem?_getD]) (fun i hi => by
    simp only [List.getD_eq_getElem?_getD, List.getElem?_replicate]
    by_cases h : i < k
    · rw [if_pos h, if_pos (by omega)]
    · rw [if_neg h, if_neg (by omega)]))
  go_enter Try.func90, Try.ntmps90
  go_wp2
  go_loopw [4, 10] (fun _ i wr => ∃ k : Nat, k ≤ ts.length ∧ i = .int .i64 k ∧ wr.heap[w.heap.size + 1]? = some (.cells (mkP 0 (List.replicate k true)) 110 (0, 0)) ∧ wr.heap[w.heap.size]? = some (.cells (mkP 0 []) 110 (0, 0)) ∧ Below w.heap.size w wr) (fun _ i _ => ts.length - (intOf i).toNat)
  case atStart =>
    refine ⟨0, Nat.zero_le _, rfl, ?_, ?_, by (repeat (first | exact Below.refl _ _ | assumption | (refine below_gr ?_ (by (first | omega | (simp only [zz] at *; omega))) _) | (refine below_alloc ?_ (by (first | omega | (simp only [zz] at *; omega))) _) | (refine Below.setCell ?_ (by (first | omega | (simp only [zz] at *; omega))) _) | refine below_drewN ?_ _ | refine below_drew ?_ | (refine below_step ?_ (by assumption) (by (first | omega | (simp only [zz] at *; omega))))))⟩
    · rw [mkP_zeros]; exact heap_b _ _ _
    · rw [mkP_zeros]; exact heap_a _ _ _
  case round =>
    obtain ⟨k, hk, rfl, hO, hO2, hb⟩ := hrel
    have hsz := hb.size
    have c1 : wr.cell? ⟨s, 1, none⟩ = some (.slice B ts.length d) := (hb.cell (p := ⟨s, _, none⟩) rl).trans r1
    have hl1 := obj_lt hO
    by_cases hlt : k < ts.length
    · have hc := obj_at hO (1 + k) _ (mkP_at _ _ k (by omega))
      have hfz := obj_fz hO (1 + k)
      have HS := hide (HST.out k (by omega))
      go_wp2
      go_roundw
      case measure => simp [intOf]; omega
      refine ⟨k + 1, by omega, by go_num, ?_, ?_, Below.setCell (p := ⟨w.heap.size + 1, _, none⟩) hb (by simp) _⟩
      · rw [← HS.out]; exact set_obj hO _ _
      · rw [Below.heap_setCell _ _ _ _ (by simp)]; exact hO2
    · have hkn : k = ts.length := by omega
      have hrep : List.replicate k true = Bm.alls ts := by rw [hkn]; unfold Bm.alls; rw [List.map_const']
      rw [hrep] at hO
      clear hrep
      obtain ⟨fs, hu⟩ := und110
      go_wp2_with (first
        | (refine wpList_load_row rfl 110 (.tmp 3) rfl (w.heap.size + 1) rfl 110 _ (0, 0) _ hO hu rfl (by rw [mkP_size]; exact siz110) ?_)
        | (refine wpList_store_row rfl 110 (.tmp 2) (.tmp 17) rfl w.heap.size _ rfl rfl 110 _ hO2 (by rw [mkP_size]; exact siz110) (by rw [mkP_size, mkP_size]) (mkP_one _ _) ?_))
      refine bodyPost_ret (v := .agg (mkP 0 (Bm.alls ts))) (results_cell_row (P := Try.prog) (fn := Try.f90) (p := 2) (ty := 110) rfl _ _ w.heap.size 110 _ (0, 0) _ rfl (setRow_same' hO2) hu rfl (by rw [mkP_size]; exact siz110)) rfl (gives_of rfl (below_setRow hb (Nat.le_refl _)))
end Go.Proofs.Ytlbkaeoagdbemaa
