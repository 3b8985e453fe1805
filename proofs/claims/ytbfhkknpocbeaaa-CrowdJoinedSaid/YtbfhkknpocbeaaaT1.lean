/- Proved here: contracts and laws of T1, a part of the proofs about the crowd laws: what some functions of the program and of the reference compute, and plain facts about it. Conditions: those that each theorem names, no others. -/
import Derived.Test.YtbfhkknpocbeaaaK1
import Derived.WalkKit
import Derived.WalkSpells
import Derived.WalkLawsBesides
import Derived.Below
import Derived.Deep.QuietTactic
import Derived.BigQuiet
import Derived.Deep.Light

set_option linter.unusedSimpArgs false
set_option linter.unusedVariables false
namespace Go.Proofs.Ytbfhkknpocbeaaa
open Go.RowKit
def truthV (bs : List Int) (i : Nat) (p : P3) : Int := if bs.length = 0 then p.lo else p.lo + atI bs (i % bs.length) % (p.hi - p.lo + 1)
def truthL (bs : List Int) (ps : List P3) : List Int := (List.range ps.length).map (fun i => truthV bs i (ps.getD i ⟨0, 0, 0⟩))
theorem truthL_len (bs : List Int) (ps : List P3) : (truthL bs ps).length = ps.length := by simp [truthL]
theorem truthL_at (bs : List Int) (ps : List P3) (i : Nat) (hi : i < ps.length) : (truthL bs ps)[i]'(by rw [truthL_len]; exact hi) = truthV bs i ps[i] := by
  simp [truthL, List.getD_eq_getElem?_getD, hi]
theorem ownsRow_grows {w w' : World} {B : Nat} {e : TypeId} {sz n : Nat} {v : Value} {xs : List Value} (h : w.ownsRow B e sz v n xs) (hb : Below w.heap.size w w') : w'.ownsRow B e sz v n xs :=
  ⟨h.1, h.2.imp id (fun ⟨g, cap, cur, hv, hg, hh, r⟩ => ⟨g, cap, cur, hv, hg, (hb.block g (Array.getElem?_eq_some_iff.1 (show w.heap[g]? = _ from hh)).1).trans hh, r⟩)⟩
theorem ownsRow_base {w : World} {B B' : Nat} {e : TypeId} {sz n : Nat} {v : Value} {xs : List Value} (h : w.ownsRow B e sz v n xs) (hb : B' ≤ B) : w.ownsRow B' e sz v n xs :=
  ⟨h.1, h.2.imp id (fun ⟨g, cap, cur, hv, hg, r⟩ => ⟨g, cap, cur, hv, Nat.le_trans hb hg, r⟩)⟩
/-- a slice of the call's own -/
def GivesRow (w : World) (xs : List Int) (e : Ending) (w' : World) : Prop := ∃ A' c', e = .returned (.slice A' xs.length c') ∧ (∃ g, w' = w.grow g) ∧ w'.ownsRow w.heap.size 2 1 (.slice A' xs.length c') xs.length (xs.map (Value.int .i64))
set_option maxRecDepth 100000 in
set_option maxHeartbeats 1000000 in
theorem truth_any (B : Option Addr) (bs : List Int) (d : Nat) (m : Int) (A : Option Addr) (ps : List P3) (c : Nat) (w : World) (hA : Ppl w A ps) (hl : ps.length ≤ 100) (hB : U8L w B bs) (hbl : bs.length ≤ 1000) (hv : ∀ p, p ∈ ps → 1 ≤ p.lo ∧ p.lo ≤ p.hi ∧ p.hi ≤ 60) :
    Calls Try.prog 41 #[.agg #[.int .i64 m, .slice A ps.length c], .slice B bs.length d] w (GivesRow w (truthL bs ps)) := by
  obtain ⟨i0, ih, iz, is, ib⟩ := info_parts info64
  have HTL := hide (truthL_len bs ps)
  go_enter Try.func41, Try.ntmps41
  go_wp2
  go_loopw [5, 6, 7, 8] (fun v i _ _ wr => ∃ (k : Nat) (A' : Option Addr) (c' : Nat), k ≤ ps.length ∧ i = .int .i64 k ∧ v = .slice A' k c' ∧ Below (w.heap.size + 1) (w.alloc (Obj.cells #[Value.int IntKind.i64 m, Value.slice A ps.length c] 24)) wr ∧ wr.ownsRow (w.heap.size + 1) 2 1 (.slice A' k c') k (((truthL bs ps).take k).map (Value.int .i64))) (fun _ i _ _ _ => ps.length - (intOf i).toNat)
  case atStart => exact ⟨0, none, 0, Nat.zero_le _, rfl, rfl, by (repeat (first | exact Below.refl _ _ | assumption | (refine below_gr ?_ (by (first | omega | (simp only [size_grow, World.size_alloc, size_drewN, size_drew, size_setCell] at *; omega))) _) | (refine below_alloc ?_ (by (first | omega | (simp only [size_grow, World.size_alloc, size_drewN, size_drew, size_setCell] at *; omega))) _) | (refine Below.setCell ?_ (by (first | omega | (simp only [size_grow, World.size_alloc, size_drewN, size_drew, size_setCell] at *; omega))) _) | refine below_drewN ?_ _ | refine below_drew ?_ | (refine below_step ?_ (by assumption) (by (first | omega | (simp only [size_grow, World.size_alloc, size_drewN, size_drew, size_setCell] at *; omega)))))), World.ownsRow_nil _ _ _ _⟩
  case round =>
    obtain ⟨k, A', c', hk, rfl, rfl, hbx, hown⟩ := hrel
    have hbz := hbx.size
    (try simp only [World.size_alloc] at hbz)
    have hbw : Below w.heap.size w wr := ((Below.refl _ w).alloc (Nat.le_refl _) _).trans (hbx.mono (by simp))
    have hcr : ∀ b o, b < w.heap.size → wr.cell? ⟨b, o, none⟩ = w.cell? ⟨b, o, none⟩ := old_cell hbw
    have e0 := own_cell hbx (b := w.heap.size) (by omega)
    have hltr : ∀ b, b < w.heap.size → b < wr.heap.size := fun b hb => by omega
    by_cases hlt : k < ps.length
    · obtain ⟨b, off, rfl, hbl, hbl2, hp0, hp1, hp2⟩ := hA k ps[k] (by simp [hlt])
      have hpv := hv ps[k] (List.getElem_mem _)
      have HVK := hide (show (truthL bs ps).take (k + 1) = (truthL bs ps).take k ++ [truthV bs k ps[k]] by
        rw [take_snoc _ k (by rw [HTL.out]; exact hlt), truthL_at bs ps k hlt])
      generalize hpk : ps[k] = p at *
      have HPK := hide hpk
      clear hpk
      by_cases hb0 : bs.length = 0
      · have hvv : truthV bs k p = p.lo := by unfold truthV; rw [if_pos hb0]
        rw [hvv] at HVK
        have hnot : ¬ (0 : Int) < (bs.length : Int) := by omega
        have hd9 : decide ((0 : Int) < (bs.length : Int)) = false := by simpa using hnot
        clear hb0 hvv
        go_wp2_with (at_builtin; refine wpList_append_own _ rfl (.tmp 44) (.tmp 46) 25 rfl (w.heap.size + 1) 2 i0 _ 1 8 Try.underlying25 ih iz is ib rfl (by decide) _ k _ rfl ((hown.alloc _).alloc _) ⟨wr.heap.size + 1, 0, none⟩ 1 1 [.int .i64 p.lo] rfl rfl (cells_new (wr.alloc _) [.int .i64 p.lo] _ _ (by simp)) (by simp [Value.oneCell']) (by unfold maxLen; omega) (by omega) (by simp; omega) ?_)
        intro v' w5 hown' hgr' _
        obtain ⟨A2, c2, rfl⟩ := own_form hown'
        have hge := own_ge hown
        have hb2 := gb_below (below_alloc (below_alloc hbx (by omega) _) (by simp; omega) _) hgr' (by simp; omega) (fun k hk => by have := hge k hk; omega)
        have hown2 : w5.ownsRow (w.heap.size + 1) 2 1 (.slice A2 (k + 1) c2) (k + 1) (((truthL bs ps).take (k + 1)).map (Value.int .i64)) := by
          rw [HVK.out, List.map_append]; simpa using hown'
        clear hgr' hge hown hown'
        go_wp2
        go_roundw
        case measure => simp [intOf]; omega
        exact ⟨k + 1, A2, c2, by omega, by go_num, rfl, hb2, hown2⟩
      · obtain ⟨r, hr, hrl⟩ : ∃ r : Nat, (k : Int) % (bs.length : Int) = (r : Int) ∧ r = k % bs.length := ⟨k % bs.length, by omega, rfl⟩
        have hrn : r < bs.length := by rw [hrl]; exact Nat.mod_lt _ (by omega)
        obtain ⟨⟨tb, toff, rfl, tl1, tl2, tc⟩, tr⟩ := hB r (atI bs r) (by rw [atI_lt bs r hrn])
        obtain ⟨q, hq⟩ : ∃ q, atI bs r % (p.hi - p.lo + 1) = q := ⟨_, rfl⟩
        have hq0 : 0 ≤ q := by rw [← hq]; exact Int.emod_nonneg _ (by omega)
        have hq1 : q < p.hi - p.lo + 1 := by rw [← hq]; exact Int.emod_lt_of_pos _ (by omega)
        have hvv : truthV bs k p = p.lo + q := by unfold truthV; rw [if_neg hb0, ← hrl, hq]
        rw [hvv] at HVK
        have hpos : (0 : Int) < (bs.length : Int) := by omega
        have hd9 : decide ((0 : Int) < (bs.length : Int)) = true := by simpa using hpos
        generalize atI bs r = v at *
        have HRL := hide hrl
        clear hb0 hvv hrl
        go_wp2
        refine wp_region_grow (by kernel_rfl) (by kernel_rfl) ?_
        have hgc : ∀ g, ((wr.alloc (Obj.cells #[Value.int IntKind.i64 p.lo, Value.int IntKind.i64 p.hi] 36)).grow g).cell? ⟨tb, toff + r, none⟩ = some (.int .u8 v) := fun g => by rw [cell_grow _ _ _ _ (by simp; omega), World.cell?_alloc_past _ _ _ (by show tb < wr.heap.size; omega), hcr _ _ (by omega)]; exact tc
        repeat (go_big_quiet_step (fail))
        refine wpQuiet_nil ?_
        intro w2 hb2
        replace hb2 := ex_below hb2
        have hz2 := hb2.size
        (try simp only [World.size_alloc] at hz2)
        have hown0 := ownsRow_grows (hown.alloc (Obj.cells #[Value.int IntKind.i64 p.lo, Value.int IntKind.i64 p.hi] 36)) hb2
        have hbq := below_step (below_alloc hbx (by omega) (Obj.cells #[Value.int IntKind.i64 p.lo, Value.int IntKind.i64 p.hi] 36)) hb2 (by simp only [World.size_alloc]; omega)
        go_wp2_with (at_builtin; refine wpList_append_own _ rfl (.tmp 44) (.tmp 46) 25 rfl (w.heap.size + 1) 2 i0 _ 1 8 Try.underlying25 ih iz is ib rfl (by decide) _ k _ rfl (hown0.alloc _) ⟨w2.heap.size, 0, none⟩ 1 1 [.int .i64 (p.lo + q)] rfl rfl (cells_new w2 [.int .i64 (p.lo + q)] _ _ (by simp)) (by simp [Value.oneCell']) (by unfold maxLen; omega) (by omega) (by simp; omega) ?_)
        intro v' w5 hown' hgr' _
        obtain ⟨A2, c2, rfl⟩ := own_form hown'
        have hge := own_ge hown
        have hb2 := gb_below (below_alloc hbq (by omega) _) hgr' (by simp; omega) (fun k hk => by have := hge k hk; omega)
        have hown2 : w5.ownsRow (w.heap.size + 1) 2 1 (.slice A2 (k + 1) c2) (k + 1) (((truthL bs ps).take (k + 1)).map (Value.int .i64)) := by
          rw [HVK.out, List.map_append]; simpa using hown'
        clear hgr' hge hown hown'
        go_wp2
        go_roundw
        case measure => simp [intOf]; omega
        exact ⟨k + 1, A2, c2, by omega, by go_num, rfl, hb2, hown2⟩
    · have hkl : k = ps.length := by omega
      subst hkl
      rw [List.take_of_length_le (by rw [HTL.out]; omega)] at hown
      go_wp2
      go_ret
      refine ⟨A', c', by rw [HTL.out]; rfl, below_grow hbw, ?_⟩
      rw [HTL.out]
      exact ownsRow_base hown (by omega)
end Go.Proofs.Ytbfhkknpocbeaaa
