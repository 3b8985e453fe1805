/- Proved here: contracts and laws of C8, a part of the proofs about the crowd laws: what some functions of the program and of the reference compute, and plain facts about it. Conditions: those that each theorem names, no others. -/
import Derived.Test.YtbfhkknpocbeaaaC7
import Derived.WalkKit
import Derived.WalkSpells
import Derived.WalkLawsBesides
import Derived.Below
import Derived.Deep.QuietTactic
import Derived.BigQuiet
import Derived.Deep.Light

set_option linter.unusedSimpArgs false
set_option linter.unusedVariables false
namespace Go.Proofs.Ytbfhkknpocbeaaa
open Go.RowKit
def lastOr (p : P3) : Int := if (windowP p).2 = 0 then p.lo else (windowP p).1
theorem rd_i64 {w : World} {A : Option Addr} {n : Nat} {xs : List Int} (h : Rd w 1 A n (xs.map (Value.int .i64))) : I64 w A xs := by
  intro k x hk
  have hl : k < xs.length := (List.getElem?_eq_some_iff.1 hk).1
  have h1 := h.1
  simp at h1
  obtain ⟨b, off, h2, h3, h4⟩ := h.2 (by omega)
  exact ⟨b, off, h2, h3, by omega, h4 k _ (by simp [hk])⟩
theorem i64_rd {w : World} {A : Option Addr} {xs : List Int} (h : I64 w A xs) : Rd w 1 A xs.length (xs.map (Value.int .i64)) := by
  refine ⟨by simp, fun hl => ?_⟩
  obtain ⟨b, off, hA, hb, _⟩ := h 0 xs[0] (by simp)
  refine ⟨b, off, hA, hb, fun j u hu => ?_⟩
  rw [List.getElem?_map] at hu
  cases hx : xs[j]? with
  | none => rw [hx] at hu; simp at hu
  | some x =>
    rw [hx] at hu
    simp at hu
    obtain ⟨b', off', hA', _, _, c0⟩ := h j x hx
    rw [hA] at hA'
    injection hA' with hA'
    injection hA' with e1 e2 _
    subst e1 e2 hu
    exact c0
theorem one_ints (xs : List Int) : ∀ u ∈ xs.map (Value.int .i64), u.oneCell' = true := by
  intro u hu
  obtain ⟨x, _, rfl⟩ := List.mem_map.1 hu
  rfl
theorem rd_new1 (w : World) (v : Value) (t : TypeId) : Rd (w.alloc (.cells #[v] t)) 1 (some ⟨w.heap.size, 0, none⟩) 1 [v] := by
  refine ⟨rfl, fun _ => ⟨_, 0, rfl, by simp, fun j u hu => ?_⟩⟩
  rw [World.cell?_alloc_at _ _ _ _ rfl, Nat.zero_add]
  simpa using hu
theorem slice_full {P : Program} (t e : TypeId) (i : TypeInfo) (ht : P.underlying t = some (.slice e)) (hi : P.info? e = some i) (A : Option Addr) (k c : Nat) (hk : k ≤ c) (w : World) :
    (Instr.sliceAt t (.slice A k c) none (some (.int .i64 (k : Int))) (some (.int .i64 (k : Int)))).run P w = .ok (.slice A k k) w := by
  have h2 : (fun a : Addr => a.add 0) = id := by funext a; simp [Addr.add]
  have h3 : A.map (fun a => a.add 0) = A := by rw [h2]; simp
  simp [Instr.sliceAt, run_underlying ht, Instr.slice, Instr.sliceBounds, Instr.sliceBound, asIntOf, sizeOf, typeInfo, hi, hk, h3]
def GivesInts (w : World) (xs : List Int) (e : Ending) (w' : World) : Prop := ∃ A' c', e = .returned (.slice A' xs.length c') ∧ (∃ g, w' = w.grow g) ∧ I64 w' A' xs

set_option maxRecDepth 100000 in
set_option maxHeartbeats 400000 in
theorem lasts_any (m : Int) (A : Option Addr) (ps : List P3) (c fb : Nat) (w : World) (hA : Ppl w A ps) (hl : ps.length ≤ 100) (hF : Flr w fb m A ps.length c) :
    Calls Try.prog 50 #[.pointer (some ⟨fb, 0, none⟩)] w (GivesInts w (ps.map lastOr)) := by
  obtain ⟨i0, ih, iz, is, ib⟩ := info_parts info64
  have hF' := hF
  obtain ⟨hf, hf0, hf1⟩ := hF'
  go_enter Try.func50, Try.ntmps50
  go_wp2
  go_loopw [3, 14] (fun v i wr => ∃ (k : Nat) (A' : Option Addr) (c' : Nat), k ≤ ps.length ∧ i = .int .i64 k ∧ v = .slice A' k c' ∧ k ≤ c' ∧ (k = 0 → A' = none ∧ c' = 0) ∧ Rd wr 1 A' k (((ps.map lastOr).take k).map (Value.int .i64)) ∧ Grew w wr) (fun _ i _ => ps.length - (intOf i).toNat)
  case atStart => exact ⟨0, none, 0, Nat.zero_le _, rfl, rfl, Nat.le_refl _, fun _ => ⟨rfl, rfl⟩, ⟨rfl, fun h => absurd h (by omega)⟩, grew_refl _⟩
  case round =>
    obtain ⟨k, A', c', hk, rfl, rfl, hkc, hAc, hrd, hb⟩ := hrel
    replace hb := hb.below
    have hzr := hb.size
    (try simp only [size_grow, World.size_alloc, size_drewN, size_drew, size_setCell] at hzr)
    have hltr : ∀ b, b < w.heap.size → b < wr.heap.size := fun b hb => (by (first | omega | (simp only [size_grow, World.size_alloc, size_drewN, size_drew, size_setCell] at *; omega)))
    have hcr : ∀ b o, b < w.heap.size → wr.cell? ⟨b, o, none⟩ = w.cell? ⟨b, o, none⟩ := old_cell (by (repeat (first | exact Below.refl _ _ | assumption | (refine below_gr ?_ (by (first | omega | (simp only [size_grow, World.size_alloc, size_drewN, size_drew, size_setCell] at *; omega))) _) | (refine below_alloc ?_ (by (first | omega | (simp only [size_grow, World.size_alloc, size_drewN, size_drew, size_setCell] at *; omega))) _) | (refine Below.setCell ?_ (by (first | omega | (simp only [size_grow, World.size_alloc, size_drewN, size_drew, size_setCell] at *; omega))) _) | refine below_drewN ?_ _ | refine below_drew ?_ | (refine below_step ?_ (by assumption) (by (first | omega | (simp only [size_grow, World.size_alloc, size_drewN, size_drew, size_setCell] at *; omega)))))))
    by_cases hlt : k < ps.length
    · obtain ⟨b, off, rfl, hbl, hbl2, hp0, hp1, hp2⟩ := hA k ps[k] (by simp [hlt])
      have HS := hide (show (ps.map lastOr).take (k + 1) = (ps.map lastOr).take k ++ [lastOr ps[k]] by rw [take_snoc _ k (by simpa using hlt), List.getElem_map])
      have HO := hide (show lastOr ps[k] = if (windowP ps[k]).2 = 0 then ps[k].lo else (windowP ps[k]).1 from rfl)
      have hsl := fun W : World => slice_full (P := Try.prog) 25 2 i0 Try.underlying25 ih A' k c' hkc W
      go_wp2_with (first | (go_at_call 56; refine (window_any k m _ ps c fb _ (hA.ext (by (repeat (first | exact Below.refl _ _ | assumption | (refine below_gr ?_ (by (first | omega | (simp only [size_grow, World.size_alloc, size_drewN, size_drew, size_setCell] at *; omega))) _) | (refine below_alloc ?_ (by (first | omega | (simp only [size_grow, World.size_alloc, size_drewN, size_drew, size_setCell] at *; omega))) _) | (refine Below.setCell ?_ (by (first | omega | (simp only [size_grow, World.size_alloc, size_drewN, size_drew, size_setCell] at *; omega))) _) | refine below_drewN ?_ _ | refine below_drew ?_ | (refine below_step ?_ (by assumption) (by (first | omega | (simp only [size_grow, World.size_alloc, size_drewN, size_drew, size_setCell] at *; omega)))))))) hl (hF.ext (by (repeat (first | exact Below.refl _ _ | assumption | (refine below_gr ?_ (by (first | omega | (simp only [size_grow, World.size_alloc, size_drewN, size_drew, size_setCell] at *; omega))) _) | (refine below_alloc ?_ (by (first | omega | (simp only [size_grow, World.size_alloc, size_drewN, size_drew, size_setCell] at *; omega))) _) | (refine Below.setCell ?_ (by (first | omega | (simp only [size_grow, World.size_alloc, size_drewN, size_drew, size_setCell] at *; omega))) _) | refine below_drewN ?_ _ | refine below_drew ?_ | (refine below_step ?_ (by assumption) (by (first | omega | (simp only [size_grow, World.size_alloc, size_drewN, size_drew, size_setCell] at *; omega)))))))) hlt).mono ?_; rintro e w1 ⟨rfl, hb1⟩; replace hb1 := ex_below hb1; have hz1 := hb1.size; (try simp only [size_grow, World.size_alloc, size_drewN, size_drew, size_setCell] at hz1); have hs1 : wr.heap.size < w1.heap.size := (by (first | omega | (simp only [size_grow, World.size_alloc, size_drewN, size_drew, size_setCell] at *; omega))); have ho1 := own_cell hb1 (b := wr.heap.size) (by (first | omega | (simp only [size_grow, World.size_alloc, size_drewN, size_drew, size_setCell] at *; omega))); have hq1 := own_frozen hb1 (b := wr.heap.size) (by (first | omega | (simp only [size_grow, World.size_alloc, size_drewN, size_drew, size_setCell] at *; omega))); have hlt1 : ∀ b, b < w.heap.size → b < w1.heap.size := fun b hb => (by (first | omega | (simp only [size_grow, World.size_alloc, size_drewN, size_drew, size_setCell] at *; omega))); have hc1 : ∀ b o, b < w.heap.size → w1.cell? ⟨b, o, none⟩ = w.cell? ⟨b, o, none⟩ := old_cell (by (repeat (first | exact Below.refl _ _ | assumption | (refine below_gr ?_ (by (first | omega | (simp only [size_grow, World.size_alloc, size_drewN, size_drew, size_setCell] at *; omega))) _) | (refine below_alloc ?_ (by (first | omega | (simp only [size_grow, World.size_alloc, size_drewN, size_drew, size_setCell] at *; omega))) _) | (refine Below.setCell ?_ (by (first | omega | (simp only [size_grow, World.size_alloc, size_drewN, size_drew, size_setCell] at *; omega))) _) | refine below_drewN ?_ _ | refine below_drew ?_ | (refine below_step ?_ (by assumption) (by (first | omega | (simp only [size_grow, World.size_alloc, size_drewN, size_drew, size_setCell] at *; omega)))))))) | (at_builtin; refine wpList_full _ rfl (.tmp 35) (.tmp 37) 25 rfl 2 i0 _ 1 8 Try.underlying25 ih iz is ib A' k _ rfl (hrd.ext (by (repeat (first | exact Below.refl _ _ | assumption | (refine below_gr ?_ (by (first | omega | (simp only [size_grow, World.size_alloc, size_drewN, size_drew, size_setCell] at *; omega))) _) | (refine below_alloc ?_ (by (first | omega | (simp only [size_grow, World.size_alloc, size_drewN, size_drew, size_setCell] at *; omega))) _) | (refine Below.setCell ?_ (by (first | omega | (simp only [size_grow, World.size_alloc, size_drewN, size_drew, size_setCell] at *; omega))) _) | refine below_drewN ?_ _ | refine below_drew ?_ | (refine below_step ?_ (by assumption) (by (first | omega | (simp only [size_grow, World.size_alloc, size_drewN, size_drew, size_setCell] at *; omega)))))))) (one_ints _) _ 1 1 [_] rfl (rd_new1 _ _ _) (by simp [Value.oneCell']) (by omega) (by omega) (by unfold maxLen; omega) ?_; intro A2 c2 w2 hg2 hA2 hcc2 hrd2; replace hg2 := hg2.below; subst hA2))
      all_goals
        refine ⟨⟨k + 1, _, c2, by omega, by go_num, rfl, hcc2, fun h => absurd h (by omega), ?_, grew_of (by (repeat (first | exact Below.refl _ _ | assumption | (refine below_gr ?_ (by (first | omega | (simp only [size_grow, World.size_alloc, size_drewN, size_drew, size_setCell] at *; omega))) _) | (refine below_alloc ?_ (by (first | omega | (simp only [size_grow, World.size_alloc, size_drewN, size_drew, size_setCell] at *; omega))) _) | (refine Below.setCell ?_ (by (first | omega | (simp only [size_grow, World.size_alloc, size_drewN, size_drew, size_setCell] at *; omega))) _) | refine below_drewN ?_ _ | refine below_drew ?_ | (refine below_step ?_ (by assumption) (by (first | omega | (simp only [size_grow, World.size_alloc, size_drewN, size_drew, size_setCell] at *; omega)))))))⟩, by simp [intOf]; omega⟩
        rw [HS.out, List.map_append, HO.out]
      · rw [if_pos (by simp_all)]; simpa using hrd2
      · rw [if_neg (by simp_all)]; simpa using hrd2
    · have hkl : k = ps.length := by omega
      subst hkl
      rw [List.take_of_length_le (by simp)] at hrd
      go_wp2
      go_ret
      exact ⟨A', c', by simp, below_grow (by (repeat (first | exact Below.refl _ _ | assumption | (refine below_gr ?_ (by (first | omega | (simp only [size_grow, World.size_alloc, size_drewN, size_drew, size_setCell] at *; omega))) _) | (refine below_alloc ?_ (by (first | omega | (simp only [size_grow, World.size_alloc, size_drewN, size_drew, size_setCell] at *; omega))) _) | (refine Below.setCell ?_ (by (first | omega | (simp only [size_grow, World.size_alloc, size_drewN, size_drew, size_setCell] at *; omega))) _) | refine below_drewN ?_ _ | refine below_drew ?_ | (refine below_step ?_ (by assumption) (by (first | omega | (simp only [size_grow, World.size_alloc, size_drewN, size_drew, size_setCell] at *; omega))))))), rd_i64 hrd⟩
set_option maxHeartbeats 400000 in
theorem long_any (fr ti : Int) (w : World) (h1 : 0 ≤ fr) (h2 : fr ≤ ti) (h3 : ti ≤ 1000) :
    Calls Try.prog 66 #[.agg #[.int .i64 fr, .int .i64 ti]] w (Gives w (.int .i64 (ti - fr + 1))) := by
  go_enter Try.func66, Try.ntmps66
  go_wp2
  go_ret
  exact gives_of (rfl) (by (repeat (first | exact Below.refl _ _ | assumption | (refine below_gr ?_ (by (first | omega | (simp only [size_grow, World.size_alloc, size_drewN, size_drew, size_setCell] at *; omega))) _) | (refine below_alloc ?_ (by (first | omega | (simp only [size_grow, World.size_alloc, size_drewN, size_drew, size_setCell] at *; omega))) _) | (refine Below.setCell ?_ (by (first | omega | (simp only [size_grow, World.size_alloc, size_drewN, size_drew, size_setCell] at *; omega))) _) | refine below_drewN ?_ _ | refine below_drew ?_ | (refine below_step ?_ (by assumption) (by (first | omega | (simp only [size_grow, World.size_alloc, size_drewN, size_drew, size_setCell] at *; omega)))))))

def fallsW (fr ti : Int) (p : P3) : Bool := decide (0 < (windowP p).2) && decide (fr ≤ (windowP p).1) && decide ((windowP p).2 ≤ ti)
def fallsWN (fr ti : Int) (ps : List P3) : Nat := (ps.filter (fallsW fr ti)).length
theorem fallsWN_snoc (fr ti : Int) (l : List P3) (p : P3) : fallsWN fr ti (l ++ [p]) = fallsWN fr ti l + if fallsW fr ti p = true then 1 else 0 := by
  unfold fallsWN; rw [List.filter_append]; by_cases h : fallsW fr ti p = true <;> simp [List.filter_cons, h]
theorem fallsWN_le (fr ti : Int) (l : List P3) : fallsWN fr ti l ≤ l.length := List.length_filter_le _ _
theorem fallsW_eq (m fr ti : Int) (ps : List P3) (h : ps.all (okP m) = true) : fallsWN fr ti ps = fallsN fr ti ps := by
  unfold fallsWN fallsN
  congr 1
  apply List.filter_congr
  intro p hp
  rw [List.all_eq_true] at h
  have := h p hp
  simp only [okP, isMin, Bool.and_eq_true, decide_eq_true_eq] at this
  unfold fallsW fallsB windowP canB
  by_cases hd : p.un < p.lo
  · rw [if_pos hd]; simp [show ¬ p.lo ≤ p.un by omega]
  · rw [if_neg hd]; simp [show p.lo ≤ p.un by omega, show 0 < p.un by omega]

set_option maxHeartbeats 400000 in
theorem pfalls_any (fr ti : Int) (m : Int) (A : Option Addr) (ps : List P3) (c fb : Nat) (w : World) (hA : Ppl w A ps) (hl : ps.length ≤ 100) (hF : Flr w fb m A ps.length c) :
    Calls Try.prog 67 #[.pointer (some ⟨fb, 0, none⟩), .agg #[.int .i64 fr, .int .i64 ti]] w (Gives w (.int .i64 (fallsWN fr ti ps))) := by
  have hF' := hF
  obtain ⟨hf, hf0, hf1⟩ := hF'
  go_enter Try.func67, Try.ntmps67
  go_wp2
  go_loopw [5, 15] (fun n i wr => ∃ k : Nat, k ≤ ps.length ∧ i = .int .i64 k ∧ n = .int .i64 (fallsWN fr ti (ps.take k)) ∧ Grew (w.alloc (Obj.cells #[Value.int IntKind.i64 fr, Value.int IntKind.i64 ti] 89)) wr) (fun _ i _ => ps.length - (intOf i).toNat)
  case atStart => exact ⟨0, Nat.zero_le _, rfl, rfl, grew_refl _⟩
  case round =>
    obtain ⟨k, hk, rfl, rfl, hb⟩ := hrel
    replace hb := hb.below
    have hzr := hb.size
    (try simp only [size_grow, World.size_alloc, size_drewN, size_drew, size_setCell] at hzr)
    have hsr : w.heap.size < wr.heap.size := (by (first | omega | (simp only [size_grow, World.size_alloc, size_drewN, size_drew, size_setCell] at *; omega)))
    have hor := own_cell hb (b := w.heap.size) (by (first | omega | (simp only [size_grow, World.size_alloc, size_drewN, size_drew, size_setCell] at *; omega)))
    have hqr := own_frozen hb (b := w.heap.size) (by (first | omega | (simp only [size_grow, World.size_alloc, size_drewN, size_drew, size_setCell] at *; omega)))
    have hltr : ∀ b, b < w.heap.size → b < wr.heap.size := fun b hb => (by (first | omega | (simp only [size_grow, World.size_alloc, size_drewN, size_drew, size_setCell] at *; omega)))
    have hcr : ∀ b o, b < w.heap.size → wr.cell? ⟨b, o, none⟩ = w.cell? ⟨b, o, none⟩ := old_cell (by (repeat (first | exact Below.refl _ _ | assumption | (refine below_gr ?_ (by (first | omega | (simp only [size_grow, World.size_alloc, size_drewN, size_drew, size_setCell] at *; omega))) _) | (refine below_alloc ?_ (by (first | omega | (simp only [size_grow, World.size_alloc, size_drewN, size_drew, size_setCell] at *; omega))) _) | (refine Below.setCell ?_ (by (first | omega | (simp only [size_grow, World.size_alloc, size_drewN, size_drew, size_setCell] at *; omega))) _) | refine below_drewN ?_ _ | refine below_drew ?_ | (refine below_step ?_ (by assumption) (by (first | omega | (simp only [size_grow, World.size_alloc, size_drewN, size_drew, size_setCell] at *; omega)))))))
    by_cases hlt : k < ps.length
    · have H := hide (fallsWN_snoc fr ti (ps.take k) ps[k])
      rw [← take_snoc _ _ hlt] at H
      have H2 := fallsWN_le fr ti (ps.take k)
      have H3 : (ps.take k).length ≤ k := List.length_take_le _ _
      generalize fallsWN fr ti (ps.take k) = N at *
      go_wp2_with (go_at_call 56; refine (window_any k m _ ps c fb _ (hA.ext (by (repeat (first | exact Below.refl _ _ | assumption | (refine below_gr ?_ (by (first | omega | (simp only [size_grow, World.size_alloc, size_drewN, size_drew, size_setCell] at *; omega))) _) | (refine below_alloc ?_ (by (first | omega | (simp only [size_grow, World.size_alloc, size_drewN, size_drew, size_setCell] at *; omega))) _) | (refine Below.setCell ?_ (by (first | omega | (simp only [size_grow, World.size_alloc, size_drewN, size_drew, size_setCell] at *; omega))) _) | refine below_drewN ?_ _ | refine below_drew ?_ | (refine below_step ?_ (by assumption) (by (first | omega | (simp only [size_grow, World.size_alloc, size_drewN, size_drew, size_setCell] at *; omega)))))))) hl (hF.ext (by (repeat (first | exact Below.refl _ _ | assumption | (refine below_gr ?_ (by (first | omega | (simp only [size_grow, World.size_alloc, size_drewN, size_drew, size_setCell] at *; omega))) _) | (refine below_alloc ?_ (by (first | omega | (simp only [size_grow, World.size_alloc, size_drewN, size_drew, size_setCell] at *; omega))) _) | (refine Below.setCell ?_ (by (first | omega | (simp only [size_grow, World.size_alloc, size_drewN, size_drew, size_setCell] at *; omega))) _) | refine below_drewN ?_ _ | refine below_drew ?_ | (refine below_step ?_ (by assumption) (by (first | omega | (simp only [size_grow, World.size_alloc, size_drewN, size_drew, size_setCell] at *; omega)))))))) hlt).mono ?_; rintro e w1 ⟨rfl, hb1⟩; replace hb1 := ex_below hb1; have hz1 := hb1.size; (try simp only [size_grow, World.size_alloc, size_drewN, size_drew, size_setCell] at hz1); have hs1 : w.heap.size < w1.heap.size := (by (first | omega | (simp only [size_grow, World.size_alloc, size_drewN, size_drew, size_setCell] at *; omega))); have ho1 := own_cell hb1 (b := w.heap.size) (by (first | omega | (simp only [size_grow, World.size_alloc, size_drewN, size_drew, size_setCell] at *; omega))); have hq1 := own_frozen hb1 (b := w.heap.size) (by (first | omega | (simp only [size_grow, World.size_alloc, size_drewN, size_drew, size_setCell] at *; omega))); have hlt1 : ∀ b, b < w.heap.size → b < w1.heap.size := fun b hb => (by (first | omega | (simp only [size_grow, World.size_alloc, size_drewN, size_drew, size_setCell] at *; omega))); have hc1 : ∀ b o, b < w.heap.size → w1.cell? ⟨b, o, none⟩ = w.cell? ⟨b, o, none⟩ := old_cell (by (repeat (first | exact Below.refl _ _ | assumption | (refine below_gr ?_ (by (first | omega | (simp only [size_grow, World.size_alloc, size_drewN, size_drew, size_setCell] at *; omega))) _) | (refine below_alloc ?_ (by (first | omega | (simp only [size_grow, World.size_alloc, size_drewN, size_drew, size_setCell] at *; omega))) _) | (refine Below.setCell ?_ (by (first | omega | (simp only [size_grow, World.size_alloc, size_drewN, size_drew, size_setCell] at *; omega))) _) | refine below_drewN ?_ _ | refine below_drew ?_ | (refine below_step ?_ (by assumption) (by (first | omega | (simp only [size_grow, World.size_alloc, size_drewN, size_drew, size_setCell] at *; omega))))))))
      all_goals
        exact ⟨⟨k + 1, by omega, by go_num, by rw [H.out]; exact v_int (by unfold fallsW; go_light; simp_all <;> (repeat' split) <;> omega), grew_of (by (repeat (first | exact Below.refl _ _ | assumption | (refine below_gr ?_ (by (first | omega | (simp only [size_grow, World.size_alloc, size_drewN, size_drew, size_setCell] at *; omega))) _) | (refine below_alloc ?_ (by (first | omega | (simp only [size_grow, World.size_alloc, size_drewN, size_drew, size_setCell] at *; omega))) _) | (refine Below.setCell ?_ (by (first | omega | (simp only [size_grow, World.size_alloc, size_drewN, size_drew, size_setCell] at *; omega))) _) | refine below_drewN ?_ _ | refine below_drew ?_ | (refine below_step ?_ (by assumption) (by (first | omega | (simp only [size_grow, World.size_alloc, size_drewN, size_drew, size_setCell] at *; omega)))))))⟩, by simp [intOf]; omega⟩
    · have hkl : k = ps.length := by omega
      subst hkl
      go_wp2
      go_ret
      exact gives_of (v_int (by simp)) (by (repeat (first | exact Below.refl _ _ | assumption | (refine below_gr ?_ (by (first | omega | (simp only [size_grow, World.size_alloc, size_drewN, size_drew, size_setCell] at *; omega))) _) | (refine below_alloc ?_ (by (first | omega | (simp only [size_grow, World.size_alloc, size_drewN, size_drew, size_setCell] at *; omega))) _) | (refine Below.setCell ?_ (by (first | omega | (simp only [size_grow, World.size_alloc, size_drewN, size_drew, size_setCell] at *; omega))) _) | refine below_drewN ?_ _ | refine below_drew ?_ | (refine below_step ?_ (by assumption) (by (first | omega | (simp only [size_grow, World.size_alloc, size_drewN, size_drew, size_setCell] at *; omega)))))))
end Go.Proofs.Ytbfhkknpocbeaaa
