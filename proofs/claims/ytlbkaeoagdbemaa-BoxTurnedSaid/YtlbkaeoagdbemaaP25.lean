/- Proved here: the errors of a count; the count of Within, a part of the proofs about the box laws. Conditions: those that each theorem names, no others. -/
import Derived.Test.YtlbkaeoagdbemaaP24
import Derived.WalkKit
import Derived.WalkSpells
import Derived.WalkLawsBesides
import Derived.Below
import Derived.Deep.QuietTactic
import Derived.BigQuiet
import Derived.Deep.Light
import Derived.Test.YtlbkaeoagdbemaaP04
import Derived.Deep.WholeRow
set_option linter.unusedSimpArgs false
set_option linter.unusedVariables false
namespace Go.Proofs.Ytlbkaeoagdbemaa
open Go.RowKit Go.Maps
set_option maxRecDepth 100000 in
set_option maxHeartbeats 1000000 in
theorem within_api_bad (A : Option Addr) (R : List Int) (rc : Nat) (Y : Option Addr) (S : List Int) (yc : Nat) (u v : Int) (w : World) (hA : I64 w A R) (hY : I64 w Y S) (hyc : S.length ≤ yc) (hR2 : R.length ≤ 1000000) (hS2 : S.length ≤ 1000000) (h0 : chkT R [(S, u)] ≠ 0) :
    Calls Try.prog 27 #[.agg #[.slice A R.length rc], .agg #[.slice Y S.length yc, .int .i64 u], .int .i64 v] w (Gives w (.tuple #[.int .i64 0, .int .i64 (chkT R [(S, u)])])) := by
  have HOP := hide (fun b w' (h1 : I64 w' A R) (h2 : Tks w' (some ⟨b, 0, none⟩) [(S, u)]) => open_bad A R rc (some ⟨b, 0, none⟩) [(S, u)] 1 w' h1 h2 hR2 (by simp) (fun t ht => by rw [List.mem_singleton.1 ht]; exact hS2) h0)
  have H0 := hide h0
  clear h0
  generalize chkT R [(S, u)] = ec at *
  have hne : ec ≠ 0 := H0.out
  have hneb : (ec != 0) = true := by simp [hne]
  go_enter Try.func27, Try.ntmps27
  go_wp2_with (first
    | (go_at_call 61; refine (HOP.out _ _ (hA.ext (by (repeat (first | exact Below.refl _ _ | assumption | refine below_drewN ?_ _ | refine below_drew ?_ | refine below_gr ?_ ?_ _ | refine below_alloc ?_ ?_ _ | refine Below.setCell ?_ ?_ _ | refine below_step ?_ (by assumption) ?_ | omega | (simp only [zz] at *; omega))))) (tks_one (heap_c3 _ _ _ _) (hY.ext (by (repeat (first | exact Below.refl _ _ | assumption | refine below_drewN ?_ _ | refine below_drew ?_ | refine below_gr ?_ ?_ _ | refine below_alloc ?_ ?_ _ | refine Below.setCell ?_ ?_ _ | refine below_step ?_ (by assumption) ?_ | omega | (simp only [zz] at *; omega))))) hyc)).mono ?_; rintro e w1 ⟨rfl, hb1⟩; replace hb1 := ex_below hb1; have hz1 := hb1.size))

  go_ret2
  exact gives_of (rfl) (by (repeat (first | exact Below.refl _ _ | assumption | refine below_drewN ?_ _ | refine below_drew ?_ | refine below_gr ?_ ?_ _ | refine below_alloc ?_ ?_ _ | refine Below.setCell ?_ ?_ _ | refine below_step ?_ (by assumption) ?_ | omega | (simp only [zz] at *; omega))))
set_option maxRecDepth 100000 in
set_option maxHeartbeats 1000000 in
theorem within_range (A : Option Addr) (R : List Nat) (rc : Nat) (Y : Option Addr) (S : List Nat) (yc : Nat) (u : Nat) (v : Int) (w : World) (hA : I64 w A (zs R)) (hY : I64 w Y (zs S)) (hyc : S.length ≤ yc) (hok : Ok R [(S, u)]) (hv : ¬(0 ≤ v ∧ v ≤ (R.length : Int))) :
    Calls Try.prog 27 #[.agg #[.slice A R.length rc], .agg #[.slice Y S.length yc, .int .i64 (u : Nat)], .int .i64 v] w (Gives w (.tuple #[.int .i64 0, .int .i64 3])) := by
  have HOP := hide (fun b w' (h1 : I64 w' A (zs R)) (h2 : Tks w' (some ⟨b, 0, none⟩) [(zs S, (u : Int))]) => opens_n A R rc (some ⟨b, 0, none⟩) [(S, u)] 1 w' h1 h2 hok)
  have HT1 := hide (fun (w' : World) b t (h : w'.heap[b]? = some (.cells #[.slice Y S.length yc, .int .i64 (u : Int)] t (0, 0))) (h2 : I64 w' Y (zs S)) => (tks_one (S := zs S) (c := yc) (u := (u : Int)) (t := t) (by rw [zs_len]; exact h) h2 (by rw [zs_len]; exact hyc) : Tks w' (some ⟨b, 0, none⟩) [(zs S, (u : Int))]))
  have hvb : decide (0 ≤ v ∧ v ≤ (R.length : Int)) = false := by simpa using hv
  go_enter Try.func27, Try.ntmps27
  go_wp2_with (first
    | (go_at_call 61; refine (HOP.out _ _ (hA.ext (by (repeat (first | exact Below.refl _ _ | assumption | refine below_drewN ?_ _ | refine below_drew ?_ | refine below_gr ?_ ?_ _ | refine below_alloc ?_ ?_ _ | refine Below.setCell ?_ ?_ _ | refine below_step ?_ (by assumption) ?_ | omega | (simp only [zz] at *; omega))))) (HT1.out _ _ _ (heap_c3 _ _ _ _) (hY.ext (by (repeat (first | exact Below.refl _ _ | assumption | refine below_drewN ?_ _ | refine below_drew ?_ | refine below_gr ?_ ?_ _ | refine below_alloc ?_ ?_ _ | refine Below.setCell ?_ ?_ _ | refine below_step ?_ (by assumption) ?_ | omega | (simp only [zz] at *; omega))))))).mono ?_; rintro e w1 ⟨s, rfl, hb1, hs1, hS1⟩; replace hb1 := ex_below hb1; have hz1 := hb1.size; (try simp only [World.size_alloc] at hz1); have hc1 := own_cell hb1 (b := w.heap.size) (by (first | omega | (simp only [zz]; omega) | (simp only [zz] at *; omega) | (simp; done) | (simp; omega))); have hc1b := own_cell hb1 (b := w.heap.size + 1) (by (first | omega | (simp only [zz]; omega) | (simp only [zz] at *; omega) | (simp; done) | (simp; omega))))
    | (go_at_call 56; refine (within1 _ _ _ _ _ _ (by simp)).mono ?_; rintro e w2 ⟨rfl, hb2⟩; replace hb2 := ex_below hb2; have hz2 := hb2.size; have hlt1 : w.heap.size < w1.heap.size := (by omega); have hc2 := own_cell hb2 (b := w.heap.size) (by (first | omega | (simp only [zz]; omega) | (simp only [zz] at *; omega) | (simp; done) | (simp; omega)))))

  go_ret2
  exact gives_of (rfl) (by (repeat (first | exact Below.refl _ _ | assumption | refine below_drewN ?_ _ | refine below_drew ?_ | refine below_gr ?_ ?_ _ | refine below_alloc ?_ ?_ _ | refine Below.setCell ?_ ?_ _ | refine below_step ?_ (by assumption) ?_ | omega | (simp only [zz] at *; omega))))
end Go.Proofs.Ytlbkaeoagdbemaa
namespace Go.Proofs.Ytlbkaeoagdbemaa
open Go.RowKit Go.Maps
theorem siz84 : (Try.prog.info? 84).map (·.size) = some 6 := by kernel_rfl
theorem inf2 : (Try.prog.info? 2).map (fun i => (i.zero, i.size)) = some (some (.int .i64 0), 1) := by kernel_rfl
theorem run_clear6 (W : World) : (Builtin.clear_ #[85] 0 #[.slice (some ⟨W.heap.size, 0, none⟩) 6 6]).run Try.prog (W.alloc (.cells #[.int .i64 0, .int .i64 0, .int .i64 0, .int .i64 0, .int .i64 0, .int .i64 0] 84)) = .ok (.tuple #[]) (W.alloc (.cells #[.int .i64 0, .int .i64 0, .int .i64 0, .int .i64 0, .int .i64 0, .int .i64 0] 84)) := by
  have h1 := run_storeCells_new (P := Try.prog) W 84 #[.int .i64 0, .int .i64 0, .int .i64 0, .int .i64 0, .int .i64 0, .int .i64 0] #[.int .i64 0, .int .i64 0, .int .i64 0, .int .i64 0, .int .i64 0, .int .i64 0] siz84 rfl (by simp [Value.oneCell'])
  have hz := (zero_of_info inf2).1
  unfold Builtin.clear_
  have hzc : Builtin.zeroCells #[.int .i64 0] 6 = #[.int .i64 0, .int .i64 0, .int .i64 0, .int .i64 0, .int .i64 0, .int .i64 0] := by
    apply Array.ext'
    simp [Builtin.zeroCells, Nat.mod_one, List.range, List.range.loop]
  simp only [go_sem, und85, hz, hzc]
  simp [go_sem, und85, hz, hzc, h1]
theorem und84 : Try.prog.underlying 84 = some (.array 6 2) := by kernel_rfl
theorem slice6 (W : World) (b v : Nat) (h : v ≤ 5) : (Instr.sliceAt 84 (.pointer (some ⟨b, 0, none⟩)) none (some (.int .i64 ((v : Int) + 1))) none).run Try.prog W = .ok (.slice (some ⟨b, 0, none⟩) (v + 1) 6) W := by
  have h1 : ((v : Int) + 1).toNat = v + 1 := by omega
  have h2 : v + 1 ≤ 6 := by omega
  have h4 : (0 : Int) ≤ (v : Int) + 1 := by omega
  have h5 : (v : Int) + 1 ≤ 6 := by omega
  have hs := (zero_of_info inf2).2
  cases hq : Try.prog.info? 2 with
  | none => simp [hq] at hs
  | some i =>
    simp [Instr.sliceAt, Instr.sureAddr, run_underlying und84, Instr.sliceBounds, Instr.sliceBound, asIntOf, sizeOf, typeInfo, hq, h1, h2, h4, h5, Addr.add]
/-- six numbers, as a block -/
def byA (f : Nat → Nat) : Array Value := #[.int .i64 (f 0 : Nat), .int .i64 (f 1 : Nat), .int .i64 (f 2 : Nat), .int .i64 (f 3 : Nat), .int .i64 (f 4 : Nat), .int .i64 (f 5 : Nat)]
theorem byA_at (f : Nat → Nat) (k : Nat) (h : k < 6) : (byA f)[k]? = some (.int .i64 (f k : Nat)) := by
  have : k = 0 ∨ k = 1 ∨ k = 2 ∨ k = 3 ∨ k = 4 ∨ k = 5 := by omega
  rcases this with rfl | rfl | rfl | rfl | rfl | rfl <;> rfl
theorem byA_set (f : Nat → Nat) (k : Nat) (h : k < 6) (x : Nat) : (byA f).setIfInBounds k (.int .i64 (x : Nat)) = byA (fun i => if i = k then x else f i) := by
  have : k = 0 ∨ k = 1 ∨ k = 2 ∨ k = 3 ∨ k = 4 ∨ k = 5 := by omega
  rcases this with rfl | rfl | rfl | rfl | rfl | rfl <;> simp [byA]
theorem step_le {m l n : Nat} (hml : m + l ≤ 6) {f : Nat → Nat} (hf : ∀ i, f i ≤ n) (i : Nat) : Bm.dpStep m l f i ≤ 6 * n := by
  have h1 : ∀ x, x ≤ n → x * m ≤ n * m := fun x hx => Nat.mul_le_mul_right _ hx
  have h2 : ∀ x, x ≤ n → x * l ≤ n * l := fun x hx => Nat.mul_le_mul_right _ hx
  have h3 : n * m + n * l ≤ n * 6 := by rw [← Nat.mul_add]; exact Nat.mul_le_mul_left _ hml
  cases i with
  | zero => have := h1 (f 0) (hf 0); simp only [Bm.dpStep]; omega
  | succ i => have := h1 (f (i + 1)) (hf _); have := h2 (f i) (hf _); simp only [Bm.dpStep]; omega
theorem dp_le (L : List (Nat × Nat)) (h : ∀ x, x ∈ L → x.1 + x.2 ≤ 6) (i : Nat) : Bm.dp L i ≤ 6 ^ L.length := by
  induction L generalizing i with
  | nil => cases i <;> simp [Bm.dp, Bm.dpOne]
  | cons x L ih =>
    rw [Bm.dp_cons, List.length_cons, Nat.pow_succ, Nat.mul_comm]
    exact step_le (h x (by simp)) (fun j => ih (fun y hy => h y (by simp [hy])) j) i
theorem races_snoc {R S : List Nat} {k : Nat} (hR : k < R.length) (hS : k < S.length) : Bm.races (R.take (k + 1)) (S.take (k + 1)) = Bm.races (R.take k) (S.take k) ++ [(Bm.popc S[k], R[k] - Bm.popc S[k])] := by
  unfold Bm.races
  rw [take_snoc R k hR, take_snoc S k hS, List.zip_append (by simp; omega), List.map_append]
  simp
theorem races_le {R S : List Nat} (hb : Bm.isBox R S = true) (h6 : ∀ n, n ∈ R → n ≤ 6) (k : Nat) : ∀ x, x ∈ Bm.races (R.take k) (S.take k) → x.1 + x.2 ≤ 6 := fun x hx => by
  unfold Bm.races at hx
  obtain ⟨p, hp, rfl⟩ := List.mem_map.1 hx
  obtain ⟨i, hi, rfl⟩ := List.getElem_of_mem hp
  have hiR : i < R.length := by simp at hi; omega
  have hiS : i < S.length := by simp at hi; omega
  have := Bm.isBox_at hb i hiR
  rw [getD_at _ _ hiS, getD_at _ _ hiR] at this
  have h1 := h6 _ (List.getElem_mem hiR)
  have h2 := Bm.popc_le (s := S[i]) (n := R[i]) (by have := Nat.one_le_two_pow (n := R[i]); omega) h1
  simp only [List.getElem_zip, List.getElem_take]
  omega
/-- a race's numbers, half way -/
def mixF (m l : Nat) (f : Nat → Nat) (j : Nat) : Nat → Nat := fun i => if i ≤ j then f i else Bm.dpStep m l f i
theorem byA_congr {f g : Nat → Nat} (h : ∀ i, i < 6 → f i = g i) : byA f = byA g := by
  unfold byA
  rw [h 0 (by omega), h 1 (by omega), h 2 (by omega), h 3 (by omega), h 4 (by omega), h 5 (by omega)]
theorem mix_start {m l : Nat} {f : Nat → Nat} {k : Nat} (_ : k ≤ 5) (h : ∀ i, k < i → f i = 0) : byA f = byA (mixF m l f (k + 1)) := byA_congr fun i _ => by
  unfold mixF
  split
  · rfl
  · rename_i hi
    cases i with
    | zero => omega
    | succ i => rw [h (i + 1) (by omega)]; simp only [Bm.dpStep]; rw [h (i + 1) (by omega), h i (by omega)]; simp
set_option maxRecDepth 100000 in
set_option maxHeartbeats 4000000 in
theorem within_ok (A : Option Addr) (R : List Nat) (rc : Nat) (Y : Option Addr) (S : List Nat) (yc : Nat) (u v : Nat) (w : World) (hA : I64 w A (zs R)) (hY : I64 w Y (zs S)) (hyc : S.length ≤ yc) (hok : Ok R [(S, u)]) (hv : v ≤ R.length) :
    Calls Try.prog 27 #[.agg #[.slice A R.length rc], .agg #[.slice Y S.length yc, .int .i64 (u : Nat)], .int .i64 (v : Nat)] w (Gives w (.tuple #[.int .i64 (Bm.withinN R S v : Nat), .int .i64 0])) := by
  have HOP := hide (fun b w' (h1 : I64 w' A (zs R)) (h2 : Tks w' (some ⟨b, 0, none⟩) [(zs S, (u : Int))]) => opens_n A R rc (some ⟨b, 0, none⟩) [(S, u)] 1 w' h1 h2 hok)
  have HT1 := hide (fun (w' : World) b t (h : w'.heap[b]? = some (.cells #[.slice Y S.length yc, .int .i64 (u : Int)] t (0, 0))) (h2 : I64 w' Y (zs S)) => (tks_one (S := zs S) (c := yc) (u := (u : Int)) (t := t) (by rw [zs_len]; exact h) h2 (by rw [zs_len]; exact hyc) : Tks w' (some ⟨b, 0, none⟩) [(zs S, (u : Int))]))
  have hvb : decide (0 ≤ (v : Int) ∧ (v : Int) ≤ (R.length : Int)) = true := by simp; omega
  have hR5 := hok.h5
  have hcl := run_clear6
  go_enter Try.func27, Try.ntmps27
  go_wp2_with (first
    | (go_at_call 61; refine (HOP.out _ _ (hA.ext (by (repeat (first | exact Below.refl _ _ | assumption | refine below_drewN ?_ _ | refine below_drew ?_ | refine below_gr ?_ ?_ _ | refine below_alloc ?_ ?_ _ | refine Below.setCell ?_ ?_ _ | refine below_step ?_ (by assumption) ?_ | omega | (simp only [zz] at *; omega))))) (HT1.out _ _ _ (heap_c3 _ _ _ _) (hY.ext (by (repeat (first | exact Below.refl _ _ | assumption | refine below_drewN ?_ _ | refine below_drew ?_ | refine below_gr ?_ ?_ _ | refine below_alloc ?_ ?_ _ | refine Below.setCell ?_ ?_ _ | refine below_step ?_ (by assumption) ?_ | omega | (simp only [zz] at *; omega))))))).mono ?_; rintro e w1 ⟨s, rfl, hb1, hs1, hS1⟩; replace hb1 := ex_below hb1; have hz1 := hb1.size; (try simp only [World.size_alloc] at hz1); have hc1 := own_cell hb1 (b := w.heap.size) (by (first | omega | (simp only [zz]; omega) | (simp only [zz] at *; omega) | (simp; done) | (simp; omega))); have hc1b := own_cell hb1 (b := w.heap.size + 1) (by (first | omega | (simp only [zz]; omega) | (simp only [zz] at *; omega) | (simp; done) | (simp; omega))))
    | (go_at_call 56; refine (within1 _ _ _ _ _ _ (by simp)).mono ?_; rintro e w2 ⟨rfl, hb2⟩; replace hb2 := ex_below hb2; have hz2 := hb2.size; (try simp only [World.size_alloc] at hz2); have hlt1 : w.heap.size < w1.heap.size := (by omega); have hlt1b : w.heap.size + 1 < w1.heap.size := (by omega); have hc2 := own_cell hb2 (b := w.heap.size) (by (first | omega | (simp only [zz]; omega) | (simp only [zz] at *; omega) | (simp; done) | (simp; omega))); have hc2b := own_cell hb2 (b := w.heap.size + 1) (by (first | omega | (simp only [zz]; omega) | (simp only [zz] at *; omega) | (simp; done) | (simp; omega))); have hlt2 : w.heap.size < w2.heap.size := (by omega); have hlt2b : w.heap.size + 1 < w2.heap.size := (by omega); have n2 : w.heap.size ≠ w2.heap.size := (by omega); have n2b : w.heap.size + 1 ≠ w2.heap.size := (by omega)))

  have hnb : w.heap.size < w2.heap.size := hlt2
  have hcY : w2.cell? ⟨w.heap.size + 1, 0, none⟩ = some (.slice Y S.length yc) := by
    simp [go_sem, hc2b, hc1b, hlt1b]
  have hbw2 : Below w.heap.size w w2 := by (repeat (first | exact Below.refl _ _ | assumption | (refine below_gr ?_ (by (first | omega | (simp only [zz] at *; omega))) _) | (refine below_alloc ?_ (by (first | omega | (simp only [zz] at *; omega))) _) | (refine Below.setCell ?_ (by (first | omega | (simp only [zz] at *; omega))) _) | refine below_drewN ?_ _ | refine below_drew ?_ | (refine below_step ?_ (by assumption) (by (first | omega | (simp only [zz] at *; omega))))))
  have hSl : S.length = R.length := hok.htl (S, u) (by simp)
  have HSL := hide hSl
  have HS6 := hide (hok.ht6 (S, u) (by simp))
  have HSB := hide (hok.tb (S, u) (by simp))
  have HR1 := hide hok.r1
  have HR6 := hide hok.r6
  have hA2 := hA.ext hbw2
  have hY2 := hY.ext hbw2
  clear hSl hc1 hc1b hc2 hc2b hb1 hb2
  have hI0 : (w2.alloc (.cells #[.int .i64 1, .int .i64 0, .int .i64 0, .int .i64 0, .int .i64 0, .int .i64 0] 84)).heap[w2.heap.size]? = some (.cells (byA (Bm.dp [])) 84 (0, 0)) := heap_alloc_new _ _
  have hB0 : Below w2.heap.size w2 (w2.alloc (.cells #[.int .i64 1, .int .i64 0, .int .i64 0, .int .i64 0, .int .i64 0, .int .i64 0] 84)) := below_alloc (Below.refl _ _) (Nat.le_refl _) _
  go_loopw [43] (fun t43 wr => ∃ k : Nat, k ≤ R.length ∧ t43 = .int .i64 k ∧ wr.heap[w2.heap.size]? = some (.cells (byA (Bm.dp (Bm.races (R.take k) (S.take k)))) 84 (0, 0)) ∧ Below w2.heap.size w2 wr) (fun t43 _ => R.length - (intOf t43).toNat)
  case atStart => exact ⟨0, Nat.zero_le _, rfl, hI0, hB0⟩
  case round =>
    obtain ⟨k, hk, rfl, hI, hb⟩ := hrel
    have hzr := hb.size
    have hlI := obj_lt hI
    have hcYr := (hb.cell (p := ⟨w.heap.size + 1, 0, none⟩) hlt2b).trans hcY
    by_cases hlt : k < R.length
    · have hAr := hA2.ext hb
      have hYr := hY2.ext hb
      have hltS : k < S.length := by rw [HSL.out]; exact hlt
      obtain ⟨ab, ao, rfl, hab⟩ := zsF hAr (by omega)
      obtain ⟨sb, so, rfl, hsb⟩ := zsF hYr (by omega)
      have hr0 := zsI hAr hlt
      have hs0 := zsI hYr hltS
      have HRS := hide (show Bm.dp (Bm.races (R.take (k + 1)) (S.take (k + 1))) = Bm.dpStep (Bm.popc S[k]) (R[k] - Bm.popc S[k]) (Bm.dp (Bm.races (R.take k) (S.take k))) by rw [races_snoc hlt hltS, Bm.dp_snoc])
      have hn6 := HR6.out R[k] (List.getElem_mem hlt)
      have hx6 := HS6.out S[k] (List.getElem_mem hltS)
      have HPL := hide (show Bm.popc S[k] ≤ R[k] by
        have := Bm.isBox_at HSB.out k hlt
        rw [getD_at _ _ hltS, getD_at _ _ hlt] at this
        exact Bm.popc_le (by have := Nat.one_le_two_pow (n := R[k]); omega) hn6)
      have HF0 := hide (fun i (hi : k < i) => Bm.dp_zero (Bm.races (R.take k) (S.take k)) i (by simp [Bm.races]; omega))
      have HFL := hide (fun i => dp_le (Bm.races (R.take k) (S.take k)) (races_le HSB.out HR6.out k) i)
      have hrl : (Bm.races (R.take k) (S.take k)).length ≤ 5 := by simp [Bm.races]; omega
      have HP5 := hide (Nat.pow_le_pow_right (n := 6) (by omega) hrl)
      clear hrl
      have hnl0 : (0 : Int) ≤ (R[k] : Int) - (Bm.popc S[k] : Nat) := by have := HPL.out; omega
      have hnl6 : (R[k] : Int) - (Bm.popc S[k] : Nat) ≤ 6 := by omega
      generalize Bm.dp (Bm.races (R.take k) (S.take k)) = f at *
      generalize R[k] = n at *
      generalize S[k] = x at *
      go_wp2_with (go_at_call 63; refine (ones_any x _ hx6).mono ?_; rintro e w5 ⟨rfl, hb5⟩; replace hb5 := ex_below hb5; have hz5 := hb5.size)
      have hI5 := (hb5.block _ hlI).trans hI
      have hB5 := hb.trans (hb5.mono hzr)
      have hlI5 := obj_lt hI5
      have hpn := HPL.out
      generalize Bm.popc x = m at *
      obtain ⟨l, hl⟩ : ∃ l, n - m = l := ⟨_, rfl⟩
      have hnl : (n : Int) - (m : Int) = (l : Int) := by omega
      rw [hl] at HRS
      rw [hnl]
      have HMX : Hid (byA f = byA (mixF m l f (k + 1))) := hide (mix_start (by omega) HF0.out)
      clear hI hb hb5 hcY hpn
      go_loopw [15] (fun t15 wz => ∃ j : Nat, j ≤ k + 1 ∧ t15 = .int .i64 j ∧ wz.heap[w2.heap.size]? = some (.cells (byA (mixF m l f j)) 84 (0, 0)) ∧ Below w2.heap.size w5 wz) (fun t15 _ => (intOf t15).toNat)
      case atStart => exact ⟨k + 1, Nat.le_refl _, by go_num, by rw [← HMX.out]; exact hI5, Below.refl _ _⟩
      case round =>
        obtain ⟨j, hj, rfl, hIz, hbz⟩ := hrel
        have hlz := obj_lt hIz
        cases j with
        | succ j =>
          have e1 := obj_at hIz (j + 1) (.int .i64 (f (j + 1) : Nat)) (by rw [byA_at _ _ (by omega)]; simp [mixF])
          have e0 := obj_at hIz j (.int .i64 (f j : Nat)) (by rw [byA_at _ _ (by omega)]; simp [mixF])
          have z1 := obj_fz hIz (j + 1)
          have hj0 : (0 : Int) < ((j + 1 : Nat) : Int) := by omega
          have hj5 : ((j + 1 : Nat) : Int) ≤ 5 := by omega
          have hfa : f (j + 1) ≤ 7776 := by have := HFL.out (j + 1); have := HP5.out; omega
          have hfb : f j ≤ 7776 := by have := HFL.out j; have := HP5.out; omega
          generalize hA1 : f (j + 1) = fa at *
          generalize hB1 : f j = fb at *
          have hpa : ((fa : Nat) : Int) * (m : Int) = ((fa * m : Nat) : Int) := by simp
          have hpb : ((fb : Nat) : Int) * (l : Int) = ((fb * l : Nat) : Int) := by simp
          have q1 : fa * m ≤ 7776 * 6 := Nat.mul_le_mul hfa (by omega)
          have q2 : fb * l ≤ 7776 * 6 := Nat.mul_le_mul hfb (by omega)
          have hp0 : (0 : Int) ≤ ((fa : Nat) : Int) * (m : Int) := by rw [hpa]; omega
          have hp1 : ((fa : Nat) : Int) * (m : Int) ≤ 60000 := by rw [hpa]; omega
          have hp2 : (0 : Int) ≤ ((fb : Nat) : Int) * (l : Int) := by rw [hpb]; omega
          have hp3 : ((fb : Nat) : Int) * (l : Int) ≤ 60000 := by rw [hpb]; omega
          have HPA := hide hpa
          have HPB := hide hpb
          clear hpa hpb q1 q2
          go_upto_region 17 with fail
          go_region
          go_wp2
          refine ⟨⟨j, by omega, rfl, ?_, below_drew (Below.setCell (p := ⟨w2.heap.size, j + 1, none⟩) hbz (Nat.le_refl _) _)⟩, by simp [intOf]⟩
          rw [heap_drew, HPA.out, HPB.out, show ((fa * m : Nat) : Int) + ((fb * l : Nat) : Int) = ((fa * m + fb * l : Nat) : Int) by simp, set_obj hIz (j + 1) _, byA_set _ _ (by omega)]
          rw [show byA (fun i => if i = j + 1 then fa * m + fb * l else mixF m l f (j + 1) i) = byA (mixF m l f j) from byA_congr fun i _ => by
            by_cases hi : i = j + 1
            · subst hi; rw [if_pos rfl]; unfold mixF; rw [if_neg (by omega)]; simp only [Bm.dpStep, hA1, hB1]
            · rw [if_neg hi]; unfold mixF
              by_cases h2 : i ≤ j
              · rw [if_pos (by omega), if_pos h2]
              · rw [if_neg (by omega), if_neg h2]]
        | zero =>
          have e0 := obj_at hIz 0 (.int .i64 (f 0 : Nat)) (by rw [byA_at _ _ (by omega)]; simp [mixF])
          have z0 := obj_fz hIz 0
          have hf0 : f 0 ≤ 7776 := by have := HFL.out 0; have := HP5.out; omega
          have hfm : ((f 0 : Nat) : Int) * (m : Int) = ((f 0 * m : Nat) : Int) := by simp
          have hfm0 : ((f 0 * m : Nat) : Int) ≤ 60000 := by
            have := Nat.mul_le_mul hf0 (show m ≤ 6 by omega)
            omega
          have hp0 : (0 : Int) ≤ ((f 0 : Nat) : Int) * (m : Int) := by rw [hfm]; omega
          have hp1 : ((f 0 : Nat) : Int) * (m : Int) ≤ 60000 := by rw [hfm]; omega
          have HFM := hide hfm
          clear hfm hfm0
          go_wp2
          refine ⟨⟨k + 1, by omega, by go_num, ?_, Below.setCell (p := ⟨w2.heap.size, 0, none⟩) (hB5.trans (hbz.mono (Nat.le_refl _))) (Nat.le_refl _) _⟩, by simp [intOf]; omega⟩
          rw [HRS.out, HFM.out, set_obj hIz 0 _, byA_set _ _ (by omega)]
          rw [show byA (fun i => if i = 0 then f 0 * m else mixF m l f 0 i) = byA (Bm.dpStep m l f) from byA_congr fun i _ => by
            by_cases hi : i = 0
            · subst hi; simp [Bm.dpStep]
            · rw [if_neg hi]; unfold mixF; rw [if_neg (by omega)]]
    · have hkR : k = R.length := by omega
      have hvi : (v : Int) ≤ 5 := by omega
      have hv0 : (0 : Int) ≤ (v : Int) := by omega
      rw [hkR, List.take_length, List.take_of_length_le (by rw [HSL.out]; exact Nat.le_refl _)] at hI
      have hnk : ¬ k < R.length := hlt
      have HFL := hide (fun i => dp_le (Bm.races R S) (by have := races_le HSB.out HR6.out R.length; rwa [List.take_length, List.take_of_length_le (by rw [HSL.out]; exact Nat.le_refl _)] at this) i)
      have HWN := hide (show Bm.withinN R S v = Bm.sumTo (Bm.dp (Bm.races R S)) (v + 1) from rfl)
      have hsl := fun W : World => slice6 W w2.heap.size v (by omega)
      clear hkR
      go_wp2
      have HP5 := hide (Nat.pow_le_pow_right (n := 6) (by omega) (show (Bm.races R S).length ≤ 5 by simp [Bm.races]; omega))
      have HFB := hide (fun i => Nat.le_trans (HFL.out i) HP5.out)
      clear HFL
      generalize Bm.dp (Bm.races R S) = f at *
      have hlI2 := hlI
      go_loopw [16, 88] (fun a i wz => ∃ j : Nat, j ≤ v + 1 ∧ a = .int .i64 (Bm.sumTo f j : Nat) ∧ i = .int .i64 j ∧ Below wr.heap.size wr wz) (fun _ i _ => v + 1 - (intOf i).toNat)
      case atStart => exact ⟨0, by omega, by simp [Bm.sumTo], by go_num, Below.refl _ _⟩
      case round =>
        obtain ⟨j, hj, rfl, rfl, hbz⟩ := hrel
        have hzz := hbz.size
        have hS2 := Bm.sumTo_succ f j
        have hsj := Bm.sumTo_le f j 7776 (fun k _ => HFB.out k)
        have hjm : j * 7776 ≤ 6 * 7776 := Nat.mul_le_mul_right _ (by omega)
        have HS2 := hide hS2
        clear hS2
        obtain ⟨sj, hsj0⟩ : ∃ sj, Bm.sumTo f j = sj := ⟨_, rfl⟩
        rw [hsj0] at HS2 hsj ⊢
        have HSJ := hide hsj0
        clear hsj0
        by_cases hlt2 : j < v + 1
        · clear HWN
          have hfj := HFB.out j
          have e1 : wr.cell? ⟨w2.heap.size, j, none⟩ = some (.int .i64 (f j : Nat)) := (hbz.cell (p := ⟨w2.heap.size, j, none⟩) hlI2).trans (obj_at hI j _ (byA_at _ _ (by omega)))
          generalize f j = fj at *
          have hj6 : (j : Int) < 6 := by omega
          go_wp2
          exact ⟨⟨j + 1, by omega, by rw [HS2.out]; go_num, by go_num, hbz⟩, by simp [intOf]; omega⟩
        · have hjv : j = v + 1 := by omega
          have hsv := hide (show (Bm.withinN R S v : Nat) = sj by rw [HWN.out, ← hjv]; exact HSJ.out)
          clear hjv
          go_wp2
          go_ret2
          exact gives_of (by rw [hsv.out]; rfl) (by (repeat (first | exact Below.refl _ _ | assumption | refine below_drewN ?_ _ | refine below_drew ?_ | refine below_gr ?_ ?_ _ | refine below_alloc ?_ ?_ _ | refine Below.setCell ?_ ?_ _ | refine below_step ?_ (by assumption) ?_ | omega | (simp only [zz] at *; omega))))
end Go.Proofs.Ytlbkaeoagdbemaa
