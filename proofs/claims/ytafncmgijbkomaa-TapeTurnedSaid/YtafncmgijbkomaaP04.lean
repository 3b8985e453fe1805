/- Proved here: numbers within bounds, and strings of windows; which tapes are valid; the least number, a part of the proofs about the tape laws. Conditions: those that each theorem names, no others. -/
import Derived.Test.YtafncmgijbkomaaP03
import Derived.WalkKit
import Derived.WalkSpells
import Derived.WalkLawsBesides
import Derived.Below
import Derived.Deep.QuietTactic
import Derived.BigQuiet
import Derived.Deep.Light
import Derived.Laws.IdiomStrings
set_option linter.unusedSimpArgs false
set_option linter.unusedVariables false
namespace Go.Proofs.Ytafncmgijbkomaa
open Go.RowKit
def I64 (w : World) (A : Option Addr) (xs : List Int) : Prop :=
  ∀ k x, xs[k]? = some x → ∃ b off, A = some ⟨b, off, none⟩ ∧ b < w.heap.size ∧ b ≤ w.heap.size ∧ w.cell? ⟨b, off + k, none⟩ = some (.int .i64 x)
theorem I64.ext {w w' : World} {A : Option Addr} {ps : List Int} (h : I64 w A ps) (hb : Below w.heap.size w w') : I64 w' A ps := fun k p hk => by
  obtain ⟨b, off, h0, h1, h2, h3⟩ := h k p hk
  have hs := hb.size
  exact ⟨b, off, h0, by omega, by omega, (hb.cell (p := ⟨b, _, none⟩) h1).trans h3⟩
theorem I64.at {w : World} {b o : Nat} {xs : List Int} (h : I64 w (some ⟨b, o, none⟩) xs) {k : Nat} (hk : k < xs.length) : w.cell? ⟨b, o + k, none⟩ = some (.int .i64 xs[k]) := by
  obtain ⟨b', o', he, _, _, h0⟩ := h k xs[k] (by simp [hk])
  injection he with he
  injection he with e1 e2 _
  subst e1 e2
  exact h0
theorem I64.form {w : World} {A : Option Addr} {xs : List Int} (h : I64 w A xs) (hk : 0 < xs.length) : ∃ b o, A = some ⟨b, o, none⟩ ∧ b < w.heap.size := by
  obtain ⟨b, o, he, hl, _⟩ := h 0 xs[0] (by simp)
  exact ⟨b, o, he, hl⟩
theorem i64_new (w : World) (xs : List Int) (t : TypeId) (n : Nat) (hn : n = w.heap.size) : I64 (w.alloc (.cells (xs.map (Value.int .i64)).toArray t)) (some ⟨n, 0, none⟩) xs := by
  intro k x hk
  subst hn
  refine ⟨_, 0, rfl, by simp, by simp, ?_⟩
  rw [World.cell?_alloc_at _ _ _ _ rfl, Nat.zero_add]
  simp [hk]
def outB (lo hi n : Int) : Bool := decide (n < lo) || decide (hi < n)
def withinB (lo hi : Int) (l : List Int) : Bool := !(l.any (outB lo hi))
def idxI {α : Type} (f : α → Bool) (l : List α) : Int := match l.findIdx? f with | some i => (i : Int) | none => -1
theorem idxI_ge {α : Type} (f : α → Bool) (l : List α) : decide (0 ≤ idxI f l) = l.any f := by
  unfold idxI
  cases h : l.findIdx? f with
  | none => rw [List.findIdx?_eq_none_iff] at h; simp; intro x hx; simpa using h x hx
  | some i => 
    have := (List.findIdx?_isSome (xs := l) (p := f)).symm
    rw [h] at this
    simp at this ⊢
    exact this
theorem idxI_at {α : Type} (f : α → Bool) (l : List α) (k : Nat) (h : k < l.length) (hn : (l.take k).all (fun x => !f x) = true) (hk : f l[k] = true) : idxI f l = k := by
  have : l.findIdx? f = some k := by
    rw [List.findIdx?_eq_some_iff_getElem]
    refine ⟨h, hk, fun j hj => ?_⟩
    rw [List.all_eq_true] at hn
    have := hn l[j] (List.mem_take_iff_getElem.2 ⟨j, by omega, rfl⟩)
    simpa using this
  unfold idxI; rw [this]
theorem idxI_none {α : Type} (f : α → Bool) (l : List α) (hn : l.all (fun x => !f x) = true) : idxI f l = -1 := by
  have : l.findIdx? f = none := by
    rw [List.findIdx?_eq_none_iff]
    intro x hx
    rw [List.all_eq_true] at hn
    simpa using hn x hx
  unfold idxI; rw [this]

set_option maxRecDepth 100000 in
set_option maxHeartbeats 1000000 in
theorem within1_any (n lo hi : Int) (b1 b2 : Nat) (w : World) (h1 : w.cell? ⟨b1, 0, none⟩ = some (.int .i64 lo)) (h2 : w.cell? ⟨b2, 0, none⟩ = some (.int .i64 hi)) :
    Calls Try.prog 90 #[.int .i64 n, .pointer (some ⟨b1, 0, none⟩), .pointer (some ⟨b2, 0, none⟩)] w (Gives w (.bool (outB lo hi n))) := by
  go_enter Try.func90, Try.ntmps90
  go_wp2
  all_goals
    go_ret
    exact gives_of (v_bool (by unfold outB; simp_all <;> omega)) (by (repeat (first | exact Below.refl _ _ | assumption | refine below_drewN ?_ _ | refine below_drew ?_ | refine below_gr ?_ ?_ _ | refine below_alloc ?_ ?_ _ | refine Below.setCell ?_ ?_ _ | refine below_step ?_ (by assumption) ?_ | omega | (simp only [zz] at *; omega))))

set_option maxRecDepth 100000 in
set_option maxHeartbeats 1000000 in
theorem indexW_any (T : Option Addr) (xs : List Int) (d : Nat) (lo hi : Int) (b1 b2 : Nat) (w : World) (hT : I64 w T xs) (hx : xs.length ≤ 1000) (hb1 : b1 < w.heap.size) (hb2 : b2 < w.heap.size) (h1 : w.cell? ⟨b1, 0, none⟩ = some (.int .i64 lo)) (h2 : w.cell? ⟨b2, 0, none⟩ = some (.int .i64 hi)) :
    Calls Try.prog 98 #[.slice T xs.length d, .func (.func 90) #[] #[.pointer (some ⟨b1, 0, none⟩), .pointer (some ⟨b2, 0, none⟩)]] w (Gives w (.int .i64 (idxI (outB lo hi) xs))) := by
  go_enter Try.func98, Try.ntmps98
  go_wp2
  go_loopw [8] (fun i wr => ∃ k : Nat, k ≤ xs.length ∧ i = .int .i64 k ∧ (xs.take k).all (fun x => !outB lo hi x) = true ∧ Grew w wr) (fun i _ => xs.length - (intOf i).toNat)
  case atStart => exact ⟨0, Nat.zero_le _, rfl, rfl, grew_refl _⟩
  case round =>
    obtain ⟨k, hk, rfl, hall, hb⟩ := hrel
    replace hb := hb.below
    have hzr := hb.size
    (try simp only [zz] at hzr)
    have hltr : ∀ b, b < w.heap.size → b < wr.heap.size := fun b hb => (by (first | omega | (simp only [zz] at *; omega)))
    have hcr : ∀ b o, b < w.heap.size → wr.cell? ⟨b, o, none⟩ = w.cell? ⟨b, o, none⟩ := old_cell (by (repeat (first | exact Below.refl _ _ | assumption | refine below_drewN ?_ _ | refine below_drew ?_ | refine below_gr ?_ ?_ _ | refine below_alloc ?_ ?_ _ | refine Below.setCell ?_ ?_ _ | refine below_step ?_ (by assumption) ?_ | omega | (simp only [zz] at *; omega))))
    by_cases hlt : k < xs.length
    · obtain ⟨tb, toff, rfl, htl, htl2, ht0⟩ := hT k xs[k] (by simp [hlt])
      have HG := hide (all_good (f := fun x => !outB lo hi x) hlt hall)
      have HI := hide (idxI_at (outB lo hi) xs k hlt hall)
      clear hall
      generalize xs[k] = x at *
      go_wp2_with (go_at_call 90; refine (within1_any x lo hi b1 b2 _ ((hcr _ _ hb1).trans h1) ((hcr _ _ hb2).trans h2)).mono ?_; rintro e w1 ⟨rfl, hb1⟩; replace hb1 := ex_below hb1; have hz1 := hb1.size; (try simp only [zz] at hz1); have hlt1 : ∀ b, b < w.heap.size → b < w1.heap.size := fun b hb => (by (first | omega | (simp only [zz] at *; omega))); have hc1 : ∀ b o, b < w.heap.size → w1.cell? ⟨b, o, none⟩ = w.cell? ⟨b, o, none⟩ := old_cell (by (repeat (first | exact Below.refl _ _ | assumption | refine below_drewN ?_ _ | refine below_drew ?_ | refine below_gr ?_ ?_ _ | refine below_alloc ?_ ?_ _ | refine Below.setCell ?_ ?_ _ | refine below_step ?_ (by assumption) ?_ | omega | (simp only [zz] at *; omega)))))
      · go_ret
        exact gives_of (v_int (HI.out (by assumption)).symm) (by (repeat (first | exact Below.refl _ _ | assumption | refine below_drewN ?_ _ | refine below_drew ?_ | refine below_gr ?_ ?_ _ | refine below_alloc ?_ ?_ _ | refine Below.setCell ?_ ?_ _ | refine below_step ?_ (by assumption) ?_ | omega | (simp only [zz] at *; omega))))
      · exact ⟨⟨k + 1, by omega, by go_num, HG.out (by simp_all), grew_of (by (repeat (first | exact Below.refl _ _ | assumption | refine below_drewN ?_ _ | refine below_drew ?_ | refine below_gr ?_ ?_ _ | refine below_alloc ?_ ?_ _ | refine Below.setCell ?_ ?_ _ | refine below_step ?_ (by assumption) ?_ | omega | (simp only [zz] at *; omega))))⟩, by simp [intOf]; omega⟩
    · have hkl : k = xs.length := by omega
      subst hkl
      have H2 := hide (idxI_none (outB lo hi) xs (by simpa using hall))
      clear hall
      go_wp2
      go_ret
      exact gives_of (v_int H2.out.symm) (by (repeat (first | exact Below.refl _ _ | assumption | refine below_drewN ?_ _ | refine below_drew ?_ | refine below_gr ?_ ?_ _ | refine below_alloc ?_ ?_ _ | refine Below.setCell ?_ ?_ _ | refine below_step ?_ (by assumption) ?_ | omega | (simp only [zz] at *; omega))))

set_option maxRecDepth 100000 in
set_option maxHeartbeats 1000000 in
theorem containsW_any (T : Option Addr) (xs : List Int) (d : Nat) (lo hi : Int) (b1 b2 : Nat) (w : World) (hT : I64 w T xs) (hx : xs.length ≤ 1000) (hb1 : b1 < w.heap.size) (hb2 : b2 < w.heap.size) (h1 : w.cell? ⟨b1, 0, none⟩ = some (.int .i64 lo)) (h2 : w.cell? ⟨b2, 0, none⟩ = some (.int .i64 hi)) :
    Calls Try.prog 89 #[.slice T xs.length d, .func (.func 90) #[] #[.pointer (some ⟨b1, 0, none⟩), .pointer (some ⟨b2, 0, none⟩)]] w (Gives w (.bool (xs.any (outB lo hi)))) := by
  go_enter Try.func89, Try.ntmps89
  go_wp2_with (go_at_call 98; refine (indexW_any T xs d lo hi b1 b2 _ hT hx hb1 hb2 h1 h2).mono ?_; rintro e w1 ⟨rfl, hb1⟩; replace hb1 := ex_below hb1; have hz1 := hb1.size; (try simp only [zz] at hz1); have hlt1 : ∀ b, b < w.heap.size → b < w1.heap.size := fun b hb => (by (first | omega | (simp only [zz] at *; omega))); have hc1 : ∀ b o, b < w.heap.size → w1.cell? ⟨b, o, none⟩ = w.cell? ⟨b, o, none⟩ := old_cell (by (repeat (first | exact Below.refl _ _ | assumption | refine below_drewN ?_ _ | refine below_drew ?_ | refine below_gr ?_ ?_ _ | refine below_alloc ?_ ?_ _ | refine Below.setCell ?_ ?_ _ | refine below_step ?_ (by assumption) ?_ | omega | (simp only [zz] at *; omega)))))
  go_ret
  exact gives_of (v_bool (idxI_ge _ _)) (by (repeat (first | exact Below.refl _ _ | assumption | refine below_drewN ?_ _ | refine below_drew ?_ | refine below_gr ?_ ?_ _ | refine below_alloc ?_ ?_ _ | refine Below.setCell ?_ ?_ _ | refine below_step ?_ (by assumption) ?_ | omega | (simp only [zz] at *; omega))))

set_option maxRecDepth 100000 in
set_option maxHeartbeats 1000000 in
theorem within_any (lo hi : Int) (T : Option Addr) (xs : List Int) (d : Nat) (w : World) (hT : I64 w T xs) (hx : xs.length ≤ 1000) :
    Calls Try.prog 61 #[.int .i64 lo, .int .i64 hi, .slice T xs.length d] w (Gives w (.bool (withinB lo hi xs))) := by
  go_enter Try.func61, Try.ntmps61
  go_wp2_with (go_at_call 89; refine (containsW_any T xs d lo hi _ _ _ (hT.ext (by (repeat (first | exact Below.refl _ _ | assumption | refine below_drewN ?_ _ | refine below_drew ?_ | refine below_gr ?_ ?_ _ | refine below_alloc ?_ ?_ _ | refine Below.setCell ?_ ?_ _ | refine below_step ?_ (by assumption) ?_ | omega | (simp only [zz] at *; omega))))) hx (by (first | omega | (simp only [zz]; omega) | (simp only [zz] at *; omega) | (simp; done) | (simp; omega))) (by (first | omega | (simp only [zz]; omega) | (simp only [zz] at *; omega) | (simp; done) | (simp; omega))) (by simp [go_sem]) (by simp [go_sem])).mono ?_; rintro e w1 ⟨rfl, hb1⟩; replace hb1 := ex_below hb1; have hz1 := hb1.size; (try simp only [zz] at hz1); have hlt1 : ∀ b, b < w.heap.size → b < w1.heap.size := fun b hb => (by (first | omega | (simp only [zz] at *; omega))); have hc1 : ∀ b o, b < w.heap.size → w1.cell? ⟨b, o, none⟩ = w.cell? ⟨b, o, none⟩ := old_cell (by (repeat (first | exact Below.refl _ _ | assumption | refine below_drewN ?_ _ | refine below_drew ?_ | refine below_gr ?_ ?_ _ | refine below_alloc ?_ ?_ _ | refine Below.setCell ?_ ?_ _ | refine below_step ?_ (by assumption) ?_ | omega | (simp only [zz] at *; omega)))))
  go_ret
  exact gives_of (rfl) (by (repeat (first | exact Below.refl _ _ | assumption | refine below_drewN ?_ _ | refine below_drew ?_ | refine below_gr ?_ ?_ _ | refine below_alloc ?_ ?_ _ | refine Below.setCell ?_ ?_ _ | refine below_step ?_ (by assumption) ?_ | omega | (simp only [zz] at *; omega))))
def isS (W : Int) (s : ByteArray) : Bool := (lt s).all (fun x => decide (0 ≤ x) && decide (x < W))
theorem isS_iff {W : Int} {s : ByteArray} : isS W s = true ↔ ∀ x, x ∈ lt s → 0 ≤ x ∧ x < W := by
  unfold isS
  rw [List.all_eq_true]
  simp
theorem conv_bytes (w : World) (s : ByteArray) : ∃ C w1, (convert 9 57 (.string s)).run Try.prog w = .ok (.slice (some ⟨w.heap.size, 0, none⟩) s.size C) w1 ∧ Below w.heap.size w w1 ∧ w.heap.size < w1.heap.size ∧ ∀ j, (h : j < s.size) → w1.cell? ⟨w.heap.size, j, none⟩ = some (.int .u8 s[j].toNat) := by
  refine ⟨_, _, run_bytes_of_string (P := Try.prog) w 9 57 5 s (by kernel_rfl) (by kernel_rfl) (by kernel_rfl), ?_, by simp, fun j h => ?_⟩
  · (repeat (first | exact Below.refl _ _ | assumption | (refine below_gr ?_ (by (first | omega | (simp only [zz] at *; omega))) _) | (refine below_alloc ?_ (by (first | omega | (simp only [zz] at *; omega))) _) | (refine Below.setCell ?_ (by (first | omega | (simp only [zz] at *; omega))) _) | refine below_drewN ?_ _ | refine below_drew ?_ | (refine below_step ?_ (by assumption) (by (first | omega | (simp only [zz] at *; omega))))))
  · refine (World.cell?_alloc_mark w.drew _ _ _ j).trans ?_
    unfold bytesRow
    rw [Array.getElem?_append_left (by simpa using h), Array.getElem?_map, Array.getElem?_eq_getElem h]
    rfl
set_option maxRecDepth 100000 in
set_option maxHeartbeats 1000000 in
theorem isString_any (W : Int) (s : ByteArray) (w : World) (hs : s.size ≤ 1000000) :
    Calls Try.prog 54 #[.int .i64 W, .string s] w (Gives w (.bool (isS W s))) := by
  obtain ⟨C, w1, hc, hb1, hz1, hcell⟩ := conv_bytes w s
  have HA : Hid (∀ k, (h : k < s.size) → k < (lt s).length ∧ (lt s)[k]? = some ((s[k].toNat : Int) - 97)) := hide (fun k h => ⟨by rw [lt_len]; exact h, lt_at s k h⟩)
  have hS := hide (show isS W s = (lt s).all (fun x => decide (0 ≤ x) && decide (x < W)) from rfl)
  go_enter Try.func54, Try.ntmps54
  go_wp2
  go_step3
  go_wp2
  go_step3
  go_wp2
  go_loopw [10] (fun i wr => ∃ k : Nat, k ≤ s.size ∧ i = .int .i64 k ∧ ((lt s).take k).all (fun x => decide (0 ≤ x) && decide (x < W)) = true ∧ wr = w1) (fun i _ => s.size - (intOf i).toNat)
  case atStart => exact ⟨0, Nat.zero_le _, rfl, rfl, rfl⟩
  case round =>
    obtain ⟨k, hk, rfl, hall, rfl⟩ := hrel
    by_cases hlt : k < s.size
    · have hck := hcell k hlt
      have h0 := HA.out k hlt
      have hu : (s[k].toNat : Int) ≤ 255 ∧ (0 : Int) ≤ s[k].toNat := by have := s[k].toNat_lt; omega
      have hge : (lt s)[k]'h0.1 = (s[k].toNat : Int) - 97 := by have := h0.2; rw [List.getElem?_eq_getElem h0.1] at this; exact Option.some.inj this
      have HG := hide (all_good (f := fun x => decide (0 ≤ x) && decide (x < W)) h0.1 hall)
      have HN := hide (fun (g : (decide (0 ≤ (lt s)[k]) && decide ((lt s)[k] < W)) = false) => (show isS W s = false by rw [hS.out, List.all_eq_false]; exact ⟨_, List.getElem_mem h0.1, by rw [g]; simp⟩))
      rw [hge] at HG HN
      clear hge h0 hall
      go_wp2
      · exact ⟨⟨k + 1, by omega, by go_num, HG.out (by simp; omega), trivial⟩, by simp [intOf]; omega⟩
      · rw [Exit.noGoto_ret]
        go_ret
        exact gives_of (v_bool (HN.out (by simp; omega)).symm) (by (repeat (first | exact Below.refl _ _ | assumption | refine below_drewN ?_ _ | refine below_drew ?_ | refine below_gr ?_ ?_ _ | refine below_alloc ?_ ?_ _ | refine Below.setCell ?_ ?_ _ | refine below_step ?_ (by assumption) ?_ | omega | (simp only [zz] at *; omega))))
      · go_ret
        exact gives_of (v_bool (HN.out (by simp; omega)).symm) (by (repeat (first | exact Below.refl _ _ | assumption | refine below_drewN ?_ _ | refine below_drew ?_ | refine below_gr ?_ ?_ _ | refine below_alloc ?_ ?_ _ | refine Below.setCell ?_ ?_ _ | refine below_step ?_ (by assumption) ?_ | omega | (simp only [zz] at *; omega))))
    · have hkl : k = s.size := by omega
      have H2 : isS W s = true := by rw [hS.out]; rw [hkl, ← lt_len, List.take_length] at hall; exact hall
      clear hall
      go_wp2
      try rw [Exit.noGoto_ret]
      go_ret
      exact gives_of (v_bool H2.symm) (by (repeat (first | exact Below.refl _ _ | assumption | refine below_drewN ?_ _ | refine below_drew ?_ | refine below_gr ?_ ?_ _ | refine below_alloc ?_ ?_ _ | refine Below.setCell ?_ ?_ _ | refine below_step ?_ (by assumption) ?_ | omega | (simp only [zz] at *; omega))))
end Go.Proofs.Ytafncmgijbkomaa
namespace Go.Proofs.Ytafncmgijbkomaa
open Go.RowKit
set_option maxRecDepth 100000 in
set_option maxHeartbeats 1000000 in
theorem checkSet2_any (s : ByteArray) (w : World) (hs : s.size ≤ 1000000) : Calls Try.prog 63 #[.string s] w (Gives w (.bool (decide (8 < s.size)))) := by
  go_enter Try.func63, Try.ntmps63
  go_wp2
  go_ret
  exact gives_of (v_bool (by simp; omega)) (by (repeat (first | exact Below.refl _ _ | assumption | refine below_drewN ?_ _ | refine below_drew ?_ | refine below_gr ?_ ?_ _ | refine below_alloc ?_ ?_ _ | refine Below.setCell ?_ ?_ _ | refine below_step ?_ (by assumption) ?_ | omega | (simp only [zz] at *; omega))))

set_option maxRecDepth 100000 in
set_option maxHeartbeats 1000000 in
theorem checkSet1_any (W : Int) (s : ByteArray) (b : Nat) (w : World) (hs : s.size ≤ 1000000) (hm : w.cell? ⟨b, 0, none⟩ = some (.int .i64 W)) : Calls Try.prog 60 #[.string s, .pointer (some ⟨b, 0, none⟩)] w (Gives w (.bool (!isS W s))) := by
  go_enter Try.func60, Try.ntmps60
  go_wp2_with (go_at_call 54; refine (isString_any W s _ hs).mono ?_; rintro e w1 ⟨rfl, hb1⟩; replace hb1 := ex_below hb1; have hz1 := hb1.size; (try simp only [zz] at hz1); have hlt1 : ∀ b, b < w.heap.size → b < w1.heap.size := fun b hb => (by (first | omega | (simp only [zz] at *; omega))); have hc1 : ∀ b o, b < w.heap.size → w1.cell? ⟨b, o, none⟩ = w.cell? ⟨b, o, none⟩ := old_cell (by (repeat (first | exact Below.refl _ _ | assumption | refine below_drewN ?_ _ | refine below_drew ?_ | refine below_gr ?_ ?_ _ | refine below_alloc ?_ ?_ _ | refine Below.setCell ?_ ?_ _ | refine below_step ?_ (by assumption) ?_ | omega | (simp only [zz] at *; omega)))))
  go_ret
  exact gives_of (rfl) (by (repeat (first | exact Below.refl _ _ | assumption | refine below_drewN ?_ _ | refine below_drew ?_ | refine below_gr ?_ ?_ _ | refine below_alloc ?_ ?_ _ | refine Below.setCell ?_ ?_ _ | refine below_step ?_ (by assumption) ?_ | omega | (simp only [zz] at *; omega))))

set_option maxRecDepth 100000 in
set_option maxHeartbeats 1000000 in
theorem index2_any (A : Option Addr) (ts : List ByteArray) (c : Nat) (w : World) (hA : Strs w A ts) (hl : ts.length ≤ 1000) (hsz : ∀ k, (h : k < ts.length) → ts[k].size ≤ 1000000) :
    Calls Try.prog 91 #[.slice A ts.length c, .func (.func 63) #[] #[]] w (Gives w (.int .i64 (idxI (fun s => decide (8 < s.size)) ts))) := by
  go_enter Try.func91, Try.ntmps91
  go_wp2
  go_loopw [8] (fun i wr => ∃ k : Nat, k ≤ ts.length ∧ i = .int .i64 k ∧ (ts.take k).all (fun x => !(fun s => decide (8 < s.size)) x) = true ∧ Grew w wr) (fun i _ => ts.length - (intOf i).toNat)
  case atStart => exact ⟨0, Nat.zero_le _, rfl, rfl, grew_refl _⟩
  case round =>
    obtain ⟨k, hk, rfl, hall, hb⟩ := hrel
    replace hb := hb.below
    have hzr := hb.size
    (try simp only [zz] at hzr)
    have hltr : ∀ b, b < w.heap.size → b < wr.heap.size := fun b hb => (by (first | omega | (simp only [zz] at *; omega)))
    have hcr : ∀ b o, b < w.heap.size → wr.cell? ⟨b, o, none⟩ = w.cell? ⟨b, o, none⟩ := old_cell (by (repeat (first | exact Below.refl _ _ | assumption | refine below_drewN ?_ _ | refine below_drew ?_ | refine below_gr ?_ ?_ _ | refine below_alloc ?_ ?_ _ | refine Below.setCell ?_ ?_ _ | refine below_step ?_ (by assumption) ?_ | omega | (simp only [zz] at *; omega))))
    by_cases hlt : k < ts.length
    · obtain ⟨tb, toff, rfl, htl, htl2, ht0⟩ := hA k ts[k] (by simp [hlt])
      have HG := hide (all_good (f := fun x => !(fun s => decide (8 < s.size)) x) hlt hall)
      have HI := hide (idxI_at (fun s => decide (8 < s.size)) ts k hlt hall)
      have hs1 := hsz k hlt
      clear hall
      generalize ts[k] = x at *
      go_wp2_with (go_at_call 63; refine (checkSet2_any x _ hs1).mono ?_; rintro e w1 ⟨rfl, hb1⟩; replace hb1 := ex_below hb1; have hz1 := hb1.size; (try simp only [zz] at hz1); have hlt1 : ∀ b, b < w.heap.size → b < w1.heap.size := fun b hb => (by (first | omega | (simp only [zz] at *; omega))); have hc1 : ∀ b o, b < w.heap.size → w1.cell? ⟨b, o, none⟩ = w.cell? ⟨b, o, none⟩ := old_cell (by (repeat (first | exact Below.refl _ _ | assumption | refine below_drewN ?_ _ | refine below_drew ?_ | refine below_gr ?_ ?_ _ | refine below_alloc ?_ ?_ _ | refine Below.setCell ?_ ?_ _ | refine below_step ?_ (by assumption) ?_ | omega | (simp only [zz] at *; omega)))))
      · go_ret
        exact gives_of (v_int (HI.out (by first | assumption | (simp_all; done))).symm) (by (repeat (first | exact Below.refl _ _ | assumption | refine below_drewN ?_ _ | refine below_drew ?_ | refine below_gr ?_ ?_ _ | refine below_alloc ?_ ?_ _ | refine Below.setCell ?_ ?_ _ | refine below_step ?_ (by assumption) ?_ | omega | (simp only [zz] at *; omega))))
      · exact ⟨⟨k + 1, by omega, by go_num, HG.out (by simp_all), grew_of (by (repeat (first | exact Below.refl _ _ | assumption | refine below_drewN ?_ _ | refine below_drew ?_ | refine below_gr ?_ ?_ _ | refine below_alloc ?_ ?_ _ | refine Below.setCell ?_ ?_ _ | refine below_step ?_ (by assumption) ?_ | omega | (simp only [zz] at *; omega))))⟩, by simp [intOf]; omega⟩
    · have hkl : k = ts.length := by omega
      subst hkl
      have H2 := hide (idxI_none (fun s => decide (8 < s.size)) ts (by simpa using hall))
      clear hall
      go_wp2
      go_ret
      exact gives_of (v_int H2.out.symm) (by (repeat (first | exact Below.refl _ _ | assumption | refine below_drewN ?_ _ | refine below_drew ?_ | refine below_gr ?_ ?_ _ | refine below_alloc ?_ ?_ _ | refine Below.setCell ?_ ?_ _ | refine below_step ?_ (by assumption) ?_ | omega | (simp only [zz] at *; omega))))

set_option maxRecDepth 100000 in
set_option maxHeartbeats 1000000 in
theorem index1_any (A : Option Addr) (ts : List ByteArray) (c : Nat) (w : World) (hA : Strs w A ts) (hl : ts.length ≤ 1000) (hsz : ∀ k, (h : k < ts.length) → ts[k].size ≤ 1000000) (W : Int) (b : Nat) (hbb : b < w.heap.size) (hm : w.cell? ⟨b, 0, none⟩ = some (.int .i64 W)) :
    Calls Try.prog 91 #[.slice A ts.length c, .func (.func 60) #[] #[.pointer (some ⟨b, 0, none⟩)]] w (Gives w (.int .i64 (idxI (fun s => !isS W s) ts))) := by
  go_enter Try.func91, Try.ntmps91
  go_wp2
  go_loopw [8] (fun i wr => ∃ k : Nat, k ≤ ts.length ∧ i = .int .i64 k ∧ (ts.take k).all (fun x => !(fun s => !isS W s) x) = true ∧ Grew w wr) (fun i _ => ts.length - (intOf i).toNat)
  case atStart => exact ⟨0, Nat.zero_le _, rfl, rfl, grew_refl _⟩
  case round =>
    obtain ⟨k, hk, rfl, hall, hb⟩ := hrel
    replace hb := hb.below
    have hzr := hb.size
    (try simp only [zz] at hzr)
    have hltr : ∀ b, b < w.heap.size → b < wr.heap.size := fun b hb => (by (first | omega | (simp only [zz] at *; omega)))
    have hcr : ∀ b o, b < w.heap.size → wr.cell? ⟨b, o, none⟩ = w.cell? ⟨b, o, none⟩ := old_cell (by (repeat (first | exact Below.refl _ _ | assumption | refine below_drewN ?_ _ | refine below_drew ?_ | refine below_gr ?_ ?_ _ | refine below_alloc ?_ ?_ _ | refine Below.setCell ?_ ?_ _ | refine below_step ?_ (by assumption) ?_ | omega | (simp only [zz] at *; omega))))
    by_cases hlt : k < ts.length
    · obtain ⟨tb, toff, rfl, htl, htl2, ht0⟩ := hA k ts[k] (by simp [hlt])
      have HG := hide (all_good (f := fun x => !(fun s => !isS W s) x) hlt hall)
      have HI := hide (idxI_at (fun s => !isS W s) ts k hlt hall)
      have hs1 := hsz k hlt
      clear hall
      generalize ts[k] = x at *
      go_wp2_with (go_at_call 60; refine (checkSet1_any W x b _ hs1 ((hcr _ _ hbb).trans hm)).mono ?_; rintro e w1 ⟨rfl, hb1⟩; replace hb1 := ex_below hb1; have hz1 := hb1.size; (try simp only [zz] at hz1); have hlt1 : ∀ b, b < w.heap.size → b < w1.heap.size := fun b hb => (by (first | omega | (simp only [zz] at *; omega))); have hc1 : ∀ b o, b < w.heap.size → w1.cell? ⟨b, o, none⟩ = w.cell? ⟨b, o, none⟩ := old_cell (by (repeat (first | exact Below.refl _ _ | assumption | refine below_drewN ?_ _ | refine below_drew ?_ | refine below_gr ?_ ?_ _ | refine below_alloc ?_ ?_ _ | refine Below.setCell ?_ ?_ _ | refine below_step ?_ (by assumption) ?_ | omega | (simp only [zz] at *; omega)))))
      · go_ret
        exact gives_of (v_int (HI.out (by first | assumption | (simp_all; done))).symm) (by (repeat (first | exact Below.refl _ _ | assumption | refine below_drewN ?_ _ | refine below_drew ?_ | refine below_gr ?_ ?_ _ | refine below_alloc ?_ ?_ _ | refine Below.setCell ?_ ?_ _ | refine below_step ?_ (by assumption) ?_ | omega | (simp only [zz] at *; omega))))
      · exact ⟨⟨k + 1, by omega, by go_num, HG.out (by simp_all), grew_of (by (repeat (first | exact Below.refl _ _ | assumption | refine below_drewN ?_ _ | refine below_drew ?_ | refine below_gr ?_ ?_ _ | refine below_alloc ?_ ?_ _ | refine Below.setCell ?_ ?_ _ | refine below_step ?_ (by assumption) ?_ | omega | (simp only [zz] at *; omega))))⟩, by simp [intOf]; omega⟩
    · have hkl : k = ts.length := by omega
      subst hkl
      have H2 := hide (idxI_none (fun s => !isS W s) ts (by simpa using hall))
      clear hall
      go_wp2
      go_ret
      exact gives_of (v_int H2.out.symm) (by (repeat (first | exact Below.refl _ _ | assumption | refine below_drewN ?_ _ | refine below_drew ?_ | refine below_gr ?_ ?_ _ | refine below_alloc ?_ ?_ _ | refine Below.setCell ?_ ?_ _ | refine below_step ?_ (by assumption) ?_ | omega | (simp only [zz] at *; omega))))

set_option maxRecDepth 100000 in
set_option maxHeartbeats 1000000 in
theorem contains2_any (A : Option Addr) (ts : List ByteArray) (c : Nat) (w : World) (hA : Strs w A ts) (hl : ts.length ≤ 1000) (hsz : ∀ k, (h : k < ts.length) → ts[k].size ≤ 1000000) : Calls Try.prog 62 #[.slice A ts.length c, .func (.func 63) #[] #[]] w (Gives w (.bool (ts.any (fun s => decide (8 < s.size))))) := by
  go_enter Try.func62, Try.ntmps62
  go_wp2_with (go_at_call 91; refine (index2_any A ts c _ hA hl hsz).mono ?_; rintro e w1 ⟨rfl, hb1⟩; replace hb1 := ex_below hb1; have hz1 := hb1.size; (try simp only [zz] at hz1); have hlt1 : ∀ b, b < w.heap.size → b < w1.heap.size := fun b hb => (by (first | omega | (simp only [zz] at *; omega))); have hc1 : ∀ b o, b < w.heap.size → w1.cell? ⟨b, o, none⟩ = w.cell? ⟨b, o, none⟩ := old_cell (by (repeat (first | exact Below.refl _ _ | assumption | refine below_drewN ?_ _ | refine below_drew ?_ | refine below_gr ?_ ?_ _ | refine below_alloc ?_ ?_ _ | refine Below.setCell ?_ ?_ _ | refine below_step ?_ (by assumption) ?_ | omega | (simp only [zz] at *; omega)))))
  go_ret
  exact gives_of (v_bool (idxI_ge _ _)) (by (repeat (first | exact Below.refl _ _ | assumption | refine below_drewN ?_ _ | refine below_drew ?_ | refine below_gr ?_ ?_ _ | refine below_alloc ?_ ?_ _ | refine Below.setCell ?_ ?_ _ | refine below_step ?_ (by assumption) ?_ | omega | (simp only [zz] at *; omega))))

set_option maxRecDepth 100000 in
set_option maxHeartbeats 1000000 in
theorem contains1_any (A : Option Addr) (ts : List ByteArray) (c : Nat) (w : World) (hA : Strs w A ts) (hl : ts.length ≤ 1000) (hsz : ∀ k, (h : k < ts.length) → ts[k].size ≤ 1000000) (W : Int) (b : Nat) (hbb : b < w.heap.size) (hm : w.cell? ⟨b, 0, none⟩ = some (.int .i64 W)) : Calls Try.prog 62 #[.slice A ts.length c, .func (.func 60) #[] #[.pointer (some ⟨b, 0, none⟩)]] w (Gives w (.bool (ts.any (fun s => !isS W s)))) := by
  go_enter Try.func62, Try.ntmps62
  go_wp2_with (go_at_call 91; refine (index1_any A ts c _ hA hl hsz W b hbb hm).mono ?_; rintro e w1 ⟨rfl, hb1⟩; replace hb1 := ex_below hb1; have hz1 := hb1.size; (try simp only [zz] at hz1); have hlt1 : ∀ b, b < w.heap.size → b < w1.heap.size := fun b hb => (by (first | omega | (simp only [zz] at *; omega))); have hc1 : ∀ b o, b < w.heap.size → w1.cell? ⟨b, o, none⟩ = w.cell? ⟨b, o, none⟩ := old_cell (by (repeat (first | exact Below.refl _ _ | assumption | refine below_drewN ?_ _ | refine below_drew ?_ | refine below_gr ?_ ?_ _ | refine below_alloc ?_ ?_ _ | refine Below.setCell ?_ ?_ _ | refine below_step ?_ (by assumption) ?_ | omega | (simp only [zz] at *; omega)))))
  go_ret
  exact gives_of (v_bool (idxI_ge _ _)) (by (repeat (first | exact Below.refl _ _ | assumption | refine below_drewN ?_ _ | refine below_drew ?_ | refine below_gr ?_ ?_ _ | refine below_alloc ?_ ?_ _ | refine Below.setCell ?_ ?_ _ | refine below_step ?_ (by assumption) ?_ | omega | (simp only [zz] at *; omega))))

/-- whether tapes are valid -/
def chkSet (W : Int) (ts : List ByteArray) : Int :=
  if withinB 1 5 [W] = false then 2 else if withinB 1 3 [(ts.length : Int)] = false then 6 else if ts.any (fun s => decide (8 < s.size)) = true then 7 else if ts.any (fun s => !isS W s) = true then 8 else 0
set_option maxRecDepth 100000 in
set_option maxHeartbeats 1000000 in
theorem checkSet_any (W : Int) (A : Option Addr) (ts : List ByteArray) (c : Nat) (w : World) (hA : Strs w A ts) (hl : ts.length ≤ 1000) (hsz : ∀ k, (h : k < ts.length) → ts[k].size ≤ 1000000) : Calls Try.prog 21 #[.agg #[.int .i64 W, .slice A ts.length c]] w (Gives w (.int .i64 (chkSet W ts))) := by
  have HX := hide (show chkSet W ts = if withinB 1 5 [W] = false then 2 else if withinB 1 3 [(ts.length : Int)] = false then 6 else if ts.any (fun s => decide (8 < s.size)) = true then 7 else if ts.any (fun s => !isS W s) = true then 8 else 0 from rfl)
  go_enter Try.func21, Try.ntmps21
  go_wp2_with (first
    | (go_at_call 61; refine (within_any _ _ _ [W] _ _ (i64_new _ [W] _ _ (by simp)) (by simp)).mono ?_; rintro e w1 ⟨rfl, hb1⟩; replace hb1 := ex_below hb1; have hz1 := hb1.size; (try simp only [zz] at hz1); have hs1 : w.heap.size < w1.heap.size := (by (first | omega | (simp only [zz] at *; omega))); have ho1 := own_cell hb1 (b := w.heap.size) (by (first | omega | (simp only [zz] at *; omega))); have hq1 := own_frozen hb1 (b := w.heap.size) (by (first | omega | (simp only [zz] at *; omega))); have hlt1 : ∀ b, b < w.heap.size → b < w1.heap.size := fun b hb => (by (first | omega | (simp only [zz] at *; omega))); have hc1 : ∀ b o, b < w.heap.size → w1.cell? ⟨b, o, none⟩ = w.cell? ⟨b, o, none⟩ := old_cell (by (repeat (first | exact Below.refl _ _ | assumption | refine below_drewN ?_ _ | refine below_drew ?_ | refine below_gr ?_ ?_ _ | refine below_alloc ?_ ?_ _ | refine Below.setCell ?_ ?_ _ | refine below_step ?_ (by assumption) ?_ | omega | (simp only [zz] at *; omega)))))
    | (go_at_call 61; refine (within_any _ _ _ [(ts.length : Int)] _ _ (i64_new _ [(ts.length : Int)] _ _ (by simp)) (by simp)).mono ?_; rintro e w1 ⟨rfl, hb1⟩; replace hb1 := ex_below hb1; have hz1 := hb1.size; (try simp only [zz] at hz1); have hs1 : w.heap.size < w1.heap.size := (by (first | omega | (simp only [zz] at *; omega))); have ho1 := own_cell hb1 (b := w.heap.size) (by (first | omega | (simp only [zz] at *; omega))); have hq1 := own_frozen hb1 (b := w.heap.size) (by (first | omega | (simp only [zz] at *; omega))); have hlt1 : ∀ b, b < w.heap.size → b < w1.heap.size := fun b hb => (by (first | omega | (simp only [zz] at *; omega))); have hc1 : ∀ b o, b < w.heap.size → w1.cell? ⟨b, o, none⟩ = w.cell? ⟨b, o, none⟩ := old_cell (by (repeat (first | exact Below.refl _ _ | assumption | refine below_drewN ?_ _ | refine below_drew ?_ | refine below_gr ?_ ?_ _ | refine below_alloc ?_ ?_ _ | refine Below.setCell ?_ ?_ _ | refine below_step ?_ (by assumption) ?_ | omega | (simp only [zz] at *; omega)))))
    | (go_at_call 62; refine (contains2_any A ts c _ (hA.ext (by (repeat (first | exact Below.refl _ _ | assumption | refine below_drewN ?_ _ | refine below_drew ?_ | refine below_gr ?_ ?_ _ | refine below_alloc ?_ ?_ _ | refine Below.setCell ?_ ?_ _ | refine below_step ?_ (by assumption) ?_ | omega | (simp only [zz] at *; omega))))) hl hsz).mono ?_; rintro e w1 ⟨rfl, hb1⟩; replace hb1 := ex_below hb1; have hz1 := hb1.size; (try simp only [zz] at hz1); have hs1 : w.heap.size < w1.heap.size := (by (first | omega | (simp only [zz] at *; omega))); have ho1 := own_cell hb1 (b := w.heap.size) (by (first | omega | (simp only [zz] at *; omega))); have hq1 := own_frozen hb1 (b := w.heap.size) (by (first | omega | (simp only [zz] at *; omega))); have hlt1 : ∀ b, b < w.heap.size → b < w1.heap.size := fun b hb => (by (first | omega | (simp only [zz] at *; omega))); have hc1 : ∀ b o, b < w.heap.size → w1.cell? ⟨b, o, none⟩ = w.cell? ⟨b, o, none⟩ := old_cell (by (repeat (first | exact Below.refl _ _ | assumption | refine below_drewN ?_ _ | refine below_drew ?_ | refine below_gr ?_ ?_ _ | refine below_alloc ?_ ?_ _ | refine Below.setCell ?_ ?_ _ | refine below_step ?_ (by assumption) ?_ | omega | (simp only [zz] at *; omega)))))
    | (go_at_call 62; refine (contains1_any A ts c _ (hA.ext (by (repeat (first | exact Below.refl _ _ | assumption | refine below_drewN ?_ _ | refine below_drew ?_ | refine below_gr ?_ ?_ _ | refine below_alloc ?_ ?_ _ | refine Below.setCell ?_ ?_ _ | refine below_step ?_ (by assumption) ?_ | omega | (simp only [zz] at *; omega))))) hl hsz W _ (by (first | omega | (simp only [zz]; omega) | (simp only [zz] at *; omega) | (simp; done) | (simp; omega))) (by simp [go_sem, *])).mono ?_; rintro e w1 ⟨rfl, hb1⟩; replace hb1 := ex_below hb1; have hz1 := hb1.size; (try simp only [zz] at hz1); have hs1 : w.heap.size < w1.heap.size := (by (first | omega | (simp only [zz] at *; omega))); have ho1 := own_cell hb1 (b := w.heap.size) (by (first | omega | (simp only [zz] at *; omega))); have hq1 := own_frozen hb1 (b := w.heap.size) (by (first | omega | (simp only [zz] at *; omega))); have hlt1 : ∀ b, b < w.heap.size → b < w1.heap.size := fun b hb => (by (first | omega | (simp only [zz] at *; omega))); have hc1 : ∀ b o, b < w.heap.size → w1.cell? ⟨b, o, none⟩ = w.cell? ⟨b, o, none⟩ := old_cell (by (repeat (first | exact Below.refl _ _ | assumption | refine below_drewN ?_ _ | refine below_drew ?_ | refine below_gr ?_ ?_ _ | refine below_alloc ?_ ?_ _ | refine Below.setCell ?_ ?_ _ | refine below_step ?_ (by assumption) ?_ | omega | (simp only [zz] at *; omega))))))

  all_goals
    go_ret
    exact gives_of (v_int (by rw [HX.out]; go_light; (repeat' split) <;> simp_all <;> omega)) (by (repeat (first | exact Below.refl _ _ | assumption | refine below_drewN ?_ _ | refine below_drew ?_ | refine below_gr ?_ ?_ _ | refine below_alloc ?_ ?_ _ | refine Below.setCell ?_ ?_ _ | refine below_step ?_ (by assumption) ?_ | omega | (simp only [zz] at *; omega))))
theorem chk_val {W : Int} {ts : List ByteArray} (h : chkSet W ts = 0) : 1 ≤ W ∧ W ≤ 5 ∧ 0 < ts.length ∧ ts.length ≤ 3 ∧ Small ts ∧ Fine ts ∧ (∀ k, (h : k < ts.length) → ts[k].size ≤ 1000000) ∧ Tm.lettersOk W.toNat (lts ts) := by
  unfold chkSet at h
  split at h
  · simp at h
  · rename_i h1
    split at h
    · simp at h
    · rename_i h2
      split at h
      · simp at h
      · rename_i h3
        split at h
        · simp at h
        · rename_i h4
          simp [withinB, outB] at h1 h2
          have h3' : ∀ k, (h : k < ts.length) → ts[k].size ≤ 8 := fun k hk => by
            simp only [List.any_eq_true, not_exists, decide_eq_true_eq, not_and] at h3
            have := h3 ts[k] (List.getElem_mem hk)
            omega
          have h4' : ∀ k, (h : k < ts.length) → ∀ x, x ∈ lt ts[k] → 0 ≤ x ∧ x < W := fun k hk x hx => by
            simp only [List.any_eq_true, not_exists, not_and, Bool.not_eq_true', Bool.not_eq_false'] at h4
            have h5 := h4 ts[k] (List.getElem_mem hk)
            exact isS_iff.1 (by simpa using h5) x hx
          refine ⟨by omega, by omega, by omega, by omega, h3', small_fine h3' (fun k hk j hj => ?_), fun k hk => by have := h3' k hk; omega, ?_⟩
          · have h6 := h4' k hk _ (List.mem_of_getElem? (lt_at ts[k] j hj))
            omega
          · intro t ht x hx
            obtain ⟨s, hs, rfl⟩ := List.mem_map.1 ht
            obtain ⟨k, hk, rfl⟩ := List.getElem_of_mem hs
            have := h4' k hk x hx
            omega
def leastK (xs : List Int) (k : Nat) : Int := (xs.take k).tail.foldl min (xs.headD 0)
def leastL (xs : List Int) : Int := xs.tail.foldl min (xs.headD 0)
theorem leastL_zero (xs : List Int) (h : 0 < xs.length) : leastK xs (0 + 1) = xs[0] := by
  cases xs with
  | nil => simp at h
  | cons x l => rfl
theorem leastK_all (xs : List Int) : leastK xs xs.length = leastL xs := by unfold leastK leastL; rw [List.take_length]
theorem leastK_step (xs : List Int) (k : Nat) (h : k < xs.length) (h1 : 0 < k := by omega) : leastK xs (k + 1) = min (leastK xs k) xs[k] := by
  cases xs with
  | nil => simp at h
  | cons x l =>
    cases k with
    | zero => omega
    | succ j =>
      show (l.take (j + 1)).foldl min x = min ((l.take j).foldl min x) (l[j]'(by simpa using h))
      rw [List.take_succ_eq_append_getElem (by simpa using h), List.foldl_append]
      rfl
set_option maxRecDepth 100000 in
set_option maxHeartbeats 1000000 in
theorem least_any (T : Option Addr) (xs : List Int) (d : Nat) (w : World) (hT : I64 w T xs) (hx : xs.length ≤ 1000) (h0 : 0 < xs.length) (hd : xs.length ≤ d) :
    Calls Try.prog 92 #[.slice T xs.length d] w (Gives w (.int .i64 (leastL xs))) := by
  obtain ⟨tb, to, rfl, tl⟩ := hT.form h0
  have HL := hide (leastL_zero xs h0)
  have HE := hide (leastK_all xs)
  have c0 := hT.at h0
  rw [Nat.add_zero] at c0
  have HT := hide hT
  clear hT
  by_cases hd1 : d = 1
  · have hx1 : xs.length = 1 := by omega
    have hv : xs[0] = leastL xs := by rw [← HE.out, hx1]; exact HL.out.symm
    rw [hv] at c0
    clear hv
    go_enter Try.func92, Try.ntmps92
    go_wp2
    go_loopw [3, 12] (fun o i wr => i = .int .i64 0 ∧ o = .int .i64 (leastL xs) ∧ Grew w wr) (fun _ i _ => 0)
    case atStart => exact ⟨rfl, rfl, grew_refl _⟩
    case round =>
      obtain ⟨rfl, rfl, hb⟩ := hrel
      replace hb := hb.below
      have hzr := hb.size
      (try simp only [zz] at hzr)
      have hltr : ∀ b, b < w.heap.size → b < wr.heap.size := fun b hb => (by (first | omega | (simp only [zz] at *; omega)))
      have hcr : ∀ b o, b < w.heap.size → wr.cell? ⟨b, o, none⟩ = w.cell? ⟨b, o, none⟩ := old_cell (by (repeat (first | exact Below.refl _ _ | assumption | refine below_drewN ?_ _ | refine below_drew ?_ | refine below_gr ?_ ?_ _ | refine below_alloc ?_ ?_ _ | refine Below.setCell ?_ ?_ _ | refine below_step ?_ (by assumption) ?_ | omega | (simp only [zz] at *; omega))))
      go_wp2
      go_ret
      exact gives_of (rfl) (by (repeat (first | exact Below.refl _ _ | assumption | refine below_drewN ?_ _ | refine below_drew ?_ | refine below_gr ?_ ?_ _ | refine below_alloc ?_ ?_ _ | refine Below.setCell ?_ ?_ _ | refine below_step ?_ (by assumption) ?_ | omega | (simp only [zz] at *; omega))))
  go_enter Try.func92, Try.ntmps92
  go_wp2
  go_loopw [3, 12] (fun o i wr => ∃ k : Nat, k + 1 ≤ xs.length ∧ i = .int .i64 k ∧ o = .int .i64 (leastK xs (k + 1)) ∧ Grew w wr) (fun _ i _ => xs.length - (intOf i).toNat)
  case atStart => exact ⟨0, h0, rfl, by rw [HL.out], grew_refl _⟩
  case round =>
    obtain ⟨k, hk, rfl, rfl, hb⟩ := hrel
    replace hb := hb.below
    have hzr := hb.size
    (try simp only [zz] at hzr)
    have hltr : ∀ b, b < w.heap.size → b < wr.heap.size := fun b hb => (by (first | omega | (simp only [zz] at *; omega)))
    have hcr : ∀ b o, b < w.heap.size → wr.cell? ⟨b, o, none⟩ = w.cell? ⟨b, o, none⟩ := old_cell (by (repeat (first | exact Below.refl _ _ | assumption | refine below_drewN ?_ _ | refine below_drew ?_ | refine below_gr ?_ ?_ _ | refine below_alloc ?_ ?_ _ | refine Below.setCell ?_ ?_ _ | refine below_step ?_ (by assumption) ?_ | omega | (simp only [zz] at *; omega))))
    by_cases hlt : k + 1 < xs.length
    · have c1 := HT.out.at hlt
      rw [show to + (k + 1) = to + 1 + k by omega] at c1
      have HS := hide (leastK_step xs (k + 1) hlt)
      generalize leastK xs (k + 1) = o at *
      generalize xs[k + 1] = x at *
      go_wp2
      exact ⟨⟨k + 1, by omega, by go_num, by rw [HS.out]; exact v_int (by split <;> omega), grew_of hb⟩, by simp [intOf]; omega⟩
    · have hkl : k + 1 = xs.length := by omega
      rw [hkl, HE.out]
      go_wp2
      go_ret
      exact gives_of (rfl) (by (repeat (first | exact Below.refl _ _ | assumption | refine below_drewN ?_ _ | refine below_drew ?_ | refine below_gr ?_ ?_ _ | refine below_alloc ?_ ?_ _ | refine Below.setCell ?_ ?_ _ | refine below_step ?_ (by assumption) ?_ | omega | (simp only [zz] at *; omega))))

set_option maxRecDepth 100000 in
set_option maxHeartbeats 1000000 in
theorem least64_any (T : Option Addr) (xs : List Int) (d : Nat) (w : World) (hT : I64 w T xs) (hx : xs.length ≤ 1000) (h0 : 0 < xs.length) (hd : xs.length ≤ d) :
    Calls Try.prog 96 #[.slice T xs.length d] w (Gives w (.int .i64 (leastL xs))) := by
  obtain ⟨tb, to, rfl, tl⟩ := hT.form h0
  have HL := hide (leastL_zero xs h0)
  have HE := hide (leastK_all xs)
  have c0 := hT.at h0
  rw [Nat.add_zero] at c0
  have HT := hide hT
  clear hT
  by_cases hd1 : d = 1
  · have hx1 : xs.length = 1 := by omega
    have hv : xs[0] = leastL xs := by rw [← HE.out, hx1]; exact HL.out.symm
    rw [hv] at c0
    clear hv
    go_enter Try.func96, Try.ntmps96
    go_wp2
    go_loopw [3, 12] (fun o i wr => i = .int .i64 0 ∧ o = .int .i64 (leastL xs) ∧ Grew w wr) (fun _ i _ => 0)
    case atStart => exact ⟨rfl, rfl, grew_refl _⟩
    case round =>
      obtain ⟨rfl, rfl, hb⟩ := hrel
      replace hb := hb.below
      have hzr := hb.size
      (try simp only [zz] at hzr)
      have hltr : ∀ b, b < w.heap.size → b < wr.heap.size := fun b hb => (by (first | omega | (simp only [zz] at *; omega)))
      have hcr : ∀ b o, b < w.heap.size → wr.cell? ⟨b, o, none⟩ = w.cell? ⟨b, o, none⟩ := old_cell (by (repeat (first | exact Below.refl _ _ | assumption | refine below_drewN ?_ _ | refine below_drew ?_ | refine below_gr ?_ ?_ _ | refine below_alloc ?_ ?_ _ | refine Below.setCell ?_ ?_ _ | refine below_step ?_ (by assumption) ?_ | omega | (simp only [zz] at *; omega))))
      go_wp2
      go_ret
      exact gives_of (rfl) (by (repeat (first | exact Below.refl _ _ | assumption | refine below_drewN ?_ _ | refine below_drew ?_ | refine below_gr ?_ ?_ _ | refine below_alloc ?_ ?_ _ | refine Below.setCell ?_ ?_ _ | refine below_step ?_ (by assumption) ?_ | omega | (simp only [zz] at *; omega))))
  go_enter Try.func96, Try.ntmps96
  go_wp2
  go_loopw [3, 12] (fun o i wr => ∃ k : Nat, k + 1 ≤ xs.length ∧ i = .int .i64 k ∧ o = .int .i64 (leastK xs (k + 1)) ∧ Grew w wr) (fun _ i _ => xs.length - (intOf i).toNat)
  case atStart => exact ⟨0, h0, rfl, by rw [HL.out], grew_refl _⟩
  case round =>
    obtain ⟨k, hk, rfl, rfl, hb⟩ := hrel
    replace hb := hb.below
    have hzr := hb.size
    (try simp only [zz] at hzr)
    have hltr : ∀ b, b < w.heap.size → b < wr.heap.size := fun b hb => (by (first | omega | (simp only [zz] at *; omega)))
    have hcr : ∀ b o, b < w.heap.size → wr.cell? ⟨b, o, none⟩ = w.cell? ⟨b, o, none⟩ := old_cell (by (repeat (first | exact Below.refl _ _ | assumption | refine below_drewN ?_ _ | refine below_drew ?_ | refine below_gr ?_ ?_ _ | refine below_alloc ?_ ?_ _ | refine Below.setCell ?_ ?_ _ | refine below_step ?_ (by assumption) ?_ | omega | (simp only [zz] at *; omega))))
    by_cases hlt : k + 1 < xs.length
    · have c1 := HT.out.at hlt
      rw [show to + (k + 1) = to + 1 + k by omega] at c1
      have HS := hide (leastK_step xs (k + 1) hlt)
      generalize leastK xs (k + 1) = o at *
      generalize xs[k + 1] = x at *
      go_wp2
      exact ⟨⟨k + 1, by omega, by go_num, by rw [HS.out]; exact v_int (by split <;> omega), grew_of hb⟩, by simp [intOf]; omega⟩
    · have hkl : k + 1 = xs.length := by omega
      rw [hkl, HE.out]
      go_wp2
      go_ret
      exact gives_of (rfl) (by (repeat (first | exact Below.refl _ _ | assumption | refine below_drewN ?_ _ | refine below_drew ?_ | refine below_gr ?_ ?_ _ | refine below_alloc ?_ ?_ _ | refine Below.setCell ?_ ?_ _ | refine below_step ?_ (by assumption) ?_ | omega | (simp only [zz] at *; omega))))


end Go.Proofs.Ytafncmgijbkomaa
