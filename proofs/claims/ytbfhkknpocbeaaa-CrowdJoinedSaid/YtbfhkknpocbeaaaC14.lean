/- Proved here: contracts and laws of C14, a part of the proofs about the crowd laws: what some functions of the program and of the reference compute, and plain facts about it. Conditions: those that each theorem names, no others. -/
import Derived.Test.YtbfhkknpocbeaaaC13
set_option linter.unusedSimpArgs false
set_option linter.unusedVariables false
namespace Go.Proofs.Ytbfhkknpocbeaaa
open Go.RowKit Go.Maps
def atI (xs : List Int) (i : Nat) : Int := xs.getD i 0
def untN (ps : List P3) (i : Nat) : Int := (ps.map P3.un).getD i 0
/-- who waits at minute t -/
def inQ (u : Nat → Int) (cm out : List Int) (t : Int) (i : Nat) : Bool := decide (atI out i = 0 ∧ atI cm i ≤ t ∧ atI cm i ≤ u i ∧ t ≤ u i)
def stepM (u : Nat → Int) (cm : List Int) (n : Nat) (t : Int) (out : List Int) : List Int :=
  match pickN (inQ u cm out t) u n with
  | none => out
  | some b => out.set b t
def minuteM (u : Nat → Int) (cm : List Int) (n : Nat) (t : Int) : Nat → List Int → List Int
  | 0, out => out
  | j + 1, out => stepM u cm n t (minuteM u cm n t j out)
def servedT (u : Nat → Int) (cm : List Int) (n mc : Nat) : Nat → List Int
  | 0 => List.replicate n 0
  | t + 1 => minuteM u cm n (t + 1 : Nat) mc (servedT u cm n mc t)
/-- how many are shut out whose time is over ahead of minute t -/
def shutN (u : Nat → Int) (cm out : List Int) (n : Nat) (t : Int) : Nat := (List.range n).countP (fun i => decide (atI cm i ≤ u i ∧ atI out i = 0 ∧ u i < t))
/-- the map while the first k have been looked at in minute t -/
def inK (u : Nat → Int) (cm out : List Int) (t : Int) (k : Nat) (i : Nat) : Bool := decide (atI out i = 0 ∧ (atI cm i < t ∨ (i < k ∧ atI cm i = t)) ∧ atI cm i ≤ u i ∧ t ≤ u i)
theorem atI_set (xs : List Int) (k : Nat) (v : Int) (hk : k < xs.length) (i : Nat) : atI (xs.set k v) i = if i = k then v else atI xs i := by
  unfold atI
  rw [List.getD_eq_getElem?_getD, List.getD_eq_getElem?_getD, List.getElem?_set]
  by_cases e : k = i
  · subst e; simp [hk]
  · have e2 : ¬ i = k := fun h => e h.symm
    simp [e, e2]
theorem atI_lt (xs : List Int) (k : Nat) (hk : k < xs.length) : xs[k]? = some (atI xs k) := by
  unfold atI; rw [List.getD_eq_getElem?_getD, List.getElem?_eq_getElem hk]; rfl
theorem stepM_len {u : Nat → Int} {cm : List Int} {n : Nat} {t : Int} {out : List Int} : (stepM u cm n t out).length = out.length := by
  unfold stepM; cases pickN (inQ u cm out t) u n <;> simp
theorem minuteM_len {u : Nat → Int} {cm : List Int} {n : Nat} {t : Int} {out : List Int} (j : Nat) : (minuteM u cm n t j out).length = out.length := by
  induction j with
  | zero => rfl
  | succ j ih => rw [minuteM, stepM_len, ih]
theorem servedT_len {u : Nat → Int} {cm : List Int} {n mc : Nat} (t : Nat) : (servedT u cm n mc t).length = n := by
  cases t with
  | zero => simp [servedT]
  | succ t => rw [servedT, minuteM_len, servedT_len t]
theorem stepM_at {u : Nat → Int} {cm : List Int} {n : Nat} {t : Int} {out : List Int} (hl : out.length = n) (i : Nat) : atI (stepM u cm n t out) i = atI out i ∨ (inQ u cm out t i = true ∧ i < n ∧ atI (stepM u cm n t out) i = t) := by
  unfold stepM
  cases hp : pickN (inQ u cm out t) u n with
  | none => exact .inl rfl
  | some b =>
    obtain ⟨h1, h2, _⟩ := pickN_some hp
    simp only
    rw [atI_set _ _ _ (by omega)]
    by_cases e : i = b
    · subst e; exact .inr ⟨h2, h1, by simp⟩
    · simp [e]
theorem minuteM_at {u : Nat → Int} {cm : List Int} {n : Nat} {t : Int} {out : List Int} (hl : out.length = n) (i : Nat) (j : Nat) : atI (minuteM u cm n t j out) i = atI out i ∨ (inQ u cm out t i = true ∧ i < n ∧ atI (minuteM u cm n t j out) i = t) := by
  induction j with
  | zero => exact .inl rfl
  | succ j ih =>
    rw [minuteM]
    rcases stepM_at (u := u) (cm := cm) (t := t) (out := minuteM u cm n t j out) (n := n) (by rw [minuteM_len]; exact hl) i with h | ⟨h1, h2, h3⟩
    · rw [h]; exact ih
    · right
      refine ⟨?_, h2, h3⟩
      rcases ih with e | ⟨e, _, _⟩
      · unfold inQ at h1 ⊢; rw [e] at h1; exact h1
      · exact e
theorem minuteM_stop {u : Nat → Int} {cm : List Int} {n : Nat} {t : Int} {out : List Int} {j : Nat} (h : pickN (inQ u cm (minuteM u cm n t j out) t) u n = none) {k : Nat} (hk : j ≤ k) : minuteM u cm n t k out = minuteM u cm n t j out := by
  induction k with
  | zero =>
    have : j = 0 := by omega
    subst this; rfl
  | succ k ih =>
    by_cases e : j = k + 1
    · rw [e]
    · rw [minuteM, ih (by omega)]
      conv => lhs; unfold stepM
      rw [h]
theorem served_inv {u : Nat → Int} {cm : List Int} {n mc : Nat} (t : Nat) (i : Nat) : atI (servedT u cm n mc t) i ≠ 0 → atI cm i ≤ t ∧ atI cm i ≤ u i := by
  induction t with
  | zero =>
    intro h; exfalso; apply h
    unfold atI servedT; rw [List.getD_eq_getElem?_getD]
    by_cases e : i < n
    · simp [e]
    · simp [e]
  | succ t ih =>
    intro h
    rw [servedT] at h
    rcases minuteM_at (u := u) (cm := cm) (t := (t + 1 : Nat)) (servedT_len (mc := mc) t) i mc with e | ⟨e, _, _⟩
    · rw [e] at h; have := ih h; omega
    · simp only [inQ, decide_eq_true_eq] at e; omega
theorem countP_or {n : Nat} {p q r : Nat → Bool} (h : ∀ i, i < n → (r i = (p i || q i)) ∧ (p i && q i) = false) : (List.range n).countP r = (List.range n).countP p + (List.range n).countP q := by
  induction n with
  | zero => rfl
  | succ m ih =>
    rw [List.range_succ, List.countP_append, List.countP_append, List.countP_append, ih (fun i hi => h i (by omega))]
    have := h m (by omega)
    cases hp : p m <;> cases hq : q m <;> simp_all [List.countP_cons] <;> omega
theorem shutN_next {u : Nat → Int} {cm out : List Int} {n : Nat} {t : Int} : shutN u cm out n (t + 1) = shutN u cm out n t + (List.range n).countP (fun i => inQ u cm out t i && decide (u i = t)) := by
  unfold shutN
  refine countP_or (fun i _ => ?_)
  unfold inQ
  constructor
  · rw [Bool.eq_iff_iff]
    simp only [decide_eq_true_eq, Bool.or_eq_true, Bool.and_eq_true]
    omega
  · rw [Bool.eq_false_iff]
    simp only [ne_eq, decide_eq_true_eq, Bool.and_eq_true]
    omega
theorem shutN_minute {u : Nat → Int} {cm out : List Int} {n : Nat} {t : Int} (hl : out.length = n) (j : Nat) : shutN u cm (minuteM u cm n t j out) n t = shutN u cm out n t := by
  unfold shutN
  refine List.countP_congr (fun i _ => ?_)
  simp only [decide_eq_true_eq]
  rcases minuteM_at (u := u) (cm := cm) (t := t) hl i j with e | ⟨e, _, _⟩
  · rw [e]
  · simp only [inQ, decide_eq_true_eq] at e; omega
theorem inK_zero {u : Nat → Int} {cm out : List Int} {t : Int} : inK u cm out (t + 1) 0 = fun i => inQ u cm out t i && !decide (u i = t) := by
  funext i
  unfold inK inQ
  rw [Bool.eq_iff_iff]
  simp only [decide_eq_true_eq, Bool.and_eq_true, Bool.not_eq_true', decide_eq_false_iff_not]
  omega
theorem inK_n {u : Nat → Int} {cm out : List Int} {t : Int} {n i : Nat} (hi : i < n) : inK u cm out t n i = inQ u cm out t i := by
  unfold inK inQ
  rw [Bool.eq_iff_iff]
  simp only [decide_eq_true_eq]
  omega
theorem inK_hit {u : Nat → Int} {cm out : List Int} {t : Int} {k : Nat} (h0 : atI out k = 0) (h1 : atI cm k = t) (h2 : t ≤ u k) (i : Nat) : (inK u cm out t k i || decide (i = k)) = inK u cm out t (k + 1) i := by
  unfold inK
  rw [Bool.eq_iff_iff]
  simp only [decide_eq_true_eq, Bool.or_eq_true]
  by_cases e : i = k
  · subst e; simp; omega
  · simp only [e, or_false]; omega
theorem inK_miss {u : Nat → Int} {cm out : List Int} {t : Int} {k : Nat} (h : ¬ (atI cm k = t ∧ t ≤ u k)) (i : Nat) : inK u cm out t k i = inK u cm out t (k + 1) i := by
  unfold inK
  rw [Bool.eq_iff_iff]
  simp only [decide_eq_true_eq]
  by_cases e : i = k
  · subst e; omega
  · omega
theorem inK_new {u : Nat → Int} {cm out : List Int} {t : Int} {k : Nat} (h1 : atI cm k = t) : inK u cm out t k k = false := by
  unfold inK; simp only [decide_eq_false_iff_not]; omega
theorem inQ_step {u : Nat → Int} {cm out : List Int} {t : Int} {n b : Nat} (ht : t ≠ 0) (hl : out.length = n) (hp : pickN (inQ u cm out t) u n = some b) (i : Nat) : (inQ u cm out t i && !decide (i = b)) = inQ u cm (out.set b t) t i := by
  obtain ⟨h1, h2, _⟩ := pickN_some hp
  unfold inQ
  rw [atI_set _ _ _ (by omega)]
  rw [Bool.eq_iff_iff]
  by_cases e : i = b
  · subst e; simp [ht]
  · simp [e]

/-- a block of numbers of the call's own -/
def OwnI (W : World) (B : Nat) (xs : List Int) : Prop := W.heap[B]? = some (.cells (xs.map (Value.int .i64)).toArray 2 (0, 0))
theorem OwnI.lt {W : World} {B : Nat} {xs : List Int} (h : OwnI W B xs) : B < W.heap.size := (Array.getElem?_eq_some_iff.1 h).1
theorem OwnI.cell {W : World} {B : Nat} {xs : List Int} (h : OwnI W B xs) {k : Nat} (hk : k < xs.length) : W.cell? ⟨B, k, none⟩ = some (.int .i64 (atI xs k)) := by
  simp [World.cell?, show W.heap[B]? = _ from h, atI_lt xs k hk]
theorem OwnI.frozen {W : World} {B : Nat} {xs : List Int} (h : OwnI W B xs) (k : Nat) : W.frozen? ⟨B, k, none⟩ = false := by simp [World.frozen?, show W.heap[B]? = _ from h]
theorem OwnI.new (W : World) (xs : List Int) : OwnI (W.alloc (.cells (xs.map (Value.int .i64)).toArray 2)) W.heap.size xs := World.alloc_heap_new W _
theorem OwnI.kept {W W' : World} {row : Option Nat} {B : Nat} {xs : List Int} (h : OwnI W B xs) (hg : W.grownBy W' row) (hne : some B ≠ row) : OwnI W' B xs := (hg.block B h.lt hne).trans h
theorem OwnI.alloc {W : World} {B : Nat} {xs : List Int} (h : OwnI W B xs) (o : Obj) : OwnI (W.alloc o) B xs := h.kept (World.grownBy_alloc W o none) (by simp)
theorem OwnI.below {W W' : World} {B : Nat} {xs : List Int} (h : OwnI W B xs) (hb : Below W.heap.size W W') : OwnI W' B xs := (hb.block B h.lt).trans h
theorem OwnI.set {W : World} {B : Nat} {xs : List Int} (h : OwnI W B xs) (k : Nat) (v : Int) : OwnI (W.setCell ⟨B, k, none⟩ (.int .i64 v)) B (xs.set k v) := by
  obtain ⟨hlt, hk⟩ := Array.getElem?_eq_some_iff.1 h
  show (W.heap.modify B _)[B]? = _
  rw [Array.getElem?_eq_getElem (by rw [Array.size_modify]; exact hlt), Array.getElem_modify_self, hk]
  simp only [List.map_set]
  congr 2
  apply Array.ext'
  simp
theorem OwnI.i64 {W : World} {B : Nat} {xs : List Int} (h : OwnI W B xs) : I64 W (some ⟨B, 0, none⟩) xs := by
  intro k x hk
  have hl := (List.getElem?_eq_some_iff.1 hk).1
  have e : atI xs k = x := by have := atI_lt xs k hl; rw [hk] at this; simpa using this.symm
  have := h.cell hl
  rw [e] at this
  have hlt := h.lt
  exact ⟨B, 0, rfl, by omega, by omega, by simpa using this⟩
theorem ownsMap_below {H : Type} {P : Program} {k : TypeId} {R : Value → Option (DataW H × List MemPlace)} {w w' : World} {b n : Nat} {D : DataW H} (h : w.ownsMap P k R b n D) (hb : Below w.heap.size w w') : w'.ownsMap P k R b n D := by
  have hbl := h.lt
  obtain ⟨es, clock, hb1, Ft, hs, hD⟩ := h
  exact ⟨es, clock, (hb.block b hbl).trans hb1, Ft, hs, hD⟩
theorem ranges_below {H : Type} {P : Program} {k : TypeId} {R : Value → Option (DataW H × List MemPlace)} {w w' : World} {b r n cnt : Nat} {D : DataW H} {left : Lit → Bool} (h : w.ranges P k R b r n D left cnt) (hg : w.grownBy w' none) : w'.ranges P k R b r n D left cnt := h.kept hg (by simp) (by simp)
end Go.Proofs.Ytbfhkknpocbeaaa
