/- Proved here: the fewest impulses of all places; the fewest impulses; a table, a part of the proofs about the tape laws. Conditions: those that each theorem names, no others. -/
import Derived.Test.YtafncmgijbkomaaP12
import Derived.WalkKit
import Derived.WalkSpells
import Derived.WalkLawsBesides
import Derived.Below
import Derived.Deep.QuietTactic
import Derived.BigQuiet
import Derived.Deep.Light
import Derived.Test.YtafncmgijbkomaaP14
import Derived.Sort.CutIn
import Derived.Lib.SliceRun
import Derived.Laws.MakeOwn
import Derived.Deep.RegionHeld3
import Derived.Deep.DeepCutAuto
import Derived.Deep.CutBlock
import Derived.Test.YtafncmgijbkomaaP02
import Derived.Laws.CopyRow
import Derived.Deep.WholeRow
set_option linter.unusedSimpArgs false
set_option linter.unusedVariables false
namespace Go.Proofs.Ytafncmgijbkomaa
open Go.RowKit Go.Maps Go.Shelf Go.Lib
attribute [local go_sem] Oper.semAt_some
/-! the fewest impulses, place by place -/
def nbs (W : Nat) (ts : List (List Int)) (tbl : List Int) (y : Nat) (k : Nat) : List Int :=
  (List.range k).filterMap fun c => if Tm.nextP ts (Tm.placeP ts y) (c : Nat) = Tm.placeP ts y then none else some (tbl.getD (Tm.idxP ts (Tm.nextP ts (Tm.placeP ts y) (c : Nat)) 0) 0 + 1)
def bdStep (W : Nat) (ts : List (List Int)) (tbl : List Int) (y : Nat) : List Int :=
  if Tm.placeP ts y = Tm.lastPl ts then tbl else tbl.set y (leastL (24 :: nbs W ts tbl y W))
def bdS (W : Nat) (ts : List (List Int)) (pre : List Nat) : List Int := pre.foldl (fun t x => bdStep W ts t (x % Tm.prodP ts)) (List.replicate (Tm.prodP ts) 0)
@[go_sem] theorem run_store_fn (P : Program) (w : World) (a : Addr) (m : Mode) (fn : Fn) (first captured : Array Value) : (store a (.func fn first captured) m).run P w = stored P w a (.func fn first captured) m := run_store P w a _ m rfl
theorem below_set0 {B b o : Nat} {w w' : World} {v : Value} (h : Below B w w') (hb : B ≤ b) : Below B w (w'.setCell ⟨b, o, none⟩ v) := Below.setCell (p := ⟨b, o, none⟩) h hb v
theorem nbs_succ (W : Nat) (ts : List (List Int)) (tbl : List Int) (y k : Nat) : nbs W ts tbl y (k + 1) = nbs W ts tbl y k ++ if Tm.nextP ts (Tm.placeP ts y) (k : Nat) = Tm.placeP ts y then [] else [tbl.getD (Tm.idxP ts (Tm.nextP ts (Tm.placeP ts y) (k : Nat)) 0) 0 + 1] := by
  unfold nbs
  rw [List.range_succ, List.filterMap_append]
  congr 1
  simp only [List.filterMap_cons, List.filterMap_nil]
  split <;> rename_i h <;> split at h <;> simp_all
theorem bdS_snoc (W : Nat) (ts : List (List Int)) (pre : List Nat) (x : Nat) : bdS W ts (pre ++ [x]) = bdStep W ts (bdS W ts pre) (x % Tm.prodP ts) := by simp [bdS]
theorem leastL_le (l : List Int) (a : Int) : leastL (a :: l) ≤ a := by
  unfold leastL
  simp only [List.tail_cons, List.headD_cons]
  induction l generalizing a with
  | nil => simp
  | cons b l ih => simp only [List.foldl_cons]; exact Int.le_trans (ih (min a b)) (Int.min_le_left _ _)
theorem leastL_ge (l : List Int) (a b : Int) (ha : b ≤ a) (h : ∀ x, x ∈ l → b ≤ x) : b ≤ leastL (a :: l) := by
  unfold leastL
  simp only [List.tail_cons, List.headD_cons]
  induction l generalizing a with
  | nil => simpa using ha
  | cons c l ih =>
    simp only [List.foldl_cons]
    exact ih (min a c) (Int.le_min.2 ⟨ha, h c (by simp)⟩) (fun x hx => h x (by simp [hx]))
theorem nbs_ge {W : Nat} {ts : List (List Int)} {tbl : List Int} (h : ∀ x, x ∈ tbl → 0 ≤ x ∧ x ≤ 24) (y k : Nat) : (∀ x, x ∈ nbs W ts tbl y k → 0 ≤ x ∧ x ≤ 25) ∧ (nbs W ts tbl y k).length ≤ k := by
  have hd : ∀ j : Nat, 0 ≤ tbl.getD j 0 ∧ tbl.getD j 0 ≤ 24 := fun j => by
    rw [List.getD_eq_getElem?_getD]
    cases hj : tbl[j]? with
    | none => simp
    | some v => exact h v (List.mem_of_getElem? hj)
  refine ⟨fun x hx => ?_, ?_⟩
  · unfold nbs at hx
    obtain ⟨c, _, hc⟩ := List.mem_filterMap.1 hx
    split at hc
    · cases hc
    · have := hd (Tm.idxP ts (Tm.nextP ts (Tm.placeP ts y) (c : Nat)) 0)
      cases hc; omega
  · have := List.length_filterMap_le (fun (c : Nat) => if Tm.nextP ts (Tm.placeP ts y) (c : Nat) = Tm.placeP ts y then none else some (tbl.getD (Tm.idxP ts (Tm.nextP ts (Tm.placeP ts y) (c : Nat)) 0) 0 + 1)) (List.range k)
    rw [List.length_range] at this
    exact this
theorem bdStep_rng {W : Nat} {ts : List (List Int)} {tbl : List Int} {m : Nat} (h : tbl.length = m ∧ ∀ x, x ∈ tbl → 0 ≤ x ∧ x ≤ 24) (y : Nat) : (bdStep W ts tbl y).length = m ∧ ∀ x, x ∈ bdStep W ts tbl y → 0 ≤ x ∧ x ≤ 24 := by
  unfold bdStep
  split
  · exact h
  · refine ⟨by rw [List.length_set]; exact h.1, fun x hx => ?_⟩
    rcases List.mem_or_eq_of_mem_set hx with hx | rfl
    · exact h.2 x hx
    · exact ⟨leastL_ge _ _ _ (by omega) (fun z hz => ((nbs_ge h.2 y W).1 z hz).1), leastL_le _ _⟩
theorem bdS_rng (W : Nat) (ts : List (List Int)) (pre : List Nat) : (bdS W ts pre).length = Tm.prodP ts ∧ ∀ x, x ∈ bdS W ts pre → 0 ≤ x ∧ x ≤ 24 := by
  unfold bdS
  have key : ∀ (l : List Nat) (t : List Int), (t.length = Tm.prodP ts ∧ ∀ x, x ∈ t → 0 ≤ x ∧ x ≤ 24) → ((l.foldl (fun t x => bdStep W ts t (x % Tm.prodP ts)) t).length = Tm.prodP ts ∧ ∀ x, x ∈ l.foldl (fun t x => bdStep W ts t (x % Tm.prodP ts)) t → 0 ≤ x ∧ x ≤ 24) := fun l => by
    induction l with
    | nil => intro t h; exact h
    | cons a l ih => intro t h; exact ih _ (bdStep_rng h _)
  exact key pre _ ⟨by simp, fun x hx => by have := List.eq_of_mem_replicate hx; omega⟩
theorem ownFrom_block {β : Type} {B b : Nat} {f : β → Obj} (h : b < B) : OwnFrom B (fun (s : β) W => W.heap[b]? = some (f s)) := fun s X Y row hs hg hr =>
  (hg.block b (Array.getElem?_eq_some_iff.1 (show X.heap[b]? = _ from hs)).1 (fun e => by have := (hr b e.symm).1; omega)).trans hs
theorem ownFrom_grown {β : Type} {B O : Nat} {W0 : World} (h : W0.heap.size ≤ B) : OwnFrom B (fun (_ : β) W => W0.grownBy W (some O)) := fun s X Y row hs hg hr =>
  ⟨hg.1.trans hs.1, hg.2.trans hs.2, hg.3.trans hs.3, Nat.le_trans hs.size hg.size, fun k hk hne => (hg.block k (Nat.lt_of_lt_of_le hk hs.size) (fun e => by have := (hr k e.symm).1; omega)).trans (hs.block k hk hne)⟩
theorem grown_refl (W : World) (row : Option Nat) : W.grownBy W row := ⟨rfl, rfl, rfl, Nat.le_refl _, fun _ _ _ => rfl⟩
theorem grown_below {W0 X Y : World} {O : Nat} (h : W0.grownBy X (some O)) (k : Below X.heap.size X Y) : W0.grownBy Y (some O) := grown_trans h (grown_none (below_grown k))
theorem grown_setO {W0 X : World} {O k : Nat} {v : Value} (h : W0.grownBy X (some O)) : W0.grownBy (X.setCell ⟨O, k, none⟩ v) (some O) :=
  grown_trans h ⟨rfl, rfl, rfl, by simp, fun i _ hne => Below.heap_setCell _ _ _ _ (fun e => hne (by rw [e]))⟩
theorem grown_cell {W0 X : World} {O b o : Nat} (h : W0.grownBy X (some O)) (hb : b < W0.heap.size) (hne : b ≠ O) : X.cell? ⟨b, o, none⟩ = W0.cell? ⟨b, o, none⟩ := World.cell?_of_block (a := ⟨b, o, none⟩) (h.block b hb (fun e => hne (Option.some.inj e)))
theorem i64_block {w : World} {b : Nat} {t : TypeId} {xs : List Int} (h : w.heap[b]? = some (.cells (xs.map (Value.int .i64)).toArray t (0, 0))) : I64 w (some ⟨b, 0, none⟩) xs := fun k x hk => by
  have hl := (Array.getElem?_eq_some_iff.1 h).1
  refine ⟨b, 0, rfl, hl, by omega, ?_⟩
  rw [Nat.zero_add]
  exact obj_at h k _ (by simp [hk])
theorem plC_three {p : List Nat} {a b c : Nat} (h : plC p = #[.int .i64 (a : Nat), .int .i64 (b : Nat), .int .i64 (c : Nat)]) : p.getD 0 0 = a ∧ p.getD 1 0 = b ∧ p.getD 2 0 = c := by
  unfold plC at h
  have h := congrArg Array.toList h
  simp only [List.cons.injEq, Value.int.injEq, Int.natCast_inj, and_true, true_and] at h
  exact h
theorem own_below {w w' : World} {B : Nat} {e : TypeId} {sz n : Nat} {v : Value} {xs : List Value} (h : w.ownsRow B e sz v n xs) (hb : Below w.heap.size w w') : w'.ownsRow B e sz v n xs := by
  refine ⟨h.1, ?_⟩
  rcases h.2 with h1 | ⟨g, cap, cur, h1, h2, h3, h4⟩
  · exact .inl h1
  · exact .inr ⟨g, cap, cur, h1, h2, (hb.block g (Array.getElem?_eq_some_iff.1 h3).1).trans h3, h4⟩
theorem own_cap {w : World} {B : Nat} {e : TypeId} {sz n c : Nat} {A : Option Addr} {xs : List Value} (h : w.ownsRow B e sz (.slice A n c) n xs) : n ≤ c := by
  rcases h.2 with ⟨h1, h2⟩ | ⟨g, cap, cur, h1, _, _, h4, _⟩
  · omega
  · cases h1; exact h4
theorem setCell_same {w : World} {b k : Nat} {cs : Array Value} {t : TypeId} {fr : Nat × Nat} {v : Value} (h : w.heap[b]? = some (.cells cs t fr)) (hv : cs[k]? = some v) : w.setCell ⟨b, k, none⟩ v = w := by
  obtain ⟨hb, he⟩ := Array.getElem?_eq_some_iff.1 h
  obtain ⟨hk, hkv⟩ := Array.getElem?_eq_some_iff.1 hv
  have h1 : (w.setCell ⟨b, k, none⟩ v).heap = w.heap := by
    apply Array.ext_getElem?
    intro i
    by_cases hi : i = b
    · subst hi
      show (w.heap.modify i _)[i]? = _
      rw [Array.getElem?_eq_getElem (by rw [Array.size_modify]; exact hb), Array.getElem_modify_self, he, h]
      show some (Obj.cells (cs.setIfInBounds k v) t fr) = _
      rw [← hkv, Array.setIfInBounds_def, dif_pos hk, Array.set_getElem_self]
    · exact Below.heap_setCell _ _ _ _ hi
  obtain ⟨heap, tape, drawn, os, output⟩ := w
  show World.mk _ _ _ _ _ = _
  congr 1
theorem setCells_same {w : World} {b : Nat} {cs : Array Value} {t : TypeId} {fr : Nat × Nat} (h : w.heap[b]? = some (.cells cs t fr)) (vs : List Value) (o : Nat) (hv : ∀ j v, vs[j]? = some v → cs[o + j]? = some v) : w.setCells b o vs = w := by
  induction vs generalizing o with
  | nil => rfl
  | cons v r ih =>
    rw [World.setCells, setCell_same h (by simpa using hv 0 v rfl)]
    exact ih (o + 1) (fun j u hu => by have := hv (j + 1) u (by simpa using hu); rwa [show o + 1 + j = o + (j + 1) by omega])
theorem make_zeros (m : Nat) (t e : TypeId) (i : TypeInfo) (z : Value) (ht : Try.prog.underlying t = some (.slice e)) (hi : Try.prog.info? e = some i) (hz : i.zero = some z) (hs : i.size = 1) (hby : i.bytes ≤ 16) (hz1 : z.cells = #[z]) (hm : m ≤ 1000000) (W : World) :
    (Instr.makeSlice t (.int .i64 (m : Nat)) (.int .i64 (m : Nat))).run Try.prog W = .ok (.slice (some ⟨W.heap.size, 0, none⟩) m m) (W.alloc (.cells (Array.replicate m z) e)) := by
  have := run_make (P := Try.prog) W t e i z ht hi hz .i64 .i64 (m : Int) (m : Int) (by omega) (Int.le_refl _) (by
    have h1 : (i.bytes : Int) * (m : Int) ≤ 16 * (m : Int) := Int.mul_le_mul_of_nonneg_right (by omega) (by omega)
    omega) (by omega)
  have hmz : madeCells #[z] m = Array.replicate m z := by
    unfold madeCells
    apply Array.ext
    · simp
    · intro j h1 h2
      simp [Nat.mod_one]
  rw [this, hs, hz1]
  simp only [Int.toNat_natCast, Nat.mul_one]
  rw [hmz]
theorem clear_zeros (m : Nat) (h0 : 0 < m) (t e ty : TypeId) (z : Value) (ht : Try.prog.underlying t = some (.slice e)) (hv : ∀ w, (zeroValue e).run Try.prog w = .ok z w) (hz : z.cells = #[z]) (h1 : z.oneCell' = true) (X : World) (o : Obj) :
    (Builtin.clear_ #[t] ty #[.slice (some ⟨X.heap.size, 0, none⟩) m m]).run Try.prog ((X.alloc (.cells (Array.replicate m z) e)).alloc o) = .ok (.tuple #[]) ((X.alloc (.cells (Array.replicate m z) e)).alloc o) := by
  have hh : ((X.alloc (.cells (Array.replicate m z) e)).alloc o).heap[X.heap.size]? = some (.cells (Array.replicate m z) e (0, 0)) :=
    (Below.heap_alloc _ _ _ (by simp)).trans (heap_alloc_new X _)
  rw [run_clear_slice _ t e ty z ht hv hz h1 X.heap.size 0 m m h0 (fun j hj => by rw [Nat.zero_add, obj_at hh j z (by simp [hj])]; rfl) (fun j hj => obj_fz hh _)]
  rw [setCells_same hh _ _ (fun j v hj => by
    rw [List.getElem?_replicate] at hj
    split at hj
    · rename_i hjm; cases hj; simp [hjm]
    · cases hj)]
set_option maxRecDepth 100000 in
set_option maxHeartbeats 4000000 in
theorem bounds_any (R : Nat) (Wn : Nat) (A : Option Addr) (ts : List ByteArray) (cap : Nat) (w : World) (hR : ReelAt w R (Wn : Nat) A ts cap) (hA : Strs w A ts) (h3 : ts.length ≤ 3) (hf : Fine ts) (hs : Small ts) (hW5 : Wn ≤ 5) : Calls Try.prog 64 #[.pointer (some ⟨R, 0, none⟩)] w (GivesInts w (bdS Wn (lts ts) (downL (Tm.prodP (lts ts))))) := by
  have HMA := hide (fun (w' : World) (hR : ReelAt w' R (Wn : Nat) A ts cap) (hA : Strs w' A ts) => many_any R (Wn : Nat) A ts cap w' hR hA h3 hf hs)
  have hpp := Tm.prod_pos (lts ts)
  have hm9 := prodP_small ts hs h3
  obtain ⟨m, hm⟩ : ∃ m, Tm.prodP (lts ts) = m := ⟨_, rfl⟩
  have HPM := hide hm
  rw [hm] at HMA hpp hm9 ⊢
  clear hm
  obtain ⟨i0, ih, iz, is, ib⟩ := info_parts infoI
  have hmk := make_zeros m 32 3 i0 (.int .i64 0) und32 ih iz is (by rw [ib]; decide) rfl (by omega)
  have hcl := fun X o => clear_zeros m hpp 32 3 0 (.int .i64 0) und32 (fun w => by simp [zeroValue, typeInfo, ih, iz]) rfl rfl X o
  refine (callsIn_wide (n := 8)).1 ?_
  have h18 : 1 ≤ 8 := by omega
  refine callsIn_of_wp_marks Try.func64 rfl trivial ?_ rfl
  simp only [Try.ntmps64, List.size_toArray, List.length_cons, List.length_nil, Nat.reduceAdd, Nat.reduceSub, Array.replicate_succ, Array.replicate_zero, List.push_toArray, List.append_toArray, List.nil_append, List.cons_append]
  refine wpIn_wide.2 ?_
  go_wp2_with (first
    | (go_at_call 68; refine (HMA.out _ (hR.ext (by (repeat (first | exact Below.refl _ _ | assumption | refine below_drewN ?_ _ | refine below_drew ?_ | refine below_gr ?_ ?_ _ | refine below_alloc ?_ ?_ _ | refine Below.setCell ?_ ?_ _ | refine below_step ?_ (by assumption) ?_ | omega | (simp only [zz] at *; omega))))) (hA.ext (by (repeat (first | exact Below.refl _ _ | assumption | refine below_drewN ?_ _ | refine below_drew ?_ | refine below_gr ?_ ?_ _ | refine below_alloc ?_ ?_ _ | refine Below.setCell ?_ ?_ _ | refine below_step ?_ (by assumption) ?_ | omega | (simp only [zz] at *; omega)))))).mono ?_; rintro e w1 ⟨rfl, hb1⟩; replace hb1 := ex_below hb1; have hz1 := hb1.size; (try simp only [zz] at hz1); have hlt1 : ∀ b, b < w.heap.size → b < w1.heap.size := fun b hb => (by (first | omega | (simp only [zz] at *; omega))); have hc1 : ∀ b o, b < w.heap.size → w1.cell? ⟨b, o, none⟩ = w.cell? ⟨b, o, none⟩ := old_cell (by (repeat (first | exact Below.refl _ _ | assumption | refine below_drewN ?_ _ | refine below_drew ?_ | refine below_gr ?_ ?_ _ | refine below_alloc ?_ ?_ _ | refine Below.setCell ?_ ?_ _ | refine below_step ?_ (by assumption) ?_ | omega | (simp only [zz] at *; omega)))); have hs1a : w.heap.size < w1.heap.size := (by (first | omega | (simp only [zz] at *; omega))); have ho1a := own_cell hb1 (b := w.heap.size) (by (first | omega | (simp only [zz] at *; omega))); have hq1a := own_frozen hb1 (b := w.heap.size) (by (first | omega | (simp only [zz] at *; omega)))))

  have hbW : Below w.heap.size w ((w1.alloc (.cells (Array.replicate m (.int .i64 0)) 3)).alloc (.cells #[.slice (some ⟨w1.heap.size, 0, none⟩) m m] 32)) := by (repeat (first | exact Below.refl _ _ | assumption | (refine below_gr ?_ (by (first | omega | (simp only [zz] at *; omega))) _) | (refine below_alloc ?_ (by (first | omega | (simp only [zz] at *; omega))) _) | (refine Below.setCell ?_ (by (first | omega | (simp only [zz] at *; omega))) _) | refine below_drewN ?_ _ | refine below_drew ?_ | (refine below_step ?_ (by assumption) (by (first | omega | (simp only [zz] at *; omega))))))
  have c1 : ((w1.alloc (.cells (Array.replicate m (.int .i64 0)) 3)).alloc (.cells #[.slice (some ⟨w1.heap.size, 0, none⟩) m m] 32)).cell? ⟨w.heap.size, 0, none⟩ = some (.pointer (some ⟨R, 0, none⟩)) := by simp [go_sem, *]
  have hO : ((w1.alloc (.cells (Array.replicate m (.int .i64 0)) 3)).alloc (.cells #[.slice (some ⟨w1.heap.size, 0, none⟩) m m] 32)).heap[w1.heap.size]? = some (.cells (Array.replicate m (.int .i64 0)) 3 (0, 0)) := (Below.heap_alloc _ _ _ (by simp)).trans (heap_alloc_new w1 _)
  have c3 : ((w1.alloc (.cells (Array.replicate m (.int .i64 0)) 3)).alloc (.cells #[.slice (some ⟨w1.heap.size, 0, none⟩) m m] 32)).cell? ⟨w1.heap.size + 1, 0, none⟩ = some (.slice (some ⟨w1.heap.size, 0, none⟩) m m) := by
    have := (Boxed.new (w1.alloc (.cells (Array.replicate m (.int .i64 0)) 3)) 32 (.slice (some ⟨w1.heap.size, 0, none⟩) m m)).cell
    rwa [World.size_alloc] at this
  have hsz0 : ((w1.alloc (.cells (Array.replicate m (.int .i64 0)) 3)).alloc (.cells #[.slice (some ⟨w1.heap.size, 0, none⟩) m m] 32)).heap.size = w1.heap.size + 1 + 1 := by simp
  have hOw : w.heap.size < w1.heap.size := by omega
  obtain ⟨W1, hW1⟩ : ∃ W1, ((w1.alloc (.cells (Array.replicate m (.int .i64 0)) 3)).alloc (.cells #[.slice (some ⟨w1.heap.size, 0, none⟩) m m] 32)) = W1 := ⟨_, rfl⟩
  rw [hW1] at hbW c1 hO c3 hsz0 ⊢
  clear hW1
  generalize w1.heap.size = O at *
  have hR1 := hR.ext hbW
  have hA1 := hA.ext hbW
  have HLA := hide (fun (w' : World) (h : ReelAt w' R (Wn : Nat) A ts cap) (h' : Strs w' A ts) => last_any R (Wn : Nat) A ts cap w' h h' h3 hf)
  clear hmk hcl ih iz is ib hb1
  clear i0
  have hsz1 : W1.heap.size < O + 1 + 1 + 1 := by omega
  have hsz2 : O + 1 < W1.heap.size := by omega
  have hsz3 : w.heap.size < W1.heap.size := by omega
  clear hsz0
  obtain ⟨l0, l1, l2, hlast⟩ : ∃ l0 l1 l2 : Nat, plC (Tm.lastPl (lts ts)) = #[.int .i64 (l0 : Nat), .int .i64 (l1 : Nat), .int .i64 (l2 : Nat)] := ⟨_, _, _, rfl⟩
  unfold plV at HLA
  rw [hlast] at HLA
  have HLAST := hide hlast
  clear hlast
  go_cut [4, 5] from 15 to 18 (fun s4 s5 wx => ∃ b4 b5 : Nat, s4 = .pointer (some ⟨b4, 0, none⟩) ∧ s5 = .pointer (some ⟨b5, 0, none⟩) ∧ wx.cell? ⟨b4, 0, none⟩ = some (.func (.func 70) #[.pointer (some ⟨R, 0, none⟩)] #[]) ∧ wx.cell? ⟨b5, 0, none⟩ = some (.int .i64 (l0 : Nat)) ∧ wx.cell? ⟨b5, 1, none⟩ = some (.int .i64 (l1 : Nat)) ∧ wx.cell? ⟨b5, 2, none⟩ = some (.int .i64 (l2 : Nat)) ∧ b4 < wx.heap.size ∧ b5 < wx.heap.size ∧ W1.heap.size ≤ b4 ∧ W1.heap.size ≤ b5 ∧ Below W1.heap.size W1 wx)
  case first =>
    as_aux_lemma =>
    have n1 : W1.heap.size ≠ w.heap.size := by omega
    have n2 : W1.heap.size + 1 ≠ w.heap.size := by omega
    go_region_held3 (fun w' => w'.cell? ⟨w.heap.size, 0, none⟩ = some (.pointer (some ⟨R, 0, none⟩))) (go_keep) ((go_at_call 57; refine (HLA.out _ (hR1.ext (by (repeat (first | exact Below.refl _ _ | assumption | refine below_drewN ?_ _ | refine below_drew ?_ | refine below_gr ?_ ?_ _ | refine below_alloc ?_ ?_ _ | refine Below.setCell ?_ ?_ _ | refine below_step ?_ (by assumption) ?_ | omega | (simp only [zz] at *; omega))))) (hA1.ext (by (repeat (first | exact Below.refl _ _ | assumption | refine below_drewN ?_ _ | refine below_drew ?_ | refine below_gr ?_ ?_ _ | refine below_alloc ?_ ?_ _ | refine Below.setCell ?_ ?_ _ | refine below_step ?_ (by assumption) ?_ | omega | (simp only [zz] at *; omega)))))).mono ?_; rintro e w3 ⟨rfl, hb3⟩; replace hb3 := ex_below hb3; have hz3 := hb3.size; (try simp only [World.size_alloc, size_drew, size_drewN] at hz3); have hc3 := own_cell hb3 (b := w.heap.size) (by (first | omega | (simp only [zz]; omega) | (simp only [zz] at *; omega) | (simp; done) | (simp; omega))); have hbw3 : Below W1.heap.size W1 w3 := (by (repeat (first | exact Below.refl _ _ | assumption | refine below_drewN ?_ _ | refine below_drew ?_ | refine below_gr ?_ ?_ _ | refine below_alloc ?_ ?_ _ | refine Below.setCell ?_ ?_ _ | refine below_step ?_ (by assumption) ?_ | omega | (simp only [zz] at *; omega)))); (try have hf3 := own_frozen hb3 (b := W1.heap.size) (by (first | omega | (simp only [zz]; omega) | (simp only [zz] at *; omega) | (simp; done) | (simp; omega)))); (try have hd3 := own_cell hb3 (b := W1.heap.size) (by (first | omega | (simp only [zz]; omega) | (simp only [zz] at *; omega) | (simp; done) | (simp; omega)))); (try have hg3 := own_frozen hb3 (b := W1.heap.size + 1) (by (first | omega | (simp only [zz]; omega) | (simp only [zz] at *; omega) | (simp; done) | (simp; omega)))); (try have he3 := own_cell hb3 (b := W1.heap.size + 1) (by (first | omega | (simp only [zz]; omega) | (simp only [zz] at *; omega) | (simp; done) | (simp; omega)))); (try have ht3 : W1.heap.size < w3.heap.size := (by (first | omega | (simp only [zz]; omega) | (simp only [zz] at *; omega) | (simp; done) | (simp; omega)))); (try have hu3 : W1.heap.size + 1 < w3.heap.size := (by (first | omega | (simp only [zz]; omega) | (simp only [zz] at *; omega) | (simp; done) | (simp; omega)))); have n3 : w3.heap.size ≠ w.heap.size := (by omega); have n4 : w3.heap.size + 1 ≠ w.heap.size := (by omega); have n5 : w.heap.size < w3.heap.size := (by omega)))
    all_goals
      go_wp2_with fail
      go_meet
      refine ⟨_, _, rfl, rfl, ?_, ?_, ?_, ?_, ?_, ?_, ?_, ?_, ?_⟩
      any_goals (first | (simp [go_sem]; done) | (simp [go_sem, hd3, ht3]; done) | (simp [go_sem, hd3, he3, ht3, hu3]; done) | ((try simp only [World.size_alloc, size_setCell]); omega))
      repeat (first | exact hbw3 | refine below_alloc ?_ (by (try simp only [World.size_alloc, size_setCell]); omega) _ | refine below_set0 ?_ (by omega))
  case rest =>
    obtain ⟨b4, b5, rfl, rfl, h4, h50, h51, h52, hb4, hb5, hg4, hg5, hbc⟩ := hcut
    have hzc := hbc.size
    have hb2 : Below w.heap.size w wc := hbW.trans (hbc.mono hbW.size)
    have k1 := (hbc.cell (p := ⟨w.heap.size, 0, none⟩) (by show w.heap.size < _; omega)).trans c1
    have k3 := (hbc.cell (p := ⟨O + 1, 0, none⟩) (by show O + 1 < _; omega)).trans c3
    have kO := (hbc.block O (by omega)).trans hO
    have hsw : w.heap.size < wc.heap.size := by omega
    go_wp2_with (first
    | (go_at_call 69; refine (places_in _ (some ⟨R, 0, none⟩)).mono ?_; rintro e w8 ⟨rfl, rfl⟩))

    have hbW0 : Below w.heap.size w (wc.alloc (.cells #[.pointer (some ⟨R, 0, none⟩)] 83)) := by (repeat (first | exact Below.refl _ _ | assumption | (refine below_gr ?_ (by (first | omega | (simp only [zz] at *; omega))) _) | (refine below_alloc ?_ (by (first | omega | (simp only [zz] at *; omega))) _) | (refine Below.setCell ?_ (by (first | omega | (simp only [zz] at *; omega))) _) | refine below_drewN ?_ _ | refine below_drew ?_ | (refine below_step ?_ (by assumption) (by (first | omega | (simp only [zz] at *; omega))))))
    have q1 := (cell?_alloc_some (.cells #[.pointer (some ⟨R, 0, none⟩)] 83) k1)
    have q3 := (cell?_alloc_some (.cells #[.pointer (some ⟨R, 0, none⟩)] 83) k3)
    have q4 := (cell?_alloc_some (.cells #[.pointer (some ⟨R, 0, none⟩)] 83) h4)
    have q50 := (cell?_alloc_some (.cells #[.pointer (some ⟨R, 0, none⟩)] 83) h50)
    have q51 := (cell?_alloc_some (.cells #[.pointer (some ⟨R, 0, none⟩)] 83) h51)
    have q52 := (cell?_alloc_some (.cells #[.pointer (some ⟨R, 0, none⟩)] 83) h52)
    have qO : (wc.alloc (.cells #[.pointer (some ⟨R, 0, none⟩)] 83)).heap[O]? = _ := (Below.heap_alloc _ _ _ (by omega)).trans kO
    have qB : (wc.alloc (.cells #[.pointer (some ⟨R, 0, none⟩)] 83)).cell? ⟨wc.heap.size, 0, none⟩ = some (.pointer (some ⟨R, 0, none⟩)) := (Boxed.new wc _ _).cell
    have hsz0 : (wc.alloc (.cells #[.pointer (some ⟨R, 0, none⟩)] 83)).heap.size = wc.heap.size + 1 := by simp
    obtain ⟨W0, hW0⟩ : ∃ W0, wc.alloc (.cells #[.pointer (some ⟨R, 0, none⟩)] 83) = W0 := ⟨_, rfl⟩
    rw [hW0] at hbW0 q1 q3 q4 q50 q51 q52 qO qB hsz0 ⊢
    clear hW0 k1 k3 kO h4 h50 h51 h52
    have n4 : b4 ≠ O := by omega
    have n5 : b5 ≠ O := by omega
    have hO1 : O + 1 < wc.heap.size := by omega
    clear c1 hO c3 hbc
    generalize wc.heap.size = BB at *
    have hR0 := hR.ext hbW0
    have hA0 := hA.ext hbW0
    refine (wpIn_wide (n := 8)).1 ?_
    have hm1 : 1 ≤ 8 - 1 := by omega
    have hm2 : 1 ≤ 8 - 1 - 1 := by omega
    refine wpIn_rangeFunc_ownH rfl h18 (gf := 94) (lb := #[.pointer (some ⟨BB, 0, none⟩)]) rfl trivial (enters_of Try.func94 (by kernel_rfl) rfl)
      (placesM_stops 7 (by omega) BB R (Wn : Nat) A ts cap w hR hA h3 hf hs m HPM.out W0 (by omega) (by omega) (fun b hb => hbW0.block b hb) qB) (fun h k => h.trans k) (kp_put (by omega) (by omega)) (Below.refl _ _) (fun _ => rfl)
      (fun pre W' => W'.heap[O]? = some (.cells ((bdS Wn (lts ts) pre).map (Value.int .i64)).toArray 3 (0, 0)) ∧ W0.grownBy W' (some O))
      (fun _ _ _ => False)
      ?ownI (fun _ _ _ _ _ hs _ _ => hs) ⟨?_, grown_refl _ _⟩
      (fun x a' W' => ∃ Bx, BB < Bx ∧ W'.heap[Bx]? = some (.cells (plC (Tm.placeP (lts ts) (x % m))) 86 (0, 0)) ∧ a' = { tmps := #[.pointer (some ⟨R, 0, none⟩), .pointer (some ⟨w.heap.size, 0, none⟩), .slice none 0 0, .pointer (some ⟨O + 1, 0, none⟩), .pointer (some ⟨b4, 0, none⟩), .pointer (some ⟨b5, 0, none⟩), .int .i64 ((x % m : Nat) : Int), .pointer (some ⟨Bx, 0, none⟩), undef, undef, undef, .pointer (some ⟨R, 0, none⟩), .int .i64 (m : Nat), .slice (some ⟨O, 0, none⟩) m m, .slice (some ⟨O, 0, none⟩) m m, u15, u16, u17, u18, .pointer (some ⟨R, 0, none⟩), .func (.func 94) #[] #[.pointer (some ⟨BB, 0, none⟩)], .int .i64 ((x % m : Nat) : Int), .agg (plC (Tm.placeP (lts ts) (x % m))), undef, undef, undef, undef, undef, undef, undef, undef, undef, undef, undef, undef, undef, undef, undef, undef, undef, undef, undef, undef, undef, undef, undef, undef, undef, undef, undef, undef, undef, undef, undef, undef, undef, undef, undef, undef], defers := [] })
      ?ownA ?assign ?body ?done ?stop
    case ownI => exact OwnFrom.and (ownFrom_block (by omega)) (ownFrom_grown (Nat.le_refl _))
    case ownA =>
      rintro x a' s X Y row ⟨Bx, h1, h2, h3⟩ hg hr
      exact ⟨Bx, h1, cells_own (β := Unit) Bx _ _ () X Y row h2 hg (fun r e => (hr r e).2), h3⟩
    case assign =>
      rintro l pre x W' K ⟨b1, hBW⟩ hK
      have hz := hBW.size
      generalize x % m = y at *
      unfold encN plV
      unfold plC at *
      generalize (Tm.placeP (lts ts) y).getD 0 0 = p0 at *
      generalize (Tm.placeP (lts ts) y).getD 1 0 = p1 at *
      generalize (Tm.placeP (lts ts) y).getD 2 0 = p2 at *
      gi_wp2
      exact hK _ _ ((KeepsOthers.alloc _ _).from _) (Kp.below ((Below.refl _ W').alloc (Nat.le_refl _) _) (by omega) (by omega)) ⟨(Below.heap_alloc _ _ _ (by omega)).trans b1, grown_below hBW ((Below.refl _ W').alloc (Nat.le_refl _) _)⟩ ⟨W'.heap.size, by omega, heap_alloc_new W' _, rfl⟩
    case stop =>
      rintro D cd pre W' hD _ h _
      exact h.elim
    case done =>
      rintro D xs' W' hD rfl ⟨hO', hg⟩ hK
      have hz := hg.size
      have e3 := (grown_cell hg (b := O + 1) (o := 0) (by omega) (by omega)).trans q3
      have hs3 : O + 1 < W'.heap.size := by omega
      obtain ⟨hBl, _⟩ := bdS_rng Wn (lts ts) (downL m)
      rw [HPM.out] at hBl
      generalize bdS Wn (lts ts) (downL m) = T at *
      have hbX : Below w.heap.size w W' := gb_below hbW0 hg (by omega) (fun k hk => by have := Option.some.inj hk; omega)
      unfold GivesInts
      go_wp2
      refine ⟨by simp, .inl ⟨_, _, rfl, run_takeDeferred hK, ?_⟩⟩
      refine ⟨.slice (some ⟨O, 0, none⟩) m m, by simp [results, Try.results64, go_sem], some ⟨O, 0, none⟩, m, by rw [hBl], grew_of (hbX.trans (belowK_b (w := w) (Nat.le_refl _) W' D _ _ (by omega) hK rfl rfl)), ?_⟩
      exact i64_block ((World.putObj_heap_other (by omega)).trans hO')
    case body =>
      rintro l pre x a' W' hll ⟨r, hr⟩ ⟨hO', hg⟩ ⟨Bx, hBx, bX, rfl⟩ hlt
      have hz := hg.size
      have hym : x % m < m := Nat.mod_lt _ hpp
      have hpl := (Tm.place_is (ts := lts ts) (n := x % m) (by rw [HPM.out]; exact hym)).1
      have HSN := hide (bdS_snoc Wn (lts ts) pre x)
      rw [HPM.out] at HSN
      have hrng := bdS_rng Wn (lts ts) pre
      rw [HPM.out] at hrng
      have hTl := hrng.1
      have HRNG := hide hrng.2
      have hBl := (Array.getElem?_eq_some_iff.1 bX).1
      have HNX := hide (fun (k : Nat) (w' : World) (h : ReelAt w' R (Wn : Nat) A ts cap) (h' : Strs w' A ts) => next_any R (Wn : Nat) A ts cap (Tm.placeP (lts ts) (x % m)) (k : Int) w' h h' h3 hpl hf)
      have HIX := hide (fun (k : Nat) (w' : World) (h : ReelAt w' R (Wn : Nat) A ts cap) (h' : Strs w' A ts) => index_any R (Wn : Nat) A ts cap (Tm.nextP (lts ts) (Tm.placeP (lts ts) (x % m)) (k : Int)) w' h h' h3 (Tm.next_is hpl _) hs)
      have HIL := hide (fun (k : Nat) => (Tm.idx_lin (Tm.next_is hpl (k : Int)) 0).2)
      have hlt3 : (lts ts).length ≤ 3 := by simpa [lts] using h3
      have hdl := pl_dec hlt3 hpl (Tm.last_is (lts ts))
      have HDN := hide (fun (k : Nat) => pl_dec hlt3 (Tm.next_is hpl (k : Int)) hpl)
      have HNB := hide (fun k => nbs_succ Wn (lts ts) (bdS Wn (lts ts) pre) (x % m) k)
      have HGE := hide (fun k => nbs_ge (W := Wn) (ts := lts ts) hrng.2 (x % m) k)
      have HST := hide (show bdStep Wn (lts ts) (bdS Wn (lts ts) pre) (x % m) = if Tm.placeP (lts ts) (x % m) = Tm.lastPl (lts ts) then bdS Wn (lts ts) pre else (bdS Wn (lts ts) pre).set (x % m) (leastL (24 :: nbs Wn (lts ts) (bdS Wn (lts ts) pre) (x % m) Wn)) from rfl)
      clear hr hrng
      generalize bdS Wn (lts ts) pre = T at *
      generalize hy : x % m = y at *
      replace hy := hide hy
      -- cells
      have e1 := (grown_cell hg (b := w.heap.size) (o := 0) (by omega) (by omega)).trans q1
      have e3 := (grown_cell hg (b := O + 1) (o := 0) (by omega) (by omega)).trans q3
      have e4 := (grown_cell hg (b := b4) (o := 0) (by omega) n4).trans q4
      have e50 := (grown_cell hg (b := b5) (o := 0) (by omega) n5).trans q50
      have e51 := (grown_cell hg (b := b5) (o := 1) (by omega) n5).trans q51
      have e52 := (grown_cell hg (b := b5) (o := 2) (by omega) n5).trans q52
      have hbX : Below w.heap.size w W' := gb_below hbW0 hg (by omega) (fun k hk => by have := Option.some.inj hk; omega)
      have rr := hR.ext hbX
      have sr := hA.ext hbX
      have hall : plC (Tm.placeP (lts ts) y) = #[.int .i64 ((Tm.placeP (lts ts) y).getD 0 0 : Nat), .int .i64 ((Tm.placeP (lts ts) y).getD 1 0 : Nat), .int .i64 ((Tm.placeP (lts ts) y).getD 2 0 : Nat)] := rfl
      obtain ⟨hl0, hl1, hl2⟩ := plC_three HLAST.out
      rw [hl0, hl1, hl2] at hdl
      clear hl0 hl1 hl2
      rw [hall] at bX
      have x0 := obj_at bX 0 _ rfl
      have x1 := obj_at bX 1 _ rfl
      have x2 := obj_at bX 2 _ rfl
      clear hall
      have r0 := rr.1
      have rl := rr.2.2
      have hs1 : w.heap.size < W'.heap.size := by omega
      have hs3 : O + 1 < W'.heap.size := by omega
      have hs4 : b4 < W'.heap.size := by omega
      have hs5 : b5 < W'.heap.size := by omega
      generalize hp0 : (Tm.placeP (lts ts) y).getD 0 0 = p0 at *
      generalize hp1 : (Tm.placeP (lts ts) y).getD 1 0 = p1 at *
      generalize hp2 : (Tm.placeP (lts ts) y).getD 2 0 = p2 at *
      have HPP := hide (show plC (Tm.placeP (lts ts) y) = #[.int .i64 (p0 : Nat), .int .i64 (p1 : Nat), .int .i64 (p2 : Nat)] by unfold plC; rw [hp0, hp1, hp2])
      clear hp0 hp1 hp2
      by_cases he : Tm.placeP (lts ts) y = Tm.lastPl (lts ts)
      · rw [decide_eq_true he] at hdl
        have HSE := hide (show bdStep Wn (lts ts) T y = T by rw [HST.out, if_pos he])
        clear he HST HNX HIX HIL HDN HNB HGE
        gi_wp2
        refine ⟨KeepsFrom.refl _ _, Kp.refl _ _ _, ?_, hg⟩
        rw [HSN.out, HSE.out]
        exact hO'
      · rw [decide_eq_false he] at hdl
        have HSE := hide (show bdStep Wn (lts ts) T y = T.set y (leastL (24 :: nbs Wn (lts ts) T y Wn)) by rw [HST.out, if_neg he])
        clear he HST
        gi_wp2
        have hown0 : (W'.alloc (.cells #[.int .i64 24] 3)).ownsRow W'.heap.size 3 1 (.slice (some ⟨W'.heap.size, 0, none⟩) 1 1) 1 (((24 : Int) :: nbs Wn (lts ts) T y 0).map (Value.int .i64)) := World.ownsRow_lit W' #[.int .i64 24] 1 (Nat.le_refl _) (by unfold maxLen; omega) rfl
        have hbA : Below W'.heap.size W' (W'.alloc (.cells #[.int .i64 24] 3)) := (Below.refl _ _).alloc (Nat.le_refl _) _
        gi_loopw [8, 32] (fun o i wr => ∃ (k L : Nat) (A' : Option Addr) (c' : Nat), k ≤ Wn ∧ L = (nbs Wn (lts ts) T y k).length + 1 ∧ i = .int .i64 (k : Nat) ∧ o = .slice A' L c' ∧ wr.ownsRow W'.heap.size 3 1 (.slice A' L c') L (((24 : Int) :: nbs Wn (lts ts) T y k).map (Value.int .i64)) ∧ Below W'.heap.size W' wr) (fun _ i _ => Wn - (intOf i).toNat)
        case atStart => exact ⟨0, 1, _, _, Nat.zero_le _, rfl, rfl, rfl, hown0, hbA⟩
        case round =>
          obtain ⟨k, L, A', c', hk, hL, rfl, rfl, hown, hb⟩ := hrel
          have hzr := hb.size
          have t1 := (hb.cell (p := ⟨w.heap.size, 0, none⟩) hs1).trans e1
          have t3 := (hb.cell (p := ⟨O + 1, 0, none⟩) hs3).trans e3
          have t4 := (hb.cell (p := ⟨b4, 0, none⟩) hs4).trans e4
          have y0 := (hb.cell (p := ⟨Bx, 0, none⟩) hBl).trans x0
          have y1 := (hb.cell (p := ⟨Bx, 1, none⟩) hBl).trans x1
          have y2 := (hb.cell (p := ⟨Bx, 2, none⟩) hBl).trans x2
          have tO := (hb.block O (by omega)).trans hO'
          have hs1r : w.heap.size < wr.heap.size := by omega
          have hs3r : O + 1 < wr.heap.size := by omega
          have hs4r : b4 < wr.heap.size := by omega
          have hsXr : Bx < wr.heap.size := by omega
          have hsOr : O < wr.heap.size := by omega
          have hbXr : Below w.heap.size w wr := hbX.trans (hb.mono (by omega))
          have rrr := hR.ext hbXr
          have srr := hA.ext hbXr
          have hLn : L ≤ 6 := by have := (HGE.out k).2; omega
          have HL := hide hL
          clear hL
          have hgb := own_base hown
          by_cases hlt2 : k < Wn
          · have HNK := hide (HNX.out k)
            have HIK := hide (HIX.out k)
            have HDK := hide (HDN.out k)
            have HBK := hide (HNB.out k)
            have hjm := HIL.out k
            rw [HPM.out] at hjm
            generalize hqq : Tm.nextP (lts ts) (Tm.placeP (lts ts) y) (k : Int) = q at *
            unfold plV at HNK HIK
            rw [HPP.out] at HNK
            have hallq : plC q = #[.int .i64 (q.getD 0 0 : Nat), .int .i64 (q.getD 1 0 : Nat), .int .i64 (q.getD 2 0 : Nat)] := rfl
            rw [hallq] at HNK HIK
            clear hallq
            generalize q.getD 0 0 = q0 at *
            generalize q.getD 1 0 = q1 at *
            generalize q.getD 2 0 = q2 at *
            generalize Tm.idxP (lts ts) q 0 = j at *
            by_cases hqp : q = Tm.placeP (lts ts) y
            · rw [if_pos hqp, List.append_nil] at HBK
              have hd := HDK.out
              rw [decide_eq_true hqp] at hd
              clear hqp HDK
              gi_wp2_with (refine ⟨trivial, ?_⟩; gi_at_call 56; refine (calls_round (HNK.out _ (rrr.ext (by (repeat (first | exact Below.refl _ _ | assumption | refine below_drewN ?_ _ | refine below_drew ?_ | refine below_gr ?_ ?_ _ | refine below_alloc ?_ ?_ _ | refine Below.setCell ?_ ?_ _ | refine below_step ?_ (by assumption) ?_ | omega | (simp only [zz] at *; omega))))) (srr.ext (by (repeat (first | exact Below.refl _ _ | assumption | refine below_drewN ?_ _ | refine below_drew ?_ | refine below_gr ?_ ?_ _ | refine below_alloc ?_ ?_ _ | refine Below.setCell ?_ ?_ _ | refine below_step ?_ (by assumption) ?_ | omega | (simp only [zz] at *; omega))))))).mono ?_; rintro e w3 ⟨rfl, hb3⟩; replace hb3 := ex_below hb3; have hz3 := hb3.size; have m0 := (hb3.cell (p := ⟨Bx, 0, none⟩) hsXr).trans y0; have m1 := (hb3.cell (p := ⟨Bx, 1, none⟩) hsXr).trans y1; have m2 := (hb3.cell (p := ⟨Bx, 2, none⟩) hsXr).trans y2; have hsX3 : Bx < w3.heap.size := (by omega); have m3 := (hb3.cell (p := ⟨O + 1, 0, none⟩) hs3r).trans t3; have m4 := (hb3.cell (p := ⟨b4, 0, none⟩) hs4r).trans t4; have mO := (hb3.block O hsOr).trans tO; have hs33 : O + 1 < w3.heap.size := (by omega); have hs43 : b4 < w3.heap.size := (by omega); have hsO3 : O < w3.heap.size := (by omega); have own3 := own_below hown hb3)
              refine ⟨⟨k + 1, L, A', c', by omega, by rw [HBK]; exact HL.out, by go_num, rfl, ?_, (hb.trans (hb3.mono hzr)).alloc (by omega) _⟩, by simp [intOf]; omega⟩
              rw [HBK]
              exact own_below own3 ((Below.refl _ _).alloc (Nat.le_refl _) _)
            · rw [if_neg hqp] at HBK
              have hd := HDK.out
              rw [decide_eq_false hqp] at hd
              have HBK2 := hide HBK
              have hjl : j < T.length := by omega
              have HGD : Hid (T.getD j 0 = T[j]) := hide (by rw [List.getD_eq_getElem?_getD, List.getElem?_eq_getElem hjl]; rfl)
              have hrj := HRNG.out _ (List.getElem_mem hjl)
              have hTj : (T.map (Value.int .i64)).toArray[j]? = some (.int .i64 T[j]) := by simp [hjl]
              have HTJ := hide hTj
              generalize T[j] = tj at *
              clear hqp HDK hqq HBK hTj
              gi_wp2_with (refine ⟨trivial, ?_⟩; gi_at_call 56; refine (calls_round (HNK.out _ (rrr.ext (by (repeat (first | exact Below.refl _ _ | assumption | refine below_drewN ?_ _ | refine below_drew ?_ | refine below_gr ?_ ?_ _ | refine below_alloc ?_ ?_ _ | refine Below.setCell ?_ ?_ _ | refine below_step ?_ (by assumption) ?_ | omega | (simp only [zz] at *; omega))))) (srr.ext (by (repeat (first | exact Below.refl _ _ | assumption | refine below_drewN ?_ _ | refine below_drew ?_ | refine below_gr ?_ ?_ _ | refine below_alloc ?_ ?_ _ | refine Below.setCell ?_ ?_ _ | refine below_step ?_ (by assumption) ?_ | omega | (simp only [zz] at *; omega))))))).mono ?_; rintro e w3 ⟨rfl, hb3⟩; replace hb3 := ex_below hb3; have hz3 := hb3.size; have m0 := (hb3.cell (p := ⟨Bx, 0, none⟩) hsXr).trans y0; have m1 := (hb3.cell (p := ⟨Bx, 1, none⟩) hsXr).trans y1; have m2 := (hb3.cell (p := ⟨Bx, 2, none⟩) hsXr).trans y2; have hsX3 : Bx < w3.heap.size := (by omega); have m3 := (hb3.cell (p := ⟨O + 1, 0, none⟩) hs3r).trans t3; have m4 := (hb3.cell (p := ⟨b4, 0, none⟩) hs4r).trans t4; have mO := (hb3.block O hsOr).trans tO; have hs33 : O + 1 < w3.heap.size := (by omega); have hs43 : b4 < w3.heap.size := (by omega); have hsO3 : O < w3.heap.size := (by omega); have own3 := own_below hown hb3)
              have mj := obj_at mO j _ HTJ.out
              have v3 := cell?_alloc_some (.cells #[.int .i64 (q0 : Nat), .int .i64 (q1 : Nat), .int .i64 (q2 : Nat)] 86) m3
              have v4 := cell?_alloc_some (.cells #[.int .i64 (q0 : Nat), .int .i64 (q1 : Nat), .int .i64 (q2 : Nat)] 86) m4
              have vj := cell?_alloc_some (.cells #[.int .i64 (q0 : Nat), .int .i64 (q1 : Nat), .int .i64 (q2 : Nat)] 86) mj
              have vq := heap_alloc_new w3 (.cells #[.int .i64 (q0 : Nat), .int .i64 (q1 : Nat), .int .i64 (q2 : Nat)] 86)
              have u0 := obj_at vq 0 _ rfl
              have u1 := obj_at vq 1 _ rfl
              have u2 := obj_at vq 2 _ rfl
              have hb4a : Below w3.heap.size w3 (w3.alloc (.cells #[.int .i64 (q0 : Nat), .int .i64 (q1 : Nat), .int .i64 (q2 : Nat)] 86)) := (Below.refl _ _).alloc (Nat.le_refl _) _
              have own4 := own_below own3 hb4a
              have hb4b : Below wr.heap.size wr (w3.alloc (.cells #[.int .i64 (q0 : Nat), .int .i64 (q1 : Nat), .int .i64 (q2 : Nat)] 86)) := hb3.trans (hb4a.mono hz3)
              have hzq : (w3.alloc (.cells #[.int .i64 (q0 : Nat), .int .i64 (q1 : Nat), .int .i64 (q2 : Nat)] 86)).heap.size = w3.heap.size + 1 := by simp
              generalize (w3.alloc (.cells #[.int .i64 (q0 : Nat), .int .i64 (q1 : Nat), .int .i64 (q2 : Nat)] 86)) = W4 at *
              have s3 : O + 1 < W4.heap.size := by omega
              have s4 : b4 < W4.heap.size := by omega
              have sj : O < W4.heap.size := by omega
              have sq : w3.heap.size < W4.heap.size := by omega
              clear m0 m1 m2 m3 m4 mO mj hsX3 hs33 hs43 hsO3 own3 vq hb3 hb4a
              have hbX4 : Below w.heap.size w W4 := hbXr.trans (hb4b.mono (by omega))
              have rr4 := hR.ext hbX4
              have sr4 := hA.ext hbX4
              have hz4 := hb4b.size
              clear hzq
              generalize w3.heap.size = bq at *
              refine move_tail_round 7 (by kernel_rfl) (by kernel_rfl) (by kernel_rfl) (yields_move rfl rfl) ?_
              simp only [List.take_succ_cons, List.take_zero, List.drop_succ_cons, List.drop_zero, Act.put, List.setIfInBounds_toArray, List.set_cons_zero, List.set_cons_succ]
              repeat (go_big_quiet_step ((go_at_call 70; exact Gives.quiet (HIK.out _ (rr4.ext (by (repeat (first | exact Below.refl _ _ | assumption | refine below_drewN ?_ _ | refine below_drew ?_ | refine below_gr ?_ ?_ _ | refine below_alloc ?_ ?_ _ | refine Below.setCell ?_ ?_ _ | refine below_step ?_ (by assumption) ?_ | omega | (simp only [zz] at *; omega))))) (sr4.ext (by (repeat (first | exact Below.refl _ _ | assumption | refine below_drewN ?_ _ | refine below_drew ?_ | refine below_gr ?_ ?_ _ | refine below_alloc ?_ ?_ _ | refine Below.setCell ?_ ?_ _ | refine below_step ?_ (by assumption) ?_ | omega | (simp only [zz] at *; omega))))))) ))
              refine wpQuiet_nil ?_
              intro w5 hb5
              replace hb5 := ex_below hb5
              have hz5 := hb5.size
              have own5 := own_below own4 hb5
              obtain ⟨i0, ih, iz, is, ib⟩ := info_parts infoI
              go_wp2_with (at_builtin; refine wpList_app _ rfl (.tmp 42) (.tmp 50) 32 rfl W'.heap.size 3 i0 _ 1 8 und32 ih iz is ib rfl (by decide) _ L _ rfl (own5.alloc _) (some ⟨w5.heap.size, 0, none⟩) 1 1 [_] rfl (rd_new1 _ _ _) (by simp [Value.oneCell']) (by unfold maxLen; omega) (by omega) (by simp; omega) ?_; intro A6 c6 w6 hown6 hgr6)
              rw [nrm_normal]
              gi_wp2
              refine ⟨⟨k + 1, L + 1, A6, c6, by omega, by rw [HBK2.out, List.length_append, HL.out]; rfl, by go_num, rfl, ?_, gb_below (below_alloc (hb.trans ((hb4b.trans (hb5.mono hz4)).mono hzr)) (by omega) _) hgr6 (by simp; omega) (fun g hg => hgb g hg)⟩, by simp [intOf]; omega⟩
              rw [HBK2.out, HGD.out]
              simpa using hown6
          · have hkn : k = Wn := by omega
            rw [hkn] at hown HL
            have hli : ∀ w' : World, Below wr.heap.size wr w' → Calls Try.prog 92 #[.slice A' L c'] w' (Gives w' (.int .i64 (leastL ((24 : Int) :: nbs Wn (lts ts) T y Wn)))) := fun w' hw' => by
              have hL2 : L = ((24 : Int) :: nbs Wn (lts ts) T y Wn).length := by rw [HL.out]; rfl
              have h := own_below hown hw'
              rw [hL2] at h ⊢
              exact least_any A' _ c' w' (own_i64 h) (by rw [← hL2]; omega) (by simp) (own_cap h)
            have HLI := hide hli
            clear hli
            have HSE2 := hide (HSE.out)
            have hyT : y < T.length := by omega
            have HSV := hide (fun v : Int => (show ((T.map (Value.int .i64)).toArray.setIfInBounds y (.int .i64 v)) = ((T.set y v).map (Value.int .i64)).toArray by simp [List.map_set]))
            generalize leastL ((24 : Int) :: nbs Wn (lts ts) T y Wn) = lv at *
            have lz : y < m := hym
            have ty0 := obj_fz tO y
            have hyc := obj_at tO y (.int .i64 T[y]) (by simp [hyT])
            generalize T[y] = ty at *
            clear hkn
            gi_wp2
            refine grow_tail_round 5 (by kernel_rfl) (by kernel_rfl) (by kernel_rfl) ?_
            simp only [List.take_succ_cons, List.take_zero, List.drop_succ_cons, List.drop_zero]
            repeat (go_big_quiet_step ((go_at_call 92; exact Gives.quiet (HLI.out _ (by (repeat (first | exact Below.refl _ _ | assumption | refine below_drewN ?_ _ | refine below_drew ?_ | refine below_gr ?_ ?_ _ | refine below_alloc ?_ ?_ _ | refine Below.setCell ?_ ?_ _ | refine below_step ?_ (by assumption) ?_ | omega | (simp only [zz] at *; omega))))))))
            refine wpQuiet_nil ?_
            intro w5 hb5
            replace hb5 := ex_below hb5
            have hz5 := hb5.size
            have n3 := (hb5.cell (p := ⟨O + 1, 0, none⟩) hs3r).trans t3
            have nO := (hb5.block O hsOr).trans tO
            have ny := (hb5.cell (p := ⟨O, y, none⟩) hsOr).trans hyc
            have nf := obj_fz nO y
            go_wp2
            rw [noOut_normal]
            gi_wp2
            have hb15 : Below W'.heap.size W' w5 := hb.trans (hb5.mono hzr)
            refine ⟨(keepsFrom_below hb15).trans ((KeepsOthers.setCell _ _ _).from _), (Kp.below hb15 (by omega) (by omega)).trans (Kp.setCell _ (by show w.heap.size ≤ O; omega) (by show BB ≠ O; omega) _), ?_, grown_setO (grown_below hg hb15)⟩
            rw [HSN.out, HSE2.out, ← HSV.out]
            exact set_obj nO y _
    case _ => rw [qO]; simp [bdS, HPM.out]
end Go.Proofs.Ytafncmgijbkomaa
namespace Go.Proofs.Ytafncmgijbkomaa
open Go.RowKit Go.Maps Go.Lib
theorem bdS_part {W : Nat} (hW : 0 < W) {ts : List (List Int)} (h : Tm.lettersOk W ts) (ht : Tm.total ts ≤ 24) : ∀ d, d ≤ Tm.prodP ts →
    (∀ n, Tm.prodP ts - d ≤ n → n < Tm.prodP ts → (bdS W ts ((downL (Tm.prodP ts)).take d)).getD n 0 = Tm.bdVal W ts n) ∧ (∀ n, n < Tm.prodP ts - d → (bdS W ts ((downL (Tm.prodP ts)).take d)).getD n 0 = 0)
  | 0, _ => ⟨fun n h1 h2 => by omega, fun n hn => by
      have : n < Tm.prodP ts := by omega
      simp [bdS, List.getD_eq_getElem?_getD, List.getElem?_replicate, this]⟩
  | d + 1, hd => by
    obtain ⟨i1, i2⟩ := bdS_part hW h ht d (by omega)
    obtain ⟨k, hk⟩ : ∃ k, Tm.prodP ts - (d + 1) = k := ⟨_, rfl⟩
    have hkM : k < Tm.prodP ts := by omega
    have hs := downL_take (Tm.prodP ts) k hkM
    rw [show Tm.prodP ts - k = d + 1 by omega, show Tm.prodP ts - (k + 1) = d by omega] at hs
    have hl := (bdS_rng W ts ((downL (Tm.prodP ts)).take d)).1
    rw [hs, bdS_snoc, Nat.mod_eq_of_lt hkM, hk]
    generalize bdS W ts ((downL (Tm.prodP ts)).take d) = T at *
    unfold bdStep
    by_cases he : Tm.placeP ts k = Tm.lastPl ts
    · rw [if_pos he]
      refine ⟨fun n h1 h2 => ?_, fun n hn => i2 n (by omega)⟩
      rcases Nat.lt_or_ge k n with h3 | h3
      · exact i1 n (by omega) h2
      · rw [show n = k by omega, i2 k (by omega), Tm.bd_last hW h hkM he]
    · rw [if_neg he]
      refine ⟨fun n h1 h2 => ?_, fun n hn => ?_⟩
      · rcases Nat.lt_or_ge k n with h3 | h3
        · rw [List.getD_eq_getElem?_getD, List.getElem?_set_ne (by omega), ← List.getD_eq_getElem?_getD]
          exact i1 n (by omega) h2
        · rw [show n = k by omega, List.getD_eq_getElem?_getD, List.getElem?_set_self (by omega)]
          exact Tm.bd_step hW h ht hkM he T (fun n h1 h2 => i1 n (by omega) h2)
      · rw [List.getD_eq_getElem?_getD, List.getElem?_set_ne (by omega), ← List.getD_eq_getElem?_getD]
        exact i2 n (by omega)
/-- how few impulses what is left at each place needs -/
def bdsL (W : Nat) (ts : List (List Int)) : List Int := (List.range (Tm.prodP ts)).map (Tm.bdVal W ts)
theorem bdsL_len (W : Nat) (ts : List (List Int)) : (bdsL W ts).length = Tm.prodP ts := by simp [bdsL]
theorem bdS_val {W : Nat} (hW : 0 < W) {ts : List (List Int)} (h : Tm.lettersOk W ts) (ht : Tm.total ts ≤ 24) : bdS W ts (downL (Tm.prodP ts)) = bdsL W ts := by
  have h1 := (bdS_part hW h ht (Tm.prodP ts) (Nat.le_refl _)).1
  rw [List.take_of_length_le (by rw [downL_len]; exact Nat.le_refl _)] at h1
  have hl := (bdS_rng W ts (downL (Tm.prodP ts))).1
  apply List.ext_getElem
  · rw [hl, bdsL_len]
  · intro n h2 h3
    have h4 := h1 n (by omega) (by omega)
    rw [List.getD_eq_getElem?_getD, List.getElem?_eq_getElem h2] at h4
    simp only [Option.getD_some] at h4
    rw [h4]
    simp [bdsL]
theorem small_total {ts : List ByteArray} (hs : Small ts) (h3 : ts.length ≤ 3) : Tm.total (lts ts) ≤ 24 := by
  have key : ∀ l : List ByteArray, (∀ s, s ∈ l → s.size ≤ 8) → Tm.total (lts l) ≤ 8 * l.length := fun l => by
    induction l with
    | nil => intro _; simp [lts, Tm.total]
    | cons a l ih =>
      intro h
      have h1 := ih (fun s hs => h s (by simp [hs]))
      have h2 := h a (by simp)
      unfold Tm.total lts at h1 ⊢
      simp only [List.map_cons, List.sum_cons, List.length_cons, lt_len]
      omega
  have := key ts (fun s hs' => by obtain ⟨k, hk, rfl⟩ := List.getElem_of_mem hs'; exact hs k hk)
  omega
theorem bdsL_zero {W : Nat} {ts : List (List Int)} : ∃ h : 0 < (bdsL W ts).length, (bdsL W ts)[0] = (Tm.fewN W ts : Nat) := by
  have hp := Tm.prod_pos ts
  refine ⟨by rw [bdsL_len]; exact hp, ?_⟩
  have h0 := Tm.place_idx (Tm.zero_is ts)
  rw [Tm.idx_zero] at h0
  simp only [bdsL, List.getElem_map, List.getElem_range, Tm.bdVal]
  rw [h0, Tm.rem_zero]
theorem bounds_val {W : Int} {ts : List ByteArray} (hc : chkSet W ts = 0) (A : Option Addr) (cap : Nat) : ∀ (R : Nat) (w : World), ReelAt w R W A ts cap → Strs w A ts → Calls Try.prog 64 #[.pointer (some ⟨R, 0, none⟩)] w (GivesInts w (bdsL W.toNat (lts ts))) := fun R w hR hA => by
  obtain ⟨hW1, hW2, h0, h3, hs, hf, _, hlo⟩ := chk_val hc
  obtain ⟨Wn, rfl⟩ : ∃ Wn : Nat, W = (Wn : Nat) := ⟨W.toNat, by omega⟩
  have := bounds_any R Wn A ts cap w hR hA h3 hf hs (by omega)
  rw [Int.toNat_natCast] at hlo ⊢
  rwa [bdS_val (by omega) hlo (small_total hs h3)] at this
/-- the fewest impulses, or the error -/
def fewR (W : Int) (ts : List ByteArray) : Int × Int := if chkSet W ts ≠ 0 then (0, chkSet W ts) else (((Tm.fewN W.toNat (lts ts) : Nat) : Int), 0)
set_option maxRecDepth 100000 in
set_option maxHeartbeats 1000000 in
theorem Fewest_any (W : Int) (A : Option Addr) (ts : List ByteArray) (c : Nat) (w : World) (hA : Strs w A ts) (hl : ts.length ≤ 1000) (hsz : ∀ k, (h : k < ts.length) → ts[k].size ≤ 1000000) : Calls Try.prog 23 #[.agg #[.int .i64 W, .slice A ts.length c]] w (Gives w (tup2V (fewR W ts))) := by
  by_cases hc : chkSet W ts = 0
  · have h1 : (chkSet W ts != 0) = false := by simp [hc]
    have HBD := hide (bounds_val hc A c)
    rw [show fewR W ts = (((Tm.fewN W.toNat (lts ts) : Nat) : Int), 0) by simp [fewR, hc]]
    unfold tup2V
    obtain ⟨hl0, hv0⟩ := bdsL_zero (W := W.toNat) (ts := lts ts)
    have HV0 := hide hv0
    clear hv0
    generalize bdsL W.toNat (lts ts) = L at *
    replace hc := hide hc
    go_enter Try.func23, Try.ntmps23
    go_wp2_with (first
    | (go_at_call 21; refine (checkSet_any W A ts c _ (hA.ext (by (repeat (first | exact Below.refl _ _ | assumption | refine below_drewN ?_ _ | refine below_drew ?_ | refine below_gr ?_ ?_ _ | refine below_alloc ?_ ?_ _ | refine Below.setCell ?_ ?_ _ | refine below_step ?_ (by assumption) ?_ | omega | (simp only [zz] at *; omega))))) hl hsz).mono ?_; rintro e w1 ⟨rfl, hb1⟩; replace hb1 := ex_below hb1; have hz1 := hb1.size; (try simp only [zz] at hz1); have hlt1 : ∀ b, b < w.heap.size → b < w1.heap.size := fun b hb => (by (first | omega | (simp only [zz] at *; omega))); have hc1 : ∀ b o, b < w.heap.size → w1.cell? ⟨b, o, none⟩ = w.cell? ⟨b, o, none⟩ := old_cell (by (repeat (first | exact Below.refl _ _ | assumption | refine below_drewN ?_ _ | refine below_drew ?_ | refine below_gr ?_ ?_ _ | refine below_alloc ?_ ?_ _ | refine Below.setCell ?_ ?_ _ | refine below_step ?_ (by assumption) ?_ | omega | (simp only [zz] at *; omega)))); have hs1a : w.heap.size < w1.heap.size := (by (first | omega | (simp only [zz] at *; omega))); have ho1a := own_cell hb1 (b := w.heap.size) (by (first | omega | (simp only [zz] at *; omega))); have hq1a := own_frozen hb1 (b := w.heap.size) (by (first | omega | (simp only [zz] at *; omega))))
    | (go_at_call 55; refine (newReel_any W A ts c _ (hA.ext (by (repeat (first | exact Below.refl _ _ | assumption | refine below_drewN ?_ _ | refine below_drew ?_ | refine below_gr ?_ ?_ _ | refine below_alloc ?_ ?_ _ | refine Below.setCell ?_ ?_ _ | refine below_step ?_ (by assumption) ?_ | omega | (simp only [zz] at *; omega)))))).mono ?_; rintro e w4 ⟨R, M, rfl, hb4, hR0, hM0, hR4⟩; have hz4 := hb4.size)
    | (go_at_call 64; refine (HBD.out R _ (hR4.rat.ext (by (repeat (first | exact Below.refl _ _ | assumption | refine below_drewN ?_ _ | refine below_drew ?_ | refine below_gr ?_ ?_ _ | refine below_alloc ?_ ?_ _ | refine Below.setCell ?_ ?_ _ | refine below_step ?_ (by assumption) ?_ | omega | (simp only [zz] at *; omega))))) (hA.ext (by (repeat (first | exact Below.refl _ _ | assumption | refine below_drewN ?_ _ | refine below_drew ?_ | refine below_gr ?_ ?_ _ | refine below_alloc ?_ ?_ _ | refine Below.setCell ?_ ?_ _ | refine below_step ?_ (by assumption) ?_ | omega | (simp only [zz] at *; omega)))))).mono ?_; rintro e w5 ⟨A5, c5, rfl, hb5, hI5⟩; replace hb5 := hb5.below; have hz5 := hb5.size; obtain ⟨lb, lo5, rfl, hlb⟩ := hI5.form hl0; have c0 := hI5.at hl0; rw [HV0.out, Nat.add_zero] at c0))

    go_ret2
    exact gives_of (rfl) (by (repeat (first | exact Below.refl _ _ | assumption | refine below_drewN ?_ _ | refine below_drew ?_ | refine below_gr ?_ ?_ _ | refine below_alloc ?_ ?_ _ | refine Below.setCell ?_ ?_ _ | refine below_step ?_ (by assumption) ?_ | omega | (simp only [zz] at *; omega))))
  · have h1 : (chkSet W ts != 0) = true := by simp [hc]
    rw [show fewR W ts = (0, chkSet W ts) by simp [fewR, hc]]
    unfold tup2V
    replace hc := hide hc
    go_enter Try.func23, Try.ntmps23
    go_wp2_with (first
    | (go_at_call 21; refine (checkSet_any W A ts c _ (hA.ext (by (repeat (first | exact Below.refl _ _ | assumption | refine below_drewN ?_ _ | refine below_drew ?_ | refine below_gr ?_ ?_ _ | refine below_alloc ?_ ?_ _ | refine Below.setCell ?_ ?_ _ | refine below_step ?_ (by assumption) ?_ | omega | (simp only [zz] at *; omega))))) hl hsz).mono ?_; rintro e w1 ⟨rfl, hb1⟩; replace hb1 := ex_below hb1; have hz1 := hb1.size; (try simp only [zz] at hz1); have hlt1 : ∀ b, b < w.heap.size → b < w1.heap.size := fun b hb => (by (first | omega | (simp only [zz] at *; omega))); have hc1 : ∀ b o, b < w.heap.size → w1.cell? ⟨b, o, none⟩ = w.cell? ⟨b, o, none⟩ := old_cell (by (repeat (first | exact Below.refl _ _ | assumption | refine below_drewN ?_ _ | refine below_drew ?_ | refine below_gr ?_ ?_ _ | refine below_alloc ?_ ?_ _ | refine Below.setCell ?_ ?_ _ | refine below_step ?_ (by assumption) ?_ | omega | (simp only [zz] at *; omega)))); have hs1a : w.heap.size < w1.heap.size := (by (first | omega | (simp only [zz] at *; omega))); have ho1a := own_cell hb1 (b := w.heap.size) (by (first | omega | (simp only [zz] at *; omega))); have hq1a := own_frozen hb1 (b := w.heap.size) (by (first | omega | (simp only [zz] at *; omega)))))

    go_ret2
    exact gives_of (rfl) (by (repeat (first | exact Below.refl _ _ | assumption | refine below_drewN ?_ _ | refine below_drew ?_ | refine below_gr ?_ ?_ _ | refine below_alloc ?_ ?_ _ | refine Below.setCell ?_ ?_ _ | refine below_step ?_ (by assumption) ?_ | omega | (simp only [zz] at *; omega))))
theorem copy_new (X : World) (L : List Int) (b o c : Nat) (ty : TypeId) (hI : I64 X (some ⟨b, o, none⟩) L) : (Builtin.copy_ #[32, 32] ty #[.slice (some ⟨X.heap.size, 0, none⟩) L.length L.length, .slice (some ⟨b, o, none⟩) L.length c]).run Try.prog (X.alloc (.cells (Array.replicate L.length (.int .i64 0)) 3)) =
    .ok (goInt L.length) (X.alloc (.cells (L.map (Value.int .i64)).toArray 3)) := by
  obtain ⟨i0, ih, iz, is, ib⟩ := info_parts infoI
  have h := run_copy_row (P := Try.prog) (X.alloc (.cells (Array.replicate L.length (.int .i64 0)) 3)) 32 32 ty 3 X.heap.size 0 L.length L.length ⟨b, o, none⟩ L.length c (Array.replicate L.length (.int .i64 0)) 3 (L.map (Value.int .i64)) und32 (by rw [ih]; simp [is]) (heap_alloc_new X _) (by simp)
    (fun j v hj => by
      rw [List.getElem?_map] at hj
      obtain ⟨x, hx, rfl⟩ := Option.map_eq_some_iff.1 hj
      have hjl : j < L.length := (List.getElem?_eq_some_iff.1 hx).1
      have := hI.at hjl
      rw [add_none]
      refine cell?_alloc_some _ ?_
      rw [this]
      rw [List.getElem?_eq_getElem hjl] at hx
      rw [Option.some.inj hx]) (by simp) (fun v hv => by obtain ⟨x, _, rfl⟩ := List.mem_map.1 hv; rfl)
  rw [h, World.setRow_alloc_new]
  simp
/-- a table, or the error -/
def tblR (W : Int) (ts : List ByteArray) : List Int × Int := if chkSet W ts ≠ 0 then ([], chkSet W ts) else (bdsL W.toNat (lts ts), 0)
def GivesIntsE (w : World) (q : List Int × Int) (e : Ending) (w' : World) : Prop := ∃ A' c', e = .returned (.tuple #[.slice A' q.1.length c', .int .i64 q.2]) ∧ Grew w w' ∧ I64 w' A' q.1 ∧ q.1.length ≤ c'
set_option maxRecDepth 100000 in
set_option maxHeartbeats 1000000 in
theorem Table_any (W : Int) (A : Option Addr) (ts : List ByteArray) (c : Nat) (w : World) (hA : Strs w A ts) (hl : ts.length ≤ 1000) (hsz : ∀ k, (h : k < ts.length) → ts[k].size ≤ 1000000) : Calls Try.prog 29 #[.agg #[.int .i64 W, .slice A ts.length c]] w (GivesIntsE w (tblR W ts)) := by
  by_cases hc : chkSet W ts = 0
  · have h1 : (chkSet W ts != 0) = false := by simp [hc]
    have HBD := hide (bounds_val hc A c)
    have hm9 := prodP_small ts (chk_val hc).2.2.2.2.1 (chk_val hc).2.2.2.1
    rw [← bdsL_len W.toNat (lts ts)] at hm9
    rw [show tblR W ts = (bdsL W.toNat (lts ts), 0) by simp [tblR, hc]]
    unfold GivesIntsE
    obtain ⟨hl0, _⟩ := bdsL_zero (W := W.toNat) (ts := lts ts)
    generalize bdsL W.toNat (lts ts) = L at *
    replace hc := hide hc
    obtain ⟨i0, ih, iz, is, ib⟩ := info_parts infoI
    have hmk := make_zeros L.length 32 3 i0 (.int .i64 0) und32 ih iz is (by rw [ib]; decide) rfl (by omega)
    go_enter Try.func29, Try.ntmps29
    go_wp2_with (first
    | (go_at_call 21; refine (checkSet_any W A ts c _ (hA.ext (by (repeat (first | exact Below.refl _ _ | assumption | refine below_drewN ?_ _ | refine below_drew ?_ | refine below_gr ?_ ?_ _ | refine below_alloc ?_ ?_ _ | refine Below.setCell ?_ ?_ _ | refine below_step ?_ (by assumption) ?_ | omega | (simp only [zz] at *; omega))))) hl hsz).mono ?_; rintro e w1 ⟨rfl, hb1⟩; replace hb1 := ex_below hb1; have hz1 := hb1.size; (try simp only [zz] at hz1); have hlt1 : ∀ b, b < w.heap.size → b < w1.heap.size := fun b hb => (by (first | omega | (simp only [zz] at *; omega))); have hc1 : ∀ b o, b < w.heap.size → w1.cell? ⟨b, o, none⟩ = w.cell? ⟨b, o, none⟩ := old_cell (by (repeat (first | exact Below.refl _ _ | assumption | refine below_drewN ?_ _ | refine below_drew ?_ | refine below_gr ?_ ?_ _ | refine below_alloc ?_ ?_ _ | refine Below.setCell ?_ ?_ _ | refine below_step ?_ (by assumption) ?_ | omega | (simp only [zz] at *; omega)))); have hs1a : w.heap.size < w1.heap.size := (by (first | omega | (simp only [zz] at *; omega))); have ho1a := own_cell hb1 (b := w.heap.size) (by (first | omega | (simp only [zz] at *; omega))); have hq1a := own_frozen hb1 (b := w.heap.size) (by (first | omega | (simp only [zz] at *; omega))))
    | (go_at_call 55; refine (newReel_any W A ts c _ (hA.ext (by (repeat (first | exact Below.refl _ _ | assumption | refine below_drewN ?_ _ | refine below_drew ?_ | refine below_gr ?_ ?_ _ | refine below_alloc ?_ ?_ _ | refine Below.setCell ?_ ?_ _ | refine below_step ?_ (by assumption) ?_ | omega | (simp only [zz] at *; omega)))))).mono ?_; rintro e w4 ⟨R, M, rfl, hb4, hR0, hM0, hR4⟩; have hz4 := hb4.size)
    | (go_at_call 64; refine (HBD.out R _ (hR4.rat.ext (by (repeat (first | exact Below.refl _ _ | assumption | refine below_drewN ?_ _ | refine below_drew ?_ | refine below_gr ?_ ?_ _ | refine below_alloc ?_ ?_ _ | refine Below.setCell ?_ ?_ _ | refine below_step ?_ (by assumption) ?_ | omega | (simp only [zz] at *; omega))))) (hA.ext (by (repeat (first | exact Below.refl _ _ | assumption | refine below_drewN ?_ _ | refine below_drew ?_ | refine below_gr ?_ ?_ _ | refine below_alloc ?_ ?_ _ | refine Below.setCell ?_ ?_ _ | refine below_step ?_ (by assumption) ?_ | omega | (simp only [zz] at *; omega)))))).mono ?_; rintro e w5 ⟨A5, c5, rfl, hb5, hI5⟩; replace hb5 := hb5.below; have hz5 := hb5.size; obtain ⟨lb, lo5, rfl, hlb⟩ := hI5.form hl0; have hcp := copy_new w5 L lb lo5 c5 3 hI5))

    go_ret2
    refine ⟨_, _, rfl, grew_of (by (repeat (first | exact Below.refl _ _ | assumption | refine below_drewN ?_ _ | refine below_drew ?_ | refine below_gr ?_ ?_ _ | refine below_alloc ?_ ?_ _ | refine Below.setCell ?_ ?_ _ | refine below_step ?_ (by assumption) ?_ | omega | (simp only [zz] at *; omega)))), i64_block (heap_alloc_new w5 _), Nat.le_refl _⟩
  · have h1 : (chkSet W ts != 0) = true := by simp [hc]
    rw [show tblR W ts = ([], chkSet W ts) by simp [tblR, hc]]
    unfold GivesIntsE
    replace hc := hide hc
    go_enter Try.func29, Try.ntmps29
    go_wp2_with (first
    | (go_at_call 21; refine (checkSet_any W A ts c _ (hA.ext (by (repeat (first | exact Below.refl _ _ | assumption | refine below_drewN ?_ _ | refine below_drew ?_ | refine below_gr ?_ ?_ _ | refine below_alloc ?_ ?_ _ | refine Below.setCell ?_ ?_ _ | refine below_step ?_ (by assumption) ?_ | omega | (simp only [zz] at *; omega))))) hl hsz).mono ?_; rintro e w1 ⟨rfl, hb1⟩; replace hb1 := ex_below hb1; have hz1 := hb1.size; (try simp only [zz] at hz1); have hlt1 : ∀ b, b < w.heap.size → b < w1.heap.size := fun b hb => (by (first | omega | (simp only [zz] at *; omega))); have hc1 : ∀ b o, b < w.heap.size → w1.cell? ⟨b, o, none⟩ = w.cell? ⟨b, o, none⟩ := old_cell (by (repeat (first | exact Below.refl _ _ | assumption | refine below_drewN ?_ _ | refine below_drew ?_ | refine below_gr ?_ ?_ _ | refine below_alloc ?_ ?_ _ | refine Below.setCell ?_ ?_ _ | refine below_step ?_ (by assumption) ?_ | omega | (simp only [zz] at *; omega)))); have hs1a : w.heap.size < w1.heap.size := (by (first | omega | (simp only [zz] at *; omega))); have ho1a := own_cell hb1 (b := w.heap.size) (by (first | omega | (simp only [zz] at *; omega))); have hq1a := own_frozen hb1 (b := w.heap.size) (by (first | omega | (simp only [zz] at *; omega)))))

    go_ret2
    exact ⟨none, 0, rfl, grew_of (by (repeat (first | exact Below.refl _ _ | assumption | refine below_drewN ?_ _ | refine below_drew ?_ | refine below_gr ?_ ?_ _ | refine below_alloc ?_ ?_ _ | refine Below.setCell ?_ ?_ _ | refine below_step ?_ (by assumption) ?_ | omega | (simp only [zz] at *; omega)))), fun k x hk => (by cases hk), Nat.le_refl _⟩
end Go.Proofs.Ytafncmgijbkomaa
