/- Proved here: the longest common string, a part of the proofs about the tape laws. Conditions: those that each theorem names, no others. -/
import Derived.Test.YtafncmgijbkomaaP15
import Derived.WalkKit
import Derived.WalkSpells
import Derived.WalkLawsBesides
import Derived.Below
import Derived.Deep.QuietTactic
import Derived.BigQuiet
import Derived.Deep.Light
import Derived.Deep.RegionHeld3
set_option linter.unusedSimpArgs false
set_option linter.unusedVariables false
namespace Go.Proofs.Ytafncmgijbkomaa
open Go.RowKit Go.Maps Go.Shelf Go.Lib
attribute [local go_sem] Oper.semAt_some
/-! the longest common string, place by place -/
def cmC (ts : List (List Int)) (y : Nat) (T : List ByteArray) (c : Nat) : List ByteArray :=
  if aftOk ts (Tm.placeP ts y) (c : Nat) = true then (if (T.getD y ⟨#[]⟩).size < (unlt [((c : Nat) : Int)] ++ T.getD (Tm.idxP ts (aftPl ts (Tm.placeP ts y) (c : Nat)) 0) ⟨#[]⟩).size then T.set y (unlt [((c : Nat) : Int)] ++ T.getD (Tm.idxP ts (aftPl ts (Tm.placeP ts y) (c : Nat)) 0) ⟨#[]⟩) else T) else T
def cmF (ts : List (List Int)) (y : Nat) (T : List ByteArray) (k : Nat) : List ByteArray := (List.range k).foldl (cmC ts y) T
def cmS (W : Nat) (ts : List (List Int)) (pre : List Nat) : List ByteArray := pre.foldl (fun T x => cmF ts (x % Tm.prodP ts) T W) (List.replicate (Tm.prodP ts) ⟨#[]⟩)
theorem held_roundN {P : Program} {ops : Array Oper} {Q : Exit → Act → World → Prop} {l n : Nat} {S : World → Prop} {id : Nat} {a : Act} {w : World} (hnd : noDefer ops = true) (hm : P.follows .mixedOrders = true) (hS : S w.drew)
    (h : S w.drew → wpAnyH P .any ops (nrm Q) S ops.size (Array.replicate ops.size false) a w.drew) : (Code.region id ops true).wpIn (Fence.wide.inRound l) n P Q a w :=
  region_roundN hnd hm (wpAny_of_held _ _ _ _ (h hS))
theorem conv1 (Y : World) (k b : Nat) (hk : k < 5) (hY : Y.cell? ⟨b, 0, none⟩ = some (.int .u8 (97 + (k : Int)))) (hb : b < Y.heap.size) : (convert 57 9 (.slice (some ⟨b, 0, none⟩) 1 1)).run Try.prog Y = .ok (.string (unlt [((k : Nat) : Int)])) Y := by
  have h := back_bytes (W := Y) (A := some ⟨b, 0, none⟩) (c := 1) (l := [((k : Nat) : Int)]) (by
    refine ⟨rfl, fun _ => ⟨b, 0, rfl, hb, fun j u hu => ?_⟩⟩
    have hj : j = 0 := by
      have := (List.getElem?_eq_some_iff.1 hu).1
      simpa using this
    subst hj
    simp at hu
    rw [← hu]
    show Y.cell? ⟨b, 0, none⟩ = some (.int .u8 ((k : Int) + 97))
    rw [hY]
    congr 2
    omega) (by simp; omega) (by simp)
  simpa using h
theorem keepB {w w' : World} (hb : Below w.heap.size w w') {b o : Nat} {v : Value} (h : w.cell? ⟨b, o, none⟩ = some v) : w'.cell? ⟨b, o, none⟩ = some v :=
  (hb.cell (p := ⟨b, o, none⟩) (World.block_lt_of_cell? w _ h)).trans h
theorem cmS_snoc (W : Nat) (ts : List (List Int)) (pre : List Nat) (x : Nat) : cmS W ts (pre ++ [x]) = cmF ts (x % Tm.prodP ts) (cmS W ts pre) W := by simp [cmS]
theorem cmF_succ (ts : List (List Int)) (y : Nat) (T : List ByteArray) (k : Nat) : cmF ts y T (k + 1) = cmC ts y (cmF ts y T k) k := by simp [cmF, List.range_succ]
def SzB (T : List ByteArray) (b : Nat) : Prop := ∀ s, s ∈ T → s.size ≤ b
theorem SzB.getD {T : List ByteArray} {b : Nat} (h : SzB T b) (j : Nat) : (T.getD j ⟨#[]⟩).size ≤ b := by
  rw [List.getD_eq_getElem?_getD]
  cases hj : T[j]? with
  | none => simp [ByteArray.size]
  | some v => exact h v (List.mem_of_getElem? hj)
theorem unlt1_size (c : Nat) (t : ByteArray) : (unlt [((c : Nat) : Int)] ++ t).size = t.size + 1 := by
  rw [ByteArray.size_append, unlt_size]; simp; omega
theorem cmC_rng {ts : List (List Int)} {y : Nat} {T : List ByteArray} {b : Nat} (h : SzB T b) (c : Nat) : (cmC ts y T c).length = T.length ∧ SzB (cmC ts y T c) (b + 1) := by
  have h1 : SzB T (b + 1) := fun s hs => Nat.le_succ_of_le (h s hs)
  unfold cmC
  split
  · split
    · refine ⟨by rw [List.length_set], fun s hs => ?_⟩
      rcases List.mem_or_eq_of_mem_set hs with hs | rfl
      · exact h1 s hs
      · rw [unlt1_size]; have := h.getD (Tm.idxP ts (aftPl ts (Tm.placeP ts y) (c : Nat)) 0); omega
    · exact ⟨rfl, h1⟩
  · exact ⟨rfl, h1⟩
theorem cmF_rng {ts : List (List Int)} {y : Nat} {T : List ByteArray} {b : Nat} (h : SzB T b) (k : Nat) : (cmF ts y T k).length = T.length ∧ SzB (cmF ts y T k) (b + k) := by
  induction k with
  | zero => exact ⟨rfl, h⟩
  | succ k ih =>
    rw [cmF_succ]
    have := cmC_rng (ts := ts) (y := y) ih.2 k
    exact ⟨this.1.trans ih.1, this.2⟩
theorem cmS_rng (W : Nat) (ts : List (List Int)) (pre : List Nat) : (cmS W ts pre).length = Tm.prodP ts ∧ SzB (cmS W ts pre) (pre.length * W) := by
  unfold cmS
  have key : ∀ (l : List Nat) (T : List ByteArray) (b : Nat), T.length = Tm.prodP ts → SzB T b → (l.foldl (fun T x => cmF ts (x % Tm.prodP ts) T W) T).length = Tm.prodP ts ∧ SzB (l.foldl (fun T x => cmF ts (x % Tm.prodP ts) T W) T) (b + l.length * W) := fun l => by
    induction l with
    | nil => intro T b h1 h2; simpa using ⟨h1, h2⟩
    | cons a l ih =>
      intro T b h1 h2
      have h3 := cmF_rng (ts := ts) (y := a % Tm.prodP ts) h2 W
      have := ih _ _ (h3.1.trans h1) h3.2
      simp only [List.foldl_cons, List.length_cons]
      rw [show b + (l.length + 1) * W = b + W + l.length * W by rw [Nat.add_mul]; omega]
      exact this
  have := key pre (List.replicate (Tm.prodP ts) ⟨#[]⟩) 0 (by simp) (fun s hs => by rw [List.eq_of_mem_replicate hs]; simp [ByteArray.size])
  simpa using this
set_option maxRecDepth 100000 in
set_option maxHeartbeats 4000000 in
theorem common_any (R : Nat) (Wn : Nat) (A : Option Addr) (ts : List ByteArray) (cap : Nat) (w : World) (hR : ReelAt w R (Wn : Nat) A ts cap) (hA : Strs w A ts) (h3 : ts.length ≤ 3) (hf : Fine ts) (hs : Small ts) (hW5 : Wn ≤ 5) : Calls Try.prog 66 #[.pointer (some ⟨R, 0, none⟩)] w (Gives w (.string ((cmS Wn (lts ts) (downL (Tm.prodP (lts ts)))).getD 0 ⟨#[]⟩))) := by
  have HMA := hide (fun (w' : World) (hR : ReelAt w' R (Wn : Nat) A ts cap) (hA : Strs w' A ts) => many_any R (Wn : Nat) A ts cap w' hR hA h3 hf hs)
  have hpp := Tm.prod_pos (lts ts)
  have hm9 := prodP_small ts hs h3
  obtain ⟨m, hm⟩ : ∃ m, Tm.prodP (lts ts) = m := ⟨_, rfl⟩
  have HPM := hide hm
  rw [hm] at HMA hpp hm9 ⊢
  clear hm
  obtain ⟨i0, ih, iz, is, ib⟩ := info_parts infoS
  have hmk := make_zeros m 22 9 i0 (.string ⟨#[]⟩) und22 ih iz is (by rw [ib]; decide) rfl (by omega)
  refine (callsIn_wide (n := 8)).1 ?_
  have h18 : 1 ≤ 8 := by omega
  refine callsIn_of_wp_marks Try.func66 rfl trivial ?_ rfl
  simp only [Try.ntmps66, List.size_toArray, List.length_cons, List.length_nil, Nat.reduceAdd, Nat.reduceSub, Array.replicate_succ, Array.replicate_zero, List.push_toArray, List.append_toArray, List.nil_append, List.cons_append]
  refine wpIn_wide.2 ?_
  go_wp2_with (first
    | (go_at_call 68; refine (HMA.out _ (hR.ext (by (repeat (first | exact Below.refl _ _ | assumption | refine below_drewN ?_ _ | refine below_drew ?_ | refine below_gr ?_ ?_ _ | refine below_alloc ?_ ?_ _ | refine Below.setCell ?_ ?_ _ | refine below_step ?_ (by assumption) ?_ | omega | (simp only [zz] at *; omega))))) (hA.ext (by (repeat (first | exact Below.refl _ _ | assumption | refine below_drewN ?_ _ | refine below_drew ?_ | refine below_gr ?_ ?_ _ | refine below_alloc ?_ ?_ _ | refine Below.setCell ?_ ?_ _ | refine below_step ?_ (by assumption) ?_ | omega | (simp only [zz] at *; omega)))))).mono ?_; rintro e w1 ⟨rfl, hb1⟩; replace hb1 := ex_below hb1; have hz1 := hb1.size; (try simp only [zz] at hz1); have hlt1 : ∀ b, b < w.heap.size → b < w1.heap.size := fun b hb => (by (first | omega | (simp only [zz] at *; omega))); have hc1 : ∀ b o, b < w.heap.size → w1.cell? ⟨b, o, none⟩ = w.cell? ⟨b, o, none⟩ := old_cell (by (repeat (first | exact Below.refl _ _ | assumption | refine below_drewN ?_ _ | refine below_drew ?_ | refine below_gr ?_ ?_ _ | refine below_alloc ?_ ?_ _ | refine Below.setCell ?_ ?_ _ | refine below_step ?_ (by assumption) ?_ | omega | (simp only [zz] at *; omega)))); have hs1a : w.heap.size < w1.heap.size := (by (first | omega | (simp only [zz] at *; omega))); have ho1a := own_cell hb1 (b := w.heap.size) (by (first | omega | (simp only [zz] at *; omega))); have hq1a := own_frozen hb1 (b := w.heap.size) (by (first | omega | (simp only [zz] at *; omega))))
    | (go_at_call 69; refine (places_in _ (some ⟨R, 0, none⟩)).mono ?_; rintro e w8 ⟨rfl, rfl⟩))

  have hbw1 : Below w.heap.size w w1 := by (repeat (first | exact Below.refl _ _ | assumption | (refine below_gr ?_ (by (first | omega | (simp only [zz] at *; omega))) _) | (refine below_alloc ?_ (by (first | omega | (simp only [zz] at *; omega))) _) | (refine Below.setCell ?_ (by (first | omega | (simp only [zz] at *; omega))) _) | refine below_drewN ?_ _ | refine below_drew ?_ | (refine below_step ?_ (by assumption) (by (first | omega | (simp only [zz] at *; omega))))))
  have hbW0 : Below w.heap.size w (((w1.alloc (.cells (Array.replicate m (.string ⟨#[]⟩)) 9)).alloc (.cells #[.slice (some ⟨w1.heap.size, 0, none⟩) m m] 22)).alloc (.cells #[.pointer (some ⟨R, 0, none⟩)] 83)) := ((hbw1.alloc (by omega) _).alloc (by simp; omega) _).alloc (by simp; omega) _
  have k1 : w1.cell? ⟨w.heap.size, 0, none⟩ = some (.pointer (some ⟨R, 0, none⟩)) := by rw [ho1a]; exact (Boxed.new w _ _).cell
  have q1 : (((w1.alloc (.cells (Array.replicate m (.string ⟨#[]⟩)) 9)).alloc (.cells #[.slice (some ⟨w1.heap.size, 0, none⟩) m m] 22)).alloc (.cells #[.pointer (some ⟨R, 0, none⟩)] 83)).cell? ⟨w.heap.size, 0, none⟩ = some (.pointer (some ⟨R, 0, none⟩)) := cell?_alloc_some _ (cell?_alloc_some _ (cell?_alloc_some _ k1))
  have qO : (((w1.alloc (.cells (Array.replicate m (.string ⟨#[]⟩)) 9)).alloc (.cells #[.slice (some ⟨w1.heap.size, 0, none⟩) m m] 22)).alloc (.cells #[.pointer (some ⟨R, 0, none⟩)] 83)).heap[w1.heap.size]? = some (.cells (Array.replicate m (.string ⟨#[]⟩)) 9 (0, 0)) := (Below.heap_alloc _ _ _ (by simp; omega)).trans ((Below.heap_alloc _ _ _ (by simp)).trans (heap_alloc_new w1 _))
  have q3 : (((w1.alloc (.cells (Array.replicate m (.string ⟨#[]⟩)) 9)).alloc (.cells #[.slice (some ⟨w1.heap.size, 0, none⟩) m m] 22)).alloc (.cells #[.pointer (some ⟨R, 0, none⟩)] 83)).cell? ⟨w1.heap.size + 1, 0, none⟩ = some (.slice (some ⟨w1.heap.size, 0, none⟩) m m) := by
    have := (Boxed.new (w1.alloc (.cells (Array.replicate m (.string ⟨#[]⟩)) 9)) 22 (.slice (some ⟨w1.heap.size, 0, none⟩) m m)).cell
    rw [World.size_alloc] at this
    exact cell?_alloc_some _ this
  have qB : (((w1.alloc (.cells (Array.replicate m (.string ⟨#[]⟩)) 9)).alloc (.cells #[.slice (some ⟨w1.heap.size, 0, none⟩) m m] 22)).alloc (.cells #[.pointer (some ⟨R, 0, none⟩)] 83)).cell? ⟨w1.heap.size + 1 + 1, 0, none⟩ = some (.pointer (some ⟨R, 0, none⟩)) := by
    have := (Boxed.new ((w1.alloc (.cells (Array.replicate m (.string ⟨#[]⟩)) 9)).alloc (.cells #[.slice (some ⟨w1.heap.size, 0, none⟩) m m] 22)) 83 (.pointer (some ⟨R, 0, none⟩))).cell
    rwa [World.size_alloc, World.size_alloc] at this
  have hsz0 : (((w1.alloc (.cells (Array.replicate m (.string ⟨#[]⟩)) 9)).alloc (.cells #[.slice (some ⟨w1.heap.size, 0, none⟩) m m] 22)).alloc (.cells #[.pointer (some ⟨R, 0, none⟩)] 83)).heap.size = w1.heap.size + 1 + 1 + 1 := by simp
  have hOw : w.heap.size < w1.heap.size := by omega
  obtain ⟨W0, hW0⟩ : ∃ W0, (((w1.alloc (.cells (Array.replicate m (.string ⟨#[]⟩)) 9)).alloc (.cells #[.slice (some ⟨w1.heap.size, 0, none⟩) m m] 22)).alloc (.cells #[.pointer (some ⟨R, 0, none⟩)] 83)) = W0 := ⟨_, rfl⟩
  rw [hW0] at hbW0 q1 q3 qO qB hsz0 ⊢
  clear hW0 hmk ih iz is ib hb1
  clear i0
  generalize w1.heap.size = O at *
  have hR0 := hR.ext hbW0
  have hA0 := hA.ext hbW0
  have hm1 : 1 ≤ 8 - 1 := by omega
  have hm2 : 1 ≤ 8 - 1 - 1 := by omega
  refine (wpIn_wide (n := 8)).1 ?_
  refine wpIn_rangeFunc_ownH rfl h18 (gf := 94) (lb := #[.pointer (some ⟨O + 1 + 1, 0, none⟩)]) rfl trivial (enters_of Try.func94 (by kernel_rfl) rfl)
    (placesM_stops 7 (by omega) (O + 1 + 1) R (Wn : Nat) A ts cap w hR hA h3 hf hs m HPM.out W0 (by omega) (by omega) (fun b hb => hbW0.block b hb) qB) (fun h k => h.trans k) (kp_put (by omega) (by omega)) (Below.refl _ _) (fun _ => rfl)
    (fun pre W' => W'.heap[O]? = some (.cells ((cmS Wn (lts ts) pre).map Value.string).toArray 9 (0, 0)) ∧ W0.grownBy W' (some O))
    (fun _ _ _ => False)
    ?ownI (fun _ _ _ _ _ hs _ _ => hs) ⟨?_, grown_refl _ _⟩
    (fun x a' W' => ∃ Bx, O + 1 + 1 < Bx ∧ W'.heap[Bx]? = some (.cells (plC (Tm.placeP (lts ts) (x % m))) 86 (0, 0)) ∧ a' = { tmps := #[.pointer (some ⟨R, 0, none⟩), .pointer (some ⟨w.heap.size, 0, none⟩), .string ⟨#[]⟩, .pointer (some ⟨O + 1, 0, none⟩), .int .i64 ((x % m : Nat) : Int), .pointer (some ⟨Bx, 0, none⟩), undef, undef, undef, undef, .pointer (some ⟨R, 0, none⟩), .int .i64 (m : Nat), .slice (some ⟨O, 0, none⟩) m m, .pointer (some ⟨R, 0, none⟩), .func (.func 94) #[] #[.pointer (some ⟨O + 1 + 1, 0, none⟩)], .int .i64 ((x % m : Nat) : Int), .agg (plC (Tm.placeP (lts ts) (x % m))), undef, undef, undef, undef, undef, undef, undef, undef, undef, undef, undef, undef, undef, undef, undef, undef, undef, undef, undef, undef, undef, undef, undef, undef, undef, undef, undef, undef, undef, undef, undef, undef, undef, undef, undef, undef, undef, undef, undef, undef, undef, undef, undef, undef, undef], defers := [] })
    ?ownA ?assign ?body ?done ?stop
  case ownI => exact OwnFrom.and (ownFrom_block (by omega)) (ownFrom_grown (Nat.le_refl _))
  case ownA =>
    rintro x a' s X Y row ⟨Bx, h1, h2, h3⟩ hg hr
    exact ⟨Bx, h1, cells_own (β := Unit) Bx _ _ () X Y row h2 hg (fun r e => (hr r e).2), h3⟩
  case assign =>
    rintro l pre x W' K ⟨b1, hBW⟩ hK
    have hz := hBW.size
    generalize x % m = y at *
    unfold encN plV
    unfold plC at *
    generalize (Tm.placeP (lts ts) y).getD 0 0 = p0 at *
    generalize (Tm.placeP (lts ts) y).getD 1 0 = p1 at *
    generalize (Tm.placeP (lts ts) y).getD 2 0 = p2 at *
    gi_wp2
    exact hK _ _ ((KeepsOthers.alloc _ _).from _) (Kp.below ((Below.refl _ W').alloc (Nat.le_refl _) _) (by omega) (by omega)) ⟨(Below.heap_alloc _ _ _ (by omega)).trans b1, grown_below hBW ((Below.refl _ W').alloc (Nat.le_refl _) _)⟩ ⟨W'.heap.size, by omega, heap_alloc_new W' _, rfl⟩
  case stop =>
    rintro D cd pre W' hD _ h _
    exact h.elim
  case done =>
    rintro D xs' W' hD rfl ⟨hO', hg⟩ hK
    have hz := hg.size
    have e3 := (grown_cell hg (b := O + 1) (o := 0) (by omega) (by omega)).trans q3
    have hs3 : O + 1 < W'.heap.size := by omega
    have hBl := (cmS_rng Wn (lts ts) (downL m)).1
    rw [HPM.out] at hBl
    generalize cmS Wn (lts ts) (downL m) = T at *
    have hT0 : 0 < T.length := by omega
    have HTE := hide (show T[0] = T.getD 0 ⟨#[]⟩ by rw [List.getD_eq_getElem?_getD, List.getElem?_eq_getElem hT0]; rfl)
    have e0 := obj_at hO' 0 (.string T[0]) (by simp [hT0])
    generalize T[0] = s0 at *
    have hbX : Below w.heap.size w W' := gb_below hbW0 hg (by omega) (fun k hk => by have := Option.some.inj hk; omega)
    have hsO : O < W'.heap.size := by omega
    go_wp2
    refine ⟨by simp, .inl ⟨_, _, rfl, run_takeDeferred hK, ?_⟩⟩
    exact ⟨.string s0, by simp [results, Try.results66, go_sem], gives_of (by rw [HTE.out]) (hbX.trans (belowK_b (w := w) (Nat.le_refl _) W' D _ _ (by omega) hK rfl rfl))⟩
  case body =>
    rintro l pre x a' W' hll ⟨r, hr⟩ ⟨hO', hg⟩ ⟨Bx, hBx, bX, rfl⟩ hlt
    have hz := hg.size
    have hym : x % m < m := Nat.mod_lt _ hpp
    have hpl := (Tm.place_is (ts := lts ts) (n := x % m) (by rw [HPM.out]; exact hym)).1
    have HSN := hide (cmS_snoc Wn (lts ts) pre x)
    rw [HPM.out] at HSN
    have hrng := cmS_rng Wn (lts ts) pre
    rw [HPM.out] at hrng
    have hTl := hrng.1
    have hsb : pre.length * Wn ≤ 3645 := Nat.le_trans (Nat.mul_le_mul (show pre.length ≤ 729 by omega) hW5) (by omega)
    have HSB := hide hrng.2
    have hBl := (Array.getElem?_eq_some_iff.1 bX).1
    have HAFX := hide (fun (k : Nat) (w' : World) (h : ReelAt w' R (Wn : Nat) A ts cap) (h' : Strs w' A ts) => after_any R (Wn : Nat) A ts cap (Tm.placeP (lts ts) (x % m)) (k : Int) w' h h' h3 hpl hf hs)
    have HIX := hide (fun (k : Nat) (hok : aftOk (lts ts) (Tm.placeP (lts ts) (x % m)) (k : Int) = true) (w' : World) (h : ReelAt w' R (Wn : Nat) A ts cap) (h' : Strs w' A ts) => index_any R (Wn : Nat) A ts cap (aftPl (lts ts) (Tm.placeP (lts ts) (x % m)) (k : Int)) w' h h' h3 (aft_is hpl _ hok) hs)
    have HIL := hide (fun (k : Nat) (hok : aftOk (lts ts) (Tm.placeP (lts ts) (x % m)) (k : Int) = true) => (Tm.idx_lin (aft_is hpl (k : Int) hok) 0).2)
    clear hr hrng
    generalize cmS Wn (lts ts) pre = T at *
    have HCF := hide (fun k => cmF_succ (lts ts) (x % m) T k)
    have HCR := hide (fun k => cmF_rng (ts := lts ts) (y := x % m) HSB.out k)
    have HCC := hide (fun (T : List ByteArray) (c : Nat) => (show cmC (lts ts) (x % m) T c = if aftOk (lts ts) (Tm.placeP (lts ts) (x % m)) (c : Nat) = true then (if (T.getD (x % m) ⟨#[]⟩).size < (unlt [((c : Nat) : Int)] ++ T.getD (Tm.idxP (lts ts) (aftPl (lts ts) (Tm.placeP (lts ts) (x % m)) (c : Nat)) 0) ⟨#[]⟩).size then T.set (x % m) (unlt [((c : Nat) : Int)] ++ T.getD (Tm.idxP (lts ts) (aftPl (lts ts) (Tm.placeP (lts ts) (x % m)) (c : Nat)) 0) ⟨#[]⟩) else T) else T from rfl))
    generalize hy : x % m = y at *
    replace hy := hide hy
    have e1 := (grown_cell hg (b := w.heap.size) (o := 0) (by omega) (by omega)).trans q1
    have e3 := (grown_cell hg (b := O + 1) (o := 0) (by omega) (by omega)).trans q3
    have hbX : Below w.heap.size w W' := gb_below hbW0 hg (by omega) (fun k hk => by have := Option.some.inj hk; omega)
    have rr := hR.ext hbX
    have sr := hA.ext hbX
    have r0 := rr.1
    have rl := rr.2.2
    have hall : plC (Tm.placeP (lts ts) y) = #[.int .i64 ((Tm.placeP (lts ts) y).getD 0 0 : Nat), .int .i64 ((Tm.placeP (lts ts) y).getD 1 0 : Nat), .int .i64 ((Tm.placeP (lts ts) y).getD 2 0 : Nat)] := rfl
    rw [hall] at bX
    have x0 := obj_at bX 0 _ rfl
    have x1 := obj_at bX 1 _ rfl
    have x2 := obj_at bX 2 _ rfl
    have hs1 : w.heap.size < W'.heap.size := by omega
    have hs3 : O + 1 < W'.heap.size := by omega
    generalize hp0 : (Tm.placeP (lts ts) y).getD 0 0 = p0 at *
    generalize hp1 : (Tm.placeP (lts ts) y).getD 1 0 = p1 at *
    generalize hp2 : (Tm.placeP (lts ts) y).getD 2 0 = p2 at *
    have HPP := hide (show plC (Tm.placeP (lts ts) y) = #[.int .i64 (p0 : Nat), .int .i64 (p1 : Nat), .int .i64 (p2 : Nat)] by unfold plC; rw [hp0, hp1, hp2])
    clear hp0 hp1 hp2 hall
    gi_wp2
    gi_loopw [22] (fun i wr => ∃ k : Nat, k ≤ Wn ∧ i = .int .i64 (k : Nat) ∧ wr.heap[O]? = some (.cells ((cmF (lts ts) y T k).map Value.string).toArray 9 (0, 0)) ∧ W'.grownBy wr (some O)) (fun i _ => Wn - (intOf i).toNat)
    case atStart => exact ⟨0, Nat.zero_le _, rfl, hO', grown_refl _ _⟩
    case round =>
      obtain ⟨k, hk, rfl, tO, hgr⟩ := hrel
      have hzr := hgr.size
      have t1 := (grown_cell hgr (b := w.heap.size) (o := 0) (by omega) (by omega)).trans e1
      have t3 := (grown_cell hgr (b := O + 1) (o := 0) (by omega) (by omega)).trans e3
      have y0 := (grown_cell hgr (b := Bx) (o := 0) hBl (by omega)).trans x0
      have y1 := (grown_cell hgr (b := Bx) (o := 1) hBl (by omega)).trans x1
      have y2 := (grown_cell hgr (b := Bx) (o := 2) hBl (by omega)).trans x2
      have hs1r : w.heap.size < wr.heap.size := by omega
      have hs3r : O + 1 < wr.heap.size := by omega
      have hsXr : Bx < wr.heap.size := by omega
      have hsOr : O < wr.heap.size := by omega
      have hbXr : Below w.heap.size w wr := gb_below hbX hgr (by omega) (fun k hk => by have := Option.some.inj hk; omega)
      have rrr := hR.ext hbXr
      have srr := hA.ext hbXr
      by_cases hlt2 : k < Wn
      · have HCFK := hide (HCF.out k)
        obtain ⟨hTk, hTs⟩ := HCR.out k
        generalize cmF (lts ts) y T k = Tk at *
        have hcc := HCC.out Tk k
        have HAF := hide (fun (w' : World) (h : ReelAt w' R (Wn : Nat) A ts cap) (h' : Strs w' A ts) => (HAFX.out k w' h h').mono (R' := fun e w'' => ∃ q0 q1 q2 : Nat, e = .returned (.tuple #[.agg #[.int .i64 (q0 : Nat), .int .i64 (q1 : Nat), .int .i64 (q2 : Nat)], .bool (aftOk (lts ts) (Tm.placeP (lts ts) y) (k : Int))]) ∧ (aftOk (lts ts) (Tm.placeP (lts ts) y) (k : Int) = true → plC (aftPl (lts ts) (Tm.placeP (lts ts) y) (k : Int)) = #[.int .i64 (q0 : Nat), .int .i64 (q1 : Nat), .int .i64 (q2 : Nat)]) ∧ Grew w' w'') (by
          rintro e w'' ⟨q, rfl, hq, hgq⟩
          exact ⟨q.getD 0 0, q.getD 1 0, q.getD 2 0, rfl, fun h => by rw [← hq h]; rfl, hgq⟩))
        unfold plV at HAF
        rw [HPP.out] at HAF
        have HIK := hide (HIX.out k)
        have HJL := hide (HIL.out k)
        have HCK := hide hcc
        clear hcc
        generalize hap : aftPl (lts ts) (Tm.placeP (lts ts) y) (k : Int) = ap at *
        cases hok : aftOk (lts ts) (Tm.placeP (lts ts) y) (k : Int) with
        | false =>
          have hc2 := HCK.out
          rw [hok, if_neg (by simp)] at hc2
          have HC2 := hide hc2
          rw [hok] at HAF
          clear hc2 HCK HIK HJL hok
          gi_wp2_with (refine ⟨trivial, ?_⟩; gi_at_call 93; refine (calls_round (HAF.out _ (rrr.ext (by (repeat (first | exact Below.refl _ _ | assumption | refine below_drewN ?_ _ | refine below_drew ?_ | refine below_gr ?_ ?_ _ | refine below_alloc ?_ ?_ _ | refine Below.setCell ?_ ?_ _ | refine below_step ?_ (by assumption) ?_ | omega | (simp only [zz] at *; omega))))) (srr.ext (by (repeat (first | exact Below.refl _ _ | assumption | refine below_drewN ?_ _ | refine below_drew ?_ | refine below_gr ?_ ?_ _ | refine below_alloc ?_ ?_ _ | refine Below.setCell ?_ ?_ _ | refine below_step ?_ (by assumption) ?_ | omega | (simp only [zz] at *; omega))))))).mono ?_; rintro e w3 ⟨q0, q1, q2, rfl, hq, hb3⟩; replace hb3 := hb3.below; have hz3 := hb3.size; have m3 := (hb3.cell (p := ⟨O + 1, 0, none⟩) hs3r).trans t3; have m1 := (hb3.cell (p := ⟨w.heap.size, 0, none⟩) hs1r).trans t1; have mO := (hb3.block O hsOr).trans tO; have hs33 : O + 1 < w3.heap.size := (by omega); have hs13 : w.heap.size < w3.heap.size := (by omega); have hsO3 : O < w3.heap.size := (by omega))
          refine ⟨⟨k + 1, by omega, by go_num, ?_, grown_below (grown_below hgr hb3) ((Below.refl _ _).alloc (Nat.le_refl _) _)⟩, by simp [intOf]; omega⟩
          rw [HCFK.out, HC2.out]
          exact (Below.heap_alloc _ _ _ (by omega)).trans mO
        | true =>
          have hc2 := HCK.out
          rw [hok, if_pos rfl] at hc2
          have hjm := HJL.out hok
          rw [HPM.out] at hjm
          rw [hok] at HAF
          replace HIK := hide (HIK.out hok)
          generalize Tm.idxP (lts ts) ap 0 = j at *
          have hjl : j < Tk.length := by omega
          have hyl : y < Tk.length := by omega
          have HSJ : Hid (Tk.getD j ⟨#[]⟩ = Tk[j]) := hide (by rw [List.getD_eq_getElem?_getD, List.getElem?_eq_getElem hjl]; rfl)
          have HSY : Hid (Tk.getD y ⟨#[]⟩ = Tk[y]) := hide (by rw [List.getD_eq_getElem?_getD, List.getElem?_eq_getElem hyl]; rfl)
          have hjs := hTs _ (List.getElem_mem hjl)
          have hys := hTs _ (List.getElem_mem hyl)
          rw [HSJ.out, HSY.out] at hc2
          have HTJ : Hid ((Tk.map Value.string).toArray[j]? = some (.string Tk[j])) := hide (by simp [hjl])
          have HTY : Hid ((Tk.map Value.string).toArray[y]? = some (.string Tk[y])) := hide (by simp [hyl])
          have HC2 := hide hc2
          have HSET := hide (fun v : ByteArray => (show ((Tk.map Value.string).toArray.setIfInBounds y (.string v)) = ((Tk.set y v).map Value.string).toArray by simp [List.map_set]))
          generalize Tk[j] = sj at *
          generalize Tk[y] = sy at *
          have hss := unlt1_size k sj
          clear hc2 HCK HSJ HSY hok
          gi_wp2_with (refine ⟨trivial, ?_⟩; gi_at_call 93; refine (calls_round (HAF.out _ (rrr.ext (by (repeat (first | exact Below.refl _ _ | assumption | refine below_drewN ?_ _ | refine below_drew ?_ | refine below_gr ?_ ?_ _ | refine below_alloc ?_ ?_ _ | refine Below.setCell ?_ ?_ _ | refine below_step ?_ (by assumption) ?_ | omega | (simp only [zz] at *; omega))))) (srr.ext (by (repeat (first | exact Below.refl _ _ | assumption | refine below_drewN ?_ _ | refine below_drew ?_ | refine below_gr ?_ ?_ _ | refine below_alloc ?_ ?_ _ | refine Below.setCell ?_ ?_ _ | refine below_step ?_ (by assumption) ?_ | omega | (simp only [zz] at *; omega))))))).mono ?_; rintro e w3 ⟨q0, q1, q2, rfl, hq, hb3⟩; replace hb3 := hb3.below; have hz3 := hb3.size; have m3 := (hb3.cell (p := ⟨O + 1, 0, none⟩) hs3r).trans t3; have m1 := (hb3.cell (p := ⟨w.heap.size, 0, none⟩) hs1r).trans t1; have mO := (hb3.block O hsOr).trans tO; have hs33 : O + 1 < w3.heap.size := (by omega); have hs13 : w.heap.size < w3.heap.size := (by omega); have hsO3 : O < w3.heap.size := (by omega))
          have hqq := hq trivial
          unfold plV at HIK
          rw [hqq] at HIK
          have v3 := cell?_alloc_some (.cells #[.int .i64 (q0 : Nat), .int .i64 (q1 : Nat), .int .i64 (q2 : Nat)] 86) m3
          have v1 := cell?_alloc_some (.cells #[.int .i64 (q0 : Nat), .int .i64 (q1 : Nat), .int .i64 (q2 : Nat)] 86) m1
          have vO : (w3.alloc (.cells #[.int .i64 (q0 : Nat), .int .i64 (q1 : Nat), .int .i64 (q2 : Nat)] 86)).heap[O]? = _ := (Below.heap_alloc _ _ _ (by omega)).trans mO
          have vj := obj_at vO j _ HTJ.out
          have vy := obj_at vO y _ HTY.out
          have vq := heap_alloc_new w3 (.cells #[.int .i64 (q0 : Nat), .int .i64 (q1 : Nat), .int .i64 (q2 : Nat)] 86)
          have u0 := obj_at vq 0 _ rfl
          have u1 := obj_at vq 1 _ rfl
          have u2 := obj_at vq 2 _ rfl
          have hzq : (w3.alloc (.cells #[.int .i64 (q0 : Nat), .int .i64 (q1 : Nat), .int .i64 (q2 : Nat)] 86)).heap.size = w3.heap.size + 1 := by simp
          have hgr4 : W'.grownBy (w3.alloc (.cells #[.int .i64 (q0 : Nat), .int .i64 (q1 : Nat), .int .i64 (q2 : Nat)] 86)) (some O) := grown_below (grown_below hgr hb3) ((Below.refl _ _).alloc (Nat.le_refl _) _)
          have hbX4 : Below w.heap.size w (w3.alloc (.cells #[.int .i64 (q0 : Nat), .int .i64 (q1 : Nat), .int .i64 (q2 : Nat)] 86)) := gb_below hbX hgr4 (by omega) (fun k hk => by have := Option.some.inj hk; omega)
          generalize (w3.alloc (.cells #[.int .i64 (q0 : Nat), .int .i64 (q1 : Nat), .int .i64 (q2 : Nat)] 86)) = W4 at *
          have s3 : O + 1 < W4.heap.size := by omega
          have s1 : w.heap.size < W4.heap.size := by omega
          have sO : O < W4.heap.size := by omega
          have sq : w3.heap.size < W4.heap.size := by omega
          clear m1 m3 mO hs33 hs13 hsO3 vq hb3 hq
          have rr4 := hR.ext hbX4
          have sr4 := hA.ext hbX4
          clear hzq
          generalize w3.heap.size = bq at *
          gi_cut [9] from 62 (fun s9 wx => s9 = .string (unlt [((k : Nat) : Int)] ++ sj) ∧ Below W4.heap.size W4 wx)
          case first =>
            have hk5 : k < 5 := by omega
            have hw1 : IntKind.i64.wrap (97 + (k : Int)) = 97 + (k : Int) := IntWalk.i64_in _ (by omega)
            have hw2 : IntKind.u8.wrap (97 + (k : Int)) = 97 + (k : Int) := by rw [IntKind.wrap_u8]; omega
            have hcat : ¬ (9223372036854775807 < (unlt [((k : Nat) : Int)]).size + sj.size) := by rw [unlt_size]; simp; omega
            refine held_roundN (S := fun w' => w'.cell? ⟨O + 1, 0, none⟩ = some (.slice (some ⟨O, 0, none⟩) m m) ∧ w'.cell? ⟨w.heap.size, 0, none⟩ = some (.pointer (some ⟨R, 0, none⟩)) ∧ w'.cell? ⟨bq, 0, none⟩ = some (.int .i64 (q0 : Nat)) ∧ w'.cell? ⟨bq, 1, none⟩ = some (.int .i64 (q1 : Nat)) ∧ w'.cell? ⟨bq, 2, none⟩ = some (.int .i64 (q2 : Nat)) ∧ w'.cell? ⟨O, j, none⟩ = some (.string sj)) (by kernel_rfl) (by kernel_rfl) ⟨v3, v1, u0, u1, u2, vj⟩ (fun hHeld => ?_)
            refine wpAnyH_take (i := 0) (v := ?_) rfl (by kernel_rfl) (by kernel_rfl) (by kernel_rfl) (fun _ _ _ h => h) (Or.inl ⟨by rfl, ?_⟩) (by assumption) ?_
            rotate_left
            · (intro w hSw; obtain ⟨g1, g2, g3, g4, g5, g6⟩ := hSw; go_simp; try with_reducible rfl)
            (try simp only [Act.put, List.getElem_toArray, List.getElem_cons_zero, List.getElem_cons_succ, List.setIfInBounds_toArray, List.set_cons_zero, List.set_cons_succ])
            refine wpAnyH_take (i := 1) (v := ?_) rfl (by kernel_rfl) (by kernel_rfl) (by kernel_rfl) (fun _ _ _ h => h) (Or.inl ⟨by rfl, ?_⟩) (by assumption) ?_
            rotate_left
            · (intro w hSw; obtain ⟨g1, g2, g3, g4, g5, g6⟩ := hSw; go_simp; try with_reducible rfl)
            (try simp only [Act.put, List.getElem_toArray, List.getElem_cons_zero, List.getElem_cons_succ, List.setIfInBounds_toArray, List.set_cons_zero, List.set_cons_succ])
            refine wpAnyH_take (i := 2) (v := ?_) rfl (by kernel_rfl) (by kernel_rfl) (by kernel_rfl) (fun _ _ _ h => h) (Or.inl ⟨by rfl, ?_⟩) (by assumption) ?_
            rotate_left
            · (intro w hSw; obtain ⟨g1, g2, g3, g4, g5, g6⟩ := hSw; go_simp; try with_reducible rfl)
            (try simp only [Act.put, List.getElem_toArray, List.getElem_cons_zero, List.getElem_cons_succ, List.setIfInBounds_toArray, List.set_cons_zero, List.set_cons_succ])
            refine wpAnyH_take (i := 5) (v := ?_) rfl (by kernel_rfl) (by kernel_rfl) (by kernel_rfl) (fun _ _ _ h => h) (Or.inl ⟨by rfl, ?_⟩) (by assumption) ?_
            rotate_left
            · (intro w hSw; obtain ⟨g1, g2, g3, g4, g5, g6⟩ := hSw; go_simp; try with_reducible rfl)
            (try simp only [Act.put, List.getElem_toArray, List.getElem_cons_zero, List.getElem_cons_succ, List.setIfInBounds_toArray, List.set_cons_zero, List.set_cons_succ])
            refine wpAnyH_take (i := 6) (v := ?_) rfl (by kernel_rfl) (by kernel_rfl) (by kernel_rfl) (fun _ _ _ h => h) (Or.inl ⟨by rfl, ?_⟩) (by assumption) ?_
            rotate_left
            · (intro w hSw; obtain ⟨g1, g2, g3, g4, g5, g6⟩ := hSw; go_simp; try with_reducible rfl)
            (try simp only [Act.put, List.getElem_toArray, List.getElem_cons_zero, List.getElem_cons_succ, List.setIfInBounds_toArray, List.set_cons_zero, List.set_cons_succ])
            refine wpAnyH_take (i := 7) (v := ?_) rfl (by kernel_rfl) (by kernel_rfl) (by kernel_rfl) (fun _ _ _ h => h) (Or.inl ⟨by rfl, ?_⟩) (by assumption) ?_
            rotate_left
            · (intro w hSw; obtain ⟨g1, g2, g3, g4, g5, g6⟩ := hSw; go_simp; try with_reducible rfl)
            (try simp only [Act.put, List.getElem_toArray, List.getElem_cons_zero, List.getElem_cons_succ, List.setIfInBounds_toArray, List.set_cons_zero, List.set_cons_succ])
            refine wpAnyH_ready (rs := [3, 8]) (by kernel_rfl) (by simp) ?_
            refine AllReadyH.cons rfl ?_ ?_
            · intro K' hK
              rw [if_pos (by rfl)]
              go_simp
              refine hK.out _ _ (by exact ⟨cell?_alloc_some _ hHeld.1, cell?_alloc_some _ hHeld.2.1, cell?_alloc_some _ hHeld.2.2.1, cell?_alloc_some _ hHeld.2.2.2.1, cell?_alloc_some _ hHeld.2.2.2.2.1, cell?_alloc_some _ hHeld.2.2.2.2.2⟩) (fun hHeld => ?_)
              clear hK K'
              (try simp only [Act.put, List.getElem_toArray, List.getElem_cons_zero, List.getElem_cons_succ, List.setIfInBounds_toArray, List.set_cons_zero, List.set_cons_succ])
              refine wpAnyH_ready (rs := [4, 8]) (by kernel_rfl) (by simp) ?_
              refine AllReadyH.cons rfl ?_ ?_
              · intro K' hK
                rw [if_pos (by rfl)]
                have hcv := conv1 (W4.alloc (.cells #[.int .u8 (97 + (k : Int))] 5)).drew k W4.heap.size (by omega) ((Boxed.new W4 5 _).cell) (by (first | omega | (simp only [zz]; omega) | (simp only [zz] at *; omega) | (simp; done) | (simp; omega)))
                go_simp
                refine hK.out _ _ (by exact hHeld) (fun hHeld => ?_)
                clear hK K'
                (try simp only [Act.put, List.getElem_toArray, List.getElem_cons_zero, List.getElem_cons_succ, List.setIfInBounds_toArray, List.set_cons_zero, List.set_cons_succ])
                refine wpAnyH_ready (rs := [8]) (by kernel_rfl) (by simp) ?_
                refine AllReadyH.cons rfl ?_ ?_
                · intro K' hK
                  rw [if_pos (by rfl)]
                  go_simp
                  refine (HIK.out _ (rr4.ext (by (repeat (first | exact Below.refl _ _ | assumption | refine below_drewN ?_ _ | refine below_drew ?_ | refine below_gr ?_ ?_ _ | refine below_alloc ?_ ?_ _ | refine Below.setCell ?_ ?_ _ | refine below_step ?_ (by assumption) ?_ | omega | (simp only [zz] at *; omega))))) (sr4.ext (by (repeat (first | exact Below.refl _ _ | assumption | refine below_drewN ?_ _ | refine below_drew ?_ | refine below_gr ?_ ?_ _ | refine below_alloc ?_ ?_ _ | refine Below.setCell ?_ ?_ _ | refine below_step ?_ (by assumption) ?_ | omega | (simp only [zz] at *; omega)))))).mono ?_
                  rintro e w5 ⟨rfl, hb5⟩
                  replace hb5 := ex_below hb5
                  have hz5 := hb5.size
                  (try simp only [World.size_alloc, size_drew, size_drewN] at hz5)
                  dsimp only
                  refine hK.out _ _ (by exact ⟨keepB hb5 hHeld.1, keepB hb5 hHeld.2.1, keepB hb5 hHeld.2.2.1, keepB hb5 hHeld.2.2.2.1, keepB hb5 hHeld.2.2.2.2.1, keepB hb5 hHeld.2.2.2.2.2⟩) (fun hHeld => ?_)
                  clear hK K'
                  (try simp only [Act.put, List.getElem_toArray, List.getElem_cons_zero, List.getElem_cons_succ, List.setIfInBounds_toArray, List.set_cons_zero, List.set_cons_succ])
                  refine wpAnyH_take (i := 9) (v := ?_) rfl (by kernel_rfl) (by kernel_rfl) (by kernel_rfl) (fun _ _ _ h => h) (Or.inl ⟨by rfl, ?_⟩) (by assumption) ?_
                  rotate_left
                  · (intro w hSw; obtain ⟨g1, g2, g3, g4, g5, g6⟩ := hSw; go_simp; try with_reducible rfl)
                  (try simp only [Act.put, List.getElem_toArray, List.getElem_cons_zero, List.getElem_cons_succ, List.setIfInBounds_toArray, List.set_cons_zero, List.set_cons_succ])
                  refine wpAnyH_take (i := 10) (v := ?_) rfl (by kernel_rfl) (by kernel_rfl) (by kernel_rfl) (fun _ _ _ h => h) (Or.inl ⟨by rfl, ?_⟩) (by assumption) ?_
                  rotate_left
                  · (intro w hSw; obtain ⟨g1, g2, g3, g4, g5, g6⟩ := hSw; go_simp; try with_reducible rfl)
                  (try simp only [Act.put, List.getElem_toArray, List.getElem_cons_zero, List.getElem_cons_succ, List.setIfInBounds_toArray, List.set_cons_zero, List.set_cons_succ])
                  refine wpAnyH_take (i := 11) (v := ?_) rfl (by kernel_rfl) (by kernel_rfl) (by kernel_rfl) (fun _ _ _ h => h) (Or.inl ⟨by rfl, ?_⟩) (by assumption) ?_
                  rotate_left
                  · (intro w hSw; obtain ⟨g1, g2, g3, g4, g5, g6⟩ := hSw; go_simp; try with_reducible rfl)
                  (try simp only [Act.put, List.getElem_toArray, List.getElem_cons_zero, List.getElem_cons_succ, List.setIfInBounds_toArray, List.set_cons_zero, List.set_cons_succ])
                  refine wpAnyH_take (i := 12) (v := ?_) rfl (by kernel_rfl) (by kernel_rfl) (by kernel_rfl) (fun _ _ _ h => h) (Or.inl ⟨by rfl, ?_⟩) (by assumption) ?_
                  rotate_left
                  · (intro w hSw; obtain ⟨g1, g2, g3, g4, g5, g6⟩ := hSw; go_simp; try with_reducible rfl)
                  (try simp only [Act.put, List.getElem_toArray, List.getElem_cons_zero, List.getElem_cons_succ, List.setIfInBounds_toArray, List.set_cons_zero, List.set_cons_succ])
                  refine wpAnyH_done (by kernel_rfl) ?_ _
                  rw [nrm_normal]
                  gi_wp2
                  gi_meet
                  exact ⟨rfl, by (repeat (first | exact Below.refl _ _ | assumption | (refine below_gr ?_ (by (first | omega | (simp only [zz] at *; omega))) _) | (refine below_alloc ?_ (by (first | omega | (simp only [zz] at *; omega))) _) | (refine Below.setCell ?_ (by (first | omega | (simp only [zz] at *; omega))) _) | refine below_drewN ?_ _ | refine below_drew ?_ | (refine below_step ?_ (by assumption) (by (first | omega | (simp only [zz] at *; omega))))))⟩
                exact AllReadyH.nil
              refine AllReadyH.cons rfl ?_ ?_
              · intro K' hK
                rw [if_pos (by rfl)]
                go_simp
                refine (HIK.out _ (rr4.ext (by (repeat (first | exact Below.refl _ _ | assumption | refine below_drewN ?_ _ | refine below_drew ?_ | refine below_gr ?_ ?_ _ | refine below_alloc ?_ ?_ _ | refine Below.setCell ?_ ?_ _ | refine below_step ?_ (by assumption) ?_ | omega | (simp only [zz] at *; omega))))) (sr4.ext (by (repeat (first | exact Below.refl _ _ | assumption | refine below_drewN ?_ _ | refine below_drew ?_ | refine below_gr ?_ ?_ _ | refine below_alloc ?_ ?_ _ | refine Below.setCell ?_ ?_ _ | refine below_step ?_ (by assumption) ?_ | omega | (simp only [zz] at *; omega)))))).mono ?_
                rintro e w5 ⟨rfl, hb5⟩
                replace hb5 := ex_below hb5
                have hz5 := hb5.size
                (try simp only [World.size_alloc, size_drew, size_drewN] at hz5)
                dsimp only
                refine hK.out _ _ (by exact ⟨keepB hb5 hHeld.1, keepB hb5 hHeld.2.1, keepB hb5 hHeld.2.2.1, keepB hb5 hHeld.2.2.2.1, keepB hb5 hHeld.2.2.2.2.1, keepB hb5 hHeld.2.2.2.2.2⟩) (fun hHeld => ?_)
                clear hK K'
                (try simp only [Act.put, List.getElem_toArray, List.getElem_cons_zero, List.getElem_cons_succ, List.setIfInBounds_toArray, List.set_cons_zero, List.set_cons_succ])
                refine wpAnyH_take (i := 9) (v := ?_) rfl (by kernel_rfl) (by kernel_rfl) (by kernel_rfl) (fun _ _ _ h => h) (Or.inl ⟨by rfl, ?_⟩) (by assumption) ?_
                rotate_left
                · (intro w hSw; obtain ⟨g1, g2, g3, g4, g5, g6⟩ := hSw; go_simp; try with_reducible rfl)
                (try simp only [Act.put, List.getElem_toArray, List.getElem_cons_zero, List.getElem_cons_succ, List.setIfInBounds_toArray, List.set_cons_zero, List.set_cons_succ])
                refine wpAnyH_take (i := 10) (v := ?_) rfl (by kernel_rfl) (by kernel_rfl) (by kernel_rfl) (fun _ _ _ h => h) (Or.inl ⟨by rfl, ?_⟩) (by assumption) ?_
                rotate_left
                · (intro w hSw; obtain ⟨g1, g2, g3, g4, g5, g6⟩ := hSw; go_simp; try with_reducible rfl)
                (try simp only [Act.put, List.getElem_toArray, List.getElem_cons_zero, List.getElem_cons_succ, List.setIfInBounds_toArray, List.set_cons_zero, List.set_cons_succ])
                refine wpAnyH_ready (rs := [4]) (by kernel_rfl) (by simp) ?_
                refine AllReadyH.cons rfl ?_ ?_
                · intro K' hK
                  rw [if_pos (by rfl)]
                  have hcv := conv1 w5 k W4.heap.size (by omega) (keepB hb5 (show ((W4.alloc (.cells #[.int .u8 (97 + (k : Int))] 5)).drew).cell? ⟨W4.heap.size, 0, none⟩ = some (.int .u8 (97 + (k : Int))) from (Boxed.new W4 5 _).cell)) (by (first | omega | (simp only [zz]; omega) | (simp only [zz] at *; omega) | (simp; done) | (simp; omega)))
                  go_simp
                  refine hK.out _ _ (by exact hHeld) (fun hHeld => ?_)
                  clear hK K'
                  (try simp only [Act.put, List.getElem_toArray, List.getElem_cons_zero, List.getElem_cons_succ, List.setIfInBounds_toArray, List.set_cons_zero, List.set_cons_succ])
                  refine wpAnyH_take (i := 11) (v := ?_) rfl (by kernel_rfl) (by kernel_rfl) (by kernel_rfl) (fun _ _ _ h => h) (Or.inl ⟨by rfl, ?_⟩) (by assumption) ?_
                  rotate_left
                  · (intro w hSw; obtain ⟨g1, g2, g3, g4, g5, g6⟩ := hSw; go_simp; try with_reducible rfl)
                  (try simp only [Act.put, List.getElem_toArray, List.getElem_cons_zero, List.getElem_cons_succ, List.setIfInBounds_toArray, List.set_cons_zero, List.set_cons_succ])
                  refine wpAnyH_take (i := 12) (v := ?_) rfl (by kernel_rfl) (by kernel_rfl) (by kernel_rfl) (fun _ _ _ h => h) (Or.inl ⟨by rfl, ?_⟩) (by assumption) ?_
                  rotate_left
                  · (intro w hSw; obtain ⟨g1, g2, g3, g4, g5, g6⟩ := hSw; go_simp; try with_reducible rfl)
                  (try simp only [Act.put, List.getElem_toArray, List.getElem_cons_zero, List.getElem_cons_succ, List.setIfInBounds_toArray, List.set_cons_zero, List.set_cons_succ])
                  refine wpAnyH_done (by kernel_rfl) ?_ _
                  rw [nrm_normal]
                  gi_wp2
                  gi_meet
                  exact ⟨rfl, by (repeat (first | exact Below.refl _ _ | assumption | (refine below_gr ?_ (by (first | omega | (simp only [zz] at *; omega))) _) | (refine below_alloc ?_ (by (first | omega | (simp only [zz] at *; omega))) _) | (refine Below.setCell ?_ (by (first | omega | (simp only [zz] at *; omega))) _) | refine below_drewN ?_ _ | refine below_drew ?_ | (refine below_step ?_ (by assumption) (by (first | omega | (simp only [zz] at *; omega))))))⟩
                exact AllReadyH.nil
              exact AllReadyH.nil
            refine AllReadyH.cons rfl ?_ ?_
            · intro K' hK
              rw [if_pos (by rfl)]
              go_simp
              refine (HIK.out _ (rr4.ext (by (repeat (first | exact Below.refl _ _ | assumption | refine below_drewN ?_ _ | refine below_drew ?_ | refine below_gr ?_ ?_ _ | refine below_alloc ?_ ?_ _ | refine Below.setCell ?_ ?_ _ | refine below_step ?_ (by assumption) ?_ | omega | (simp only [zz] at *; omega))))) (sr4.ext (by (repeat (first | exact Below.refl _ _ | assumption | refine below_drewN ?_ _ | refine below_drew ?_ | refine below_gr ?_ ?_ _ | refine below_alloc ?_ ?_ _ | refine Below.setCell ?_ ?_ _ | refine below_step ?_ (by assumption) ?_ | omega | (simp only [zz] at *; omega)))))).mono ?_
              rintro e w5 ⟨rfl, hb5⟩
              replace hb5 := ex_below hb5
              have hz5 := hb5.size
              (try simp only [World.size_alloc, size_drew, size_drewN] at hz5)
              dsimp only
              refine hK.out _ _ (by exact ⟨keepB hb5 hHeld.1, keepB hb5 hHeld.2.1, keepB hb5 hHeld.2.2.1, keepB hb5 hHeld.2.2.2.1, keepB hb5 hHeld.2.2.2.2.1, keepB hb5 hHeld.2.2.2.2.2⟩) (fun hHeld => ?_)
              clear hK K'
              (try simp only [Act.put, List.getElem_toArray, List.getElem_cons_zero, List.getElem_cons_succ, List.setIfInBounds_toArray, List.set_cons_zero, List.set_cons_succ])
              refine wpAnyH_take (i := 9) (v := ?_) rfl (by kernel_rfl) (by kernel_rfl) (by kernel_rfl) (fun _ _ _ h => h) (Or.inl ⟨by rfl, ?_⟩) (by assumption) ?_
              rotate_left
              · (intro w hSw; obtain ⟨g1, g2, g3, g4, g5, g6⟩ := hSw; go_simp; try with_reducible rfl)
              (try simp only [Act.put, List.getElem_toArray, List.getElem_cons_zero, List.getElem_cons_succ, List.setIfInBounds_toArray, List.set_cons_zero, List.set_cons_succ])
              refine wpAnyH_take (i := 10) (v := ?_) rfl (by kernel_rfl) (by kernel_rfl) (by kernel_rfl) (fun _ _ _ h => h) (Or.inl ⟨by rfl, ?_⟩) (by assumption) ?_
              rotate_left
              · (intro w hSw; obtain ⟨g1, g2, g3, g4, g5, g6⟩ := hSw; go_simp; try with_reducible rfl)
              (try simp only [Act.put, List.getElem_toArray, List.getElem_cons_zero, List.getElem_cons_succ, List.setIfInBounds_toArray, List.set_cons_zero, List.set_cons_succ])
              refine wpAnyH_ready (rs := [3]) (by kernel_rfl) (by simp) ?_
              refine AllReadyH.cons rfl ?_ ?_
              · intro K' hK
                rw [if_pos (by rfl)]
                go_simp
                refine hK.out _ _ (by exact ⟨cell?_alloc_some _ hHeld.1, cell?_alloc_some _ hHeld.2.1, cell?_alloc_some _ hHeld.2.2.1, cell?_alloc_some _ hHeld.2.2.2.1, cell?_alloc_some _ hHeld.2.2.2.2.1, cell?_alloc_some _ hHeld.2.2.2.2.2⟩) (fun hHeld => ?_)
                clear hK K'
                (try simp only [Act.put, List.getElem_toArray, List.getElem_cons_zero, List.getElem_cons_succ, List.setIfInBounds_toArray, List.set_cons_zero, List.set_cons_succ])
                refine wpAnyH_ready (rs := [4]) (by kernel_rfl) (by simp) ?_
                refine AllReadyH.cons rfl ?_ ?_
                · intro K' hK
                  rw [if_pos (by rfl)]
                  have hcv := conv1 (w5.alloc (.cells #[.int .u8 (97 + (k : Int))] 5)) k w5.heap.size (by omega) ((Boxed.new w5 5 _).cell) (by (first | omega | (simp only [zz]; omega) | (simp only [zz] at *; omega) | (simp; done) | (simp; omega)))
                  go_simp
                  refine hK.out _ _ (by exact hHeld) (fun hHeld => ?_)
                  clear hK K'
                  (try simp only [Act.put, List.getElem_toArray, List.getElem_cons_zero, List.getElem_cons_succ, List.setIfInBounds_toArray, List.set_cons_zero, List.set_cons_succ])
                  refine wpAnyH_take (i := 11) (v := ?_) rfl (by kernel_rfl) (by kernel_rfl) (by kernel_rfl) (fun _ _ _ h => h) (Or.inl ⟨by rfl, ?_⟩) (by assumption) ?_
                  rotate_left
                  · (intro w hSw; obtain ⟨g1, g2, g3, g4, g5, g6⟩ := hSw; go_simp; try with_reducible rfl)
                  (try simp only [Act.put, List.getElem_toArray, List.getElem_cons_zero, List.getElem_cons_succ, List.setIfInBounds_toArray, List.set_cons_zero, List.set_cons_succ])
                  refine wpAnyH_take (i := 12) (v := ?_) rfl (by kernel_rfl) (by kernel_rfl) (by kernel_rfl) (fun _ _ _ h => h) (Or.inl ⟨by rfl, ?_⟩) (by assumption) ?_
                  rotate_left
                  · (intro w hSw; obtain ⟨g1, g2, g3, g4, g5, g6⟩ := hSw; go_simp; try with_reducible rfl)
                  (try simp only [Act.put, List.getElem_toArray, List.getElem_cons_zero, List.getElem_cons_succ, List.setIfInBounds_toArray, List.set_cons_zero, List.set_cons_succ])
                  refine wpAnyH_done (by kernel_rfl) ?_ _
                  rw [nrm_normal]
                  gi_wp2
                  gi_meet
                  exact ⟨rfl, by (repeat (first | exact Below.refl _ _ | assumption | (refine below_gr ?_ (by (first | omega | (simp only [zz] at *; omega))) _) | (refine below_alloc ?_ (by (first | omega | (simp only [zz] at *; omega))) _) | (refine Below.setCell ?_ (by (first | omega | (simp only [zz] at *; omega))) _) | refine below_drewN ?_ _ | refine below_drew ?_ | (refine below_step ?_ (by assumption) (by (first | omega | (simp only [zz] at *; omega))))))⟩
                exact AllReadyH.nil
              exact AllReadyH.nil
            exact AllReadyH.nil
          case rest =>
            obtain ⟨rfl, hb5⟩ := hcut
            have hz5 := hb5.size
            have n3 := (hb5.cell (p := ⟨O + 1, 0, none⟩) s3).trans v3
            have nO := (hb5.block O sO).trans vO
            have ny := (hb5.cell (p := ⟨O, y, none⟩) sO).trans vy
            have nf := obj_fz nO y
            have hs3c : O + 1 < wc.heap.size := by omega
            have hsOc : O < wc.heap.size := by omega
            have hgr5 := grown_below hgr4 hb5
            generalize hS : unlt [((k : Nat) : Int)] ++ sj = S at *
            by_cases hlen : sy.size < S.size
            · have hleni : (sy.size : Int) < (S.size : Nat) := by omega
              have HC3 := hide (show cmC (lts ts) y Tk k = Tk.set y S by rw [HC2.out, if_pos hlen])
              clear hlen
              gi_wp2
              refine ⟨⟨k + 1, by omega, by go_num, ?_, grown_setO hgr5⟩, by simp [intOf]; omega⟩
              rw [HCFK.out, HC3.out, ← HSET.out]
              exact set_obj nO y _
            · have hleni : ¬ ((sy.size : Int) < (S.size : Nat)) := by omega
              have HC3 := hide (show cmC (lts ts) y Tk k = Tk by rw [HC2.out, if_neg hlen])
              clear hlen
              gi_wp2
              refine ⟨⟨k + 1, by omega, by go_num, ?_, hgr5⟩, by simp [intOf]; omega⟩
              rw [HCFK.out, HC3.out]
              exact nO
      · have hkn : k = Wn := by omega
        rw [hkn] at tO
        gi_wp2
        have hnw : ∀ jj, some O = some jj → jj < W0.heap.size := fun jj e => by have := Option.some.inj e; omega
        refine ⟨KeepsFrom.of_grownBy hgr hnw, ⟨fun b hb => hgr.block b (by omega) (fun e => by have := Option.some.inj e; omega), hgr.block _ (by omega) (fun e => by have := Option.some.inj e; omega)⟩, ?_, grown_trans hg hgr⟩
        rw [HSN.out]
        exact tO
  case _ => rw [qO]; simp [cmS, HPM.out]
end Go.Proofs.Ytafncmgijbkomaa
