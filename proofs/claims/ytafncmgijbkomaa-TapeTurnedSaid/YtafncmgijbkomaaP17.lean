/- Proved here: the longest common string, or the error; how nights end, in the plain cases, a part of the proofs about the tape laws. Conditions: those that each theorem names, no others. -/
import Derived.Test.YtafncmgijbkomaaP16
import Derived.WalkKit
import Derived.WalkSpells
import Derived.WalkLawsBesides
import Derived.Below
import Derived.Deep.QuietTactic
import Derived.BigQuiet
import Derived.Deep.Light
import Derived.Test.YtafncmgijbkomaaP07
import Derived.Test.YtafncmgijbkomaaP33
import Derived.Deep.RegionHeld3
import Derived.Deep.RegionLaw
import Derived.Deep.DeepCutAuto
import Derived.Deep.CutBlock
set_option linter.unusedSimpArgs false
set_option linter.unusedVariables false
namespace Go.Proofs.Ytafncmgijbkomaa
open Go.RowKit Go.Maps
theorem aft_le {ts : List (List Int)} {p : List Nat} (hp : Tm.IsPl ts p) (c : Int) (h : aftOk ts p c = true) : Tm.idxP ts p 0 ≤ Tm.idxP ts (aftPl ts p c) 0 ∧ (ts ≠ [] → Tm.idxP ts p 0 < Tm.idxP ts (aftPl ts p c) 0) := by
  induction hp with
  | nil => exact ⟨Nat.le_refl _, fun h => absurd rfl h⟩
  | @cons t k ts p h0 r ih =>
    have e2 : aftOk (t :: ts) (k :: p) c = (decide (scan t c k < t.length) && aftOk ts p c) := by simp [aftOk]
    rw [e2, Bool.and_eq_true, decide_eq_true_eq] at h
    have e : aftPl (t :: ts) (k :: p) c = (scan t c k + 1) :: aftPl ts p c := rfl
    rw [e, Tm.idx_cons r, Tm.idx_cons (aft_is r c h.2)]
    have h1 := (ih h.2).1
    have h2 : k ≤ scan t c k := by unfold scan; omega
    have h3 : (k + 1) * Tm.prodP ts ≤ (scan t c k + 1) * Tm.prodP ts := Nat.mul_le_mul_right _ (by omega)
    have h4 := Tm.prod_pos ts
    rw [Nat.add_mul, Nat.one_mul] at h3
    exact ⟨by omega, fun _ => by omega⟩
theorem lt_app (c : Nat) (hc : c < 5) (t : ByteArray) : lt (unlt [((c : Nat) : Int)] ++ t) = ((c : Nat) : Int) :: lt t := by
  have h := lt_unlt (l := [((c : Nat) : Int)]) (by simp; omega)
  unfold lt at h ⊢
  rw [ByteArray.data_append, Array.toList_append, List.map_append, h]
  rfl
/-- at one place -/
theorem cm_step {W : Nat} (hW5 : W ≤ 5) {ts : List (List Int)} {y : Nat} (hy : y < Tm.prodP ts) (hne : ts ≠ []) (T : List ByteArray) (hl : T.length = Tm.prodP ts) (k : Nat) (hk : k ≤ W) :
    (∀ n, n ≠ y → (cmF ts y T k)[n]? = T[n]?) ∧
    lt ((cmF ts y T k).getD y ⟨#[]⟩) = (List.range k).foldl (Tm.comStep (Tm.remP ts (Tm.placeP ts y)) (fun c => lt (T.getD (Tm.idxP ts (aftPl ts (Tm.placeP ts y) (c : Nat)) 0) ⟨#[]⟩))) (lt (T.getD y ⟨#[]⟩)) := by
  obtain ⟨hp, hi⟩ := Tm.place_is hy
  induction k with
  | zero => exact ⟨fun n _ => rfl, rfl⟩
  | succ k ih =>
    obtain ⟨i1, i2⟩ := ih (by omega)
    rw [cmF_succ, List.range_succ, List.foldl_append, ← i2]
    simp only [List.foldl_cons, List.foldl_nil]
    have hkl : (cmF ts y T k).length = T.length := by
      have : ∀ k, (cmF ts y T k).length = T.length := fun k => by
        induction k with
        | zero => rfl
        | succ k ih =>
          rw [cmF_succ]
          unfold cmC
          split
          · split
            · rw [List.length_set]; exact ih
            · exact ih
          · exact ih
      exact this k
    unfold cmC Tm.comStep
    rw [afts_ok hp]
    by_cases hok : aftOk ts (Tm.placeP ts y) (k : Int) = true
    · rw [if_pos hok, if_pos hok]
      have hlt := (aft_le hp (k : Int) hok).2 hne
      rw [hi] at hlt
      have hgj : (cmF ts y T k).getD (Tm.idxP ts (aftPl ts (Tm.placeP ts y) (k : Int)) 0) ⟨#[]⟩ = T.getD (Tm.idxP ts (aftPl ts (Tm.placeP ts y) (k : Int)) 0) ⟨#[]⟩ := by
        rw [List.getD_eq_getElem?_getD, List.getD_eq_getElem?_getD, i1 _ (by omega)]
      rw [hgj, unlt1_size]
      simp only [lt_len]
      split
      · rename_i h
        refine ⟨fun n hn => ?_, ?_⟩
        · rw [List.getElem?_set_ne (Ne.symm hn)]; exact i1 n hn
        · rw [List.getD_eq_getElem?_getD, List.getElem?_set_self (by omega)]
          exact lt_app k (by omega) _
      · exact ⟨i1, rfl⟩
    · rw [if_neg hok, if_neg hok]
      exact ⟨i1, rfl⟩
theorem cm_part {W : Nat} (hW5 : W ≤ 5) {ts : List (List Int)} (hne : ts ≠ []) (h : Tm.lettersOk W ts) : ∀ d, d ≤ Tm.prodP ts →
    (∀ n, Tm.prodP ts - d ≤ n → n < Tm.prodP ts → Tm.Best (lt ((cmS W ts ((downL (Tm.prodP ts)).take d)).getD n ⟨#[]⟩)) (Tm.remP ts (Tm.placeP ts n))) ∧ (∀ n, n < Tm.prodP ts - d → (cmS W ts ((downL (Tm.prodP ts)).take d)).getD n ⟨#[]⟩ = ⟨#[]⟩)
  | 0, _ => ⟨fun n h1 h2 => by omega, fun n hn => by
      have : n < Tm.prodP ts := by omega
      simp [cmS, List.getD_eq_getElem?_getD, List.getElem?_replicate, this]⟩
  | d + 1, hd => by
    obtain ⟨i1, i2⟩ := cm_part hW5 hne h d (by omega)
    obtain ⟨k, hk⟩ : ∃ k, Tm.prodP ts - (d + 1) = k := ⟨_, rfl⟩
    have hkM : k < Tm.prodP ts := by omega
    have hs := downL_take (Tm.prodP ts) k hkM
    rw [show Tm.prodP ts - k = d + 1 by omega, show Tm.prodP ts - (k + 1) = d by omega] at hs
    have hl := (cmS_rng W ts ((downL (Tm.prodP ts)).take d)).1
    rw [hs, cmS_snoc, Nat.mod_eq_of_lt hkM, hk]
    generalize cmS W ts ((downL (Tm.prodP ts)).take d) = T at *
    obtain ⟨j1, j2⟩ := cm_step hW5 hkM hne T hl W (Nat.le_refl _)
    obtain ⟨hp, hi⟩ := Tm.place_is hkM
    have hoth : ∀ n, n ≠ k → (cmF ts k T W).getD n ⟨#[]⟩ = T.getD n ⟨#[]⟩ := fun n hn => by
      rw [List.getD_eq_getElem?_getD, List.getD_eq_getElem?_getD, j1 n hn]
    refine ⟨fun n h1 h2 => ?_, fun n hn => ?_⟩
    · rcases Nat.lt_or_ge k n with h3 | h3
      · rw [hoth n (by omega)]; exact i1 n (by omega) h2
      · rw [show n = k by omega, j2, i2 k (by omega)]
        refine Tm.com_best ?_ (Tm.ok_less (Tm.rem_less ts hp) h) _ ?_
        · intro e
          have := congrArg List.length e
          have hpl := hp.len
          cases ts with
          | nil => exact hne rfl
          | cons t ts =>
            cases hpp : Tm.placeP (t :: ts) k with
            | nil => rw [hpp] at hpl; simp at hpl
            | cons a p => rw [hpp] at this; simp [Tm.remP] at this
        · intro c us hc hus
          rw [afts_ok hp] at hus
          split at hus
          · rename_i hok
            have hus := Option.some.inj hus
            have hlt := (aft_le hp (c : Int) hok).2 hne
            rw [hi] at hlt
            have h4 := (Tm.idx_lin (aft_is hp (c : Int) hok) 0).2
            have h5 := i1 _ (by omega) h4
            rw [Tm.place_idx (aft_is hp (c : Int) hok), hus] at h5
            exact h5
          · cases hus
    · rw [hoth n (by omega)]; exact i2 n (by omega)
/-- the longest common string of a valid set -/
def comV (W : Nat) (ts : List (List Int)) : ByteArray := (cmS W ts (downL (Tm.prodP ts))).getD 0 ⟨#[]⟩
theorem comV_best {W : Nat} (hW5 : W ≤ 5) {ts : List (List Int)} (hne : ts ≠ []) (h : Tm.lettersOk W ts) : Tm.Best (lt (comV W ts)) ts := by
  have h1 := (cm_part hW5 hne h (Tm.prodP ts) (Nat.le_refl _)).1 0 (by omega) (Tm.prod_pos ts)
  rw [List.take_of_length_le (by rw [downL_len]; exact Nat.le_refl _)] at h1
  have h0 := Tm.place_idx (Tm.zero_is ts)
  rw [Tm.idx_zero] at h0
  rw [h0, Tm.rem_zero] at h1
  exact h1
theorem common_val {W : Int} {ts : List ByteArray} (hc : chkSet W ts = 0) (A : Option Addr) (cap : Nat) : ∀ (R : Nat) (w : World), ReelAt w R W A ts cap → Strs w A ts → Calls Try.prog 66 #[.pointer (some ⟨R, 0, none⟩)] w (Gives w (.string (comV W.toNat (lts ts)))) := fun R w hR hA => by
  obtain ⟨hW1, hW2, h0, h3, hs, hf, _, hlo⟩ := chk_val hc
  obtain ⟨Wn, rfl⟩ : ∃ Wn : Nat, W = (Wn : Nat) := ⟨W.toNat, by omega⟩
  have := common_any R Wn A ts cap w hR hA h3 hf hs (by omega)
  rw [Int.toNat_natCast]
  exact this
/-- the longest common string, or the error -/
def comR (W : Int) (ts : List ByteArray) : ByteArray × Int := if chkSet W ts ≠ 0 then (⟨#[]⟩, chkSet W ts) else (comV W.toNat (lts ts), 0)
def strE (q : ByteArray × Int) : Value := .tuple #[.string q.1, .int .i64 q.2]
set_option maxRecDepth 100000 in
set_option maxHeartbeats 1000000 in
theorem Common_any (W : Int) (A : Option Addr) (ts : List ByteArray) (c : Nat) (w : World) (hA : Strs w A ts) (hl : ts.length ≤ 1000) (hsz : ∀ k, (h : k < ts.length) → ts[k].size ≤ 1000000) : Calls Try.prog 25 #[.agg #[.int .i64 W, .slice A ts.length c]] w (Gives w (strE (comR W ts))) := by
  unfold strE
  by_cases hc : chkSet W ts = 0
  · have h1 : (chkSet W ts != 0) = false := by simp [hc]
    have HCM := hide (common_val hc A c)
    rw [show comR W ts = (comV W.toNat (lts ts), 0) by simp [comR, hc]]
    generalize comV W.toNat (lts ts) = V at *
    replace hc := hide hc
    go_enter Try.func25, Try.ntmps25
    go_wp2_with (first
    | (go_at_call 21; refine (checkSet_any W A ts c _ (hA.ext (by (repeat (first | exact Below.refl _ _ | assumption | refine below_drewN ?_ _ | refine below_drew ?_ | refine below_gr ?_ ?_ _ | refine below_alloc ?_ ?_ _ | refine Below.setCell ?_ ?_ _ | refine below_step ?_ (by assumption) ?_ | omega | (simp only [zz] at *; omega))))) hl hsz).mono ?_; rintro e w1 ⟨rfl, hb1⟩; replace hb1 := ex_below hb1; have hz1 := hb1.size; (try simp only [zz] at hz1); have hlt1 : ∀ b, b < w.heap.size → b < w1.heap.size := fun b hb => (by (first | omega | (simp only [zz] at *; omega))); have hc1 : ∀ b o, b < w.heap.size → w1.cell? ⟨b, o, none⟩ = w.cell? ⟨b, o, none⟩ := old_cell (by (repeat (first | exact Below.refl _ _ | assumption | refine below_drewN ?_ _ | refine below_drew ?_ | refine below_gr ?_ ?_ _ | refine below_alloc ?_ ?_ _ | refine Below.setCell ?_ ?_ _ | refine below_step ?_ (by assumption) ?_ | omega | (simp only [zz] at *; omega)))); have hs1a : w.heap.size < w1.heap.size := (by (first | omega | (simp only [zz] at *; omega))); have ho1a := own_cell hb1 (b := w.heap.size) (by (first | omega | (simp only [zz] at *; omega))); have hq1a := own_frozen hb1 (b := w.heap.size) (by (first | omega | (simp only [zz] at *; omega))))
    | (go_at_call 55; refine (newReel_any W A ts c _ (hA.ext (by (repeat (first | exact Below.refl _ _ | assumption | refine below_drewN ?_ _ | refine below_drew ?_ | refine below_gr ?_ ?_ _ | refine below_alloc ?_ ?_ _ | refine Below.setCell ?_ ?_ _ | refine below_step ?_ (by assumption) ?_ | omega | (simp only [zz] at *; omega)))))).mono ?_; rintro e w4 ⟨R, M, rfl, hb4, hR0, hM0, hR4⟩; have hz4 := hb4.size)
    | (go_at_call 66; refine (HCM.out R _ (hR4.rat.ext (by (repeat (first | exact Below.refl _ _ | assumption | refine below_drewN ?_ _ | refine below_drew ?_ | refine below_gr ?_ ?_ _ | refine below_alloc ?_ ?_ _ | refine Below.setCell ?_ ?_ _ | refine below_step ?_ (by assumption) ?_ | omega | (simp only [zz] at *; omega))))) (hA.ext (by (repeat (first | exact Below.refl _ _ | assumption | refine below_drewN ?_ _ | refine below_drew ?_ | refine below_gr ?_ ?_ _ | refine below_alloc ?_ ?_ _ | refine Below.setCell ?_ ?_ _ | refine below_step ?_ (by assumption) ?_ | omega | (simp only [zz] at *; omega)))))).mono ?_; rintro e w5 ⟨rfl, hb5⟩; replace hb5 := ex_below hb5; have hz5 := hb5.size))

    go_ret2
    exact gives_of (rfl) (by (repeat (first | exact Below.refl _ _ | assumption | refine below_drewN ?_ _ | refine below_drew ?_ | refine below_gr ?_ ?_ _ | refine below_alloc ?_ ?_ _ | refine Below.setCell ?_ ?_ _ | refine below_step ?_ (by assumption) ?_ | omega | (simp only [zz] at *; omega))))
  · have h1 : (chkSet W ts != 0) = true := by simp [hc]
    rw [show comR W ts = (⟨#[]⟩, chkSet W ts) by simp [comR, hc]]
    replace hc := hide hc
    go_enter Try.func25, Try.ntmps25
    go_wp2_with (first
    | (go_at_call 21; refine (checkSet_any W A ts c _ (hA.ext (by (repeat (first | exact Below.refl _ _ | assumption | refine below_drewN ?_ _ | refine below_drew ?_ | refine below_gr ?_ ?_ _ | refine below_alloc ?_ ?_ _ | refine Below.setCell ?_ ?_ _ | refine below_step ?_ (by assumption) ?_ | omega | (simp only [zz] at *; omega))))) hl hsz).mono ?_; rintro e w1 ⟨rfl, hb1⟩; replace hb1 := ex_below hb1; have hz1 := hb1.size; (try simp only [zz] at hz1); have hlt1 : ∀ b, b < w.heap.size → b < w1.heap.size := fun b hb => (by (first | omega | (simp only [zz] at *; omega))); have hc1 : ∀ b o, b < w.heap.size → w1.cell? ⟨b, o, none⟩ = w.cell? ⟨b, o, none⟩ := old_cell (by (repeat (first | exact Below.refl _ _ | assumption | refine below_drewN ?_ _ | refine below_drew ?_ | refine below_gr ?_ ?_ _ | refine below_alloc ?_ ?_ _ | refine Below.setCell ?_ ?_ _ | refine below_step ?_ (by assumption) ?_ | omega | (simp only [zz] at *; omega)))); have hs1a : w.heap.size < w1.heap.size := (by (first | omega | (simp only [zz] at *; omega))); have ho1a := own_cell hb1 (b := w.heap.size) (by (first | omega | (simp only [zz] at *; omega))); have hq1a := own_frozen hb1 (b := w.heap.size) (by (first | omega | (simp only [zz] at *; omega)))))

    go_ret2
    exact gives_of (rfl) (by (repeat (first | exact Below.refl _ _ | assumption | refine below_drewN ?_ _ | refine below_drew ?_ | refine below_gr ?_ ?_ _ | refine below_alloc ?_ ?_ _ | refine Below.setCell ?_ ?_ _ | refine below_step ?_ (by assumption) ?_ | omega | (simp only [zz] at *; omega))))
end Go.Proofs.Ytafncmgijbkomaa
namespace Go.Proofs.Ytafncmgijbkomaa
open Go.RowKit Go.Maps
/-! how nights end -/
def waC (p : List Nat) (l o t : Nat) : Array Value := #[.int .i64 (p.getD 0 0 : Nat), .int .i64 (p.getD 1 0 : Nat), .int .i64 (p.getD 2 0 : Nat), .int .i64 (l : Nat), .int .i64 (o : Nat), .int .i64 (t : Nat)]
def waV (p : List Nat) (l o t : Nat) : Value := .agg (waC p l o t)
theorem waV_inj {ts : List (List Int)} {p q : List Nat} {l m o o2 t t2 : Nat} (h3 : ts.length ≤ 3) (hp : Tm.IsPl ts p) (hq : Tm.IsPl ts q) (h : waV p l o t = waV q m o2 t2) : p = q ∧ l = m ∧ o = o2 ∧ t = t2 := by
  unfold waV waC at h
  injection h with h
  simp only [List.cons.injEq, Value.int.injEq, Int.natCast_inj, and_true, true_and, Array.mk.injEq] at h
  obtain ⟨h0, h1, h2, h4, h5, h6⟩ := h
  have e : stV p l = stV q m := by unfold stV stC; rw [h0, h1, h2, h4]
  have := stV_inj h3 hp hq e
  exact ⟨this.1, this.2, h5, h6⟩
def goodE (W : Nat) (jo jt : Int) (ts : List (List Int)) (key v : Value) : Prop := ∃ p l o t, Tm.IsPl ts p ∧ l ≤ 20 ∧ o ≤ 20 ∧ t ≤ 20 ∧ key = waV p l o t ∧ v = .int .i64 (Tm.endsP W jo jt l (Tm.remP ts p) o t : Nat)
theorem keyW_of {ts : List ByteArray} (hs : Small ts) {p : List Nat} {l o t : Nat} (hp : Tm.IsPl (lts ts) p) (hl : l ≤ 20) (ho : o ≤ 20) (ht : t ≤ 20) : ∃ kl, keyOf Try.prog 127 (waV p l o t) = some kl :=
  keyW (wfI_small (by have := isPl_small hs hp 0; omega)) (wfI_small (by have := isPl_small hs hp 1; omega)) (wfI_small (by have := isPl_small hs hp 2; omega)) (wfI_small (by omega)) (wfI_small (by omega)) (wfI_small (by omega))
theorem sum_const {α : Type} (l : List α) (f : α → Nat) (m : Nat) (h : ∀ x, f x = m) : (l.map f).sum = l.length * m := by
  induction l with
  | nil => simp
  | cons a l ih => rw [List.map_cons, List.sum_cons, ih, h, List.length_cons, Nat.add_mul]; omega
theorem finE {W : Nat} {jo jt : Int} {ts : List ByteArray} (hs : Small ts) (h3 : ts.length ≤ 3) : Finite 127 (goodE W jo jt (lts ts)) := by
  have h9 := prodP_small ts hs h3
  refine finite_of (((List.range (Tm.prodP (lts ts))).map (Tm.placeP (lts ts))).flatMap (fun p => (List.range 21).flatMap (fun l => (List.range 21).flatMap (fun o => (List.range 21).map (fun t => waV p l o t))))) ?_ ?_
  · rw [List.length_flatMap]
    have h1 : ∀ p l, ((List.range 21).flatMap (fun o => (List.range 21).map (fun t => waV p l o t))).length = 441 := fun p l => by
      rw [List.length_flatMap, sum_const _ _ 21 (fun o => by simp)]; simp
    have h2 : ∀ p, ((List.range 21).flatMap (fun l => (List.range 21).flatMap (fun o => (List.range 21).map (fun t => waV p l o t)))).length = 9261 := fun p => by
      rw [List.length_flatMap, sum_const _ _ 441 (fun l => h1 p l)]; simp
    rw [sum_const _ _ 9261 h2]
    simp
    omega
  · rintro key v ⟨p, l, o, t, hp, hl, ho, ht, rfl, rfl⟩
    exact List.mem_flatMap.2 ⟨p, mem_place hp, List.mem_flatMap.2 ⟨l, List.mem_range.2 (by omega), List.mem_flatMap.2 ⟨o, List.mem_range.2 (by omega), List.mem_map.2 ⟨t, List.mem_range.2 (by omega), rfl⟩⟩⟩⟩
/-- a judge -/
structure JAt (w : World) (J R : Nat) (jo jt : Int) (K : Nat) : Prop where
  c0 : w.cell? ⟨J, 0, none⟩ = some (.pointer (some ⟨R, 0, none⟩))
  c1 : w.cell? ⟨J, 1, none⟩ = some (.int .i64 jo)
  c2 : w.cell? ⟨J, 2, none⟩ = some (.int .i64 jt)
  c3 : w.cell? ⟨J, 3, none⟩ = some (.map (some K))
  lt : J < w.heap.size
theorem JAt.keep {w w' : World} {J R K : Nat} {jo jt : Int} (h : JAt w J R jo jt K) (hb : w'.heap[J]? = w.heap[J]?) (hs : w.heap.size ≤ w'.heap.size) : JAt w' J R jo jt K :=
  ⟨(World.cell?_of_block (a := ⟨J, 0, none⟩) hb).trans h.c0, (World.cell?_of_block (a := ⟨J, 1, none⟩) hb).trans h.c1, (World.cell?_of_block (a := ⟨J, 2, none⟩) hb).trans h.c2, (World.cell?_of_block (a := ⟨J, 3, none⟩) hb).trans h.c3, Nat.lt_of_lt_of_le h.lt hs⟩
theorem JAt.below {w w' : World} {J R K : Nat} {jo jt : Int} (h : JAt w J R jo jt K) (hb : Below w.heap.size w w') : JAt w' J R jo jt K := h.keep (hb.block J h.lt) hb.size
theorem und122 : Try.prog.underlying 122 = some (.map 127 3) := by kernel_rfl
theorem zero3 (w' : World) : (zeroValue 3).run Try.prog w' = .ok (.int .i64 0) w' := by kernel_rfl
theorem endsP_no {W : Nat} {jo jt : Int} {l : Nat} {ts : List (List Int)} {o t : Nat} (h : Tm.hasN W l ts = false) : Tm.endsP W jo jt l ts o t = 0 := by
  cases l with
  | zero => unfold Tm.endsP; rw [if_neg (by simpa [Tm.hasN] using h)]
  | succ l => unfold Tm.endsP; rw [if_neg (by simp [h])]
theorem endsP_one {W : Nat} {jo jt : Int} {l : Nat} {ts : List (List Int)} (h : Tm.hasN W l ts = true) : Tm.endsP W jo jt l ts 0 0 = 1 := by
  cases l with
  | zero => unfold Tm.endsP; rw [if_pos (by simpa [Tm.hasN] using h)]; rfl
  | succ l => unfold Tm.endsP; rw [if_pos h]; rfl
theorem endsP_two {W : Nat} {jo jt : Int} {l : Nat} {ts : List (List Int)} {o t : Nat} (h : Tm.hasN W l ts = true) (h1 : ¬ (o = 0 ∧ t = 0)) (h2 : t = 0 ∨ l < o ∨ l < t) : Tm.endsP W jo jt l ts o t = 2 := by
  cases l with
  | zero => unfold Tm.endsP; rw [if_pos (by simpa [Tm.hasN] using h), if_neg h1]
  | succ l => unfold Tm.endsP; rw [if_pos h, if_neg h1, if_pos h2]
theorem endsP_three {W : Nat} {jo jt : Int} {l : Nat} {ts : List (List Int)} {o t : Nat} (h : Tm.hasN W (l + 1) ts = true) (h1 : ¬ (o = 0 ∧ t = 0)) (h2 : ¬ (t = 0 ∨ l + 1 < o ∨ l + 1 < t)) :
    Tm.endsP W jo jt (l + 1) ts o t = (List.range W).foldl (fun a c => a ||| Tm.endsP W jo jt l (Tm.behs (c : Nat) ts) (Tm.oneZ jo jt (c : Nat) o t) (Tm.twoK jt (c : Nat) t)) 0 := by
  rw [Tm.endsP, if_pos h, if_neg h1, if_neg h2]
set_option maxRecDepth 100000 in
set_option maxHeartbeats 4000000 in
theorem ends_low (R M : Nat) (Wn : Nat) (A : Option Addr) (ts : List ByteArray) (cap : Nat) (h3 : ts.length ≤ 3) (hf : Fine ts) (hs : Small ts) (hW1 : 1 ≤ Wn) (hW2 : Wn ≤ 5) (jo jt : Int) (J K : Nat) (hKM : K ≠ M) (hRK : R ≠ K) (hAK : ∀ (k : Nat) (s : ByteArray), ts[k]? = some s → ∃ b o, A = some ⟨b, o, none⟩ ∧ b ≠ K) (hJM : J ≠ M) (hJK : J ≠ K) (l o t : Nat) (hl : l ≤ 20) (ho : o ≤ 20) (ht : t ≤ 20) (p : List Nat) (w : World) (hp : Tm.IsPl (lts ts) p) (hR : Reel R M (Wn : Nat) A ts cap w) (hK : (KMap 127 K (goodE Wn jo jt (lts ts))) w) (hJ : JAt w J R jo jt K)
    (hlow : Tm.hasN Wn l (Tm.remP (lts ts) p) = false ∨ (o = 0 ∧ t = 0) ∨ (t = 0 ∨ l < o ∨ l < t)) : Calls Try.prog 86 #[.pointer (some ⟨J, 0, none⟩), waV p l o t] w (Gives2 w M K (fun w' => (KMap 109 M (goodC Wn (lts ts))) w' ∧ (KMap 127 K (goodE Wn jo jt (lts ts))) w') (.int .i64 (Tm.endsP Wn jo jt l (Tm.remP (lts ts) p) o t : Nat))) := by
  have hKb := hide (fun (a b : World) (h : Below a.heap.size a b) (k : (KMap 109 M (goodC Wn (lts ts))) a) => k.below h)
  have HCN := hide (fun (w' : World) (h : Reel R M (Wn : Nat) A ts cap w') => count_any R M (Wn : Nat) A ts cap h3 hf hs ⟨by omega, by omega⟩ l hl p w' hp h)
  have hpos := Tm.cntC_pos Wn l (Tm.remP (lts ts) p)
  rw [Int.toNat_natCast] at HCN
  have HE0 := hide (fun (h : Tm.hasN Wn l (Tm.remP (lts ts) p) = false) => endsP_no (jo := jo) (jt := jt) (o := o) (t := t) h)
  obtain ⟨x0, HX0⟩ : ∃ x : Nat, Hid (p.getD 0 0 = x) := ⟨_, hide rfl⟩
  obtain ⟨x1, HX1⟩ : ∃ x : Nat, Hid (p.getD 1 0 = x) := ⟨_, hide rfl⟩
  obtain ⟨x2, HX2⟩ : ∃ x : Nat, Hid (p.getD 2 0 = x) := ⟨_, hide rfl⟩
  unfold stV stC at HCN
  unfold waV waC
  rw [HX0.out, HX1.out, HX2.out] at HCN ⊢
  have HED : Hid (∀ e, e = Tm.endsP Wn jo jt l (Tm.remP (lts ts) p) o t → e = Tm.endsP Wn jo jt l (Tm.remP (lts ts) p) o t) := hide (fun _ h => h)
  generalize hE : Tm.endsP Wn jo jt l (Tm.remP (lts ts) p) o t = E at *
  replace hE := hide hE
  have HH2 := hide (fun h => endsP_two (jo := jo) (jt := jt) (l := l) (o := o) (t := t) (ts := Tm.remP (lts ts) p) (W := Wn) h)
  have HH1 := hide (fun h => endsP_one (jo := jo) (jt := jt) (l := l) (ts := Tm.remP (lts ts) p) (W := Wn) h)
  have hMlt := hR.lt.2
  have hRlt := hR.lt.1
  have j0 := hJ.c0
  have jl := hJ.lt
  have n1 : w.heap.size ≠ M := by omega
  have hMa : M < (w.alloc (.cells #[.int .i64 (x0 : Nat), .int .i64 (x1 : Nat), .int .i64 (x2 : Nat), .int .i64 (l : Nat), .int .i64 (o : Nat), .int .i64 (t : Nat)] 127)).heap.size := by simp; omega
  have hRa : Reel R M (Wn : Nat) A ts cap (w.alloc (.cells #[.int .i64 (x0 : Nat), .int .i64 (x1 : Nat), .int .i64 (x2 : Nat), .int .i64 (l : Nat), .int .i64 (o : Nat), .int .i64 (t : Nat)] 127)) := hR.below ((Below.refl _ _).alloc (Nat.le_refl _) _)
  generalize Tm.cntC Wn l (Tm.remP (lts ts) p) = C at *
  cases hN : Tm.hasN Wn l (Tm.remP (lts ts) p) with
  | false =>
    have hC : C = 0 := by
      rcases Nat.eq_zero_or_pos C with h | h
      · exact h
      · rw [hpos.1 h] at hN; cases hN
    subst hC
    have hE0 : E = 0 := HE0.out hN
    subst hE0
    clear hpos hN HE0 HED
    unfold Gives2
    go_enter Try.func86, Try.ntmps86
    go_wp2
    have hbx := heap_alloc_new w (.cells #[.int .i64 (x0 : Nat), .int .i64 (x1 : Nat), .int .i64 (x2 : Nat), .int .i64 (l : Nat), .int .i64 (o : Nat), .int .i64 (t : Nat)] 127)
    have hJa := hJ.below ((Below.refl _ w).alloc (Nat.le_refl _) (.cells #[.int .i64 (x0 : Nat), .int .i64 (x1 : Nat), .int .i64 (x2 : Nat), .int .i64 (l : Nat), .int .i64 (o : Nat), .int .i64 (t : Nat)] 127))
    have hKa := hK.below ((Below.refl _ w).alloc (Nat.le_refl _) (.cells #[.int .i64 (x0 : Nat), .int .i64 (x1 : Nat), .int .i64 (x2 : Nat), .int .i64 (l : Nat), .int .i64 (o : Nat), .int .i64 (t : Nat)] 127))
    have hbw : Below w.heap.size w (w.alloc (.cells #[.int .i64 (x0 : Nat), .int .i64 (x1 : Nat), .int .i64 (x2 : Nat), .int .i64 (l : Nat), .int .i64 (o : Nat), .int .i64 (t : Nat)] 127)) := (Below.refl _ w).alloc (Nat.le_refl _) _
    have hza : (w.alloc (.cells #[.int .i64 (x0 : Nat), .int .i64 (x1 : Nat), .int .i64 (x2 : Nat), .int .i64 (l : Nat), .int .i64 (o : Nat), .int .i64 (t : Nat)] 127)).heap.size = w.heap.size + 1 := by simp
    obtain ⟨Wb, hWb⟩ : ∃ Wb, (w.alloc (.cells #[.int .i64 (x0 : Nat), .int .i64 (x1 : Nat), .int .i64 (x2 : Nat), .int .i64 (l : Nat), .int .i64 (o : Nat), .int .i64 (t : Nat)] 127)) = Wb := ⟨_, rfl⟩
    rw [hWb] at hMa hRa hbx hJa hKa hbw hza ⊢
    clear hWb
    have b0 := obj_at hbx 0 _ rfl
    have b1 := obj_at hbx 1 _ rfl
    have b2 := obj_at hbx 2 _ rfl
    have b3 := obj_at hbx 3 _ rfl
    have a0 := hJa.c0
    have nb : w.heap.size < Wb.heap.size := by omega
    have nj : J < Wb.heap.size := hJa.lt
    clear hza
    haveI : Nonempty (Gk Wb M (KMap 109 M (goodC Wn (lts ts)))) := nonempty_gk hMa hRa.km
    refine wp_region_gk (M := M) (K := (KMap 109 M (goodC Wn (lts ts)))) (by kernel_rfl) (by kernel_rfl) hMa (hKb.out _ _ (below_drew (Below.refl _ _)) hRa.km) ?_
    repeat (go_big_quiet_step ((go_at_call 75; refine GivesM.quiet hMa (HCN.out _ ?_); exact hRa.grown (gro_grown _ _ _) (by rw [Int.toNat_natCast]; exact Gk.ok (M := M) (K := (KMap 109 M (goodC Wn (lts ts)))) _))))
    refine wpQuiet_nil ?_
    rintro w3 ⟨g, hg⟩
    have hg3 : Wb.grownBy w3 (some M) := by rw [hg]; exact gro_grown _ _ _
    have hK3 : (KMap 109 M (goodC Wn (lts ts))) w3 := by rw [hg]; exact Gk.ok (M := M) (K := (KMap 109 M (goodC Wn (lts ts)))) g
    clear hg g
    have hz3 := hg3.size
    have hbx3 := (hg3.block _ nb (by simp; omega)).trans hbx
    have hJ3 := hJa.keep (hg3.block J nj (by simp; omega)) hz3
    have hKE3 := hKa.kept hg3 (by simp; omega)
    have hR3 := hRa.grown hg3 (by rw [Int.toNat_natCast]; exact hK3)
    have hG3 : Grown2 M K w w3 := (Grown2.below hbw).trans (Grown2.of hg3 (.inl rfl))
    have d3 := obj_at hbx3 3 _ rfl
    have d4 := obj_at hbx3 4 _ rfl
    have d5 := obj_at hbx3 5 _ rfl
    have nb3 : w.heap.size < w3.heap.size := by omega
    go_wp2
    go_ret
    exact ⟨rfl, hG3, hK3, hKE3⟩
  | true =>
    have hCp : 0 < C := hpos.2 hN
    have hCi : ((C : Int) == 0) = false := by simp; omega
    clear hpos HE0 HED
    unfold Gives2
    by_cases hz : o = 0 ∧ t = 0
    · have hoi : ((o : Int) == 0) = true := by simp [hz.1]
      have hti : ((t : Int) == 0) = true := by simp [hz.2]
      have hE1 : E = 1 := by have := HH1.out hN; rw [hz.1, hz.2] at hE; rw [hE.out] at this; exact this
      clear hz hE
      subst hE1
      clear hN hlow HH1 HH2
      go_enter Try.func86, Try.ntmps86
      go_wp2
      have hbx := heap_alloc_new w (.cells #[.int .i64 (x0 : Nat), .int .i64 (x1 : Nat), .int .i64 (x2 : Nat), .int .i64 (l : Nat), .int .i64 (o : Nat), .int .i64 (t : Nat)] 127)
      have hJa := hJ.below ((Below.refl _ w).alloc (Nat.le_refl _) (.cells #[.int .i64 (x0 : Nat), .int .i64 (x1 : Nat), .int .i64 (x2 : Nat), .int .i64 (l : Nat), .int .i64 (o : Nat), .int .i64 (t : Nat)] 127))
      have hKa := hK.below ((Below.refl _ w).alloc (Nat.le_refl _) (.cells #[.int .i64 (x0 : Nat), .int .i64 (x1 : Nat), .int .i64 (x2 : Nat), .int .i64 (l : Nat), .int .i64 (o : Nat), .int .i64 (t : Nat)] 127))
      have hbw : Below w.heap.size w (w.alloc (.cells #[.int .i64 (x0 : Nat), .int .i64 (x1 : Nat), .int .i64 (x2 : Nat), .int .i64 (l : Nat), .int .i64 (o : Nat), .int .i64 (t : Nat)] 127)) := (Below.refl _ w).alloc (Nat.le_refl _) _
      have hza : (w.alloc (.cells #[.int .i64 (x0 : Nat), .int .i64 (x1 : Nat), .int .i64 (x2 : Nat), .int .i64 (l : Nat), .int .i64 (o : Nat), .int .i64 (t : Nat)] 127)).heap.size = w.heap.size + 1 := by simp
      obtain ⟨Wb, hWb⟩ : ∃ Wb, (w.alloc (.cells #[.int .i64 (x0 : Nat), .int .i64 (x1 : Nat), .int .i64 (x2 : Nat), .int .i64 (l : Nat), .int .i64 (o : Nat), .int .i64 (t : Nat)] 127)) = Wb := ⟨_, rfl⟩
      rw [hWb] at hMa hRa hbx hJa hKa hbw hza ⊢
      clear hWb
      have b0 := obj_at hbx 0 _ rfl
      have b1 := obj_at hbx 1 _ rfl
      have b2 := obj_at hbx 2 _ rfl
      have b3 := obj_at hbx 3 _ rfl
      have a0 := hJa.c0
      have nb : w.heap.size < Wb.heap.size := by omega
      have nj : J < Wb.heap.size := hJa.lt
      clear hza
      haveI : Nonempty (Gk Wb M (KMap 109 M (goodC Wn (lts ts)))) := nonempty_gk hMa hRa.km
      refine wp_region_gk (M := M) (K := (KMap 109 M (goodC Wn (lts ts)))) (by kernel_rfl) (by kernel_rfl) hMa (hKb.out _ _ (below_drew (Below.refl _ _)) hRa.km) ?_
      repeat (go_big_quiet_step ((go_at_call 75; refine GivesM.quiet hMa (HCN.out _ ?_); exact hRa.grown (gro_grown _ _ _) (by rw [Int.toNat_natCast]; exact Gk.ok (M := M) (K := (KMap 109 M (goodC Wn (lts ts)))) _))))
      refine wpQuiet_nil ?_
      rintro w3 ⟨g, hg⟩
      have hg3 : Wb.grownBy w3 (some M) := by rw [hg]; exact gro_grown _ _ _
      have hK3 : (KMap 109 M (goodC Wn (lts ts))) w3 := by rw [hg]; exact Gk.ok (M := M) (K := (KMap 109 M (goodC Wn (lts ts)))) g
      clear hg g
      have hz3 := hg3.size
      have hbx3 := (hg3.block _ nb (by simp; omega)).trans hbx
      have hJ3 := hJa.keep (hg3.block J nj (by simp; omega)) hz3
      have hKE3 := hKa.kept hg3 (by simp; omega)
      have hR3 := hRa.grown hg3 (by rw [Int.toNat_natCast]; exact hK3)
      have hG3 : Grown2 M K w w3 := (Grown2.below hbw).trans (Grown2.of hg3 (.inl rfl))
      have d3 := obj_at hbx3 3 _ rfl
      have d4 := obj_at hbx3 4 _ rfl
      have d5 := obj_at hbx3 5 _ rfl
      have nb3 : w.heap.size < w3.heap.size := by omega
      go_wp2
      go_ret
      exact ⟨rfl, hG3, hK3, hKE3⟩
    · have hlow2 := (hlow.resolve_left (by rw [hN]; simp)).resolve_left hz
      have hE2 : E = 2 := by have := HH2.out hN hz hlow2; rw [hE.out] at this; exact this
      subst hE2
      clear hN hlow HH1 HH2
      by_cases ht0 : t = 0
      · have hti : ((t : Int) == 0) = true := by simp [ht0]
        have hoi : ((o : Int) == 0) = false := by simp; omega
        clear hlow2 hz ht0
        go_enter Try.func86, Try.ntmps86
        go_wp2
        have hbx := heap_alloc_new w (.cells #[.int .i64 (x0 : Nat), .int .i64 (x1 : Nat), .int .i64 (x2 : Nat), .int .i64 (l : Nat), .int .i64 (o : Nat), .int .i64 (t : Nat)] 127)
        have hJa := hJ.below ((Below.refl _ w).alloc (Nat.le_refl _) (.cells #[.int .i64 (x0 : Nat), .int .i64 (x1 : Nat), .int .i64 (x2 : Nat), .int .i64 (l : Nat), .int .i64 (o : Nat), .int .i64 (t : Nat)] 127))
        have hKa := hK.below ((Below.refl _ w).alloc (Nat.le_refl _) (.cells #[.int .i64 (x0 : Nat), .int .i64 (x1 : Nat), .int .i64 (x2 : Nat), .int .i64 (l : Nat), .int .i64 (o : Nat), .int .i64 (t : Nat)] 127))
        have hbw : Below w.heap.size w (w.alloc (.cells #[.int .i64 (x0 : Nat), .int .i64 (x1 : Nat), .int .i64 (x2 : Nat), .int .i64 (l : Nat), .int .i64 (o : Nat), .int .i64 (t : Nat)] 127)) := (Below.refl _ w).alloc (Nat.le_refl _) _
        have hza : (w.alloc (.cells #[.int .i64 (x0 : Nat), .int .i64 (x1 : Nat), .int .i64 (x2 : Nat), .int .i64 (l : Nat), .int .i64 (o : Nat), .int .i64 (t : Nat)] 127)).heap.size = w.heap.size + 1 := by simp
        obtain ⟨Wb, hWb⟩ : ∃ Wb, (w.alloc (.cells #[.int .i64 (x0 : Nat), .int .i64 (x1 : Nat), .int .i64 (x2 : Nat), .int .i64 (l : Nat), .int .i64 (o : Nat), .int .i64 (t : Nat)] 127)) = Wb := ⟨_, rfl⟩
        rw [hWb] at hMa hRa hbx hJa hKa hbw hza ⊢
        clear hWb
        have b0 := obj_at hbx 0 _ rfl
        have b1 := obj_at hbx 1 _ rfl
        have b2 := obj_at hbx 2 _ rfl
        have b3 := obj_at hbx 3 _ rfl
        have a0 := hJa.c0
        have nb : w.heap.size < Wb.heap.size := by omega
        have nj : J < Wb.heap.size := hJa.lt
        clear hza
        haveI : Nonempty (Gk Wb M (KMap 109 M (goodC Wn (lts ts)))) := nonempty_gk hMa hRa.km
        refine wp_region_gk (M := M) (K := (KMap 109 M (goodC Wn (lts ts)))) (by kernel_rfl) (by kernel_rfl) hMa (hKb.out _ _ (below_drew (Below.refl _ _)) hRa.km) ?_
        repeat (go_big_quiet_step ((go_at_call 75; refine GivesM.quiet hMa (HCN.out _ ?_); exact hRa.grown (gro_grown _ _ _) (by rw [Int.toNat_natCast]; exact Gk.ok (M := M) (K := (KMap 109 M (goodC Wn (lts ts)))) _))))
        refine wpQuiet_nil ?_
        rintro w3 ⟨g, hg⟩
        have hg3 : Wb.grownBy w3 (some M) := by rw [hg]; exact gro_grown _ _ _
        have hK3 : (KMap 109 M (goodC Wn (lts ts))) w3 := by rw [hg]; exact Gk.ok (M := M) (K := (KMap 109 M (goodC Wn (lts ts)))) g
        clear hg g
        have hz3 := hg3.size
        have hbx3 := (hg3.block _ nb (by simp; omega)).trans hbx
        have hJ3 := hJa.keep (hg3.block J nj (by simp; omega)) hz3
        have hKE3 := hKa.kept hg3 (by simp; omega)
        have hR3 := hRa.grown hg3 (by rw [Int.toNat_natCast]; exact hK3)
        have hG3 : Grown2 M K w w3 := (Grown2.below hbw).trans (Grown2.of hg3 (.inl rfl))
        have d3 := obj_at hbx3 3 _ rfl
        have d4 := obj_at hbx3 4 _ rfl
        have d5 := obj_at hbx3 5 _ rfl
        have nb3 : w.heap.size < w3.heap.size := by omega
        go_wp2
        go_ret
        exact ⟨rfl, hG3, hK3, hKE3⟩
      · have hti : ((t : Int) == 0) = false := by simp; omega
        by_cases hlo : l < o
        · have hloi : (l : Int) < (o : Nat) := by omega
          have hoi : ((o : Int) == 0) = false := by simp; omega
          clear hlow2 hz
          go_enter Try.func86, Try.ntmps86
          go_wp2
          have hbx := heap_alloc_new w (.cells #[.int .i64 (x0 : Nat), .int .i64 (x1 : Nat), .int .i64 (x2 : Nat), .int .i64 (l : Nat), .int .i64 (o : Nat), .int .i64 (t : Nat)] 127)
          have hJa := hJ.below ((Below.refl _ w).alloc (Nat.le_refl _) (.cells #[.int .i64 (x0 : Nat), .int .i64 (x1 : Nat), .int .i64 (x2 : Nat), .int .i64 (l : Nat), .int .i64 (o : Nat), .int .i64 (t : Nat)] 127))
          have hKa := hK.below ((Below.refl _ w).alloc (Nat.le_refl _) (.cells #[.int .i64 (x0 : Nat), .int .i64 (x1 : Nat), .int .i64 (x2 : Nat), .int .i64 (l : Nat), .int .i64 (o : Nat), .int .i64 (t : Nat)] 127))
          have hbw : Below w.heap.size w (w.alloc (.cells #[.int .i64 (x0 : Nat), .int .i64 (x1 : Nat), .int .i64 (x2 : Nat), .int .i64 (l : Nat), .int .i64 (o : Nat), .int .i64 (t : Nat)] 127)) := (Below.refl _ w).alloc (Nat.le_refl _) _
          have hza : (w.alloc (.cells #[.int .i64 (x0 : Nat), .int .i64 (x1 : Nat), .int .i64 (x2 : Nat), .int .i64 (l : Nat), .int .i64 (o : Nat), .int .i64 (t : Nat)] 127)).heap.size = w.heap.size + 1 := by simp
          obtain ⟨Wb, hWb⟩ : ∃ Wb, (w.alloc (.cells #[.int .i64 (x0 : Nat), .int .i64 (x1 : Nat), .int .i64 (x2 : Nat), .int .i64 (l : Nat), .int .i64 (o : Nat), .int .i64 (t : Nat)] 127)) = Wb := ⟨_, rfl⟩
          rw [hWb] at hMa hRa hbx hJa hKa hbw hza ⊢
          clear hWb
          have b0 := obj_at hbx 0 _ rfl
          have b1 := obj_at hbx 1 _ rfl
          have b2 := obj_at hbx 2 _ rfl
          have b3 := obj_at hbx 3 _ rfl
          have a0 := hJa.c0
          have nb : w.heap.size < Wb.heap.size := by omega
          have nj : J < Wb.heap.size := hJa.lt
          clear hza
          haveI : Nonempty (Gk Wb M (KMap 109 M (goodC Wn (lts ts)))) := nonempty_gk hMa hRa.km
          refine wp_region_gk (M := M) (K := (KMap 109 M (goodC Wn (lts ts)))) (by kernel_rfl) (by kernel_rfl) hMa (hKb.out _ _ (below_drew (Below.refl _ _)) hRa.km) ?_
          repeat (go_big_quiet_step ((go_at_call 75; refine GivesM.quiet hMa (HCN.out _ ?_); exact hRa.grown (gro_grown _ _ _) (by rw [Int.toNat_natCast]; exact Gk.ok (M := M) (K := (KMap 109 M (goodC Wn (lts ts)))) _))))
          refine wpQuiet_nil ?_
          rintro w3 ⟨g, hg⟩
          have hg3 : Wb.grownBy w3 (some M) := by rw [hg]; exact gro_grown _ _ _
          have hK3 : (KMap 109 M (goodC Wn (lts ts))) w3 := by rw [hg]; exact Gk.ok (M := M) (K := (KMap 109 M (goodC Wn (lts ts)))) g
          clear hg g
          have hz3 := hg3.size
          have hbx3 := (hg3.block _ nb (by simp; omega)).trans hbx
          have hJ3 := hJa.keep (hg3.block J nj (by simp; omega)) hz3
          have hKE3 := hKa.kept hg3 (by simp; omega)
          have hR3 := hRa.grown hg3 (by rw [Int.toNat_natCast]; exact hK3)
          have hG3 : Grown2 M K w w3 := (Grown2.below hbw).trans (Grown2.of hg3 (.inl rfl))
          have d3 := obj_at hbx3 3 _ rfl
          have d4 := obj_at hbx3 4 _ rfl
          have d5 := obj_at hbx3 5 _ rfl
          have nb3 : w.heap.size < w3.heap.size := by omega
          go_wp2
          go_ret
          exact ⟨rfl, hG3, hK3, hKE3⟩
        · have hloi : ¬ ((l : Int) < (o : Nat)) := by omega
          have hlti : (l : Int) < (t : Nat) := by omega
          clear hlow2
          by_cases ho0 : o = 0
          · have hoi : ((o : Int) == 0) = true := by simp [ho0]
            clear ho0
            go_enter Try.func86, Try.ntmps86
            go_wp2
            have hbx := heap_alloc_new w (.cells #[.int .i64 (x0 : Nat), .int .i64 (x1 : Nat), .int .i64 (x2 : Nat), .int .i64 (l : Nat), .int .i64 (o : Nat), .int .i64 (t : Nat)] 127)
            have hJa := hJ.below ((Below.refl _ w).alloc (Nat.le_refl _) (.cells #[.int .i64 (x0 : Nat), .int .i64 (x1 : Nat), .int .i64 (x2 : Nat), .int .i64 (l : Nat), .int .i64 (o : Nat), .int .i64 (t : Nat)] 127))
            have hKa := hK.below ((Below.refl _ w).alloc (Nat.le_refl _) (.cells #[.int .i64 (x0 : Nat), .int .i64 (x1 : Nat), .int .i64 (x2 : Nat), .int .i64 (l : Nat), .int .i64 (o : Nat), .int .i64 (t : Nat)] 127))
            have hbw : Below w.heap.size w (w.alloc (.cells #[.int .i64 (x0 : Nat), .int .i64 (x1 : Nat), .int .i64 (x2 : Nat), .int .i64 (l : Nat), .int .i64 (o : Nat), .int .i64 (t : Nat)] 127)) := (Below.refl _ w).alloc (Nat.le_refl _) _
            have hza : (w.alloc (.cells #[.int .i64 (x0 : Nat), .int .i64 (x1 : Nat), .int .i64 (x2 : Nat), .int .i64 (l : Nat), .int .i64 (o : Nat), .int .i64 (t : Nat)] 127)).heap.size = w.heap.size + 1 := by simp
            obtain ⟨Wb, hWb⟩ : ∃ Wb, (w.alloc (.cells #[.int .i64 (x0 : Nat), .int .i64 (x1 : Nat), .int .i64 (x2 : Nat), .int .i64 (l : Nat), .int .i64 (o : Nat), .int .i64 (t : Nat)] 127)) = Wb := ⟨_, rfl⟩
            rw [hWb] at hMa hRa hbx hJa hKa hbw hza ⊢
            clear hWb
            have b0 := obj_at hbx 0 _ rfl
            have b1 := obj_at hbx 1 _ rfl
            have b2 := obj_at hbx 2 _ rfl
            have b3 := obj_at hbx 3 _ rfl
            have a0 := hJa.c0
            have nb : w.heap.size < Wb.heap.size := by omega
            have nj : J < Wb.heap.size := hJa.lt
            clear hza
            haveI : Nonempty (Gk Wb M (KMap 109 M (goodC Wn (lts ts)))) := nonempty_gk hMa hRa.km
            refine wp_region_gk (M := M) (K := (KMap 109 M (goodC Wn (lts ts)))) (by kernel_rfl) (by kernel_rfl) hMa (hKb.out _ _ (below_drew (Below.refl _ _)) hRa.km) ?_
            repeat (go_big_quiet_step ((go_at_call 75; refine GivesM.quiet hMa (HCN.out _ ?_); exact hRa.grown (gro_grown _ _ _) (by rw [Int.toNat_natCast]; exact Gk.ok (M := M) (K := (KMap 109 M (goodC Wn (lts ts)))) _))))
            refine wpQuiet_nil ?_
            rintro w3 ⟨g, hg⟩
            have hg3 : Wb.grownBy w3 (some M) := by rw [hg]; exact gro_grown _ _ _
            have hK3 : (KMap 109 M (goodC Wn (lts ts))) w3 := by rw [hg]; exact Gk.ok (M := M) (K := (KMap 109 M (goodC Wn (lts ts)))) g
            clear hg g
            have hz3 := hg3.size
            have hbx3 := (hg3.block _ nb (by simp; omega)).trans hbx
            have hJ3 := hJa.keep (hg3.block J nj (by simp; omega)) hz3
            have hKE3 := hKa.kept hg3 (by simp; omega)
            have hR3 := hRa.grown hg3 (by rw [Int.toNat_natCast]; exact hK3)
            have hG3 : Grown2 M K w w3 := (Grown2.below hbw).trans (Grown2.of hg3 (.inl rfl))
            have d3 := obj_at hbx3 3 _ rfl
            have d4 := obj_at hbx3 4 _ rfl
            have d5 := obj_at hbx3 5 _ rfl
            have nb3 : w.heap.size < w3.heap.size := by omega
            go_wp2
            go_ret
            exact ⟨rfl, hG3, hK3, hKE3⟩
          · have hoi : ((o : Int) == 0) = false := by simp; omega
            go_enter Try.func86, Try.ntmps86
            go_wp2
            have hbx := heap_alloc_new w (.cells #[.int .i64 (x0 : Nat), .int .i64 (x1 : Nat), .int .i64 (x2 : Nat), .int .i64 (l : Nat), .int .i64 (o : Nat), .int .i64 (t : Nat)] 127)
            have hJa := hJ.below ((Below.refl _ w).alloc (Nat.le_refl _) (.cells #[.int .i64 (x0 : Nat), .int .i64 (x1 : Nat), .int .i64 (x2 : Nat), .int .i64 (l : Nat), .int .i64 (o : Nat), .int .i64 (t : Nat)] 127))
            have hKa := hK.below ((Below.refl _ w).alloc (Nat.le_refl _) (.cells #[.int .i64 (x0 : Nat), .int .i64 (x1 : Nat), .int .i64 (x2 : Nat), .int .i64 (l : Nat), .int .i64 (o : Nat), .int .i64 (t : Nat)] 127))
            have hbw : Below w.heap.size w (w.alloc (.cells #[.int .i64 (x0 : Nat), .int .i64 (x1 : Nat), .int .i64 (x2 : Nat), .int .i64 (l : Nat), .int .i64 (o : Nat), .int .i64 (t : Nat)] 127)) := (Below.refl _ w).alloc (Nat.le_refl _) _
            have hza : (w.alloc (.cells #[.int .i64 (x0 : Nat), .int .i64 (x1 : Nat), .int .i64 (x2 : Nat), .int .i64 (l : Nat), .int .i64 (o : Nat), .int .i64 (t : Nat)] 127)).heap.size = w.heap.size + 1 := by simp
            obtain ⟨Wb, hWb⟩ : ∃ Wb, (w.alloc (.cells #[.int .i64 (x0 : Nat), .int .i64 (x1 : Nat), .int .i64 (x2 : Nat), .int .i64 (l : Nat), .int .i64 (o : Nat), .int .i64 (t : Nat)] 127)) = Wb := ⟨_, rfl⟩
            rw [hWb] at hMa hRa hbx hJa hKa hbw hza ⊢
            clear hWb
            have b0 := obj_at hbx 0 _ rfl
            have b1 := obj_at hbx 1 _ rfl
            have b2 := obj_at hbx 2 _ rfl
            have b3 := obj_at hbx 3 _ rfl
            have a0 := hJa.c0
            have nb : w.heap.size < Wb.heap.size := by omega
            have nj : J < Wb.heap.size := hJa.lt
            clear hza
            haveI : Nonempty (Gk Wb M (KMap 109 M (goodC Wn (lts ts)))) := nonempty_gk hMa hRa.km
            refine wp_region_gk (M := M) (K := (KMap 109 M (goodC Wn (lts ts)))) (by kernel_rfl) (by kernel_rfl) hMa (hKb.out _ _ (below_drew (Below.refl _ _)) hRa.km) ?_
            repeat (go_big_quiet_step ((go_at_call 75; refine GivesM.quiet hMa (HCN.out _ ?_); exact hRa.grown (gro_grown _ _ _) (by rw [Int.toNat_natCast]; exact Gk.ok (M := M) (K := (KMap 109 M (goodC Wn (lts ts)))) _))))
            refine wpQuiet_nil ?_
            rintro w3 ⟨g, hg⟩
            have hg3 : Wb.grownBy w3 (some M) := by rw [hg]; exact gro_grown _ _ _
            have hK3 : (KMap 109 M (goodC Wn (lts ts))) w3 := by rw [hg]; exact Gk.ok (M := M) (K := (KMap 109 M (goodC Wn (lts ts)))) g
            clear hg g
            have hz3 := hg3.size
            have hbx3 := (hg3.block _ nb (by simp; omega)).trans hbx
            have hJ3 := hJa.keep (hg3.block J nj (by simp; omega)) hz3
            have hKE3 := hKa.kept hg3 (by simp; omega)
            have hR3 := hRa.grown hg3 (by rw [Int.toNat_natCast]; exact hK3)
            have hG3 : Grown2 M K w w3 := (Grown2.below hbw).trans (Grown2.of hg3 (.inl rfl))
            have d3 := obj_at hbx3 3 _ rfl
            have d4 := obj_at hbx3 4 _ rfl
            have d5 := obj_at hbx3 5 _ rfl
            have nb3 : w.heap.size < w3.heap.size := by omega
            go_wp2
            go_ret
            exact ⟨rfl, hG3, hK3, hKE3⟩
end Go.Proofs.Ytafncmgijbkomaa
