/- Proved here: the law BoxCut, a part of the proofs about the box laws. Conditions: those that each theorem names, no others. -/
import Derived.Test.YtlbkaeoagdbemaaP38
import Derived.WalkKit
import Derived.WalkSpells
import Derived.WalkLawsBesides
import Derived.Below
import Derived.Deep.QuietTactic
import Derived.BigQuiet
import Derived.Deep.Light
import Derived.Test.YtlbkaeoagdbemaaG9
import Derived.Test.YtlbkaeoagdbemaaG15
import Derived.Test.YtlbkaeoagdbemaaG17
import Derived.Deep.RegionHeld3
import Derived.Deep.CutRange
import Derived.Laws.OwnMore
set_option linter.unusedSimpArgs false
set_option linter.unusedVariables false
namespace Go.Proofs.Ytlbkaeoagdbemaa
open Go.RowKit Go.Maps
theorem set_two {W : World} {b : Nat} {x y u v : Value} {t : TypeId} (h : W.heap[b]? = some (.cells #[x, y] t (0, 0))) : BlkAt ((W.setCell ⟨b, 0, none⟩ u).setCell ⟨b, 1, none⟩ v) b #[u, v] t := set_obj (set_obj h 0 u) 1 v
theorem one_i64 (xs : List Int) : ∀ u ∈ xs.map (Value.int .i64), u.oneCell' = true := by
  intro u hu
  obtain ⟨x, _, rfl⟩ := List.mem_map.1 hu
  rfl
theorem own_setFar {W : World} {B n sz : Nat} {e : TypeId} {v : Value} {xs : List Value} {b : Nat} (hO : W.ownsRow B e sz v n xs) (hF : Far v b) (k : Nat) (u : Value) : (W.setCell ⟨b, k, none⟩ u).ownsRow B e sz v n xs := by
  have hg : W.grownBy (W.setCell ⟨b, k, none⟩ u) (some b) := ⟨rfl, rfl, rfl, by simp, fun i _ hi => Below.heap_setCell _ _ _ _ (fun e => hi (by rw [e]))⟩
  refine hO.kept hg ?_
  cases ho : v.ownBlock with
  | none => exact .inl rfl
  | some g => exact .inr (fun e => hF g ho (Option.some.inj e).symm)
theorem cellsT_set (a : Row) : ∀ (rows : List Row) (i : Nat), i < rows.length → ((cellsT rows).set (i * 2) (.slice a.1 a.2.1.length a.2.2.1)).set (i * 2 + 1) (.int .i64 a.2.2.2) = cellsT (rows.set i a)
  | [], i, h => by simp at h
  | r :: rows, 0, _ => by unfold cellsT; simp
  | r :: rows, i + 1, h => by
    have ih := cellsT_set a rows i (by simpa using h)
    unfold cellsT at ih ⊢
    rw [show (i + 1) * 2 = i * 2 + 2 by omega]
    simp only [List.flatMap_cons, List.cons_append, List.nil_append, List.set_cons_succ]
    rw [← ih]
theorem ok_cut {R : List Nat} {ts : List Bm.Tk} (hok : Ok R ts) {i r m : Nat} (hi : i < ts.length) (hr : r < R.length) (hm : (ts.getD i ([], 0)).1.getD r 0 &&& m = m) (h0 : m ≠ 0) (h1 : m ≠ (ts.getD i ([], 0)).1.getD r 0) (h10 : ts.length < 10) : Ok R (Bm.cutT ts i r m) := by
  have hmem : ts.getD i ([], 0) ∈ ts := by rw [getD_at _ _ hi]; exact List.getElem_mem hi
  have hb := hok.tb _ hmem
  have hu := hok.tu _ hmem
  have key : ∀ t, t ∈ Bm.cutT ts i r m → Bm.isBox R t.1 = true ∧ 1 ≤ t.2 ∧ t.2 ≤ 1000 := fun t ht => by
    unfold Bm.cutT at ht
    rcases List.mem_append.1 ht with ht | ht
    · rcases List.mem_or_eq_of_mem_set ht with ht | rfl
      · exact ⟨hok.tb t ht, hok.tu t ht⟩
      · exact ⟨Bm.cut_half hb hr hm h0, hu⟩
    · rw [List.mem_singleton.1 ht]; exact ⟨Bm.cut_rest hb hr hm h1, hu⟩
  exact { h1 := hok.h1, h5 := hok.h5, r1 := hok.r1, r6 := hok.r6, t10 := by rw [Bm.cutT_len]; omega, tb := fun t ht => (key t ht).1, tu := fun t ht => (key t ht).2 }
theorem cov_cut {R : List Nat} {ts : List Bm.Tk} (hok : Ok R ts) {i r m : Nat} (hi : i < ts.length) (hr : r < R.length) (hm : (ts.getD i ([], 0)).1.getD r 0 &&& m = m) : Bm.afterN R (Bm.cutT ts i r m) [] = Bm.afterN R ts [] := by
  unfold Bm.afterN
  exact List.countP_congr fun o ho => by rw [Bm.uni_cut hok.tb hok.r6 hi hr hm ho]
theorem dec_and9 {a b c : Prop} [Decidable a] [Decidable b] [Decidable c] (h : a ↔ b ∧ c) : decide a = (decide b && decide c) := by
  rw [Bool.eq_iff_iff, Bool.and_eq_true, decide_eq_true_eq, decide_eq_true_eq, decide_eq_true_eq]; exact h
theorem zs_contains (l : List Nat) (i : Nat) : (zs l).contains ((i : Nat) : Int) = decide (i ∈ l) := by
  rw [Bool.eq_iff_iff, List.contains_iff_mem, decide_eq_true_eq]
  unfold zs
  rw [List.mem_map]
  exact ⟨fun ⟨a, h, e⟩ => by rwa [show a = i by omega] at h, fun h => ⟨i, h, rfl⟩⟩
theorem first_congr9 {α : Type} {f g : α → Int} {l : List α} {b : α} (h : ∀ x, x ∈ l → f x = g x) (hf : Bm.IsFirst f l b) : Bm.IsFirst g l b := by
  obtain ⟨pre, post, rfl, h1, h2⟩ := hf
  refine ⟨pre, post, rfl, fun x hx => ?_, fun x hx => ?_⟩
  · rw [← h x (by simp [hx]), ← h b (by simp)]; exact h1 x hx
  · rw [← h x (by simp [hx]), ← h b (by simp)]; exact h2 x hx
theorem deep_cut {R : List Nat} {ts : List Bm.Tk} (hok : Ok R ts) {i r m : Nat} (hokx : Ok R (Bm.cutT ts i r m)) (hi : i < ts.length) (hr : r < R.length) (hm : (ts.getD i ([], 0)).1.getD r 0 &&& m = m) : deepO R (Bm.cutT ts i r m) = deepO R ts := by
  have h1 := firstO_is hok deepV
  have h2 := firstO_is hokx deepV
  rw [deep_eq hok (outs_pos hok.r1)] at h1
  rw [deep_eq hokx (outs_pos hok.r1)] at h2
  exact (first_congr9 (fun o ho => by rw [Bm.uni_cut hok.tb hok.r6 hi hr hm ho]) h2).uniq h1
theorem find_congr9 {α : Type} {l : List α} {p q : α → Bool} (h : ∀ x, x ∈ l → p x = q x) : l.find? p = l.find? q := by
  induction l with
  | nil => rfl
  | cons a l ih => rw [List.find?_cons, List.find?_cons, h a (by simp), ih (fun x hx => h x (by simp [hx]))]
theorem open_val9 {R : List Nat} {ts : List Bm.Tk} (hok : Ok R ts) : openVV (zs R) (tz ts) = match (Bm.outs R).find? (fun o => decide (Bm.uni ts o = 0)) with | some o => (zs o, 0) | none => ([], 5) := by
  unfold openVV; rw [if_neg (by rw [ok_chk hok]; simp), nn_zs, nt_tz]; rfl
theorem open_cut {R : List Nat} {ts : List Bm.Tk} (hok : Ok R ts) {i r m : Nat} (hokx : Ok R (Bm.cutT ts i r m)) (hi : i < ts.length) (hr : r < R.length) (hm : (ts.getD i ([], 0)).1.getD r 0 &&& m = m) : openVV (zs R) (tz (Bm.cutT ts i r m)) = openVV (zs R) (tz ts) := by
  rw [open_val9 hok, open_val9 hokx, find_congr9 (q := fun o => decide (Bm.uni ts o = 0)) (fun o ho => by rw [Bm.uni_cut hok.tb hok.r6 hi hr hm ho])]
theorem open_len9 {R : List Nat} {ts : List Bm.Tk} (hok : Ok R ts) : (openVV (zs R) (tz ts)).1.length ≤ 5 := by
  rw [open_val9 hok]
  cases hf : (Bm.outs R).find? (fun o => decide (Bm.uni ts o = 0)) with
  | none => simp
  | some o => have := Bm.outs_len (List.mem_of_find?_eq_some hf); have := hok.h5; simp only [zs_len]; omega
theorem size_le9 {R : List Nat} {ts : List Bm.Tk} (hok : Ok R ts) {S : List Nat} (hb : Bm.isBox R S = true) : Bm.size S ≤ 7776 := by
  rw [← Bm.size_count (Bm.all6 hok.r6) hb]
  have h1 : (Bm.outs R).countP (Bm.win S) ≤ (Bm.outs R).length := List.countP_le_length
  have h2 := Bm.outs_len_le hok.r6
  have h3 : 6 ^ R.length ≤ 6 ^ 5 := Nat.pow_le_pow_right (by omega) hok.h5
  omega
theorem ok_part9 {R : List Nat} {ts : List Bm.Tk} (hok : Ok R ts) {S : List Nat} {u : Nat} (hb : Bm.isBox R S = true) (hu : 1 ≤ u ∧ u ≤ 1000) : Ok R [(S, u)] :=
  { h1 := hok.h1, h5 := hok.h5, r1 := hok.r1, r6 := hok.r6, t10 := by simp, tb := fun x hx => by rw [List.mem_singleton.1 hx]; exact hb, tu := fun x hx => by rw [List.mem_singleton.1 hx]; exact hu }
theorem o_pay9 (A : Option Addr) (R : List Nat) (c : Nat) (B : Option Addr) (ts : List Bm.Tk) (d : Nat) (w : World) (hA : I64 w A (zs R)) (hB : Tks w B (tz ts)) (hok : Ok R ts) (X : Option Addr) (o : List Nat) (xc : Nat) (hX : I64 w X (zs o)) (ho : o ∈ Bm.outs R) : Calls Try.prog 41 #[.agg #[.slice A R.length c], .slice B ts.length d, .int .i64 999, .slice X o.length xc] w (Gives w (.tuple #[.int .i64 (payP (Bm.uni ts o) 999 : Nat), .int .i64 (payC (Bm.uni ts o) 999 : Nat), .int .i64 0])) := o_pays A R c B ts d w hA hB hok X o xc hX ho 999 (by omega)
theorem mAnd64 : ∀ s : Fin 64, ∀ m : Fin 256, bits BinOp.and .i64 ((s.1 : Nat) : Int) ((m.1 : Nat) : Int) = ((s.1 &&& m.1 : Nat) : Int) := by decide +kernel
theorem side_rd2c {B : Nat} {W : World} {v : Value} {b : Nat} {t : TypeId} {x y : Value} (h : Side B W v b (.cells #[x, y] t (0, 0))) : Rd W 2 (some ⟨b, 0, none⟩) 1 [x, y] :=
  ⟨rfl, fun _ => ⟨b, 0, rfl, h.2.1, fun j u hu => by
    have hj : j = 0 ∨ j = 1 := by
      have := (List.getElem?_eq_some_iff.1 hu).1
      simp at this
      omega
    rcases hj with rfl | rfl
    · simp at hu; subst hu; exact obj_at h.2.2.1 0 _ rfl
    · simp at hu; subst hu; exact obj_at h.2.2.1 1 _ rfl⟩⟩
theorem mAndN {s m : Nat} (hs : s < 64) (hm : m < 256) : bits BinOp.and .i64 ((s : Nat) : Int) ((m : Nat) : Int) = ((s &&& m : Nat) : Int) := mAnd64 ⟨s, hs⟩ ⟨m, hm⟩
set_option maxRecDepth 100000 in
set_option maxHeartbeats 8000000 in
theorem cut_law (A : Option Addr) (R : List Int) (c : Nat) (B : Option Addr) (ts : List Tz) (d : Nat) (which race runs x0 x1 x2 x3 x4 : Nat) (w : World) (hA : I64 w A R) (hB : Tks w B ts) (hl9 : R.length ≤ 9223372036854775807) (hd : ts.length ≤ d) (hd9 : d ≤ 9223372036854775807) (hts9 : ∀ t, t ∈ ts → t.1.length ≤ 9223372036854775807) (hw8 : which < 256) (hr8 : race < 256) (hm8 : runs < 256) (b0 : x0 < 256) (b1 : x1 < 256) (b2 : x2 < 256) (b3 : x3 < 256) (b4 : x4 < 256) : Calls Try.prog 9 #[.agg #[.slice A R.length c], .slice B ts.length d, .int .u8 (which : Nat), .int .u8 (race : Nat), .int .u8 (runs : Nat), .agg #[.int .u8 (x0 : Nat), .int .u8 (x1 : Nat), .int .u8 (x2 : Nat), .int .u8 (x3 : Nat), .int .u8 (x4 : Nat)]] w (Gives w (.bool true)) := by
  have hdi : (ts.length : Int) ≤ 9223372036854775807 := by omega
  cases hf : fineB R ts with
  | false =>
    have tok0 : True := trivial
    go_enter Try.func9, Try.ntmps9
    go_wp2_with (first
    | (clear tok0; go_at_call 45; refine (fine_any A R c B ts d _ (hA.ext (by (repeat (first | exact Below.refl _ _ | assumption | refine below_drewN ?_ _ | refine below_drew ?_ | refine below_gr ?_ ?_ _ | refine below_alloc ?_ ?_ _ | refine Below.setCell ?_ ?_ _ | refine below_step ?_ (by assumption) ?_ | omega | (simp only [zz] at *; omega))))) (hB.ext (by (repeat (first | exact Below.refl _ _ | assumption | refine below_drewN ?_ _ | refine below_drew ?_ | refine below_gr ?_ ?_ _ | refine below_alloc ?_ ?_ _ | refine Below.setCell ?_ ?_ _ | refine below_step ?_ (by assumption) ?_ | omega | (simp only [zz] at *; omega))))) hl9 hd hd9 hts9).mono ?_; rintro e u1 ⟨rfl, hb_u1⟩; replace hb_u1 := ex_below hb_u1; have hX : BlkAt u1 w.heap.size #[.slice A R.length c] 24 := (show BlkAt ((w.alloc (.cells #[.slice A R.length c] 24)).alloc (.cells #[.int .u8 (x0 : Nat), .int .u8 (x1 : Nat), .int .u8 (x2 : Nat), .int .u8 (x3 : Nat), .int .u8 (x4 : Nat)] 53)) w.heap.size #[.slice A R.length c] 24 from (by unfold BlkAt; (repeat (first | rw [Below.heap_alloc _ _ _ (by (first | omega | (simp only [zz]; omega) | (simp only [zz] at *; omega) | (simp; done) | (simp; omega)))])); exact heap_at (by (first | omega | (simp only [zz]; omega) | (simp only [zz] at *; omega) | (simp; done) | (simp; omega))))).ext hb_u1; have hY : BlkAt u1 (w.heap.size + 1) #[.int .u8 (x0 : Nat), .int .u8 (x1 : Nat), .int .u8 (x2 : Nat), .int .u8 (x3 : Nat), .int .u8 (x4 : Nat)] 53 := (show BlkAt ((w.alloc (.cells #[.slice A R.length c] 24)).alloc (.cells #[.int .u8 (x0 : Nat), .int .u8 (x1 : Nat), .int .u8 (x2 : Nat), .int .u8 (x3 : Nat), .int .u8 (x4 : Nat)] 53)) (w.heap.size + 1) #[.int .u8 (x0 : Nat), .int .u8 (x1 : Nat), .int .u8 (x2 : Nat), .int .u8 (x3 : Nat), .int .u8 (x4 : Nat)] 53 from (by unfold BlkAt; (repeat (first | rw [Below.heap_alloc _ _ _ (by (first | omega | (simp only [zz]; omega) | (simp only [zz] at *; omega) | (simp; done) | (simp; omega)))])); exact heap_at (by (first | omega | (simp only [zz]; omega) | (simp only [zz] at *; omega) | (simp; done) | (simp; omega))))).ext hb_u1; (try rw [hf]); have bel_u1 : Below w.heap.size w u1 := (by (repeat (first | exact Below.refl _ _ | assumption | refine below_drewN ?_ _ | refine below_drew ?_ | refine below_gr ?_ ?_ _ | refine below_alloc ?_ ?_ _ | refine Below.setCell ?_ ?_ _ | refine below_step ?_ (by assumption) ?_ | omega | (simp only [zz] at *; omega)))); clear hb_u1; have sz_u1 := bel_u1.size; replace hA := hA.ext bel_u1; replace hB := hB.ext bel_u1; (try clear hXc0 hXf hXl); have hXc0 := obj_at hX 0 _ rfl; have hXf := obj_fz hX 0; have hXl := obj_lt hX; (try clear hYc0 hYc1 hYc2 hYc3 hYc4 hYf hYl); have hYc0 := obj_at hY 0 _ rfl; have hYc1 := obj_at hY 1 _ rfl; have hYc2 := obj_at hY 2 _ rfl; have hYc3 := obj_at hY 3 _ rfl; have hYc4 := obj_at hY 4 _ rfl; have hYf := obj_fz hY 0; have hYl := obj_lt hY; have hW := bel_u1; clear bel_u1; have tok1 : True := trivial)
    | (clear tok1; go_at_call 20; refine (works_any _).mono ?_; rintro e u2 ⟨rfl, hb_u2⟩; replace hb_u2 := ex_below hb_u2; have bel_u2 : Below u1.heap.size u1 u2 := (by (repeat (first | exact Below.refl _ _ | assumption | refine below_drewN ?_ _ | refine below_drew ?_ | refine below_gr ?_ ?_ _ | refine below_alloc ?_ ?_ _ | refine Below.setCell ?_ ?_ _ | refine below_step ?_ (by assumption) ?_ | omega | (simp only [zz] at *; omega)))); clear hb_u2; have sz_u2 := bel_u2.size; replace hA := hA.ext bel_u2; replace hB := hB.ext bel_u2; replace hX := hX.ext bel_u2; replace hY := hY.ext bel_u2; replace hW := below_step hW bel_u2 (by have := hW.size; omega); (try clear hXc0 hXf hXl); have hXc0 := obj_at hX 0 _ rfl; have hXf := obj_fz hX 0; have hXl := obj_lt hX; (try clear hYc0 hYc1 hYc2 hYc3 hYc4 hYf hYl); have hYc0 := obj_at hY 0 _ rfl; have hYc1 := obj_at hY 1 _ rfl; have hYc2 := obj_at hY 2 _ rfl; have hYc3 := obj_at hY 3 _ rfl; have hYc4 := obj_at hY 4 _ rfl; have hYf := obj_fz hY 0; have hYl := obj_lt hY; clear bel_u2; have tok2 : True := trivial))

    go_ret
    exact gives_of rfl hW
  | true =>
    obtain ⟨R1, ts1, rfl, rfl, hok, hgr, hwd⟩ := fine_ok hf
    have HF := hide (fun w' (h1 : I64 w' A (zs R1)) (h2 : Tks w' B (tz ts1)) => by
      have := fine_any A (zs R1) c B (tz ts1) d w' h1 h2 hl9 hd hd9 hts9
      rw [hf, zs_len, tz_len] at this
      exact this)
    rw [zs_len, tz_len]
    clear hf hts9
    have hR5 := hok.h5
    have ht10 := hok.t10
    have hR5i : (R1.length : Int) ≤ 5 := by omega
    have ht10i : (ts1.length : Int) ≤ 10 := by omega
    skip
    by_cases hne : ts1.length < 1
    · have hn1 : (ts1.length : Int) < 1 := by omega
      have tok0 : True := trivial
      go_enter Try.func9, Try.ntmps9
      go_wp2_with (first
    | (clear tok0; go_at_call 45; refine (HF.out _ (hA.ext (by (repeat (first | exact Below.refl _ _ | assumption | refine below_drewN ?_ _ | refine below_drew ?_ | refine below_gr ?_ ?_ _ | refine below_alloc ?_ ?_ _ | refine Below.setCell ?_ ?_ _ | refine below_step ?_ (by assumption) ?_ | omega | (simp only [zz] at *; omega))))) (hB.ext (by (repeat (first | exact Below.refl _ _ | assumption | refine below_drewN ?_ _ | refine below_drew ?_ | refine below_gr ?_ ?_ _ | refine below_alloc ?_ ?_ _ | refine Below.setCell ?_ ?_ _ | refine below_step ?_ (by assumption) ?_ | omega | (simp only [zz] at *; omega)))))).mono ?_; rintro e u1 ⟨rfl, hb_u1⟩; replace hb_u1 := ex_below hb_u1; have hX : BlkAt u1 w.heap.size #[.slice A R1.length c] 24 := (show BlkAt ((w.alloc (.cells #[.slice A R1.length c] 24)).alloc (.cells #[.int .u8 (x0 : Nat), .int .u8 (x1 : Nat), .int .u8 (x2 : Nat), .int .u8 (x3 : Nat), .int .u8 (x4 : Nat)] 53)) w.heap.size #[.slice A R1.length c] 24 from (by unfold BlkAt; (repeat (first | rw [Below.heap_alloc _ _ _ (by (first | omega | (simp only [zz]; omega) | (simp only [zz] at *; omega) | (simp; done) | (simp; omega)))])); exact heap_at (by (first | omega | (simp only [zz]; omega) | (simp only [zz] at *; omega) | (simp; done) | (simp; omega))))).ext hb_u1; have hY : BlkAt u1 (w.heap.size + 1) #[.int .u8 (x0 : Nat), .int .u8 (x1 : Nat), .int .u8 (x2 : Nat), .int .u8 (x3 : Nat), .int .u8 (x4 : Nat)] 53 := (show BlkAt ((w.alloc (.cells #[.slice A R1.length c] 24)).alloc (.cells #[.int .u8 (x0 : Nat), .int .u8 (x1 : Nat), .int .u8 (x2 : Nat), .int .u8 (x3 : Nat), .int .u8 (x4 : Nat)] 53)) (w.heap.size + 1) #[.int .u8 (x0 : Nat), .int .u8 (x1 : Nat), .int .u8 (x2 : Nat), .int .u8 (x3 : Nat), .int .u8 (x4 : Nat)] 53 from (by unfold BlkAt; (repeat (first | rw [Below.heap_alloc _ _ _ (by (first | omega | (simp only [zz]; omega) | (simp only [zz] at *; omega) | (simp; done) | (simp; omega)))])); exact heap_at (by (first | omega | (simp only [zz]; omega) | (simp only [zz] at *; omega) | (simp; done) | (simp; omega))))).ext hb_u1; skip; have bel_u1 : Below w.heap.size w u1 := (by (repeat (first | exact Below.refl _ _ | assumption | refine below_drewN ?_ _ | refine below_drew ?_ | refine below_gr ?_ ?_ _ | refine below_alloc ?_ ?_ _ | refine Below.setCell ?_ ?_ _ | refine below_step ?_ (by assumption) ?_ | omega | (simp only [zz] at *; omega)))); clear hb_u1; have sz_u1 := bel_u1.size; replace hA := hA.ext bel_u1; replace hB := hB.ext bel_u1; (try clear hXc0 hXf hXl); have hXc0 := obj_at hX 0 _ rfl; have hXf := obj_fz hX 0; have hXl := obj_lt hX; (try clear hYc0 hYc1 hYc2 hYc3 hYc4 hYf hYl); have hYc0 := obj_at hY 0 _ rfl; have hYc1 := obj_at hY 1 _ rfl; have hYc2 := obj_at hY 2 _ rfl; have hYc3 := obj_at hY 3 _ rfl; have hYc4 := obj_at hY 4 _ rfl; have hYf := obj_fz hY 0; have hYl := obj_lt hY; have hW := bel_u1; clear bel_u1; have tok1 : True := trivial)
    | (clear tok1; go_at_call 20; refine (works_any _).mono ?_; rintro e u2 ⟨rfl, hb_u2⟩; replace hb_u2 := ex_below hb_u2; have bel_u2 : Below u1.heap.size u1 u2 := (by (repeat (first | exact Below.refl _ _ | assumption | refine below_drewN ?_ _ | refine below_drew ?_ | refine below_gr ?_ ?_ _ | refine below_alloc ?_ ?_ _ | refine Below.setCell ?_ ?_ _ | refine below_step ?_ (by assumption) ?_ | omega | (simp only [zz] at *; omega)))); clear hb_u2; have sz_u2 := bel_u2.size; replace hA := hA.ext bel_u2; replace hB := hB.ext bel_u2; replace hX := hX.ext bel_u2; replace hY := hY.ext bel_u2; replace hW := below_step hW bel_u2 (by have := hW.size; omega); (try clear hXc0 hXf hXl); have hXc0 := obj_at hX 0 _ rfl; have hXf := obj_fz hX 0; have hXl := obj_lt hX; (try clear hYc0 hYc1 hYc2 hYc3 hYc4 hYf hYl); have hYc0 := obj_at hY 0 _ rfl; have hYc1 := obj_at hY 1 _ rfl; have hYc2 := obj_at hY 2 _ rfl; have hYc3 := obj_at hY 3 _ rfl; have hYc4 := obj_at hY 4 _ rfl; have hYf := obj_fz hY 0; have hYl := obj_lt hY; clear bel_u2; have tok2 : True := trivial))
      go_ret
      exact gives_of rfl hW
    · have hn1 : ¬ (ts1.length : Int) < 1 := by omega
      by_cases hte : ts1.length ≥ 10
      · have hn2 : (ts1.length : Int) ≥ 10 := by omega
        have tok0 : True := trivial
        go_enter Try.func9, Try.ntmps9
        go_wp2_with (first
    | (clear tok0; go_at_call 45; refine (HF.out _ (hA.ext (by (repeat (first | exact Below.refl _ _ | assumption | refine below_drewN ?_ _ | refine below_drew ?_ | refine below_gr ?_ ?_ _ | refine below_alloc ?_ ?_ _ | refine Below.setCell ?_ ?_ _ | refine below_step ?_ (by assumption) ?_ | omega | (simp only [zz] at *; omega))))) (hB.ext (by (repeat (first | exact Below.refl _ _ | assumption | refine below_drewN ?_ _ | refine below_drew ?_ | refine below_gr ?_ ?_ _ | refine below_alloc ?_ ?_ _ | refine Below.setCell ?_ ?_ _ | refine below_step ?_ (by assumption) ?_ | omega | (simp only [zz] at *; omega)))))).mono ?_; rintro e u1 ⟨rfl, hb_u1⟩; replace hb_u1 := ex_below hb_u1; have hX : BlkAt u1 w.heap.size #[.slice A R1.length c] 24 := (show BlkAt ((w.alloc (.cells #[.slice A R1.length c] 24)).alloc (.cells #[.int .u8 (x0 : Nat), .int .u8 (x1 : Nat), .int .u8 (x2 : Nat), .int .u8 (x3 : Nat), .int .u8 (x4 : Nat)] 53)) w.heap.size #[.slice A R1.length c] 24 from (by unfold BlkAt; (repeat (first | rw [Below.heap_alloc _ _ _ (by (first | omega | (simp only [zz]; omega) | (simp only [zz] at *; omega) | (simp; done) | (simp; omega)))])); exact heap_at (by (first | omega | (simp only [zz]; omega) | (simp only [zz] at *; omega) | (simp; done) | (simp; omega))))).ext hb_u1; have hY : BlkAt u1 (w.heap.size + 1) #[.int .u8 (x0 : Nat), .int .u8 (x1 : Nat), .int .u8 (x2 : Nat), .int .u8 (x3 : Nat), .int .u8 (x4 : Nat)] 53 := (show BlkAt ((w.alloc (.cells #[.slice A R1.length c] 24)).alloc (.cells #[.int .u8 (x0 : Nat), .int .u8 (x1 : Nat), .int .u8 (x2 : Nat), .int .u8 (x3 : Nat), .int .u8 (x4 : Nat)] 53)) (w.heap.size + 1) #[.int .u8 (x0 : Nat), .int .u8 (x1 : Nat), .int .u8 (x2 : Nat), .int .u8 (x3 : Nat), .int .u8 (x4 : Nat)] 53 from (by unfold BlkAt; (repeat (first | rw [Below.heap_alloc _ _ _ (by (first | omega | (simp only [zz]; omega) | (simp only [zz] at *; omega) | (simp; done) | (simp; omega)))])); exact heap_at (by (first | omega | (simp only [zz]; omega) | (simp only [zz] at *; omega) | (simp; done) | (simp; omega))))).ext hb_u1; skip; have bel_u1 : Below w.heap.size w u1 := (by (repeat (first | exact Below.refl _ _ | assumption | refine below_drewN ?_ _ | refine below_drew ?_ | refine below_gr ?_ ?_ _ | refine below_alloc ?_ ?_ _ | refine Below.setCell ?_ ?_ _ | refine below_step ?_ (by assumption) ?_ | omega | (simp only [zz] at *; omega)))); clear hb_u1; have sz_u1 := bel_u1.size; replace hA := hA.ext bel_u1; replace hB := hB.ext bel_u1; (try clear hXc0 hXf hXl); have hXc0 := obj_at hX 0 _ rfl; have hXf := obj_fz hX 0; have hXl := obj_lt hX; (try clear hYc0 hYc1 hYc2 hYc3 hYc4 hYf hYl); have hYc0 := obj_at hY 0 _ rfl; have hYc1 := obj_at hY 1 _ rfl; have hYc2 := obj_at hY 2 _ rfl; have hYc3 := obj_at hY 3 _ rfl; have hYc4 := obj_at hY 4 _ rfl; have hYf := obj_fz hY 0; have hYl := obj_lt hY; have hW := bel_u1; clear bel_u1; have tok1 : True := trivial)
    | (clear tok1; go_at_call 20; refine (works_any _).mono ?_; rintro e u2 ⟨rfl, hb_u2⟩; replace hb_u2 := ex_below hb_u2; have bel_u2 : Below u1.heap.size u1 u2 := (by (repeat (first | exact Below.refl _ _ | assumption | refine below_drewN ?_ _ | refine below_drew ?_ | refine below_gr ?_ ?_ _ | refine below_alloc ?_ ?_ _ | refine Below.setCell ?_ ?_ _ | refine below_step ?_ (by assumption) ?_ | omega | (simp only [zz] at *; omega)))); clear hb_u2; have sz_u2 := bel_u2.size; replace hA := hA.ext bel_u2; replace hB := hB.ext bel_u2; replace hX := hX.ext bel_u2; replace hY := hY.ext bel_u2; replace hW := below_step hW bel_u2 (by have := hW.size; omega); (try clear hXc0 hXf hXl); have hXc0 := obj_at hX 0 _ rfl; have hXf := obj_fz hX 0; have hXl := obj_lt hX; (try clear hYc0 hYc1 hYc2 hYc3 hYc4 hYf hYl); have hYc0 := obj_at hY 0 _ rfl; have hYc1 := obj_at hY 1 _ rfl; have hYc2 := obj_at hY 2 _ rfl; have hYc3 := obj_at hY 3 _ rfl; have hYc4 := obj_at hY 4 _ rfl; have hYf := obj_fz hY 0; have hYl := obj_lt hY; clear bel_u2; have tok2 : True := trivial))
        go_ret
        exact gives_of rfl hW
      · have hn2 : ¬ (ts1.length : Int) ≥ 10 := by omega
        have hR1 := hok.h1
        have hn0 : (ts1.length : Int) ≠ 0 := by omega
        have hnn : ¬ ts1.length = 0 := by omega
        have hr0 : (R1.length : Int) ≠ 0 := by omega
        have hrn : ¬ R1.length = 0 := by omega
        have hx8 : (which : Int) < 256 := by omega
        have hy8 : (race : Int) < 256 := by omega
        have hz8 : (runs : Int) < 256 := by omega
        have hqm : ((which : Int)).tmod (ts1.length : Int) = ((which % ts1.length : Nat) : Int) := by rw [Int.tmod_eq_emod_of_nonneg (by omega)]; simp
        have hqn : ((race : Int)).tmod (R1.length : Int) = ((race % R1.length : Nat) : Int) := by rw [Int.tmod_eq_emod_of_nonneg (by omega)]; simp
        have hwx : IntKind.i64.wrap (which : Nat) = ((which : Nat) : Int) := by rw [IntKind.wrap_i64]; omega
        have hwy : IntKind.i64.wrap (race : Nat) = ((race : Nat) : Int) := by rw [IntKind.wrap_i64]; omega
        have hwz : IntKind.i64.wrap (runs : Nat) = ((runs : Nat) : Int) := by rw [IntKind.wrap_i64]; omega
        have hil : which % ts1.length < ts1.length := Nat.mod_lt _ (by omega)
        have hrl : race % R1.length < R1.length := Nat.mod_lt _ (by omega)
        generalize which % ts1.length = i at *
        generalize race % R1.length = r at *
        have tok0 : True := trivial
        go_enter Try.func9, Try.ntmps9
        go_wp2_with (first
    | (clear tok0; go_at_call 45; refine (HF.out _ (hA.ext (by (repeat (first | exact Below.refl _ _ | assumption | refine below_drewN ?_ _ | refine below_drew ?_ | refine below_gr ?_ ?_ _ | refine below_alloc ?_ ?_ _ | refine Below.setCell ?_ ?_ _ | refine below_step ?_ (by assumption) ?_ | omega | (simp only [zz] at *; omega))))) (hB.ext (by (repeat (first | exact Below.refl _ _ | assumption | refine below_drewN ?_ _ | refine below_drew ?_ | refine below_gr ?_ ?_ _ | refine below_alloc ?_ ?_ _ | refine Below.setCell ?_ ?_ _ | refine below_step ?_ (by assumption) ?_ | omega | (simp only [zz] at *; omega)))))).mono ?_; rintro e u1 ⟨rfl, hb_u1⟩; replace hb_u1 := ex_below hb_u1; have hX : BlkAt u1 w.heap.size #[.slice A R1.length c] 24 := (show BlkAt ((w.alloc (.cells #[.slice A R1.length c] 24)).alloc (.cells #[.int .u8 (x0 : Nat), .int .u8 (x1 : Nat), .int .u8 (x2 : Nat), .int .u8 (x3 : Nat), .int .u8 (x4 : Nat)] 53)) w.heap.size #[.slice A R1.length c] 24 from (by unfold BlkAt; (repeat (first | rw [Below.heap_alloc _ _ _ (by (first | omega | (simp only [zz]; omega) | (simp only [zz] at *; omega) | (simp; done) | (simp; omega)))])); exact heap_at (by (first | omega | (simp only [zz]; omega) | (simp only [zz] at *; omega) | (simp; done) | (simp; omega))))).ext hb_u1; have hY : BlkAt u1 (w.heap.size + 1) #[.int .u8 (x0 : Nat), .int .u8 (x1 : Nat), .int .u8 (x2 : Nat), .int .u8 (x3 : Nat), .int .u8 (x4 : Nat)] 53 := (show BlkAt ((w.alloc (.cells #[.slice A R1.length c] 24)).alloc (.cells #[.int .u8 (x0 : Nat), .int .u8 (x1 : Nat), .int .u8 (x2 : Nat), .int .u8 (x3 : Nat), .int .u8 (x4 : Nat)] 53)) (w.heap.size + 1) #[.int .u8 (x0 : Nat), .int .u8 (x1 : Nat), .int .u8 (x2 : Nat), .int .u8 (x3 : Nat), .int .u8 (x4 : Nat)] 53 from (by unfold BlkAt; (repeat (first | rw [Below.heap_alloc _ _ _ (by (first | omega | (simp only [zz]; omega) | (simp only [zz] at *; omega) | (simp; done) | (simp; omega)))])); exact heap_at (by (first | omega | (simp only [zz]; omega) | (simp only [zz] at *; omega) | (simp; done) | (simp; omega))))).ext hb_u1; skip; have bel_u1 : Below w.heap.size w u1 := (by (repeat (first | exact Below.refl _ _ | assumption | refine below_drewN ?_ _ | refine below_drew ?_ | refine below_gr ?_ ?_ _ | refine below_alloc ?_ ?_ _ | refine Below.setCell ?_ ?_ _ | refine below_step ?_ (by assumption) ?_ | omega | (simp only [zz] at *; omega)))); clear hb_u1; have sz_u1 := bel_u1.size; replace hA := hA.ext bel_u1; replace hB := hB.ext bel_u1; (try clear hXc0 hXf hXl); have hXc0 := obj_at hX 0 _ rfl; have hXf := obj_fz hX 0; have hXl := obj_lt hX; (try clear hYc0 hYc1 hYc2 hYc3 hYc4 hYf hYl); have hYc0 := obj_at hY 0 _ rfl; have hYc1 := obj_at hY 1 _ rfl; have hYc2 := obj_at hY 2 _ rfl; have hYc3 := obj_at hY 3 _ rfl; have hYc4 := obj_at hY 4 _ rfl; have hYf := obj_fz hY 0; have hYl := obj_lt hY; have hW := bel_u1; clear bel_u1; have tok1 : True := trivial))

        have hsl : ts1[i].1.length = R1.length := hok.htl _ (List.getElem_mem hil)
        have hbx : Bm.isBox R1 ts1[i].1 = true := hok.tb _ (List.getElem_mem hil)
        have hux := hok.tu _ (List.getElem_mem hil)
        obtain ⟨tb, tq, rfl, htb⟩ := hB.form (by rw [tz_len]; omega)
        obtain ⟨Sa, sc, q1, q2, q3, hS⟩ := hB.at (k := i) (by rw [tz_len]; exact hil)
        simp only [tz_at _ _ hil, zs_len] at q1 q2 q3 hS
        obtain ⟨t, ht⟩ : ∃ t, ts1[i] = t := ⟨_, rfl⟩
        rw [ht] at q1 q2 q3 hS hux hbx hsl
        have HT := hide ht
        clear ht
        obtain ⟨S, uu⟩ : Bm.Tk := t
        simp only at q1 q2 q3 hS hux hbx hsl
        obtain ⟨sb, so, rfl, hsb⟩ := zsF hS (by omega)
        have hrs : r < S.length := by omega
        have r1 := zsI hS hrs
        have hs64 := box64 hok.r6 hbx _ (List.getElem_mem hrs)
        have hii : (i : Int) < (ts1.length : Int) := by omega
        have hri : (r : Int) < (S.length : Int) := by omega
        have hs5 : S.length ≤ 5 := by omega
        have HSL := hide hsl
        clear hsl
        obtain ⟨sv, hsr⟩ : ∃ sv, S[r] = sv := ⟨_, rfl⟩
        rw [hsr] at r1 hs64
        have HSR := hide hsr
        clear hsr
        have hand := mAndN hs64 hm8
        clear tok1
        go_upto_region 3 with fail
        go_region_held3 (fun w' => w'.cell? ⟨w.heap.size, 0, none⟩ = some (.slice A R1.length c)) (simp (maxDischargeDepth := 9) [*]) (fail)
        rename_i hHD
        clear hHD
        go_upto_region 5 with fail
        obtain ⟨v2, hv2⟩ : ∃ v, (u1.alloc (.cells #[.slice (some ⟨sb, so, none⟩) S.length sc, .int .i64 (uu : Nat)] 34)).drew = v := ⟨_, rfl⟩
        obtain ⟨tk, htk⟩ : ∃ b, u1.heap.size = b := ⟨_, rfl⟩
        have hbc : Below u1.heap.size u1 v2 := by rw [← hv2]; exact below_drew (below_alloc (Below.refl _ _) (Nat.le_refl _) _)
        have hV : BlkAt v2 tk #[.slice (some ⟨sb, so, none⟩) S.length sc, .int .i64 (uu : Nat)] 34 := by rw [← hv2, ← htk]; exact heap_alloc_new _ _
        rw [hv2, htk]
        have hdn : ts1.length ≤ d := by rw [tz_len] at hd; exact hd
        clear hv2 htk hwx hwy hqm hqn hx8 hy8 hn1 hn2 hn0 hnn hr0 hrn
        replace hA := hA.ext hbc
        replace hB := hB.ext hbc
        replace hX := hX.ext hbc
        replace hY := hY.ext hbc
        replace hW := below_step hW hbc (by have := hW.size; omega)
        replace hS := hS.ext hbc
        replace q1 := (hbc.cell (p := ⟨tb, tq + i * 2, none⟩) htb).trans q1
        replace q2 := (hbc.cell (p := ⟨tb, tq + i * 2 + 1, none⟩) htb).trans q2
        replace htb := Nat.lt_of_lt_of_le htb hbc.size
        replace r1 := (hbc.cell (p := ⟨sb, so + r, none⟩) hsb).trans r1
        replace hsb := Nat.lt_of_lt_of_le hsb hbc.size
        clear hbc
        (try clear hXc0 hXf hXl)
        have hXc0 := obj_at hX 0 _ rfl
        have hXf := obj_fz hX 0
        have hXl := obj_lt hX
        (try clear hYc0 hYc1 hYc2 hYc3 hYc4 hYf hYl)
        have hYc0 := obj_at hY 0 _ rfl
        have hYc1 := obj_at hY 1 _ rfl
        have hYc2 := obj_at hY 2 _ rfl
        have hYc3 := obj_at hY 3 _ rfl
        have hYc4 := obj_at hY 4 _ rfl
        have hYf := obj_fz hY 0
        have hYl := obj_lt hY
        (try clear hVc0 hVc1 hVf hVl)
        have hVc0 := obj_at hV 0 _ rfl
        have hVc1 := obj_at hV 1 _ rfl
        have hVf := obj_fz hV 0
        have hVl := obj_lt hV
        have zt2 : tk < v2.heap.size := hVl
        have zs2 : sb < v2.heap.size := hsb
        have HA2 := hide hA
        have HB2 := hide hB
        have HX2 := hide hX
        have HY2 := hide hY
        have HW2 := hide hW
        have HV2 := hide hV
        have HS2 := hide hS
        by_cases hm0 : sv &&& runs = 0
        · replace hand : bits BinOp.and .i64 ((sv : Nat) : Int) ((runs : Nat) : Int) = 0 := by rw [hand, hm0]; rfl
          have tok1 : True := trivial
          go_wp2_with (first
    | (clear tok1; go_at_call 20; refine (works_any _).mono ?_; rintro e u2 ⟨rfl, hb_u2⟩; replace hb_u2 := ex_below hb_u2; have bel_u2 : Below v2.heap.size v2 u2 := (by (repeat (first | exact Below.refl _ _ | assumption | refine below_drewN ?_ _ | refine below_drew ?_ | refine below_gr ?_ ?_ _ | refine below_alloc ?_ ?_ _ | refine Below.setCell ?_ ?_ _ | refine below_step ?_ (by assumption) ?_ | omega | (simp only [zz] at *; omega)))); clear hb_u2; have sz_u2 := bel_u2.size; replace hA := hA.ext bel_u2; replace hB := hB.ext bel_u2; replace hX := hX.ext bel_u2; replace hY := hY.ext bel_u2; replace hW := below_step hW bel_u2 (by have := hW.size; omega); replace hS := hS.ext bel_u2; replace q1 := (bel_u2.cell (p := ⟨tb, tq + i * 2, none⟩) htb).trans q1; replace q2 := (bel_u2.cell (p := ⟨tb, tq + i * 2 + 1, none⟩) htb).trans q2; replace htb := Nat.lt_of_lt_of_le htb bel_u2.size; replace r1 := (bel_u2.cell (p := ⟨sb, so + r, none⟩) hsb).trans r1; replace hsb := Nat.lt_of_lt_of_le hsb bel_u2.size; replace hV := hV.ext bel_u2; (try clear hXc0 hXf hXl); have hXc0 := obj_at hX 0 _ rfl; have hXf := obj_fz hX 0; have hXl := obj_lt hX; (try clear hYc0 hYc1 hYc2 hYc3 hYc4 hYf hYl); have hYc0 := obj_at hY 0 _ rfl; have hYc1 := obj_at hY 1 _ rfl; have hYc2 := obj_at hY 2 _ rfl; have hYc3 := obj_at hY 3 _ rfl; have hYc4 := obj_at hY 4 _ rfl; have hYf := obj_fz hY 0; have hYl := obj_lt hY; (try clear hVc0 hVc1 hVf hVl); have hVc0 := obj_at hV 0 _ rfl; have hVc1 := obj_at hV 1 _ rfl; have hVf := obj_fz hV 0; have hVl := obj_lt hV; clear bel_u2; have tok2 : True := trivial))
          go_ret
          exact gives_of rfl hW
        · by_cases hm1 : sv &&& runs = sv
          · rw [hm1] at hand hm0
            have hsv : ((sv : Int) == 0) = false := by simp; omega
            have hss : ((sv : Int) == (sv : Int)) = true := by simp
            have tok1 : True := trivial
            go_wp2_with (first
    | (clear tok1; go_at_call 20; refine (works_any _).mono ?_; rintro e u2 ⟨rfl, hb_u2⟩; replace hb_u2 := ex_below hb_u2; have bel_u2 : Below v2.heap.size v2 u2 := (by (repeat (first | exact Below.refl _ _ | assumption | refine below_drewN ?_ _ | refine below_drew ?_ | refine below_gr ?_ ?_ _ | refine below_alloc ?_ ?_ _ | refine Below.setCell ?_ ?_ _ | refine below_step ?_ (by assumption) ?_ | omega | (simp only [zz] at *; omega)))); clear hb_u2; have sz_u2 := bel_u2.size; replace hA := hA.ext bel_u2; replace hB := hB.ext bel_u2; replace hX := hX.ext bel_u2; replace hY := hY.ext bel_u2; replace hW := below_step hW bel_u2 (by have := hW.size; omega); replace hS := hS.ext bel_u2; replace q1 := (bel_u2.cell (p := ⟨tb, tq + i * 2, none⟩) htb).trans q1; replace q2 := (bel_u2.cell (p := ⟨tb, tq + i * 2 + 1, none⟩) htb).trans q2; replace htb := Nat.lt_of_lt_of_le htb bel_u2.size; replace r1 := (bel_u2.cell (p := ⟨sb, so + r, none⟩) hsb).trans r1; replace hsb := Nat.lt_of_lt_of_le hsb bel_u2.size; replace hV := hV.ext bel_u2; (try clear hXc0 hXf hXl); have hXc0 := obj_at hX 0 _ rfl; have hXf := obj_fz hX 0; have hXl := obj_lt hX; (try clear hYc0 hYc1 hYc2 hYc3 hYc4 hYf hYl); have hYc0 := obj_at hY 0 _ rfl; have hYc1 := obj_at hY 1 _ rfl; have hYc2 := obj_at hY 2 _ rfl; have hYc3 := obj_at hY 3 _ rfl; have hYc4 := obj_at hY 4 _ rfl; have hYf := obj_fz hY 0; have hYl := obj_lt hY; (try clear hVc0 hVc1 hVf hVl); have hVc0 := obj_at hV 0 _ rfl; have hVc1 := obj_at hV 1 _ rfl; have hVf := obj_fz hV 0; have hVl := obj_lt hV; clear bel_u2; have tok2 : True := trivial))
            go_ret
            exact gives_of rfl hW
          · have hmm := Bm.and_twice sv runs
            generalize hmn : sv &&& runs = m at *
            have hm64 : m < 64 := by rw [← hmm]; exact Nat.lt_of_le_of_lt Nat.and_le_left hs64
            have hmi : ((m : Int) == 0) = false := by simp; omega
            have hmj : ((m : Int) == (sv : Int)) = false := by simp; omega
            obtain ⟨j0, jh, jz, js, jb⟩ := info_parts info3
            clear hmn
            go_upto_region 8 with fail
            go_cut [17] from 98 to 104 (fun sx wx => ∃ (blk : Nat) (A2 : Option Addr) (c2 : Nat), sx = .pointer (some ⟨blk, 0, none⟩) ∧ BlkAt wx blk #[.slice A2 S.length c2, .int .i64 (uu : Nat)] 34 ∧ wx.ownsRow v2.heap.size 3 1 (.slice A2 S.length c2) S.length ((zs S).map (Value.int .i64)) ∧ Far (.slice A2 S.length c2) blk ∧ v2.heap.size ≤ blk ∧ Below v2.heap.size v2 wx)
            case first =>
              as_aux_lemma =>
              refine wp_region_noPanic ?_
              refine wp_region_held_drew (S := fun w' => Below v2.heap.size v2 w') (by kernel_rfl) ?_ (fun _ => ?_)
              · exact below_drew (Below.refl _ _)
              have hP : Below v2.heap.size v2 v2.drew := below_drew (Below.refl _ _)
              have hZ : v2.heap.size ≤ v2.drew.heap.size := Nat.le_refl _
              obtain ⟨W0, hW0⟩ : ∃ W0, v2.drew = W0 := ⟨_, rfl⟩
              rw [hW0] at hP hZ ⊢
              clear hW0
              refine wpAnyH_take (i := 1) (v := ?_) rfl (by kernel_rfl) (by kernel_rfl) (by kernel_rfl) (fun _ _ _ h => h) (Or.inl ⟨by rfl, ?_⟩) hP ?_
              rotate_left
              · (intro ww hSw; go_simp; try with_reducible rfl)
              (try simp only [Act.put, List.getElem_toArray, List.getElem_cons_zero, List.getElem_cons_succ, List.setIfInBounds_toArray, List.set_cons_zero, List.set_cons_succ])
              refine wpAnyH_take (i := 2) (v := ?_) rfl (by kernel_rfl) (by kernel_rfl) (by kernel_rfl) (fun _ _ _ h => h) (Or.inl ⟨by rfl, ?_⟩) hP ?_
              rotate_left
              · (intro ww hSw; have g0 := (hSw.cell (p := ⟨tk, 0, none⟩) hVl).trans hVc0; go_simp; try with_reducible rfl)
              (try simp only [Act.put, List.getElem_toArray, List.getElem_cons_zero, List.getElem_cons_succ, List.setIfInBounds_toArray, List.set_cons_zero, List.set_cons_succ])
              refine wpAnyH_take (i := 4) (v := ?_) rfl (by kernel_rfl) (by kernel_rfl) (by kernel_rfl) (fun _ _ _ h => h) (Or.inl ⟨by rfl, ?_⟩) hP ?_
              rotate_left
              · (intro ww hSw; go_simp; try with_reducible rfl)
              (try simp only [Act.put, List.getElem_toArray, List.getElem_cons_zero, List.getElem_cons_succ, List.setIfInBounds_toArray, List.set_cons_zero, List.set_cons_succ])
              refine wpAnyH_take (i := 5) (v := ?_) rfl (by kernel_rfl) (by kernel_rfl) (by kernel_rfl) (fun _ _ _ h => h) (Or.inl ⟨by rfl, ?_⟩) hP ?_
              rotate_left
              · (intro ww hSw; have g1 := (hSw.cell (p := ⟨tk, 1, none⟩) hVl).trans hVc1; go_simp; try with_reducible rfl)
              (try simp only [Act.put, List.getElem_toArray, List.getElem_cons_zero, List.getElem_cons_succ, List.setIfInBounds_toArray, List.set_cons_zero, List.set_cons_succ])
              refine wpAnyH_ready (rs := [0, 7]) (by kernel_rfl) (by simp) ?_
              refine AllReadyH.cons rfl ?_ ?_
              · intro K' hK
                rw [if_pos (by rfl)]
                go_simp
                have hP2 := below_alloc hP hZ (.cells #[] 3)
                refine hK.out _ _ hP2 (fun _ => ?_)
                clear hK K'
                (try simp only [Act.put, List.getElem_toArray, List.getElem_cons_zero, List.getElem_cons_succ, List.setIfInBounds_toArray, List.set_cons_zero, List.set_cons_succ])
                have hO : (W0.alloc (.cells #[] 3)).ownsRow v2.heap.size 3 1 (.slice (some ⟨W0.heap.size, 0, none⟩) 0 0) 0 [] := own_lit0 (heap_alloc_new W0 _) hZ
                replace hZ : v2.heap.size ≤ (W0.alloc (.cells #[] 3)).heap.size := by rw [World.size_alloc]; omega
                clear hP
                have hP := hP2
                clear hP2
                obtain ⟨W1, hWe⟩ : ∃ W1, (W0.alloc (.cells #[] 3)) = W1 := ⟨_, rfl⟩
                rw [hWe] at hP hZ hO ⊢
                clear hWe
                refine wpAnyH_ready (rs := [3, 7]) (by kernel_rfl) (by simp) ?_
                refine AllReadyH.cons rfl ?_ ?_
                · intro K' hK
                  refine step_appN W1 rfl (.tmp 98) (.tmp 100) 22 rfl v2.heap.size 3 j0 _ 1 8 und22 jh jz js jb rfl (by decide) _ (0) ([]) rfl hO (some ⟨sb, so, none⟩) (S.length) sc (((zs S).map (Value.int .i64))) rfl (by have := i64_rd (hS.ext hP); rwa [zs_len] at this) (one_i64 _) (by unfold maxLen; omega) (by omega) hZ ?_
                  intro A2 c2 W2 hO2 hg2 hf2
                  rw [Nat.zero_add S.length, List.nil_append] at hO2
                  rw [Nat.zero_add S.length] at hf2 ⊢
                  have hP2 := gb_below hP hg2 hZ (fun g hg => (hO.lt g hg).1)
                  have hZ2 := Nat.le_trans hZ hg2.size
                  refine hK.out _ _ hP2 (fun _ => ?_)
                  clear hK K'
                  (try simp only [Act.put, List.getElem_toArray, List.getElem_cons_zero, List.getElem_cons_succ, List.setIfInBounds_toArray, List.set_cons_zero, List.set_cons_succ])
                  clear hO hP hZ hg2 hf2
                  have hO := hO2
                  have hP := hP2
                  have hZ := hZ2
                  clear hO2 hP2 hZ2
                  refine wpAnyH_take (i := 6) (v := ?_) rfl (by kernel_rfl) (by kernel_rfl) (by kernel_rfl) (fun _ _ _ h => h) (Or.inl ⟨by rfl, ?_⟩) hP ?_
                  rotate_left
                  · (intro ww hSw; go_simp; try with_reducible rfl)
                  (try simp only [Act.put, List.getElem_toArray, List.getElem_cons_zero, List.getElem_cons_succ, List.setIfInBounds_toArray, List.set_cons_zero, List.set_cons_succ])
                  refine wpAnyH_ready (rs := [7]) (by kernel_rfl) (by simp) ?_
                  refine AllReadyH.cons rfl ?_ ?_
                  · intro K' hK
                    rw [if_pos (by rfl)]
                    go_simp
                    have hP2 := below_alloc hP hZ (.cells #[.slice none 0 0, .int .i64 0] 34)
                    refine hK.out _ _ hP2 (fun _ => ?_)
                    clear hK K'
                    (try simp only [Act.put, List.getElem_toArray, List.getElem_cons_zero, List.getElem_cons_succ, List.setIfInBounds_toArray, List.set_cons_zero, List.set_cons_succ])
                    have hs_B := Side.fresh hZ hO #[.slice none 0 0, .int .i64 0] 34
                    replace hO := hO.alloc (.cells #[.slice none 0 0, .int .i64 0] 34)
                    replace hZ : v2.heap.size ≤ (W2.alloc (.cells #[.slice none 0 0, .int .i64 0] 34)).heap.size := by rw [World.size_alloc]; omega
                    clear hP
                    have hP := hP2
                    clear hP2
                    obtain ⟨W3, hWe⟩ : ∃ W3, (W2.alloc (.cells #[.slice none 0 0, .int .i64 0] 34)) = W3 := ⟨_, rfl⟩
                    rw [hWe] at hP hZ hO hs_B ⊢
                    clear hWe
                    refine wpAnyH_ready (rs := [8]) (by kernel_rfl) (by simp) ?_
                    refine AllReadyH.cons rfl ?_ ?_
                    · intro K' hK
                      rw [if_pos (by rfl)]
                      have c0 := obj_at hs_B.2.2.1 0 _ rfl
                      have c1 := obj_at hs_B.2.2.1 1 _ rfl
                      have f0 := obj_fz hs_B.2.2.1 0
                      have f1 := obj_fz hs_B.2.2.1 1
                      go_simp
                      refine hK.out _ _ (Below.setCell (p := ⟨W2.heap.size, 1, none⟩) (Below.setCell (p := ⟨W2.heap.size, 0, none⟩) hP hs_B.1 _) hs_B.1 _) (fun _ => ?_)
                      clear hK K'
                      (try simp only [Act.put, List.getElem_toArray, List.getElem_cons_zero, List.getElem_cons_succ, List.setIfInBounds_toArray, List.set_cons_zero, List.set_cons_succ])
                      refine wpAnyH_done (by kernel_rfl) ?_ _
                      refine NoPanic.normal ?_
                      go_wp2_with fail
                      go_meet
                      exact ⟨_, A2, c2, rfl, set_two hs_B.2.2.1, own_setFar (own_setFar hO hs_B.2.2.2 0 _) hs_B.2.2.2 1 _, hs_B.2.2.2, hs_B.1, Below.setCell (Below.setCell hP hs_B.1 _) hs_B.1 _⟩
                    exact AllReadyH.nil
                  exact AllReadyH.nil
                refine AllReadyH.cons rfl ?_ ?_
                · intro K' hK
                  rw [if_pos (by rfl)]
                  go_simp
                  have hP2 := below_alloc hP hZ (.cells #[.slice none 0 0, .int .i64 0] 34)
                  refine hK.out _ _ hP2 (fun _ => ?_)
                  clear hK K'
                  (try simp only [Act.put, List.getElem_toArray, List.getElem_cons_zero, List.getElem_cons_succ, List.setIfInBounds_toArray, List.set_cons_zero, List.set_cons_succ])
                  have hs_B := Side.fresh hZ hO #[.slice none 0 0, .int .i64 0] 34
                  replace hO := hO.alloc (.cells #[.slice none 0 0, .int .i64 0] 34)
                  replace hZ : v2.heap.size ≤ (W1.alloc (.cells #[.slice none 0 0, .int .i64 0] 34)).heap.size := by rw [World.size_alloc]; omega
                  clear hP
                  have hP := hP2
                  clear hP2
                  obtain ⟨W5, hWe⟩ : ∃ W5, (W1.alloc (.cells #[.slice none 0 0, .int .i64 0] 34)) = W5 := ⟨_, rfl⟩
                  rw [hWe] at hP hZ hO hs_B ⊢
                  clear hWe
                  refine wpAnyH_ready (rs := [3]) (by kernel_rfl) (by simp) ?_
                  refine AllReadyH.cons rfl ?_ ?_
                  · intro K' hK
                    refine step_appN W5 rfl (.tmp 98) (.tmp 100) 22 rfl v2.heap.size 3 j0 _ 1 8 und22 jh jz js jb rfl (by decide) _ (0) ([]) rfl hO (some ⟨sb, so, none⟩) (S.length) sc (((zs S).map (Value.int .i64))) rfl (by have := i64_rd (hS.ext hP); rwa [zs_len] at this) (one_i64 _) (by unfold maxLen; omega) (by omega) hZ ?_
                    intro A2 c2 W6 hO2 hg2 hf2
                    rw [Nat.zero_add S.length, List.nil_append] at hO2
                    rw [Nat.zero_add S.length] at hf2 ⊢
                    have hP2 := gb_below hP hg2 hZ (fun g hg => (hO.lt g hg).1)
                    have hZ2 := Nat.le_trans hZ hg2.size
                    refine hK.out _ _ hP2 (fun _ => ?_)
                    clear hK K'
                    (try simp only [Act.put, List.getElem_toArray, List.getElem_cons_zero, List.getElem_cons_succ, List.setIfInBounds_toArray, List.set_cons_zero, List.set_cons_succ])
                    replace hs_B := hs_B.grown hg2 hf2
                    clear hO hP hZ hg2 hf2
                    have hO := hO2
                    have hP := hP2
                    have hZ := hZ2
                    clear hO2 hP2 hZ2
                    refine wpAnyH_take (i := 6) (v := ?_) rfl (by kernel_rfl) (by kernel_rfl) (by kernel_rfl) (fun _ _ _ h => h) (Or.inl ⟨by rfl, ?_⟩) hP ?_
                    rotate_left
                    · (intro ww hSw; go_simp; try with_reducible rfl)
                    (try simp only [Act.put, List.getElem_toArray, List.getElem_cons_zero, List.getElem_cons_succ, List.setIfInBounds_toArray, List.set_cons_zero, List.set_cons_succ])
                    refine wpAnyH_ready (rs := [8]) (by kernel_rfl) (by simp) ?_
                    refine AllReadyH.cons rfl ?_ ?_
                    · intro K' hK
                      rw [if_pos (by rfl)]
                      have c0 := obj_at hs_B.2.2.1 0 _ rfl
                      have c1 := obj_at hs_B.2.2.1 1 _ rfl
                      have f0 := obj_fz hs_B.2.2.1 0
                      have f1 := obj_fz hs_B.2.2.1 1
                      go_simp
                      refine hK.out _ _ (Below.setCell (p := ⟨W1.heap.size, 1, none⟩) (Below.setCell (p := ⟨W1.heap.size, 0, none⟩) hP hs_B.1 _) hs_B.1 _) (fun _ => ?_)
                      clear hK K'
                      (try simp only [Act.put, List.getElem_toArray, List.getElem_cons_zero, List.getElem_cons_succ, List.setIfInBounds_toArray, List.set_cons_zero, List.set_cons_succ])
                      refine wpAnyH_done (by kernel_rfl) ?_ _
                      refine NoPanic.normal ?_
                      go_wp2_with fail
                      go_meet
                      exact ⟨_, A2, c2, rfl, set_two hs_B.2.2.1, own_setFar (own_setFar hO hs_B.2.2.2 0 _) hs_B.2.2.2 1 _, hs_B.2.2.2, hs_B.1, Below.setCell (Below.setCell hP hs_B.1 _) hs_B.1 _⟩
                    exact AllReadyH.nil
                  exact AllReadyH.nil
                exact AllReadyH.nil
              refine AllReadyH.cons rfl ?_ ?_
              · intro K' hK
                rw [if_pos (by rfl)]
                go_simp
                have hP2 := below_alloc hP hZ (.cells #[.slice none 0 0, .int .i64 0] 34)
                refine hK.out _ _ hP2 (fun _ => ?_)
                clear hK K'
                (try simp only [Act.put, List.getElem_toArray, List.getElem_cons_zero, List.getElem_cons_succ, List.setIfInBounds_toArray, List.set_cons_zero, List.set_cons_succ])
                have hs_B := Side.fresh0 (W := W0) hZ #[.slice none 0 0, .int .i64 0] 34
                replace hZ : v2.heap.size ≤ (W0.alloc (.cells #[.slice none 0 0, .int .i64 0] 34)).heap.size := by rw [World.size_alloc]; omega
                clear hP
                have hP := hP2
                clear hP2
                obtain ⟨W8, hWe⟩ : ∃ W8, (W0.alloc (.cells #[.slice none 0 0, .int .i64 0] 34)) = W8 := ⟨_, rfl⟩
                rw [hWe] at hP hZ hs_B ⊢
                clear hWe
                refine wpAnyH_ready (rs := [0]) (by kernel_rfl) (by simp) ?_
                refine AllReadyH.cons rfl ?_ ?_
                · intro K' hK
                  rw [if_pos (by rfl)]
                  go_simp
                  have hP2 := below_alloc hP hZ (.cells #[] 3)
                  refine hK.out _ _ hP2 (fun _ => ?_)
                  clear hK K'
                  (try simp only [Act.put, List.getElem_toArray, List.getElem_cons_zero, List.getElem_cons_succ, List.setIfInBounds_toArray, List.set_cons_zero, List.set_cons_succ])
                  replace hs_B := hs_B.lit (.cells #[] 3)
                  have hO : (W8.alloc (.cells #[] 3)).ownsRow v2.heap.size 3 1 (.slice (some ⟨W8.heap.size, 0, none⟩) 0 0) 0 [] := own_lit0 (heap_alloc_new W8 _) hZ
                  replace hZ : v2.heap.size ≤ (W8.alloc (.cells #[] 3)).heap.size := by rw [World.size_alloc]; omega
                  clear hP
                  have hP := hP2
                  clear hP2
                  obtain ⟨W9, hWe⟩ : ∃ W9, (W8.alloc (.cells #[] 3)) = W9 := ⟨_, rfl⟩
                  rw [hWe] at hP hZ hO hs_B ⊢
                  clear hWe
                  refine wpAnyH_ready (rs := [3]) (by kernel_rfl) (by simp) ?_
                  refine AllReadyH.cons rfl ?_ ?_
                  · intro K' hK
                    refine step_appN W9 rfl (.tmp 98) (.tmp 100) 22 rfl v2.heap.size 3 j0 _ 1 8 und22 jh jz js jb rfl (by decide) _ (0) ([]) rfl hO (some ⟨sb, so, none⟩) (S.length) sc (((zs S).map (Value.int .i64))) rfl (by have := i64_rd (hS.ext hP); rwa [zs_len] at this) (one_i64 _) (by unfold maxLen; omega) (by omega) hZ ?_
                    intro A2 c2 W10 hO2 hg2 hf2
                    rw [Nat.zero_add S.length, List.nil_append] at hO2
                    rw [Nat.zero_add S.length] at hf2 ⊢
                    have hP2 := gb_below hP hg2 hZ (fun g hg => (hO.lt g hg).1)
                    have hZ2 := Nat.le_trans hZ hg2.size
                    refine hK.out _ _ hP2 (fun _ => ?_)
                    clear hK K'
                    (try simp only [Act.put, List.getElem_toArray, List.getElem_cons_zero, List.getElem_cons_succ, List.setIfInBounds_toArray, List.set_cons_zero, List.set_cons_succ])
                    replace hs_B := hs_B.grown hg2 hf2
                    clear hO hP hZ hg2 hf2
                    have hO := hO2
                    have hP := hP2
                    have hZ := hZ2
                    clear hO2 hP2 hZ2
                    refine wpAnyH_take (i := 6) (v := ?_) rfl (by kernel_rfl) (by kernel_rfl) (by kernel_rfl) (fun _ _ _ h => h) (Or.inl ⟨by rfl, ?_⟩) hP ?_
                    rotate_left
                    · (intro ww hSw; go_simp; try with_reducible rfl)
                    (try simp only [Act.put, List.getElem_toArray, List.getElem_cons_zero, List.getElem_cons_succ, List.setIfInBounds_toArray, List.set_cons_zero, List.set_cons_succ])
                    refine wpAnyH_ready (rs := [8]) (by kernel_rfl) (by simp) ?_
                    refine AllReadyH.cons rfl ?_ ?_
                    · intro K' hK
                      rw [if_pos (by rfl)]
                      have c0 := obj_at hs_B.2.2.1 0 _ rfl
                      have c1 := obj_at hs_B.2.2.1 1 _ rfl
                      have f0 := obj_fz hs_B.2.2.1 0
                      have f1 := obj_fz hs_B.2.2.1 1
                      go_simp
                      refine hK.out _ _ (Below.setCell (p := ⟨W0.heap.size, 1, none⟩) (Below.setCell (p := ⟨W0.heap.size, 0, none⟩) hP hs_B.1 _) hs_B.1 _) (fun _ => ?_)
                      clear hK K'
                      (try simp only [Act.put, List.getElem_toArray, List.getElem_cons_zero, List.getElem_cons_succ, List.setIfInBounds_toArray, List.set_cons_zero, List.set_cons_succ])
                      refine wpAnyH_done (by kernel_rfl) ?_ _
                      refine NoPanic.normal ?_
                      go_wp2_with fail
                      go_meet
                      exact ⟨_, A2, c2, rfl, set_two hs_B.2.2.1, own_setFar (own_setFar hO hs_B.2.2.2 0 _) hs_B.2.2.2 1 _, hs_B.2.2.2, hs_B.1, Below.setCell (Below.setCell hP hs_B.1 _) hs_B.1 _⟩
                    exact AllReadyH.nil
                  exact AllReadyH.nil
                exact AllReadyH.nil
              exact AllReadyH.nil
            case rest =>
              as_aux_lemma =>
              obtain ⟨ka, Aa, ca, rfl, hKa, hOa, hFa, hka, hbc⟩ := hcut
              obtain ⟨v3, hv3⟩ : ∃ v, v = wc := ⟨_, rfl⟩
              rw [← hv3] at hKa hOa hbc ⊢
              have hbca := hbc
              clear hv3
              replace hA := hA.ext hbc
              replace hB := hB.ext hbc
              replace hX := hX.ext hbc
              replace hY := hY.ext hbc
              replace hW := below_step hW hbc (by have := hW.size; omega)
              replace hS := hS.ext hbc
              replace q1 := (hbc.cell (p := ⟨tb, tq + i * 2, none⟩) htb).trans q1
              replace q2 := (hbc.cell (p := ⟨tb, tq + i * 2 + 1, none⟩) htb).trans q2
              replace htb := Nat.lt_of_lt_of_le htb hbc.size
              replace r1 := (hbc.cell (p := ⟨sb, so + r, none⟩) hsb).trans r1
              replace hsb := Nat.lt_of_lt_of_le hsb hbc.size
              replace hV := hV.ext hbc
              clear hbc
              (try clear hXc0 hXf hXl)
              have hXc0 := obj_at hX 0 _ rfl
              have hXf := obj_fz hX 0
              have hXl := obj_lt hX
              (try clear hYc0 hYc1 hYc2 hYc3 hYc4 hYf hYl)
              have hYc0 := obj_at hY 0 _ rfl
              have hYc1 := obj_at hY 1 _ rfl
              have hYc2 := obj_at hY 2 _ rfl
              have hYc3 := obj_at hY 3 _ rfl
              have hYc4 := obj_at hY 4 _ rfl
              have hYf := obj_fz hY 0
              have hYl := obj_lt hY
              (try clear hVc0 hVc1 hVf hVl)
              have hVc0 := obj_at hV 0 _ rfl
              have hVc1 := obj_at hV 1 _ rfl
              have hVf := obj_fz hV 0
              have hVl := obj_lt hV
              (try clear hKac0 hKac1 hKaf hKal)
              have hKac0 := obj_at hKa 0 _ rfl
              have hKac1 := obj_at hKa 1 _ rfl
              have hKaf := obj_fz hKa 0
              have hKal := obj_lt hKa
              have zk3 : ka < v3.heap.size := hKal
              have HBA := hide (show Below v2.heap.size v2 v3 from hbca)
              go_upto_region 9 with fail
              go_cut [18] from 105 to 111 (fun sx wx => ∃ (blk : Nat) (A2 : Option Addr) (c2 : Nat), sx = .pointer (some ⟨blk, 0, none⟩) ∧ BlkAt wx blk #[.slice A2 S.length c2, .int .i64 (uu : Nat)] 34 ∧ wx.ownsRow v3.heap.size 3 1 (.slice A2 S.length c2) S.length ((zs S).map (Value.int .i64)) ∧ Far (.slice A2 S.length c2) blk ∧ v3.heap.size ≤ blk ∧ Below v3.heap.size v3 wx)
              case first =>
                as_aux_lemma =>
                refine wp_region_noPanic ?_
                refine wp_region_held_drew (S := fun w' => Below v3.heap.size v3 w') (by kernel_rfl) ?_ (fun _ => ?_)
                · exact below_drew (Below.refl _ _)
                have hP : Below v3.heap.size v3 v3.drew := below_drew (Below.refl _ _)
                have hZ : v3.heap.size ≤ v3.drew.heap.size := Nat.le_refl _
                obtain ⟨W0, hW0⟩ : ∃ W0, v3.drew = W0 := ⟨_, rfl⟩
                rw [hW0] at hP hZ ⊢
                clear hW0
                refine wpAnyH_take (i := 1) (v := ?_) rfl (by kernel_rfl) (by kernel_rfl) (by kernel_rfl) (fun _ _ _ h => h) (Or.inl ⟨by rfl, ?_⟩) hP ?_
                rotate_left
                · (intro ww hSw; go_simp; try with_reducible rfl)
                (try simp only [Act.put, List.getElem_toArray, List.getElem_cons_zero, List.getElem_cons_succ, List.setIfInBounds_toArray, List.set_cons_zero, List.set_cons_succ])
                refine wpAnyH_take (i := 2) (v := ?_) rfl (by kernel_rfl) (by kernel_rfl) (by kernel_rfl) (fun _ _ _ h => h) (Or.inl ⟨by rfl, ?_⟩) hP ?_
                rotate_left
                · (intro ww hSw; have g0 := (hSw.cell (p := ⟨tk, 0, none⟩) hVl).trans hVc0; go_simp; try with_reducible rfl)
                (try simp only [Act.put, List.getElem_toArray, List.getElem_cons_zero, List.getElem_cons_succ, List.setIfInBounds_toArray, List.set_cons_zero, List.set_cons_succ])
                refine wpAnyH_take (i := 4) (v := ?_) rfl (by kernel_rfl) (by kernel_rfl) (by kernel_rfl) (fun _ _ _ h => h) (Or.inl ⟨by rfl, ?_⟩) hP ?_
                rotate_left
                · (intro ww hSw; go_simp; try with_reducible rfl)
                (try simp only [Act.put, List.getElem_toArray, List.getElem_cons_zero, List.getElem_cons_succ, List.setIfInBounds_toArray, List.set_cons_zero, List.set_cons_succ])
                refine wpAnyH_take (i := 5) (v := ?_) rfl (by kernel_rfl) (by kernel_rfl) (by kernel_rfl) (fun _ _ _ h => h) (Or.inl ⟨by rfl, ?_⟩) hP ?_
                rotate_left
                · (intro ww hSw; have g1 := (hSw.cell (p := ⟨tk, 1, none⟩) hVl).trans hVc1; go_simp; try with_reducible rfl)
                (try simp only [Act.put, List.getElem_toArray, List.getElem_cons_zero, List.getElem_cons_succ, List.setIfInBounds_toArray, List.set_cons_zero, List.set_cons_succ])
                refine wpAnyH_ready (rs := [0, 7]) (by kernel_rfl) (by simp) ?_
                refine AllReadyH.cons rfl ?_ ?_
                · intro K' hK
                  rw [if_pos (by rfl)]
                  go_simp
                  have hP2 := below_alloc hP hZ (.cells #[] 3)
                  refine hK.out _ _ hP2 (fun _ => ?_)
                  clear hK K'
                  (try simp only [Act.put, List.getElem_toArray, List.getElem_cons_zero, List.getElem_cons_succ, List.setIfInBounds_toArray, List.set_cons_zero, List.set_cons_succ])
                  have hO : (W0.alloc (.cells #[] 3)).ownsRow v3.heap.size 3 1 (.slice (some ⟨W0.heap.size, 0, none⟩) 0 0) 0 [] := own_lit0 (heap_alloc_new W0 _) hZ
                  replace hZ : v3.heap.size ≤ (W0.alloc (.cells #[] 3)).heap.size := by rw [World.size_alloc]; omega
                  clear hP
                  have hP := hP2
                  clear hP2
                  obtain ⟨W1, hWe⟩ : ∃ W1, (W0.alloc (.cells #[] 3)) = W1 := ⟨_, rfl⟩
                  rw [hWe] at hP hZ hO ⊢
                  clear hWe
                  refine wpAnyH_ready (rs := [3, 7]) (by kernel_rfl) (by simp) ?_
                  refine AllReadyH.cons rfl ?_ ?_
                  · intro K' hK
                    refine step_appN W1 rfl (.tmp 105) (.tmp 107) 22 rfl v3.heap.size 3 j0 _ 1 8 und22 jh jz js jb rfl (by decide) _ (0) ([]) rfl hO (some ⟨sb, so, none⟩) (S.length) sc (((zs S).map (Value.int .i64))) rfl (by have := i64_rd (hS.ext hP); rwa [zs_len] at this) (one_i64 _) (by unfold maxLen; omega) (by omega) hZ ?_
                    intro A2 c2 W2 hO2 hg2 hf2
                    rw [Nat.zero_add S.length, List.nil_append] at hO2
                    rw [Nat.zero_add S.length] at hf2 ⊢
                    have hP2 := gb_below hP hg2 hZ (fun g hg => (hO.lt g hg).1)
                    have hZ2 := Nat.le_trans hZ hg2.size
                    refine hK.out _ _ hP2 (fun _ => ?_)
                    clear hK K'
                    (try simp only [Act.put, List.getElem_toArray, List.getElem_cons_zero, List.getElem_cons_succ, List.setIfInBounds_toArray, List.set_cons_zero, List.set_cons_succ])
                    clear hO hP hZ hg2 hf2
                    have hO := hO2
                    have hP := hP2
                    have hZ := hZ2
                    clear hO2 hP2 hZ2
                    refine wpAnyH_take (i := 6) (v := ?_) rfl (by kernel_rfl) (by kernel_rfl) (by kernel_rfl) (fun _ _ _ h => h) (Or.inl ⟨by rfl, ?_⟩) hP ?_
                    rotate_left
                    · (intro ww hSw; go_simp; try with_reducible rfl)
                    (try simp only [Act.put, List.getElem_toArray, List.getElem_cons_zero, List.getElem_cons_succ, List.setIfInBounds_toArray, List.set_cons_zero, List.set_cons_succ])
                    refine wpAnyH_ready (rs := [7]) (by kernel_rfl) (by simp) ?_
                    refine AllReadyH.cons rfl ?_ ?_
                    · intro K' hK
                      rw [if_pos (by rfl)]
                      go_simp
                      have hP2 := below_alloc hP hZ (.cells #[.slice none 0 0, .int .i64 0] 34)
                      refine hK.out _ _ hP2 (fun _ => ?_)
                      clear hK K'
                      (try simp only [Act.put, List.getElem_toArray, List.getElem_cons_zero, List.getElem_cons_succ, List.setIfInBounds_toArray, List.set_cons_zero, List.set_cons_succ])
                      have hs_B := Side.fresh hZ hO #[.slice none 0 0, .int .i64 0] 34
                      replace hO := hO.alloc (.cells #[.slice none 0 0, .int .i64 0] 34)
                      replace hZ : v3.heap.size ≤ (W2.alloc (.cells #[.slice none 0 0, .int .i64 0] 34)).heap.size := by rw [World.size_alloc]; omega
                      clear hP
                      have hP := hP2
                      clear hP2
                      obtain ⟨W3, hWe⟩ : ∃ W3, (W2.alloc (.cells #[.slice none 0 0, .int .i64 0] 34)) = W3 := ⟨_, rfl⟩
                      rw [hWe] at hP hZ hO hs_B ⊢
                      clear hWe
                      refine wpAnyH_ready (rs := [8]) (by kernel_rfl) (by simp) ?_
                      refine AllReadyH.cons rfl ?_ ?_
                      · intro K' hK
                        rw [if_pos (by rfl)]
                        have c0 := obj_at hs_B.2.2.1 0 _ rfl
                        have c1 := obj_at hs_B.2.2.1 1 _ rfl
                        have f0 := obj_fz hs_B.2.2.1 0
                        have f1 := obj_fz hs_B.2.2.1 1
                        go_simp
                        refine hK.out _ _ (Below.setCell (p := ⟨W2.heap.size, 1, none⟩) (Below.setCell (p := ⟨W2.heap.size, 0, none⟩) hP hs_B.1 _) hs_B.1 _) (fun _ => ?_)
                        clear hK K'
                        (try simp only [Act.put, List.getElem_toArray, List.getElem_cons_zero, List.getElem_cons_succ, List.setIfInBounds_toArray, List.set_cons_zero, List.set_cons_succ])
                        refine wpAnyH_done (by kernel_rfl) ?_ _
                        refine NoPanic.normal ?_
                        go_wp2_with fail
                        go_meet
                        exact ⟨_, A2, c2, rfl, set_two hs_B.2.2.1, own_setFar (own_setFar hO hs_B.2.2.2 0 _) hs_B.2.2.2 1 _, hs_B.2.2.2, hs_B.1, Below.setCell (Below.setCell hP hs_B.1 _) hs_B.1 _⟩
                      exact AllReadyH.nil
                    exact AllReadyH.nil
                  refine AllReadyH.cons rfl ?_ ?_
                  · intro K' hK
                    rw [if_pos (by rfl)]
                    go_simp
                    have hP2 := below_alloc hP hZ (.cells #[.slice none 0 0, .int .i64 0] 34)
                    refine hK.out _ _ hP2 (fun _ => ?_)
                    clear hK K'
                    (try simp only [Act.put, List.getElem_toArray, List.getElem_cons_zero, List.getElem_cons_succ, List.setIfInBounds_toArray, List.set_cons_zero, List.set_cons_succ])
                    have hs_B := Side.fresh hZ hO #[.slice none 0 0, .int .i64 0] 34
                    replace hO := hO.alloc (.cells #[.slice none 0 0, .int .i64 0] 34)
                    replace hZ : v3.heap.size ≤ (W1.alloc (.cells #[.slice none 0 0, .int .i64 0] 34)).heap.size := by rw [World.size_alloc]; omega
                    clear hP
                    have hP := hP2
                    clear hP2
                    obtain ⟨W5, hWe⟩ : ∃ W5, (W1.alloc (.cells #[.slice none 0 0, .int .i64 0] 34)) = W5 := ⟨_, rfl⟩
                    rw [hWe] at hP hZ hO hs_B ⊢
                    clear hWe
                    refine wpAnyH_ready (rs := [3]) (by kernel_rfl) (by simp) ?_
                    refine AllReadyH.cons rfl ?_ ?_
                    · intro K' hK
                      refine step_appN W5 rfl (.tmp 105) (.tmp 107) 22 rfl v3.heap.size 3 j0 _ 1 8 und22 jh jz js jb rfl (by decide) _ (0) ([]) rfl hO (some ⟨sb, so, none⟩) (S.length) sc (((zs S).map (Value.int .i64))) rfl (by have := i64_rd (hS.ext hP); rwa [zs_len] at this) (one_i64 _) (by unfold maxLen; omega) (by omega) hZ ?_
                      intro A2 c2 W6 hO2 hg2 hf2
                      rw [Nat.zero_add S.length, List.nil_append] at hO2
                      rw [Nat.zero_add S.length] at hf2 ⊢
                      have hP2 := gb_below hP hg2 hZ (fun g hg => (hO.lt g hg).1)
                      have hZ2 := Nat.le_trans hZ hg2.size
                      refine hK.out _ _ hP2 (fun _ => ?_)
                      clear hK K'
                      (try simp only [Act.put, List.getElem_toArray, List.getElem_cons_zero, List.getElem_cons_succ, List.setIfInBounds_toArray, List.set_cons_zero, List.set_cons_succ])
                      replace hs_B := hs_B.grown hg2 hf2
                      clear hO hP hZ hg2 hf2
                      have hO := hO2
                      have hP := hP2
                      have hZ := hZ2
                      clear hO2 hP2 hZ2
                      refine wpAnyH_take (i := 6) (v := ?_) rfl (by kernel_rfl) (by kernel_rfl) (by kernel_rfl) (fun _ _ _ h => h) (Or.inl ⟨by rfl, ?_⟩) hP ?_
                      rotate_left
                      · (intro ww hSw; go_simp; try with_reducible rfl)
                      (try simp only [Act.put, List.getElem_toArray, List.getElem_cons_zero, List.getElem_cons_succ, List.setIfInBounds_toArray, List.set_cons_zero, List.set_cons_succ])
                      refine wpAnyH_ready (rs := [8]) (by kernel_rfl) (by simp) ?_
                      refine AllReadyH.cons rfl ?_ ?_
                      · intro K' hK
                        rw [if_pos (by rfl)]
                        have c0 := obj_at hs_B.2.2.1 0 _ rfl
                        have c1 := obj_at hs_B.2.2.1 1 _ rfl
                        have f0 := obj_fz hs_B.2.2.1 0
                        have f1 := obj_fz hs_B.2.2.1 1
                        go_simp
                        refine hK.out _ _ (Below.setCell (p := ⟨W1.heap.size, 1, none⟩) (Below.setCell (p := ⟨W1.heap.size, 0, none⟩) hP hs_B.1 _) hs_B.1 _) (fun _ => ?_)
                        clear hK K'
                        (try simp only [Act.put, List.getElem_toArray, List.getElem_cons_zero, List.getElem_cons_succ, List.setIfInBounds_toArray, List.set_cons_zero, List.set_cons_succ])
                        refine wpAnyH_done (by kernel_rfl) ?_ _
                        refine NoPanic.normal ?_
                        go_wp2_with fail
                        go_meet
                        exact ⟨_, A2, c2, rfl, set_two hs_B.2.2.1, own_setFar (own_setFar hO hs_B.2.2.2 0 _) hs_B.2.2.2 1 _, hs_B.2.2.2, hs_B.1, Below.setCell (Below.setCell hP hs_B.1 _) hs_B.1 _⟩
                      exact AllReadyH.nil
                    exact AllReadyH.nil
                  exact AllReadyH.nil
                refine AllReadyH.cons rfl ?_ ?_
                · intro K' hK
                  rw [if_pos (by rfl)]
                  go_simp
                  have hP2 := below_alloc hP hZ (.cells #[.slice none 0 0, .int .i64 0] 34)
                  refine hK.out _ _ hP2 (fun _ => ?_)
                  clear hK K'
                  (try simp only [Act.put, List.getElem_toArray, List.getElem_cons_zero, List.getElem_cons_succ, List.setIfInBounds_toArray, List.set_cons_zero, List.set_cons_succ])
                  have hs_B := Side.fresh0 (W := W0) hZ #[.slice none 0 0, .int .i64 0] 34
                  replace hZ : v3.heap.size ≤ (W0.alloc (.cells #[.slice none 0 0, .int .i64 0] 34)).heap.size := by rw [World.size_alloc]; omega
                  clear hP
                  have hP := hP2
                  clear hP2
                  obtain ⟨W8, hWe⟩ : ∃ W8, (W0.alloc (.cells #[.slice none 0 0, .int .i64 0] 34)) = W8 := ⟨_, rfl⟩
                  rw [hWe] at hP hZ hs_B ⊢
                  clear hWe
                  refine wpAnyH_ready (rs := [0]) (by kernel_rfl) (by simp) ?_
                  refine AllReadyH.cons rfl ?_ ?_
                  · intro K' hK
                    rw [if_pos (by rfl)]
                    go_simp
                    have hP2 := below_alloc hP hZ (.cells #[] 3)
                    refine hK.out _ _ hP2 (fun _ => ?_)
                    clear hK K'
                    (try simp only [Act.put, List.getElem_toArray, List.getElem_cons_zero, List.getElem_cons_succ, List.setIfInBounds_toArray, List.set_cons_zero, List.set_cons_succ])
                    replace hs_B := hs_B.lit (.cells #[] 3)
                    have hO : (W8.alloc (.cells #[] 3)).ownsRow v3.heap.size 3 1 (.slice (some ⟨W8.heap.size, 0, none⟩) 0 0) 0 [] := own_lit0 (heap_alloc_new W8 _) hZ
                    replace hZ : v3.heap.size ≤ (W8.alloc (.cells #[] 3)).heap.size := by rw [World.size_alloc]; omega
                    clear hP
                    have hP := hP2
                    clear hP2
                    obtain ⟨W9, hWe⟩ : ∃ W9, (W8.alloc (.cells #[] 3)) = W9 := ⟨_, rfl⟩
                    rw [hWe] at hP hZ hO hs_B ⊢
                    clear hWe
                    refine wpAnyH_ready (rs := [3]) (by kernel_rfl) (by simp) ?_
                    refine AllReadyH.cons rfl ?_ ?_
                    · intro K' hK
                      refine step_appN W9 rfl (.tmp 105) (.tmp 107) 22 rfl v3.heap.size 3 j0 _ 1 8 und22 jh jz js jb rfl (by decide) _ (0) ([]) rfl hO (some ⟨sb, so, none⟩) (S.length) sc (((zs S).map (Value.int .i64))) rfl (by have := i64_rd (hS.ext hP); rwa [zs_len] at this) (one_i64 _) (by unfold maxLen; omega) (by omega) hZ ?_
                      intro A2 c2 W10 hO2 hg2 hf2
                      rw [Nat.zero_add S.length, List.nil_append] at hO2
                      rw [Nat.zero_add S.length] at hf2 ⊢
                      have hP2 := gb_below hP hg2 hZ (fun g hg => (hO.lt g hg).1)
                      have hZ2 := Nat.le_trans hZ hg2.size
                      refine hK.out _ _ hP2 (fun _ => ?_)
                      clear hK K'
                      (try simp only [Act.put, List.getElem_toArray, List.getElem_cons_zero, List.getElem_cons_succ, List.setIfInBounds_toArray, List.set_cons_zero, List.set_cons_succ])
                      replace hs_B := hs_B.grown hg2 hf2
                      clear hO hP hZ hg2 hf2
                      have hO := hO2
                      have hP := hP2
                      have hZ := hZ2
                      clear hO2 hP2 hZ2
                      refine wpAnyH_take (i := 6) (v := ?_) rfl (by kernel_rfl) (by kernel_rfl) (by kernel_rfl) (fun _ _ _ h => h) (Or.inl ⟨by rfl, ?_⟩) hP ?_
                      rotate_left
                      · (intro ww hSw; go_simp; try with_reducible rfl)
                      (try simp only [Act.put, List.getElem_toArray, List.getElem_cons_zero, List.getElem_cons_succ, List.setIfInBounds_toArray, List.set_cons_zero, List.set_cons_succ])
                      refine wpAnyH_ready (rs := [8]) (by kernel_rfl) (by simp) ?_
                      refine AllReadyH.cons rfl ?_ ?_
                      · intro K' hK
                        rw [if_pos (by rfl)]
                        have c0 := obj_at hs_B.2.2.1 0 _ rfl
                        have c1 := obj_at hs_B.2.2.1 1 _ rfl
                        have f0 := obj_fz hs_B.2.2.1 0
                        have f1 := obj_fz hs_B.2.2.1 1
                        go_simp
                        refine hK.out _ _ (Below.setCell (p := ⟨W0.heap.size, 1, none⟩) (Below.setCell (p := ⟨W0.heap.size, 0, none⟩) hP hs_B.1 _) hs_B.1 _) (fun _ => ?_)
                        clear hK K'
                        (try simp only [Act.put, List.getElem_toArray, List.getElem_cons_zero, List.getElem_cons_succ, List.setIfInBounds_toArray, List.set_cons_zero, List.set_cons_succ])
                        refine wpAnyH_done (by kernel_rfl) ?_ _
                        refine NoPanic.normal ?_
                        go_wp2_with fail
                        go_meet
                        exact ⟨_, A2, c2, rfl, set_two hs_B.2.2.1, own_setFar (own_setFar hO hs_B.2.2.2 0 _) hs_B.2.2.2 1 _, hs_B.2.2.2, hs_B.1, Below.setCell (Below.setCell hP hs_B.1 _) hs_B.1 _⟩
                      exact AllReadyH.nil
                    exact AllReadyH.nil
                  exact AllReadyH.nil
                exact AllReadyH.nil
              case rest =>
                as_aux_lemma =>
                obtain ⟨kb, Ab, cb, rfl, hKb, hOb, hFb, hkb, hbc⟩ := hcut
                obtain ⟨v4, hv4⟩ : ∃ v, v = wc := ⟨_, rfl⟩
                rw [← hv4] at hKb hOb hbc ⊢
                have hbcb := hbc
                have hga3 : ∀ g, (Value.slice Aa S.length ca).ownBlock = some g → v2.heap.size ≤ g ∧ g < v3.heap.size := fun g hg => hOa.lt g hg
                clear hv4
                replace hA := hA.ext hbc
                replace hB := hB.ext hbc
                replace hX := hX.ext hbc
                replace hY := hY.ext hbc
                replace hW := below_step hW hbc (by have := hW.size; omega)
                replace hS := hS.ext hbc
                replace q1 := (hbc.cell (p := ⟨tb, tq + i * 2, none⟩) htb).trans q1
                replace q2 := (hbc.cell (p := ⟨tb, tq + i * 2 + 1, none⟩) htb).trans q2
                replace htb := Nat.lt_of_lt_of_le htb hbc.size
                replace r1 := (hbc.cell (p := ⟨sb, so + r, none⟩) hsb).trans r1
                replace hsb := Nat.lt_of_lt_of_le hsb hbc.size
                replace hV := hV.ext hbc
                replace hKa := hKa.ext hbc
                replace hOa := ownsRow_grows hOa hbc
                clear hbc
                (try clear hXc0 hXf hXl)
                have hXc0 := obj_at hX 0 _ rfl
                have hXf := obj_fz hX 0
                have hXl := obj_lt hX
                (try clear hYc0 hYc1 hYc2 hYc3 hYc4 hYf hYl)
                have hYc0 := obj_at hY 0 _ rfl
                have hYc1 := obj_at hY 1 _ rfl
                have hYc2 := obj_at hY 2 _ rfl
                have hYc3 := obj_at hY 3 _ rfl
                have hYc4 := obj_at hY 4 _ rfl
                have hYf := obj_fz hY 0
                have hYl := obj_lt hY
                (try clear hVc0 hVc1 hVf hVl)
                have hVc0 := obj_at hV 0 _ rfl
                have hVc1 := obj_at hV 1 _ rfl
                have hVf := obj_fz hV 0
                have hVl := obj_lt hV
                (try clear hKac0 hKac1 hKaf hKal)
                have hKac0 := obj_at hKa 0 _ rfl
                have hKac1 := obj_at hKa 1 _ rfl
                have hKaf := obj_fz hKa 0
                have hKal := obj_lt hKa
                (try clear hKbc0 hKbc1 hKbf hKbl)
                have hKbc0 := obj_at hKb 0 _ rfl
                have hKbc1 := obj_at hKb 1 _ rfl
                have hKbf := obj_fz hKb 0
                have hKbl := obj_lt hKb
                go_upto_region 10 with fail
                have hVS := Bm.sub_bits (k := 0) hs64 (show sv &&& m = m from hmm)
                have hml : m ≤ sv := by rw [← hmm]; exact Nat.and_le_left
                obtain ⟨ga, rfl, hga, hgac⟩ := own_at2 hOa r (.int .i64 (sv : Nat)) (by rw [List.getElem?_map]; unfold zs; rw [List.getElem?_map, List.getElem?_eq_getElem hrs, HSR.out]; rfl)
                obtain ⟨gb, rfl, hgb, hgbc⟩ := own_at2 hOb r (.int .i64 (sv : Nat)) (by rw [List.getElem?_map]; unfold zs; rw [List.getElem?_map, List.getElem?_eq_getElem hrs, HSR.out]; rfl)
                have hgaf := hOa.frozenAt r
                have hgbf := hOb.frozenAt r
                have hz1 := hga3 ga rfl
                have hz2 := (hOb.lt gb rfl).1
                have hz3 := hFa ga rfl
                have hz4 := hFb gb rfl
                have e1 : ga ≠ gb := by omega
                have e2 : gb ≠ ga := by omega
                have e3 : ga ≠ ka := fun e => hz3 e.symm
                have e4 : gb ≠ ka := by omega
                have e5 : ga ≠ kb := by omega
                have e6 : gb ≠ kb := fun e => hz4 e.symm
                have e7 : ga ≠ tk := by omega
                have e8 : gb ≠ tk := by omega
                have e9 : ga ≠ sb := by omega
                have e10 : gb ≠ sb := by omega
                have hsm : (sv : Int) - (m : Int) = ((sv - m : Nat) : Int) := by omega
                have hsm1 : IntKind.i64.wrap ((sv : Int) - (m : Int)) = ((sv - m : Nat) : Int) := by rw [IntKind.wrap_i64]; omega
                have hsm3 : IntKind.i64.wrap ((sv - m : Nat) : Int) = ((sv - m : Nat) : Int) := by rw [IntKind.wrap_i64]; omega
                have hsm2 : wrap64 ((sv : Int) - (m : Int)) = ((sv - m : Nat) : Int) := by unfold wrap64; omega
                go_cut [127] from 112 to 126 (fun sx wx => ∃ q : Nat, sx = .pointer (some ⟨gb, q, none⟩) ∧ (wx = ((v4.setCell ⟨ga, r, none⟩ (.int .i64 (m : Nat))).setCell ⟨gb, r, none⟩ (.int .i64 ((sv - m : Nat) : Int))).drew ∨ wx = ((v4.setCell ⟨gb, r, none⟩ (.int .i64 ((sv - m : Nat) : Int))).setCell ⟨ga, r, none⟩ (.int .i64 (m : Nat))).drew))
                case first =>
                  as_aux_lemma =>
                  go_region_held3 (fun w' => w'.cell? ⟨ka, 0, none⟩ = some (.slice (some ⟨ga, 0, none⟩) S.length ca) ∧ w'.cell? ⟨kb, 0, none⟩ = some (.slice (some ⟨gb, 0, none⟩) S.length cb) ∧ w'.cell? ⟨tk, 0, none⟩ = some (.slice (some ⟨sb, so, none⟩) S.length sc) ∧ w'.cell? ⟨sb, so + r, none⟩ = some (.int .i64 (sv : Nat))) (simp (maxDischargeDepth := 9) [*, World.cell?_alloc_some, World.cell?_setCell_far]) (fail)
                  all_goals
                    go_wp2_with fail
                    go_meet
                    first
                      | exact ⟨_, rfl, .inl rfl⟩
                      | exact ⟨_, rfl, .inr rfl⟩
                case rest =>
                  as_aux_lemma =>
                  obtain ⟨q0, rfl, hw5⟩ := hcut
                  obtain ⟨v5, hv5⟩ : ∃ v, v = wc := ⟨_, rfl⟩
                  rw [← hv5] at hw5 ⊢
                  clear hv5
                  have hb24 : Below v2.heap.size v2 v4 := below_step HBA.out hbcb HBA.out.size
                  have hza : v2.heap.size ≤ gb := by omega
                  have fab : Far (.slice (some ⟨ga, 0, none⟩) S.length ca) gb := fun g hg => by cases hg; exact e2
                  have fba : Far (.slice (some ⟨gb, 0, none⟩) S.length cb) ga := fun g hg => by cases hg; exact e1
                  have h5 : Below v2.heap.size v2 v5 ∧ v5.ownsRow v2.heap.size 3 1 (.slice (some ⟨ga, 0, none⟩) S.length ca) S.length (((zs S).map (Value.int .i64)).set r (.int .i64 (m : Nat))) ∧ v5.ownsRow v3.heap.size 3 1 (.slice (some ⟨gb, 0, none⟩) S.length cb) S.length (((zs S).map (Value.int .i64)).set r (.int .i64 ((sv - m : Nat) : Int))) ∧ BlkAt v5 ka #[.slice (some ⟨ga, 0, none⟩) S.length ca, .int .i64 (uu : Nat)] 34 ∧ BlkAt v5 kb #[.slice (some ⟨gb, 0, none⟩) S.length cb, .int .i64 (uu : Nat)] 34 := by
                    rcases hw5 with hw5 | hw5
                    · rw [hw5]
                      refine ⟨below_drew (Below.setCell (Below.setCell hb24 hz1.1 _) hza _), ownsRow_grows (own_setFar (hOa.stored r _).1 fab r _) (below_drew (Below.refl _ _)), ownsRow_grows ((own_setFar hOb fba r _).stored r _).1 (below_drew (Below.refl _ _)), ?_, ?_⟩
                      · exact (show (((v4.setCell ⟨ga, r, none⟩ _).setCell ⟨gb, r, none⟩ _).heap[ka]? = _) from (Below.heap_setCell _ _ _ _ e4.symm).trans ((Below.heap_setCell _ _ _ _ e3.symm).trans hKa))
                      · exact (show (((v4.setCell ⟨ga, r, none⟩ _).setCell ⟨gb, r, none⟩ _).heap[kb]? = _) from (Below.heap_setCell _ _ _ _ e6.symm).trans ((Below.heap_setCell _ _ _ _ e5.symm).trans hKb))
                    · rw [hw5]
                      refine ⟨below_drew (Below.setCell (Below.setCell hb24 hza _) hz1.1 _), ownsRow_grows ((own_setFar hOa fab r _).stored r _).1 (below_drew (Below.refl _ _)), ownsRow_grows (own_setFar (hOb.stored r _).1 fba r _) (below_drew (Below.refl _ _)), ?_, ?_⟩
                      · exact (show (((v4.setCell ⟨gb, r, none⟩ _).setCell ⟨ga, r, none⟩ _).heap[ka]? = _) from (Below.heap_setCell _ _ _ _ e3.symm).trans ((Below.heap_setCell _ _ _ _ e4.symm).trans hKa))
                      · exact (show (((v4.setCell ⟨gb, r, none⟩ _).setCell ⟨ga, r, none⟩ _).heap[kb]? = _) from (Below.heap_setCell _ _ _ _ e5.symm).trans ((Below.heap_setCell _ _ _ _ e6.symm).trans hKb))
                  obtain ⟨hb25, hOa5, hOb5, hKa5, hKb5⟩ := h5
                  have hla : (S.set r m).length = S.length := List.length_set
                  have hlb : (S.set r (sv - m)).length = S.length := List.length_set
                  have hIa := own_i64 (xs := zs (S.set r m)) (c := ca) (by rw [zs_len, hla]; simpa [zs, List.map_set] using hOa5)
                  have hIb := own_i64 (xs := zs (S.set r (sv - m))) (c := cb) (by rw [zs_len, hlb]; simpa [zs, List.map_set] using hOb5)
                  rw [zs_len, hla] at hIa
                  rw [zs_len, hlb] at hIb
                  obtain ⟨hIa, hca, -⟩ := hIa
                  obtain ⟨hIb, hcb, -⟩ := hIb
                  clear hw5 hOa hOb hOa5 hOb5 hKa hKb hA hB hX hY hW hV hS q1 q2 r1 htb hsb e1 e2 e3 e4 e5 e6 e7 e8 e9 e10 fab fba hga hgb hgac hgbc hgaf hgbf hz1 hz2 hz3 hz4 hza hFa hFb hga3 hsm hsm1 hsm2 hsm3 hb24 hbcb hbca hVS hka hkb zk3 zs2 hXc0 hXf hXl hYc0 hYc1 hYc2 hYc3 hYc4 hYf hYl hVc0 hVc1 hVf hVl hKac0 hKac1 hKaf hKal hKbc0 hKbc1 hKbf hKbl hmi hmj
                  have hA := HA2.out.ext hb25
                  have hB := HB2.out.ext hb25
                  have hX := HX2.out.ext hb25
                  have hY := HY2.out.ext hb25
                  have hV := HV2.out.ext hb25
                  have hW := below_step HW2.out hb25 (by have := HW2.out.size; omega)
                  have hS := HS2.out.ext hb25
                  clear HA2 HB2 HX2 HY2 HV2 HW2 HS2 hb25
                  have HA5 := hide hA
                  have HB5 := hide hB
                  have HX5 := hide hX
                  have HY5 := hide hY
                  have HV5 := hide hV
                  have HS5 := hide hS
                  have HW5 := hide hW
                  have HKA := hide hKa5
                  have HKB := hide hKb5
                  have HIA := hide hIa
                  have HIB := hide hIb
                  (try clear hXc0 hXf hXl)
                  have hXc0 := obj_at hX 0 _ rfl
                  have hXf := obj_fz hX 0
                  have hXl := obj_lt hX
                  (try clear hYc0 hYc1 hYc2 hYc3 hYc4 hYf hYl)
                  have hYc0 := obj_at hY 0 _ rfl
                  have hYc1 := obj_at hY 1 _ rfl
                  have hYc2 := obj_at hY 2 _ rfl
                  have hYc3 := obj_at hY 3 _ rfl
                  have hYc4 := obj_at hY 4 _ rfl
                  have hYf := obj_fz hY 0
                  have hYl := obj_lt hY
                  (try clear hVc0 hVc1 hVf hVl)
                  have hVc0 := obj_at hV 0 _ rfl
                  have hVc1 := obj_at hV 1 _ rfl
                  have hVf := obj_fz hV 0
                  have hVl := obj_lt hV
                  (try clear hKa5c0 hKa5c1 hKa5f hKa5l)
                  have hKa5c0 := obj_at hKa5 0 _ rfl
                  have hKa5c1 := obj_at hKa5 1 _ rfl
                  have hKa5f := obj_fz hKa5 0
                  have hKa5l := obj_lt hKa5
                  (try clear hKb5c0 hKb5c1 hKb5f hKb5l)
                  have hKb5c0 := obj_at hKb5 0 _ rfl
                  have hKb5c1 := obj_at hKb5 1 _ rfl
                  have hKb5f := obj_fz hKb5 0
                  have hKb5l := obj_lt hKb5
                  obtain ⟨l0, lh, lz, ls, lb⟩ := info_parts info34
                  obtain ⟨rows, hrw, hro, hrd⟩ := tks_rows hB
                  rw [tz_len] at hrd
                  have HRO := hide hro
                  go_upto_region 11 with fail
                  go_cut [19] from 128 to 133 (fun sx wx => ∃ (A3 : Option Addr) (c3 : Nat), sx = .slice A3 (ts1.length + 1) c3 ∧ wx.ownsRow v5.heap.size 34 2 (.slice A3 (ts1.length + 1) c3) (ts1.length + 1) (cellsT (rows ++ [(some ⟨gb, 0, none⟩, zs (S.set r (sv - m)), cb, (uu : Int))])) ∧ Below v5.heap.size v5 wx)
                  case first =>
                    as_aux_lemma =>
                      refine wp_region_noPanic ?_
                      refine wp_region_held_drew (S := fun w' => Below v5.heap.size v5 w') (by kernel_rfl) ?_ (fun _ => ?_)
                      · exact below_drew (Below.refl _ _)
                      have hP : Below v5.heap.size v5 v5.drew := below_drew (Below.refl _ _)
                      have hZ : v5.heap.size ≤ v5.drew.heap.size := Nat.le_refl _
                      obtain ⟨W0, hW0⟩ : ∃ W0, v5.drew = W0 := ⟨_, rfl⟩
                      rw [hW0] at hP hZ ⊢
                      clear hW0
                      refine wpAnyH_take (i := 1) (v := ?_) rfl (by kernel_rfl) (by kernel_rfl) (by kernel_rfl) (fun _ _ _ h => h) (Or.inl ⟨by rfl, ?_⟩) hP ?_
                      rotate_left
                      · (intro ww hSw; go_simp; try with_reducible rfl)
                      (try simp only [Act.put, List.getElem_toArray, List.getElem_cons_zero, List.getElem_cons_succ, List.setIfInBounds_toArray, List.set_cons_zero, List.set_cons_succ])
                      refine wpAnyH_take (i := 3) (v := ?_) rfl (by kernel_rfl) (by kernel_rfl) (by kernel_rfl) (fun _ _ _ h => h) (Or.inl ⟨by rfl, ?_⟩) hP ?_
                      rotate_left
                      · (intro ww hSw; have g0 := (hSw.cell (p := ⟨kb, 0, none⟩) hKb5l).trans hKb5c0; have g1 := (hSw.cell (p := ⟨kb, 1, none⟩) hKb5l).trans hKb5c1; go_simp; try with_reducible rfl)
                      (try simp only [Act.put, List.getElem_toArray, List.getElem_cons_zero, List.getElem_cons_succ, List.setIfInBounds_toArray, List.set_cons_zero, List.set_cons_succ])
                      refine wpAnyH_ready (rs := [0, 4]) (by kernel_rfl) (by simp) ?_
                      refine AllReadyH.cons rfl ?_ ?_
                      · intro K' hK
                        rw [if_pos (by rfl)]
                        go_simp
                        have hP2 := below_alloc hP hZ (.cells #[] 34)
                        refine hK.out _ _ hP2 (fun _ => ?_)
                        clear hK K'
                        (try simp only [Act.put, List.getElem_toArray, List.getElem_cons_zero, List.getElem_cons_succ, List.setIfInBounds_toArray, List.set_cons_zero, List.set_cons_succ])
                        have hO : (W0.alloc (.cells #[] 34)).ownsRow v5.heap.size 34 2 (.slice (some ⟨W0.heap.size, 0, none⟩) 0 0) 0 [] := own_lit0 (heap_alloc_new W0 _) hZ
                        replace hZ : v5.heap.size ≤ (W0.alloc (.cells #[] 34)).heap.size := by rw [World.size_alloc]; omega
                        clear hP
                        have hP := hP2
                        clear hP2
                        obtain ⟨W1, hWe⟩ : ∃ W1, (W0.alloc (.cells #[] 34)) = W1 := ⟨_, rfl⟩
                        rw [hWe] at hP hZ hO ⊢
                        clear hWe
                        refine wpAnyH_ready (rs := [2, 4]) (by kernel_rfl) (by simp) ?_
                        refine AllReadyH.cons rfl ?_ ?_
                        · intro K' hK
                          refine step_appN W1 rfl (.tmp 128) (.tmp 129) 25 rfl v5.heap.size 34 l0 _ 2 32 und25 lh lz ls lb rfl (by decide) _ (0) ([]) rfl hO (some ⟨tb, tq, none⟩) (ts1.length) d (cellsT rows) rfl (hrd.ext hP) (cellsT_one _) (by unfold maxLen; omega) (by omega) hZ ?_
                          intro A2 c2 W2 hO2 hg2 hf2
                          rw [Nat.zero_add ts1.length, List.nil_append] at hO2
                          rw [Nat.zero_add ts1.length] at hf2 ⊢
                          have hP2 := gb_below hP hg2 hZ (fun g hg => (hO.lt g hg).1)
                          have hZ2 := Nat.le_trans hZ hg2.size
                          refine hK.out _ _ hP2 (fun _ => ?_)
                          clear hK K'
                          (try simp only [Act.put, List.getElem_toArray, List.getElem_cons_zero, List.getElem_cons_succ, List.setIfInBounds_toArray, List.set_cons_zero, List.set_cons_succ])
                          clear hO hP hZ hg2 hf2
                          have hO := hO2
                          have hP := hP2
                          have hZ := hZ2
                          clear hO2 hP2 hZ2
                          refine wpAnyH_ready (rs := [4]) (by kernel_rfl) (by simp) ?_
                          refine AllReadyH.cons rfl ?_ ?_
                          · intro K' hK
                            rw [if_pos (by rfl)]
                            go_simp
                            have hP2 := below_alloc hP hZ (.cells #[.slice (some ⟨gb, 0, none⟩) S.length cb, .int .i64 (uu : Nat)] 34)
                            refine hK.out _ _ hP2 (fun _ => ?_)
                            clear hK K'
                            (try simp only [Act.put, List.getElem_toArray, List.getElem_cons_zero, List.getElem_cons_succ, List.setIfInBounds_toArray, List.set_cons_zero, List.set_cons_succ])
                            have hs_L := Side.fresh hZ hO #[.slice (some ⟨gb, 0, none⟩) S.length cb, .int .i64 (uu : Nat)] 34
                            replace hO := hO.alloc (.cells #[.slice (some ⟨gb, 0, none⟩) S.length cb, .int .i64 (uu : Nat)] 34)
                            replace hZ : v5.heap.size ≤ (W2.alloc (.cells #[.slice (some ⟨gb, 0, none⟩) S.length cb, .int .i64 (uu : Nat)] 34)).heap.size := by rw [World.size_alloc]; omega
                            clear hP
                            have hP := hP2
                            clear hP2
                            obtain ⟨W3, hWe⟩ : ∃ W3, (W2.alloc (.cells #[.slice (some ⟨gb, 0, none⟩) S.length cb, .int .i64 (uu : Nat)] 34)) = W3 := ⟨_, rfl⟩
                            rw [hWe] at hP hZ hO hs_L ⊢
                            clear hWe
                            refine wpAnyH_ready (rs := [5]) (by kernel_rfl) (by simp) ?_
                            refine AllReadyH.cons rfl ?_ ?_
                            · intro K' hK
                              refine step_appN W3 rfl (.tmp 130) (.tmp 132) 25 rfl v5.heap.size 34 l0 _ 2 32 und25 lh lz ls lb rfl (by decide) _ (ts1.length) (cellsT rows) rfl hO (some ⟨W2.heap.size, 0, none⟩) (1) 1 ([.slice (some ⟨gb, 0, none⟩) S.length cb, .int .i64 (uu : Nat)]) rfl (side_rd2c hs_L) (by simp [Value.oneCell']) (by unfold maxLen; omega) (by omega) hZ ?_
                              intro A3 c3 W4 hO2 hg2 hf2
                              have hP2 := gb_below hP hg2 hZ (fun g hg => (hO.lt g hg).1)
                              have hZ2 := Nat.le_trans hZ hg2.size
                              refine hK.out _ _ hP2 (fun _ => ?_)
                              clear hK K'
                              (try simp only [Act.put, List.getElem_toArray, List.getElem_cons_zero, List.getElem_cons_succ, List.setIfInBounds_toArray, List.set_cons_zero, List.set_cons_succ])
                              replace hs_L := hs_L.grown hg2 hf2
                              clear hO hP hZ hg2 hf2
                              have hO := hO2
                              have hP := hP2
                              have hZ := hZ2
                              clear hO2 hP2 hZ2
                              refine wpAnyH_take (i := 6) (v := ?_) rfl (by kernel_rfl) (by kernel_rfl) (by kernel_rfl) (fun _ _ _ h => h) (Or.inl ⟨by rfl, ?_⟩) hP ?_
                              rotate_left
                              · (intro ww hSw; go_simp; try with_reducible rfl)
                              (try simp only [Act.put, List.getElem_toArray, List.getElem_cons_zero, List.getElem_cons_succ, List.setIfInBounds_toArray, List.set_cons_zero, List.set_cons_succ])
                              refine wpAnyH_done (by kernel_rfl) ?_ _
                              refine NoPanic.normal ?_
                              rw [show cellsT rows ++ [.slice (some ⟨gb, 0, none⟩) S.length cb, .int .i64 (uu : Nat)] = cellsT (rows ++ [(some ⟨gb, 0, none⟩, zs (S.set r (sv - m)), cb, (uu : Int))]) by rw [cellsT_app]; unfold cellsT; simp [zs_len, hlb]] at hO
                              go_wp2_with fail
                              go_meet
                              exact ⟨A3, c3, rfl, hO, hP⟩
                            exact AllReadyH.nil
                          exact AllReadyH.nil
                        refine AllReadyH.cons rfl ?_ ?_
                        · intro K' hK
                          rw [if_pos (by rfl)]
                          go_simp
                          have hP2 := below_alloc hP hZ (.cells #[.slice (some ⟨gb, 0, none⟩) S.length cb, .int .i64 (uu : Nat)] 34)
                          refine hK.out _ _ hP2 (fun _ => ?_)
                          clear hK K'
                          (try simp only [Act.put, List.getElem_toArray, List.getElem_cons_zero, List.getElem_cons_succ, List.setIfInBounds_toArray, List.set_cons_zero, List.set_cons_succ])
                          have hs_L := Side.fresh hZ hO #[.slice (some ⟨gb, 0, none⟩) S.length cb, .int .i64 (uu : Nat)] 34
                          replace hO := hO.alloc (.cells #[.slice (some ⟨gb, 0, none⟩) S.length cb, .int .i64 (uu : Nat)] 34)
                          replace hZ : v5.heap.size ≤ (W1.alloc (.cells #[.slice (some ⟨gb, 0, none⟩) S.length cb, .int .i64 (uu : Nat)] 34)).heap.size := by rw [World.size_alloc]; omega
                          clear hP
                          have hP := hP2
                          clear hP2
                          obtain ⟨W5, hWe⟩ : ∃ W5, (W1.alloc (.cells #[.slice (some ⟨gb, 0, none⟩) S.length cb, .int .i64 (uu : Nat)] 34)) = W5 := ⟨_, rfl⟩
                          rw [hWe] at hP hZ hO hs_L ⊢
                          clear hWe
                          refine wpAnyH_ready (rs := [2]) (by kernel_rfl) (by simp) ?_
                          refine AllReadyH.cons rfl ?_ ?_
                          · intro K' hK
                            refine step_appN W5 rfl (.tmp 128) (.tmp 129) 25 rfl v5.heap.size 34 l0 _ 2 32 und25 lh lz ls lb rfl (by decide) _ (0) ([]) rfl hO (some ⟨tb, tq, none⟩) (ts1.length) d (cellsT rows) rfl (hrd.ext hP) (cellsT_one _) (by unfold maxLen; omega) (by omega) hZ ?_
                            intro A2 c2 W6 hO2 hg2 hf2
                            rw [Nat.zero_add ts1.length, List.nil_append] at hO2
                            rw [Nat.zero_add ts1.length] at hf2 ⊢
                            have hP2 := gb_below hP hg2 hZ (fun g hg => (hO.lt g hg).1)
                            have hZ2 := Nat.le_trans hZ hg2.size
                            refine hK.out _ _ hP2 (fun _ => ?_)
                            clear hK K'
                            (try simp only [Act.put, List.getElem_toArray, List.getElem_cons_zero, List.getElem_cons_succ, List.setIfInBounds_toArray, List.set_cons_zero, List.set_cons_succ])
                            replace hs_L := hs_L.grown hg2 hf2
                            clear hO hP hZ hg2 hf2
                            have hO := hO2
                            have hP := hP2
                            have hZ := hZ2
                            clear hO2 hP2 hZ2
                            refine wpAnyH_ready (rs := [5]) (by kernel_rfl) (by simp) ?_
                            refine AllReadyH.cons rfl ?_ ?_
                            · intro K' hK
                              refine step_appN W6 rfl (.tmp 130) (.tmp 132) 25 rfl v5.heap.size 34 l0 _ 2 32 und25 lh lz ls lb rfl (by decide) _ (ts1.length) (cellsT rows) rfl hO (some ⟨W1.heap.size, 0, none⟩) (1) 1 ([.slice (some ⟨gb, 0, none⟩) S.length cb, .int .i64 (uu : Nat)]) rfl (side_rd2c hs_L) (by simp [Value.oneCell']) (by unfold maxLen; omega) (by omega) hZ ?_
                              intro A3 c3 W7 hO2 hg2 hf2
                              have hP2 := gb_below hP hg2 hZ (fun g hg => (hO.lt g hg).1)
                              have hZ2 := Nat.le_trans hZ hg2.size
                              refine hK.out _ _ hP2 (fun _ => ?_)
                              clear hK K'
                              (try simp only [Act.put, List.getElem_toArray, List.getElem_cons_zero, List.getElem_cons_succ, List.setIfInBounds_toArray, List.set_cons_zero, List.set_cons_succ])
                              replace hs_L := hs_L.grown hg2 hf2
                              clear hO hP hZ hg2 hf2
                              have hO := hO2
                              have hP := hP2
                              have hZ := hZ2
                              clear hO2 hP2 hZ2
                              refine wpAnyH_take (i := 6) (v := ?_) rfl (by kernel_rfl) (by kernel_rfl) (by kernel_rfl) (fun _ _ _ h => h) (Or.inl ⟨by rfl, ?_⟩) hP ?_
                              rotate_left
                              · (intro ww hSw; go_simp; try with_reducible rfl)
                              (try simp only [Act.put, List.getElem_toArray, List.getElem_cons_zero, List.getElem_cons_succ, List.setIfInBounds_toArray, List.set_cons_zero, List.set_cons_succ])
                              refine wpAnyH_done (by kernel_rfl) ?_ _
                              refine NoPanic.normal ?_
                              rw [show cellsT rows ++ [.slice (some ⟨gb, 0, none⟩) S.length cb, .int .i64 (uu : Nat)] = cellsT (rows ++ [(some ⟨gb, 0, none⟩, zs (S.set r (sv - m)), cb, (uu : Int))]) by rw [cellsT_app]; unfold cellsT; simp [zs_len, hlb]] at hO
                              go_wp2_with fail
                              go_meet
                              exact ⟨A3, c3, rfl, hO, hP⟩
                            exact AllReadyH.nil
                          exact AllReadyH.nil
                        exact AllReadyH.nil
                      refine AllReadyH.cons rfl ?_ ?_
                      · intro K' hK
                        rw [if_pos (by rfl)]
                        go_simp
                        have hP2 := below_alloc hP hZ (.cells #[.slice (some ⟨gb, 0, none⟩) S.length cb, .int .i64 (uu : Nat)] 34)
                        refine hK.out _ _ hP2 (fun _ => ?_)
                        clear hK K'
                        (try simp only [Act.put, List.getElem_toArray, List.getElem_cons_zero, List.getElem_cons_succ, List.setIfInBounds_toArray, List.set_cons_zero, List.set_cons_succ])
                        have hs_L := Side.fresh0 (W := W0) hZ #[.slice (some ⟨gb, 0, none⟩) S.length cb, .int .i64 (uu : Nat)] 34
                        replace hZ : v5.heap.size ≤ (W0.alloc (.cells #[.slice (some ⟨gb, 0, none⟩) S.length cb, .int .i64 (uu : Nat)] 34)).heap.size := by rw [World.size_alloc]; omega
                        clear hP
                        have hP := hP2
                        clear hP2
                        obtain ⟨W8, hWe⟩ : ∃ W8, (W0.alloc (.cells #[.slice (some ⟨gb, 0, none⟩) S.length cb, .int .i64 (uu : Nat)] 34)) = W8 := ⟨_, rfl⟩
                        rw [hWe] at hP hZ hs_L ⊢
                        clear hWe
                        refine wpAnyH_ready (rs := [0]) (by kernel_rfl) (by simp) ?_
                        refine AllReadyH.cons rfl ?_ ?_
                        · intro K' hK
                          rw [if_pos (by rfl)]
                          go_simp
                          have hP2 := below_alloc hP hZ (.cells #[] 34)
                          refine hK.out _ _ hP2 (fun _ => ?_)
                          clear hK K'
                          (try simp only [Act.put, List.getElem_toArray, List.getElem_cons_zero, List.getElem_cons_succ, List.setIfInBounds_toArray, List.set_cons_zero, List.set_cons_succ])
                          replace hs_L := hs_L.lit (.cells #[] 34)
                          have hO : (W8.alloc (.cells #[] 34)).ownsRow v5.heap.size 34 2 (.slice (some ⟨W8.heap.size, 0, none⟩) 0 0) 0 [] := own_lit0 (heap_alloc_new W8 _) hZ
                          replace hZ : v5.heap.size ≤ (W8.alloc (.cells #[] 34)).heap.size := by rw [World.size_alloc]; omega
                          clear hP
                          have hP := hP2
                          clear hP2
                          obtain ⟨W9, hWe⟩ : ∃ W9, (W8.alloc (.cells #[] 34)) = W9 := ⟨_, rfl⟩
                          rw [hWe] at hP hZ hO hs_L ⊢
                          clear hWe
                          refine wpAnyH_ready (rs := [2]) (by kernel_rfl) (by simp) ?_
                          refine AllReadyH.cons rfl ?_ ?_
                          · intro K' hK
                            refine step_appN W9 rfl (.tmp 128) (.tmp 129) 25 rfl v5.heap.size 34 l0 _ 2 32 und25 lh lz ls lb rfl (by decide) _ (0) ([]) rfl hO (some ⟨tb, tq, none⟩) (ts1.length) d (cellsT rows) rfl (hrd.ext hP) (cellsT_one _) (by unfold maxLen; omega) (by omega) hZ ?_
                            intro A2 c2 W10 hO2 hg2 hf2
                            rw [Nat.zero_add ts1.length, List.nil_append] at hO2
                            rw [Nat.zero_add ts1.length] at hf2 ⊢
                            have hP2 := gb_below hP hg2 hZ (fun g hg => (hO.lt g hg).1)
                            have hZ2 := Nat.le_trans hZ hg2.size
                            refine hK.out _ _ hP2 (fun _ => ?_)
                            clear hK K'
                            (try simp only [Act.put, List.getElem_toArray, List.getElem_cons_zero, List.getElem_cons_succ, List.setIfInBounds_toArray, List.set_cons_zero, List.set_cons_succ])
                            replace hs_L := hs_L.grown hg2 hf2
                            clear hO hP hZ hg2 hf2
                            have hO := hO2
                            have hP := hP2
                            have hZ := hZ2
                            clear hO2 hP2 hZ2
                            refine wpAnyH_ready (rs := [5]) (by kernel_rfl) (by simp) ?_
                            refine AllReadyH.cons rfl ?_ ?_
                            · intro K' hK
                              refine step_appN W10 rfl (.tmp 130) (.tmp 132) 25 rfl v5.heap.size 34 l0 _ 2 32 und25 lh lz ls lb rfl (by decide) _ (ts1.length) (cellsT rows) rfl hO (some ⟨W0.heap.size, 0, none⟩) (1) 1 ([.slice (some ⟨gb, 0, none⟩) S.length cb, .int .i64 (uu : Nat)]) rfl (side_rd2c hs_L) (by simp [Value.oneCell']) (by unfold maxLen; omega) (by omega) hZ ?_
                              intro A3 c3 W11 hO2 hg2 hf2
                              have hP2 := gb_below hP hg2 hZ (fun g hg => (hO.lt g hg).1)
                              have hZ2 := Nat.le_trans hZ hg2.size
                              refine hK.out _ _ hP2 (fun _ => ?_)
                              clear hK K'
                              (try simp only [Act.put, List.getElem_toArray, List.getElem_cons_zero, List.getElem_cons_succ, List.setIfInBounds_toArray, List.set_cons_zero, List.set_cons_succ])
                              replace hs_L := hs_L.grown hg2 hf2
                              clear hO hP hZ hg2 hf2
                              have hO := hO2
                              have hP := hP2
                              have hZ := hZ2
                              clear hO2 hP2 hZ2
                              refine wpAnyH_take (i := 6) (v := ?_) rfl (by kernel_rfl) (by kernel_rfl) (by kernel_rfl) (fun _ _ _ h => h) (Or.inl ⟨by rfl, ?_⟩) hP ?_
                              rotate_left
                              · (intro ww hSw; go_simp; try with_reducible rfl)
                              (try simp only [Act.put, List.getElem_toArray, List.getElem_cons_zero, List.getElem_cons_succ, List.setIfInBounds_toArray, List.set_cons_zero, List.set_cons_succ])
                              refine wpAnyH_done (by kernel_rfl) ?_ _
                              refine NoPanic.normal ?_
                              rw [show cellsT rows ++ [.slice (some ⟨gb, 0, none⟩) S.length cb, .int .i64 (uu : Nat)] = cellsT (rows ++ [(some ⟨gb, 0, none⟩, zs (S.set r (sv - m)), cb, (uu : Int))]) by rw [cellsT_app]; unfold cellsT; simp [zs_len, hlb]] at hO
                              go_wp2_with fail
                              go_meet
                              exact ⟨A3, c3, rfl, hO, hP⟩
                            exact AllReadyH.nil
                          exact AllReadyH.nil
                        exact AllReadyH.nil
                      exact AllReadyH.nil
                  case rest =>
                    as_aux_lemma =>
                    obtain ⟨X0, xc, rfl, hOx, hbc⟩ := hcut
                    obtain ⟨v6, hv6⟩ : ∃ v, v = wc := ⟨_, rfl⟩
                    rw [← hv6] at hOx hbc ⊢
                    have hbx6 := hbc
                    clear hv6 hrd
                    replace hA := hA.ext hbc
                    replace hB := hB.ext hbc
                    replace hX := hX.ext hbc
                    replace hY := hY.ext hbc
                    replace hV := hV.ext hbc
                    replace hKa5 := hKa5.ext hbc
                    replace hKb5 := hKb5.ext hbc
                    replace hIa := hIa.ext hbc
                    replace hIb := hIb.ext hbc
                    replace hS := hS.ext hbc
                    replace hW := below_step hW hbc (by have := hW.size; omega)
                    replace hro := hro.ext hbc
                    clear hbc
                    (try clear hXc0 hXf hXl)
                    have hXc0 := obj_at hX 0 _ rfl
                    have hXf := obj_fz hX 0
                    have hXl := obj_lt hX
                    (try clear hYc0 hYc1 hYc2 hYc3 hYc4 hYf hYl)
                    have hYc0 := obj_at hY 0 _ rfl
                    have hYc1 := obj_at hY 1 _ rfl
                    have hYc2 := obj_at hY 2 _ rfl
                    have hYc3 := obj_at hY 3 _ rfl
                    have hYc4 := obj_at hY 4 _ rfl
                    have hYf := obj_fz hY 0
                    have hYl := obj_lt hY
                    (try clear hVc0 hVc1 hVf hVl)
                    have hVc0 := obj_at hV 0 _ rfl
                    have hVc1 := obj_at hV 1 _ rfl
                    have hVf := obj_fz hV 0
                    have hVl := obj_lt hV
                    (try clear hKa5c0 hKa5c1 hKa5f hKa5l)
                    have hKa5c0 := obj_at hKa5 0 _ rfl
                    have hKa5c1 := obj_at hKa5 1 _ rfl
                    have hKa5f := obj_fz hKa5 0
                    have hKa5l := obj_lt hKa5
                    (try clear hKb5c0 hKb5c1 hKb5f hKb5l)
                    have hKb5c0 := obj_at hKb5 0 _ rfl
                    have hKb5c1 := obj_at hKb5 1 _ rfl
                    have hKb5f := obj_fz hKb5 0
                    have hKb5l := obj_lt hKb5
                    have hrl : rows.length = ts1.length := by have := congrArg List.length hrw; unfold tksT at this; rw [tz_len, List.length_map] at this; exact this
                    have hir : i < rows.length := by omega
                    have hrg : (rows ++ [(some ⟨gb, 0, none⟩, zs (S.set r (sv - m)), cb, (uu : Int))])[i]? = some rows[i] := by rw [List.getElem?_append_left hir, List.getElem?_eq_getElem hir]
                    obtain ⟨ec1, ec2⟩ := cellsT_at _ _ _ hrg
                    obtain ⟨gx, rfl, hgx, y1⟩ := own_at2 hOx _ _ ec1
                    obtain ⟨gy, hgy, -, y2⟩ := own_at2 hOx _ _ ec2
                    obtain rfl : gx = gy := by injection hgy with hgy; injection hgy
                    have hy1 := hOx.frozenAt (i * 2)
                    have hy2 := hOx.frozenAt (i * 2 + 1)
                    have hi1 : (i : Int) < (ts1.length : Int) + 1 := by omega
                    have hi2 : i < ts1.length + 1 := by omega
                    clear hgy
                    go_upto_region 13 with fail
                    have hgx5 := (hOx.lt gx rfl).1
                    obtain ⟨v7, hv7⟩ : ∃ v, (v6.setCell ⟨gx, i * 2, none⟩ (.slice (some ⟨ga, 0, none⟩) S.length ca)).setCell ⟨gx, i * 2 + 1, none⟩ (.int .i64 (uu : Nat)) = v := ⟨_, rfl⟩
                    rw [hv7]
                    have hb57 : Below v5.heap.size v5 v7 := by rw [← hv7]; exact Below.setCell (Below.setCell hbx6 hgx5 _) hgx5 _
                    have hO7 := ((hOx.stored (i * 2) (.slice (some ⟨ga, 0, none⟩) S.length ca)).1.stored (i * 2 + 1) (.int .i64 (uu : Nat))).1
                    rw [hv7] at hO7
                    have hcs := cellsT_set (some ⟨ga, 0, none⟩, zs (S.set r m), ca, (uu : Int)) (rows ++ [(some ⟨gb, 0, none⟩, zs (S.set r (sv - m)), cb, (uu : Int))]) i (by rw [List.length_append]; omega)
                    simp only [zs_len, hla] at hcs
                    rw [hcs] at hO7
                    have hIa7 := HIA.out.ext hb57
                    have hIb7 := HIB.out.ext hb57
                    have hro7 : RowsOk v7 ((rows ++ [(some ⟨gb, 0, none⟩, zs (S.set r (sv - m)), cb, (uu : Int))] : List Row).set i ((some ⟨ga, 0, none⟩, zs (S.set r m), ca, (uu : Int)) : Row)) := fun x hx => by
                      rcases List.mem_or_eq_of_mem_set hx with hx | rfl
                      · rcases List.mem_append.1 hx with hx | hx
                        · exact (HRO.out.ext hb57) x hx
                        · rw [List.mem_singleton.1 hx]; exact ⟨hIb7, by simp only; rw [zs_len, hlb]; exact hcb⟩
                      · exact ⟨hIa7, by simp only; rw [zs_len, hla]; exact hca⟩
                    have hTX := own_tks hO7 hro7
                    have hgS : ts1.getD i ([], 0) = (S, uu) := by rw [getD_at _ _ hil]; exact HT.out
                    have hgr : S.getD r 0 = sv := by rw [getD_at _ _ hrs]; exact HSR.out
                    have hmg : (ts1.getD i ([], 0)).1.getD r 0 &&& m = m := by rw [hgS]; simp only; rw [hgr]; exact hmm
                    have hrR : r < R1.length := by rw [← HSL.out]; exact hrs
                    have hxT : tksT ((rows ++ [(some ⟨gb, 0, none⟩, zs (S.set r (sv - m)), cb, (uu : Int))] : List Row).set i ((some ⟨ga, 0, none⟩, zs (S.set r m), ca, (uu : Int)) : Row)) = tz (Bm.cutT ts1 i r m) := by
                      unfold Bm.cutT
                      rw [hgS]
                      simp only
                      rw [hgr]
                      unfold tksT at hrw ⊢
                      rw [List.map_set, List.map_append, hrw]
                      unfold tz
                      rw [List.map_append, List.map_set, List.set_append_left _ _ (by rw [List.length_map]; exact hil)]
                      rfl
                    rw [hxT] at hTX
                    have hokx := ok_cut hok hil hrR hmg (by omega) (by rw [hgS]; simp only; rw [hgr]; exact hm1) (by omega)
                    have hov := open_cut hok hokx hil hrR hmg
                    have hdv := deep_cut hok hokx hil hrR hmg
                    have hcv := cov_cut hok hil hrR hmg
                    have huv := fun o (ho : o ∈ Bm.outs R1) => Bm.uni_cut hok.tb hok.r6 hil hrR hmg ho
                    have hsz := Bm.size_parts (m := m) hbx hok.r6 hrR (by rw [hgr]; exact hmm) (by omega) (by rw [hgr]; exact hm1)
                    rw [hgr] at hsz
                    have hidO := fun y (hy : y < ts1.length) (hyi : y ≠ i) => Bm.idle_other hok.tb hok.r6 hil hrR hmg hy hyi
                    have hidW := Bm.idle_own hok.tb hok.r6 hil hrR hmg
                    have hxl : (Bm.cutT ts1 i r m).length = ts1.length + 1 := Bm.cutT_len _ _ _ _
                    have hba := Bm.cut_half hbx hrR (by rw [hgr]; exact hmm) (m := m) (by omega)
                    have hbb := Bm.cut_rest hbx hrR (by rw [hgr]; exact hmm) (m := m) (by rw [hgr]; exact hm1)
                    rw [hgr] at hbb
                    have hA7 := HA5.out.ext hb57
                    have hB7 := HB5.out.ext hb57
                    have hX7 := HX5.out.ext hb57
                    have hY7 := HY5.out.ext hb57
                    have hV7 := HV5.out.ext hb57
                    have hS7 := HS5.out.ext hb57
                    have hKa7 := HKA.out.ext hb57
                    have hKb7 := HKB.out.ext hb57
                    have hW7 := below_step HW5.out hb57 (by have := HW5.out.size; omega)
                    have hom := outcome_mem (R := R1) (X := [x0, x1, x2, x3, x4]) hok.r1 hR5
                    have hol := outcomeN_len (R := R1) (X := [x0, x1, x2, x3, x4]) hR5
                    have HOUT := hide (fun w' (h1 : I64 w' A (zs R1)) => Outcome_any A R1 c x0 x1 x2 x3 x4 w' h1 hR5 hok.r1 hok.r6 b0 b1 b2 b3 b4)
                    have HOL := hide ((zs_len (outcomeN R1 [x0, x1, x2, x3, x4])).trans hol)
                    generalize outcomeN R1 [x0, x1, x2, x3, x4] = ow at *
                    have hu1 : Bm.uni ts1 (deepO R1 ts1) ≤ 10000 := by have := Bm.uni_le hok.hu (deepO R1 ts1); omega
                    have hs0 := size_le9 hok hbx
                    have hs1 := size_le9 hok hba
                    have hs2 := size_le9 hok hbb
                    have hol5 := open_len9 hok
                    have hdl := Bm.outs_len (deep_mem hok)
                    have hil1 := Bm.idleN_le R1 ts1 ts1.length
                    have hil2 := Bm.idleN_le R1 (Bm.cutT ts1 i r m) (ts1.length + 1)
                    obtain ⟨xs, hxs⟩ : ∃ xs, Bm.cutT ts1 i r m = xs := ⟨_, rfl⟩
                    rw [hxs] at hTX hokx hov hdv hcv hxl hil2 hidW
                    simp only [hxs] at huv hidO
                    have C1 := hide (fun w' (h1 : I64 w' A (zs R1)) (h2 : I64 w' (some ⟨sb, so, none⟩) (zs S)) => size_api_ok A R1 c (some ⟨sb, so, none⟩) S sc uu w' h1 h2 q3 (ok_part9 hok hbx hux))
                    have C2 := hide (fun w' (h1 : I64 w' A (zs R1)) (h2 : I64 w' (some ⟨ga, 0, none⟩) (zs (S.set r m))) => size_api_ok A R1 c (some ⟨ga, 0, none⟩) (S.set r m) ca uu w' h1 h2 (by rw [hla]; exact hca) (ok_part9 hok hba hux))
                    have C3 := hide (fun w' (h1 : I64 w' A (zs R1)) (h2 : I64 w' (some ⟨gb, 0, none⟩) (zs (S.set r (sv - m)))) => size_api_ok A R1 c (some ⟨gb, 0, none⟩) (S.set r (sv - m)) cb uu w' h1 h2 (by rw [hlb]; exact hcb) (ok_part9 hok hbb hux))
                    rw [hla] at C2
                    rw [hlb] at C3
                    have C4 := hide (fun w' (h1 : I64 w' A (zs R1)) (h2 : Tks w' (some ⟨tb, tq, none⟩) (tz ts1)) => o_cov A R1 c (some ⟨tb, tq, none⟩) ts1 d w' h1 h2 hok)
                    have C5 := hide (fun w' (h1 : I64 w' A (zs R1)) (h2 : Tks w' (some ⟨gx, 0, none⟩) (tz xs)) => o_cov A R1 c (some ⟨gx, 0, none⟩) xs xc w' h1 h2 hokx)
                    have C6 := hide (fun w' (h1 : I64 w' A (zs R1)) (h2 : Tks w' (some ⟨tb, tq, none⟩) (tz ts1)) => o_deep A R1 c (some ⟨tb, tq, none⟩) ts1 d w' h1 h2 hok)
                    have C7 := hide (fun w' (h1 : I64 w' A (zs R1)) (h2 : Tks w' (some ⟨gx, 0, none⟩) (tz xs)) => o_deep A R1 c (some ⟨gx, 0, none⟩) xs xc w' h1 h2 hokx)
                    have C8 := hide (fun w' (h1 : I64 w' A (zs R1)) (h2 : Tks w' (some ⟨tb, tq, none⟩) (tz ts1)) => o_open A R1 c (some ⟨tb, tq, none⟩) ts1 d w' h1 h2 hok)
                    have C9 := hide (fun w' (h1 : I64 w' A (zs R1)) (h2 : Tks w' (some ⟨gx, 0, none⟩) (tz xs)) => o_open A R1 c (some ⟨gx, 0, none⟩) xs xc w' h1 h2 hokx)
                    have D1 := hide (fun X0 x1 w' (h1 : I64 w' A (zs R1)) (h2 : Tks w' (some ⟨tb, tq, none⟩) (tz ts1)) (h3 : I64 w' X0 (zs ow)) => o_pay9 A R1 c (some ⟨tb, tq, none⟩) ts1 d w' h1 h2 hok X0 ow x1 h3 hom)
                    have D2 := hide (fun X0 x1 w' (h1 : I64 w' A (zs R1)) (h2 : Tks w' (some ⟨gx, 0, none⟩) (tz xs)) (h3 : I64 w' X0 (zs ow)) => o_pay9 A R1 c (some ⟨gx, 0, none⟩) xs xc w' h1 h2 hokx X0 ow x1 h3 hom)
                    have D3 := hide (fun w' (h1 : I64 w' A (zs R1)) (h2 : Tks w' (some ⟨tb, tq, none⟩) (tz ts1)) => o_idle A R1 c (some ⟨tb, tq, none⟩) ts1 d w' h1 h2 hok)
                    have D4 := hide (fun w' (h1 : I64 w' A (zs R1)) (h2 : Tks w' (some ⟨gx, 0, none⟩) (tz xs)) => o_idle A R1 c (some ⟨gx, 0, none⟩) xs xc w' h1 h2 hokx)
                    rw [hcv, hxl] at C5
                    rw [hdv, huv _ (deep_mem hok), hxl] at C7
                    rw [hov, hxl] at C9
                    rw [huv _ hom, hol, hxl] at D2
                    rw [hol] at D1
                    rw [hxl] at D4
                    have hdl5 : (deepO R1 ts1).length ≤ 5 := by omega
                    clear hO7 hro7 hxT hok hokx hov hdv hcv huv hba hbb hbx hgS hgr hmg hcs hv7 hb57 hxs hxl hom hol hrw hrl hOx HIA HIB HRO HA5 HB5 HX5 HY5 HV5 HS5 HKA HKB HW5 hA hB hX hY hV hS hKa5 hKb5 hIa hIb hW hro hy1 hy2 y1 y2 hbx6 hmm hux hgx5 hgx hir hrg ec1 ec2 hi1 hi2 hdl HF hwd HT HSL HSR hrs hrR hla hlb hca hcb hand
                    generalize Bm.size S = s0 at *
                    generalize Bm.size (S.set r m) = s1 at *
                    generalize Bm.size (S.set r (sv - m)) = s2 at *
                    generalize Bm.afterN R1 ts1 [] = N at *
                    generalize Bm.uni ts1 (deepO R1 ts1) = dn at *
                    generalize Bm.uni ts1 ow = un at *
                    have hdz : (zs (deepO R1 ts1)).length ≤ 1000 := by rw [zs_len]; omega
                    generalize zs (deepO R1 ts1) = dl at *
                    generalize (openVV (zs R1) (tz ts1)).1 = ol at *
                    generalize (openVV (zs R1) (tz ts1)).2 = oe at *
                    generalize payP un 999 = p1 at *
                    generalize payC un 999 = p2 at *
                    generalize Bm.idleN R1 ts1 ts1.length = il at *
                    generalize Bm.idleN R1 xs (ts1.length + 1) = zl at *
                    have HSZ := hide hsz
                    have hsI : ((s0 : Int) != (s1 : Int) + (s2 : Int)) = false := by simp; omega
                    have hsJ : (s1 : Int) + (s2 : Int) ≤ 15552 := by omega
                    have hoe : (oe != oe) = false := by simp
                    have hil10 : (il.length : Int) ≤ 10 := by omega
                    have hzl10 : (zl.length : Int) ≤ 10 := by omega
                    have hte2 : (ts1.length : Int) ≤ 9 := by omega
                    have HIO := hide (fun y (hy : y < ts1.length) (hyi : y ≠ i) => (show decide (y ∈ zl) = decide (y ∈ il) from decide_eq_decide.2 (hidO y hy hyi)))
                    have HIW := hide hidW
                    have E1 := hide (fun P q y w' (h : I64 w' P (zs il)) => in_any P _ q (y : Nat) w' h (by rw [zs_len]; omega))
                    have E2 := hide (fun P q y w' (h : I64 w' P (zs zl)) => in_any P _ q (y : Nat) w' h (by rw [zs_len]; omega))
                    have HIL := hide (zs_len il)
                    have HZL := hide (zs_len zl)
                    have hL1 : dl.length ≤ 1000 := by omega
                    have hL2 : ol.length ≤ 1000 := by omega
                    clear hsz hidO hidW hol5 hdz hs0 hil1 hil2
                    replace hW := hW7
                    clear hW7 hd9 hw8 hr8 hl9 hd hR5 ht10 hne hte hR1 hz8 hwz zt2 HBA hdn hml hil hs64 hm64 hm0 hm1 j0 jh jz js jb l0 lh lz ls lb hri hii hs5 hm8 b0 b1 b2 b3 b4 hu1 hdl5
                    (try clear hX7c0 hX7f hX7l)
                    have hX7c0 := obj_at hX7 0 _ rfl
                    have hX7f := obj_fz hX7 0
                    have hX7l := obj_lt hX7
                    (try clear hV7c0 hV7c1 hV7f hV7l)
                    have hV7c0 := obj_at hV7 0 _ rfl
                    have hV7c1 := obj_at hV7 1 _ rfl
                    have hV7f := obj_fz hV7 0
                    have hV7l := obj_lt hV7
                    (try clear hKa7c0 hKa7c1 hKa7f hKa7l)
                    have hKa7c0 := obj_at hKa7 0 _ rfl
                    have hKa7c1 := obj_at hKa7 1 _ rfl
                    have hKa7f := obj_fz hKa7 0
                    have hKa7l := obj_lt hKa7
                    (try clear hKb7c0 hKb7c1 hKb7f hKb7l)
                    have hKb7c0 := obj_at hKb7 0 _ rfl
                    have hKb7c1 := obj_at hKb7 1 _ rfl
                    have hKb7f := obj_fz hKb7 0
                    have hKb7l := obj_lt hKb7
                    have tok0 : True := trivial
                    go_upto_region 22 with (first
    | (clear tok0; go_at_call 25; refine (C1.out _ (hA7.ext (by (repeat (first | exact Below.refl _ _ | assumption | refine below_drewN ?_ _ | refine below_drew ?_ | refine below_gr ?_ ?_ _ | refine below_alloc ?_ ?_ _ | refine Below.setCell ?_ ?_ _ | refine below_step ?_ (by assumption) ?_ | omega | (simp only [zz] at *; omega))))) (hS7.ext (by (repeat (first | exact Below.refl _ _ | assumption | refine below_drewN ?_ _ | refine below_drew ?_ | refine below_gr ?_ ?_ _ | refine below_alloc ?_ ?_ _ | refine Below.setCell ?_ ?_ _ | refine below_step ?_ (by assumption) ?_ | omega | (simp only [zz] at *; omega)))))).mono ?_; rintro e u1 ⟨rfl, hb_u1⟩; replace hb_u1 := ex_below hb_u1; have bel_u1 : Below v7.heap.size v7 u1 := (by (repeat (first | exact Below.refl _ _ | assumption | refine below_drewN ?_ _ | refine below_drew ?_ | refine below_gr ?_ ?_ _ | refine below_alloc ?_ ?_ _ | refine Below.setCell ?_ ?_ _ | refine below_step ?_ (by assumption) ?_ | omega | (simp only [zz] at *; omega)))); clear hb_u1; have sz_u1 := bel_u1.size; replace hA7 := hA7.ext bel_u1; replace hB7 := hB7.ext bel_u1; replace hTX := hTX.ext bel_u1; replace hX7 := hX7.ext bel_u1; replace hY7 := hY7.ext bel_u1; replace hV7 := hV7.ext bel_u1; replace hKa7 := hKa7.ext bel_u1; replace hKb7 := hKb7.ext bel_u1; replace hS7 := hS7.ext bel_u1; replace hIa7 := hIa7.ext bel_u1; replace hIb7 := hIb7.ext bel_u1; replace hW := below_step hW bel_u1 (by have := hW.size; omega); (try clear hX7c0 hX7f hX7l); have hX7c0 := obj_at hX7 0 _ rfl; have hX7f := obj_fz hX7 0; have hX7l := obj_lt hX7; (try clear hV7c0 hV7c1 hV7f hV7l); have hV7c0 := obj_at hV7 0 _ rfl; have hV7c1 := obj_at hV7 1 _ rfl; have hV7f := obj_fz hV7 0; have hV7l := obj_lt hV7; (try clear hKa7c0 hKa7c1 hKa7f hKa7l); have hKa7c0 := obj_at hKa7 0 _ rfl; have hKa7c1 := obj_at hKa7 1 _ rfl; have hKa7f := obj_fz hKa7 0; have hKa7l := obj_lt hKa7; (try clear hKb7c0 hKb7c1 hKb7f hKb7l); have hKb7c0 := obj_at hKb7 0 _ rfl; have hKb7c1 := obj_at hKb7 1 _ rfl; have hKb7f := obj_fz hKb7 0; have hKb7l := obj_lt hKb7; clear bel_u1; have tok1 : True := trivial)
    | (clear tok1; go_at_call 25; refine (C2.out _ (hA7.ext (by (repeat (first | exact Below.refl _ _ | assumption | refine below_drewN ?_ _ | refine below_drew ?_ | refine below_gr ?_ ?_ _ | refine below_alloc ?_ ?_ _ | refine Below.setCell ?_ ?_ _ | refine below_step ?_ (by assumption) ?_ | omega | (simp only [zz] at *; omega))))) (hIa7.ext (by (repeat (first | exact Below.refl _ _ | assumption | refine below_drewN ?_ _ | refine below_drew ?_ | refine below_gr ?_ ?_ _ | refine below_alloc ?_ ?_ _ | refine Below.setCell ?_ ?_ _ | refine below_step ?_ (by assumption) ?_ | omega | (simp only [zz] at *; omega)))))).mono ?_; rintro e u2 ⟨rfl, hb_u2⟩; replace hb_u2 := ex_below hb_u2; have bel_u2 : Below u1.heap.size u1 u2 := (by (repeat (first | exact Below.refl _ _ | assumption | refine below_drewN ?_ _ | refine below_drew ?_ | refine below_gr ?_ ?_ _ | refine below_alloc ?_ ?_ _ | refine Below.setCell ?_ ?_ _ | refine below_step ?_ (by assumption) ?_ | omega | (simp only [zz] at *; omega)))); clear hb_u2; have sz_u2 := bel_u2.size; replace hA7 := hA7.ext bel_u2; replace hB7 := hB7.ext bel_u2; replace hTX := hTX.ext bel_u2; replace hX7 := hX7.ext bel_u2; replace hY7 := hY7.ext bel_u2; replace hV7 := hV7.ext bel_u2; replace hKa7 := hKa7.ext bel_u2; replace hKb7 := hKb7.ext bel_u2; replace hS7 := hS7.ext bel_u2; replace hIa7 := hIa7.ext bel_u2; replace hIb7 := hIb7.ext bel_u2; replace hW := below_step hW bel_u2 (by have := hW.size; omega); (try clear hX7c0 hX7f hX7l); have hX7c0 := obj_at hX7 0 _ rfl; have hX7f := obj_fz hX7 0; have hX7l := obj_lt hX7; (try clear hV7c0 hV7c1 hV7f hV7l); have hV7c0 := obj_at hV7 0 _ rfl; have hV7c1 := obj_at hV7 1 _ rfl; have hV7f := obj_fz hV7 0; have hV7l := obj_lt hV7; (try clear hKa7c0 hKa7c1 hKa7f hKa7l); have hKa7c0 := obj_at hKa7 0 _ rfl; have hKa7c1 := obj_at hKa7 1 _ rfl; have hKa7f := obj_fz hKa7 0; have hKa7l := obj_lt hKa7; (try clear hKb7c0 hKb7c1 hKb7f hKb7l); have hKb7c0 := obj_at hKb7 0 _ rfl; have hKb7c1 := obj_at hKb7 1 _ rfl; have hKb7f := obj_fz hKb7 0; have hKb7l := obj_lt hKb7; clear bel_u2; have tok2 : True := trivial)
    | (clear tok2; go_at_call 25; refine (C3.out _ (hA7.ext (by (repeat (first | exact Below.refl _ _ | assumption | refine below_drewN ?_ _ | refine below_drew ?_ | refine below_gr ?_ ?_ _ | refine below_alloc ?_ ?_ _ | refine Below.setCell ?_ ?_ _ | refine below_step ?_ (by assumption) ?_ | omega | (simp only [zz] at *; omega))))) (hIb7.ext (by (repeat (first | exact Below.refl _ _ | assumption | refine below_drewN ?_ _ | refine below_drew ?_ | refine below_gr ?_ ?_ _ | refine below_alloc ?_ ?_ _ | refine Below.setCell ?_ ?_ _ | refine below_step ?_ (by assumption) ?_ | omega | (simp only [zz] at *; omega)))))).mono ?_; rintro e u3 ⟨rfl, hb_u3⟩; replace hb_u3 := ex_below hb_u3; have bel_u3 : Below u2.heap.size u2 u3 := (by (repeat (first | exact Below.refl _ _ | assumption | refine below_drewN ?_ _ | refine below_drew ?_ | refine below_gr ?_ ?_ _ | refine below_alloc ?_ ?_ _ | refine Below.setCell ?_ ?_ _ | refine below_step ?_ (by assumption) ?_ | omega | (simp only [zz] at *; omega)))); clear hb_u3; have sz_u3 := bel_u3.size; replace hA7 := hA7.ext bel_u3; replace hB7 := hB7.ext bel_u3; replace hTX := hTX.ext bel_u3; replace hX7 := hX7.ext bel_u3; replace hY7 := hY7.ext bel_u3; replace hV7 := hV7.ext bel_u3; replace hKa7 := hKa7.ext bel_u3; replace hKb7 := hKb7.ext bel_u3; replace hS7 := hS7.ext bel_u3; replace hIa7 := hIa7.ext bel_u3; replace hIb7 := hIb7.ext bel_u3; replace hW := below_step hW bel_u3 (by have := hW.size; omega); (try clear hX7c0 hX7f hX7l); have hX7c0 := obj_at hX7 0 _ rfl; have hX7f := obj_fz hX7 0; have hX7l := obj_lt hX7; (try clear hV7c0 hV7c1 hV7f hV7l); have hV7c0 := obj_at hV7 0 _ rfl; have hV7c1 := obj_at hV7 1 _ rfl; have hV7f := obj_fz hV7 0; have hV7l := obj_lt hV7; (try clear hKa7c0 hKa7c1 hKa7f hKa7l); have hKa7c0 := obj_at hKa7 0 _ rfl; have hKa7c1 := obj_at hKa7 1 _ rfl; have hKa7f := obj_fz hKa7 0; have hKa7l := obj_lt hKa7; (try clear hKb7c0 hKb7c1 hKb7f hKb7l); have hKb7c0 := obj_at hKb7 0 _ rfl; have hKb7c1 := obj_at hKb7 1 _ rfl; have hKb7f := obj_fz hKb7 0; have hKb7l := obj_lt hKb7; clear bel_u3; have tok3 : True := trivial)
    | (clear tok3; go_at_call 32; refine (C4.out _ (hA7.ext (by (repeat (first | exact Below.refl _ _ | assumption | refine below_drewN ?_ _ | refine below_drew ?_ | refine below_gr ?_ ?_ _ | refine below_alloc ?_ ?_ _ | refine Below.setCell ?_ ?_ _ | refine below_step ?_ (by assumption) ?_ | omega | (simp only [zz] at *; omega))))) (hB7.ext (by (repeat (first | exact Below.refl _ _ | assumption | refine below_drewN ?_ _ | refine below_drew ?_ | refine below_gr ?_ ?_ _ | refine below_alloc ?_ ?_ _ | refine Below.setCell ?_ ?_ _ | refine below_step ?_ (by assumption) ?_ | omega | (simp only [zz] at *; omega)))))).mono ?_; rintro e u4 ⟨rfl, hb_u4⟩; replace hb_u4 := ex_below hb_u4; have bel_u4 : Below u3.heap.size u3 u4 := (by (repeat (first | exact Below.refl _ _ | assumption | refine below_drewN ?_ _ | refine below_drew ?_ | refine below_gr ?_ ?_ _ | refine below_alloc ?_ ?_ _ | refine Below.setCell ?_ ?_ _ | refine below_step ?_ (by assumption) ?_ | omega | (simp only [zz] at *; omega)))); clear hb_u4; have sz_u4 := bel_u4.size; replace hA7 := hA7.ext bel_u4; replace hB7 := hB7.ext bel_u4; replace hTX := hTX.ext bel_u4; replace hX7 := hX7.ext bel_u4; replace hY7 := hY7.ext bel_u4; replace hW := below_step hW bel_u4 (by have := hW.size; omega); (try clear hX7c0 hX7f hX7l); have hX7c0 := obj_at hX7 0 _ rfl; have hX7f := obj_fz hX7 0; have hX7l := obj_lt hX7; clear bel_u4; have tok4 : True := trivial)
    | (clear tok4; go_at_call 32; refine (C5.out _ (hA7.ext (by (repeat (first | exact Below.refl _ _ | assumption | refine below_drewN ?_ _ | refine below_drew ?_ | refine below_gr ?_ ?_ _ | refine below_alloc ?_ ?_ _ | refine Below.setCell ?_ ?_ _ | refine below_step ?_ (by assumption) ?_ | omega | (simp only [zz] at *; omega))))) (hTX.ext (by (repeat (first | exact Below.refl _ _ | assumption | refine below_drewN ?_ _ | refine below_drew ?_ | refine below_gr ?_ ?_ _ | refine below_alloc ?_ ?_ _ | refine Below.setCell ?_ ?_ _ | refine below_step ?_ (by assumption) ?_ | omega | (simp only [zz] at *; omega)))))).mono ?_; rintro e u5 ⟨rfl, hb_u5⟩; replace hb_u5 := ex_below hb_u5; have bel_u5 : Below u4.heap.size u4 u5 := (by (repeat (first | exact Below.refl _ _ | assumption | refine below_drewN ?_ _ | refine below_drew ?_ | refine below_gr ?_ ?_ _ | refine below_alloc ?_ ?_ _ | refine Below.setCell ?_ ?_ _ | refine below_step ?_ (by assumption) ?_ | omega | (simp only [zz] at *; omega)))); clear hb_u5; have sz_u5 := bel_u5.size; replace hA7 := hA7.ext bel_u5; replace hB7 := hB7.ext bel_u5; replace hTX := hTX.ext bel_u5; replace hX7 := hX7.ext bel_u5; replace hY7 := hY7.ext bel_u5; replace hW := below_step hW bel_u5 (by have := hW.size; omega); (try clear hX7c0 hX7f hX7l); have hX7c0 := obj_at hX7 0 _ rfl; have hX7f := obj_fz hX7 0; have hX7l := obj_lt hX7; clear bel_u5; have tok5 : True := trivial)
    | (clear tok5; go_at_call 36; refine (C6.out _ (hA7.ext (by (repeat (first | exact Below.refl _ _ | assumption | refine below_drewN ?_ _ | refine below_drew ?_ | refine below_gr ?_ ?_ _ | refine below_alloc ?_ ?_ _ | refine Below.setCell ?_ ?_ _ | refine below_step ?_ (by assumption) ?_ | omega | (simp only [zz] at *; omega))))) (hB7.ext (by (repeat (first | exact Below.refl _ _ | assumption | refine below_drewN ?_ _ | refine below_drew ?_ | refine below_gr ?_ ?_ _ | refine below_alloc ?_ ?_ _ | refine Below.setCell ?_ ?_ _ | refine below_step ?_ (by assumption) ?_ | omega | (simp only [zz] at *; omega)))))).mono ?_; rintro e u6 ⟨O6, o6, rfl, hb_u6, hO6⟩; replace hb_u6 := ex_below hb_u6; have bel_u6 : Below u5.heap.size u5 u6 := (by (repeat (first | exact Below.refl _ _ | assumption | refine below_drewN ?_ _ | refine below_drew ?_ | refine below_gr ?_ ?_ _ | refine below_alloc ?_ ?_ _ | refine Below.setCell ?_ ?_ _ | refine below_step ?_ (by assumption) ?_ | omega | (simp only [zz] at *; omega)))); clear hb_u6; have sz_u6 := bel_u6.size; replace hA7 := hA7.ext bel_u6; replace hB7 := hB7.ext bel_u6; replace hTX := hTX.ext bel_u6; replace hX7 := hX7.ext bel_u6; replace hY7 := hY7.ext bel_u6; replace hW := below_step hW bel_u6 (by have := hW.size; omega); (try clear hX7c0 hX7f hX7l); have hX7c0 := obj_at hX7 0 _ rfl; have hX7f := obj_fz hX7 0; have hX7l := obj_lt hX7; clear bel_u6; have tok6 : True := trivial)
    | (clear tok6; go_at_call 36; refine (C7.out _ (hA7.ext (by (repeat (first | exact Below.refl _ _ | assumption | refine below_drewN ?_ _ | refine below_drew ?_ | refine below_gr ?_ ?_ _ | refine below_alloc ?_ ?_ _ | refine Below.setCell ?_ ?_ _ | refine below_step ?_ (by assumption) ?_ | omega | (simp only [zz] at *; omega))))) (hTX.ext (by (repeat (first | exact Below.refl _ _ | assumption | refine below_drewN ?_ _ | refine below_drew ?_ | refine below_gr ?_ ?_ _ | refine below_alloc ?_ ?_ _ | refine Below.setCell ?_ ?_ _ | refine below_step ?_ (by assumption) ?_ | omega | (simp only [zz] at *; omega)))))).mono ?_; rintro e u7 ⟨O7, o7, rfl, hb_u7, hO7⟩; replace hb_u7 := ex_below hb_u7; have bel_u7 : Below u6.heap.size u6 u7 := (by (repeat (first | exact Below.refl _ _ | assumption | refine below_drewN ?_ _ | refine below_drew ?_ | refine below_gr ?_ ?_ _ | refine below_alloc ?_ ?_ _ | refine Below.setCell ?_ ?_ _ | refine below_step ?_ (by assumption) ?_ | omega | (simp only [zz] at *; omega)))); clear hb_u7; have sz_u7 := bel_u7.size; replace hA7 := hA7.ext bel_u7; replace hB7 := hB7.ext bel_u7; replace hTX := hTX.ext bel_u7; replace hX7 := hX7.ext bel_u7; replace hY7 := hY7.ext bel_u7; replace hW := below_step hW bel_u7 (by have := hW.size; omega); replace hO6 := hO6.ext bel_u7; (try clear hX7c0 hX7f hX7l); have hX7c0 := obj_at hX7 0 _ rfl; have hX7f := obj_fz hX7 0; have hX7l := obj_lt hX7; clear bel_u7; have tok7 : True := trivial)
    | (clear tok7; go_at_call 34; refine (C8.out _ (hA7.ext (by (repeat (first | exact Below.refl _ _ | assumption | refine below_drewN ?_ _ | refine below_drew ?_ | refine below_gr ?_ ?_ _ | refine below_alloc ?_ ?_ _ | refine Below.setCell ?_ ?_ _ | refine below_step ?_ (by assumption) ?_ | omega | (simp only [zz] at *; omega))))) (hB7.ext (by (repeat (first | exact Below.refl _ _ | assumption | refine below_drewN ?_ _ | refine below_drew ?_ | refine below_gr ?_ ?_ _ | refine below_alloc ?_ ?_ _ | refine Below.setCell ?_ ?_ _ | refine below_step ?_ (by assumption) ?_ | omega | (simp only [zz] at *; omega)))))).mono ?_; rintro e u8 ⟨O8, o8, rfl, hb_u8, hO8⟩; replace hb_u8 := ex_below hb_u8; have bel_u8 : Below u7.heap.size u7 u8 := (by (repeat (first | exact Below.refl _ _ | assumption | refine below_drewN ?_ _ | refine below_drew ?_ | refine below_gr ?_ ?_ _ | refine below_alloc ?_ ?_ _ | refine Below.setCell ?_ ?_ _ | refine below_step ?_ (by assumption) ?_ | omega | (simp only [zz] at *; omega)))); clear hb_u8; have sz_u8 := bel_u8.size; replace hA7 := hA7.ext bel_u8; replace hB7 := hB7.ext bel_u8; replace hTX := hTX.ext bel_u8; replace hX7 := hX7.ext bel_u8; replace hY7 := hY7.ext bel_u8; replace hW := below_step hW bel_u8 (by have := hW.size; omega); replace hO6 := hO6.ext bel_u8; replace hO7 := hO7.ext bel_u8; (try clear hX7c0 hX7f hX7l); have hX7c0 := obj_at hX7 0 _ rfl; have hX7f := obj_fz hX7 0; have hX7l := obj_lt hX7; clear bel_u8; have tok8 : True := trivial)
    | (clear tok8; go_at_call 34; refine (C9.out _ (hA7.ext (by (repeat (first | exact Below.refl _ _ | assumption | refine below_drewN ?_ _ | refine below_drew ?_ | refine below_gr ?_ ?_ _ | refine below_alloc ?_ ?_ _ | refine Below.setCell ?_ ?_ _ | refine below_step ?_ (by assumption) ?_ | omega | (simp only [zz] at *; omega))))) (hTX.ext (by (repeat (first | exact Below.refl _ _ | assumption | refine below_drewN ?_ _ | refine below_drew ?_ | refine below_gr ?_ ?_ _ | refine below_alloc ?_ ?_ _ | refine Below.setCell ?_ ?_ _ | refine below_step ?_ (by assumption) ?_ | omega | (simp only [zz] at *; omega)))))).mono ?_; rintro e u9 ⟨O9, o9, rfl, hb_u9, hO9⟩; replace hb_u9 := ex_below hb_u9; have bel_u9 : Below u8.heap.size u8 u9 := (by (repeat (first | exact Below.refl _ _ | assumption | refine below_drewN ?_ _ | refine below_drew ?_ | refine below_gr ?_ ?_ _ | refine below_alloc ?_ ?_ _ | refine Below.setCell ?_ ?_ _ | refine below_step ?_ (by assumption) ?_ | omega | (simp only [zz] at *; omega)))); clear hb_u9; have sz_u9 := bel_u9.size; replace hA7 := hA7.ext bel_u9; replace hB7 := hB7.ext bel_u9; replace hTX := hTX.ext bel_u9; replace hX7 := hX7.ext bel_u9; replace hY7 := hY7.ext bel_u9; replace hW := below_step hW bel_u9 (by have := hW.size; omega); replace hO6 := hO6.ext bel_u9; replace hO7 := hO7.ext bel_u9; replace hO8 := hO8.ext bel_u9; (try clear hX7c0 hX7f hX7l); have hX7c0 := obj_at hX7 0 _ rfl; have hX7f := obj_fz hX7 0; have hX7l := obj_lt hX7; clear bel_u9; have tok9 : True := trivial))
                    clear C1 C2 C3 C4 C5 C6 C7 C8 C9
                    go_cut [253] from 194 to 252 (fun s wx => s = .bool false ∧ Below u9.heap.size u9 wx)
                    case first =>
                      as_aux_lemma =>
                      have hbw := Below.refl u9.heap.size u9
                      go_wp2_with (first
    | (clear tok9; go_at_call 40; refine (w_ints _ _ _ _ _ _ (hO6.ext (by (repeat (first | exact Below.refl _ _ | assumption | refine below_drewN ?_ _ | refine below_drew ?_ | refine below_gr ?_ ?_ _ | refine below_alloc ?_ ?_ _ | refine Below.setCell ?_ ?_ _ | refine below_step ?_ (by assumption) ?_ | omega | (simp only [zz] at *; omega))))) (hO7.ext (by (repeat (first | exact Below.refl _ _ | assumption | refine below_drewN ?_ _ | refine below_drew ?_ | refine below_gr ?_ ?_ _ | refine below_alloc ?_ ?_ _ | refine Below.setCell ?_ ?_ _ | refine below_step ?_ (by assumption) ?_ | omega | (simp only [zz] at *; omega))))) hL1).mono ?_; rintro e u10 ⟨rfl, hb_u10⟩; replace hb_u10 := ex_below hb_u10; have bel_u10 : Below u9.heap.size u9 u10 := (by (repeat (first | exact Below.refl _ _ | assumption | refine below_drewN ?_ _ | refine below_drew ?_ | refine below_gr ?_ ?_ _ | refine below_alloc ?_ ?_ _ | refine Below.setCell ?_ ?_ _ | refine below_step ?_ (by assumption) ?_ | omega | (simp only [zz] at *; omega)))); clear hb_u10; have sz_u10 := bel_u10.size; replace hO6 := hO6.ext bel_u10; replace hO7 := hO7.ext bel_u10; replace hO8 := hO8.ext bel_u10; replace hO9 := hO9.ext bel_u10; replace hbw := below_step hbw bel_u10 (by have := hbw.size; omega); clear bel_u10; have tok10 : True := trivial)
    | (clear tok10; go_at_call 40; refine (w_ints _ _ _ _ _ _ (hO8.ext (by (repeat (first | exact Below.refl _ _ | assumption | refine below_drewN ?_ _ | refine below_drew ?_ | refine below_gr ?_ ?_ _ | refine below_alloc ?_ ?_ _ | refine Below.setCell ?_ ?_ _ | refine below_step ?_ (by assumption) ?_ | omega | (simp only [zz] at *; omega))))) (hO9.ext (by (repeat (first | exact Below.refl _ _ | assumption | refine below_drewN ?_ _ | refine below_drew ?_ | refine below_gr ?_ ?_ _ | refine below_alloc ?_ ?_ _ | refine Below.setCell ?_ ?_ _ | refine below_step ?_ (by assumption) ?_ | omega | (simp only [zz] at *; omega))))) hL2).mono ?_; rintro e u11 ⟨rfl, hb_u11⟩; replace hb_u11 := ex_below hb_u11; have bel_u11 : Below u10.heap.size u10 u11 := (by (repeat (first | exact Below.refl _ _ | assumption | refine below_drewN ?_ _ | refine below_drew ?_ | refine below_gr ?_ ?_ _ | refine below_alloc ?_ ?_ _ | refine Below.setCell ?_ ?_ _ | refine below_step ?_ (by assumption) ?_ | omega | (simp only [zz] at *; omega)))); clear hb_u11; have sz_u11 := bel_u11.size; replace hO6 := hO6.ext bel_u11; replace hO7 := hO7.ext bel_u11; replace hO8 := hO8.ext bel_u11; replace hO9 := hO9.ext bel_u11; replace hbw := below_step hbw bel_u11 (by have := hbw.size; omega); clear bel_u11; have tok11 : True := trivial))
                      go_meet
                      exact ⟨v_bool (by first | rfl | (simp; omega)), hbw⟩
                    case rest =>
                    as_aux_lemma =>
                    obtain ⟨rfl, hbc⟩ := hcut
                    obtain ⟨v8, hv8⟩ : ∃ v, v = wc := ⟨_, rfl⟩
                    rw [← hv8] at hbc ⊢
                    clear hv8 HSZ hsI hsJ
                    replace hA7 := hA7.ext hbc
                    replace hB7 := hB7.ext hbc
                    replace hTX := hTX.ext hbc
                    replace hX7 := hX7.ext hbc
                    replace hY7 := hY7.ext hbc
                    replace hW := below_step hW hbc (by have := hW.size; omega)
                    replace hO6 := hO6.ext hbc
                    replace hO7 := hO7.ext hbc
                    replace hO8 := hO8.ext hbc
                    replace hO9 := hO9.ext hbc
                    clear hbc
                    (try clear hX7c0 hX7f hX7l)
                    have hX7c0 := obj_at hX7 0 _ rfl
                    have hX7f := obj_fz hX7 0
                    have hX7l := obj_lt hX7
                    (try clear hY7c0 hY7c1 hY7c2 hY7c3 hY7c4 hY7f hY7l)
                    have hY7c0 := obj_at hY7 0 _ rfl
                    have hY7c1 := obj_at hY7 1 _ rfl
                    have hY7c2 := obj_at hY7 2 _ rfl
                    have hY7c3 := obj_at hY7 3 _ rfl
                    have hY7c4 := obj_at hY7 4 _ rfl
                    have hY7f := obj_fz hY7 0
                    have hY7l := obj_lt hY7
                    clear tok9
                    have tok0 : True := trivial
                    go_upto_region 29 with (first
    | (clear tok0; go_at_call 47; refine (HOUT.out _ (hA7.ext (by (repeat (first | exact Below.refl _ _ | assumption | refine below_drewN ?_ _ | refine below_drew ?_ | refine below_gr ?_ ?_ _ | refine below_alloc ?_ ?_ _ | refine Below.setCell ?_ ?_ _ | refine below_step ?_ (by assumption) ?_ | omega | (simp only [zz] at *; omega)))))).mono ?_; rintro e u1 ⟨Oa, oa, rfl, hb_u1, hOa, -, -⟩; replace hb_u1 := ex_below hb_u1; rw [HOL.out]; have bel_u1 : Below v8.heap.size v8 u1 := (by (repeat (first | exact Below.refl _ _ | assumption | refine below_drewN ?_ _ | refine below_drew ?_ | refine below_gr ?_ ?_ _ | refine below_alloc ?_ ?_ _ | refine Below.setCell ?_ ?_ _ | refine below_step ?_ (by assumption) ?_ | omega | (simp only [zz] at *; omega)))); clear hb_u1; have sz_u1 := bel_u1.size; replace hA7 := hA7.ext bel_u1; replace hB7 := hB7.ext bel_u1; replace hTX := hTX.ext bel_u1; replace hX7 := hX7.ext bel_u1; replace hY7 := hY7.ext bel_u1; replace hW := below_step hW bel_u1 (by have := hW.size; omega); (try clear hX7c0 hX7f hX7l); have hX7c0 := obj_at hX7 0 _ rfl; have hX7f := obj_fz hX7 0; have hX7l := obj_lt hX7; (try clear hY7c0 hY7c1 hY7c2 hY7c3 hY7c4 hY7f hY7l); have hY7c0 := obj_at hY7 0 _ rfl; have hY7c1 := obj_at hY7 1 _ rfl; have hY7c2 := obj_at hY7 2 _ rfl; have hY7c3 := obj_at hY7 3 _ rfl; have hY7c4 := obj_at hY7 4 _ rfl; have hY7f := obj_fz hY7 0; have hY7l := obj_lt hY7; clear bel_u1; have tok1 : True := trivial)
    | (clear tok1; go_at_call 41; refine (D1.out _ _ _ (hA7.ext (by (repeat (first | exact Below.refl _ _ | assumption | refine below_drewN ?_ _ | refine below_drew ?_ | refine below_gr ?_ ?_ _ | refine below_alloc ?_ ?_ _ | refine Below.setCell ?_ ?_ _ | refine below_step ?_ (by assumption) ?_ | omega | (simp only [zz] at *; omega))))) (hB7.ext (by (repeat (first | exact Below.refl _ _ | assumption | refine below_drewN ?_ _ | refine below_drew ?_ | refine below_gr ?_ ?_ _ | refine below_alloc ?_ ?_ _ | refine Below.setCell ?_ ?_ _ | refine below_step ?_ (by assumption) ?_ | omega | (simp only [zz] at *; omega))))) (hOa.ext (by (repeat (first | exact Below.refl _ _ | assumption | refine below_drewN ?_ _ | refine below_drew ?_ | refine below_gr ?_ ?_ _ | refine below_alloc ?_ ?_ _ | refine Below.setCell ?_ ?_ _ | refine below_step ?_ (by assumption) ?_ | omega | (simp only [zz] at *; omega)))))).mono ?_; rintro e u2 ⟨rfl, hb_u2⟩; replace hb_u2 := ex_below hb_u2; have bel_u2 : Below u1.heap.size u1 u2 := (by (repeat (first | exact Below.refl _ _ | assumption | refine below_drewN ?_ _ | refine below_drew ?_ | refine below_gr ?_ ?_ _ | refine below_alloc ?_ ?_ _ | refine Below.setCell ?_ ?_ _ | refine below_step ?_ (by assumption) ?_ | omega | (simp only [zz] at *; omega)))); clear hb_u2; have sz_u2 := bel_u2.size; replace hA7 := hA7.ext bel_u2; replace hB7 := hB7.ext bel_u2; replace hTX := hTX.ext bel_u2; replace hX7 := hX7.ext bel_u2; replace hW := below_step hW bel_u2 (by have := hW.size; omega); replace hOa := hOa.ext bel_u2; (try clear hX7c0 hX7f hX7l); have hX7c0 := obj_at hX7 0 _ rfl; have hX7f := obj_fz hX7 0; have hX7l := obj_lt hX7; clear bel_u2; have tok2 : True := trivial)
    | (clear tok2; go_at_call 41; refine (D2.out _ _ _ (hA7.ext (by (repeat (first | exact Below.refl _ _ | assumption | refine below_drewN ?_ _ | refine below_drew ?_ | refine below_gr ?_ ?_ _ | refine below_alloc ?_ ?_ _ | refine Below.setCell ?_ ?_ _ | refine below_step ?_ (by assumption) ?_ | omega | (simp only [zz] at *; omega))))) (hTX.ext (by (repeat (first | exact Below.refl _ _ | assumption | refine below_drewN ?_ _ | refine below_drew ?_ | refine below_gr ?_ ?_ _ | refine below_alloc ?_ ?_ _ | refine Below.setCell ?_ ?_ _ | refine below_step ?_ (by assumption) ?_ | omega | (simp only [zz] at *; omega))))) (hOa.ext (by (repeat (first | exact Below.refl _ _ | assumption | refine below_drewN ?_ _ | refine below_drew ?_ | refine below_gr ?_ ?_ _ | refine below_alloc ?_ ?_ _ | refine Below.setCell ?_ ?_ _ | refine below_step ?_ (by assumption) ?_ | omega | (simp only [zz] at *; omega)))))).mono ?_; rintro e u3 ⟨rfl, hb_u3⟩; replace hb_u3 := ex_below hb_u3; have bel_u3 : Below u2.heap.size u2 u3 := (by (repeat (first | exact Below.refl _ _ | assumption | refine below_drewN ?_ _ | refine below_drew ?_ | refine below_gr ?_ ?_ _ | refine below_alloc ?_ ?_ _ | refine Below.setCell ?_ ?_ _ | refine below_step ?_ (by assumption) ?_ | omega | (simp only [zz] at *; omega)))); clear hb_u3; have sz_u3 := bel_u3.size; replace hA7 := hA7.ext bel_u3; replace hB7 := hB7.ext bel_u3; replace hTX := hTX.ext bel_u3; replace hX7 := hX7.ext bel_u3; replace hW := below_step hW bel_u3 (by have := hW.size; omega); replace hOa := hOa.ext bel_u3; (try clear hX7c0 hX7f hX7l); have hX7c0 := obj_at hX7 0 _ rfl; have hX7f := obj_fz hX7 0; have hX7l := obj_lt hX7; clear bel_u3; have tok3 : True := trivial)
    | (clear tok3; go_at_call 38; refine (D3.out _ (hA7.ext (by (repeat (first | exact Below.refl _ _ | assumption | refine below_drewN ?_ _ | refine below_drew ?_ | refine below_gr ?_ ?_ _ | refine below_alloc ?_ ?_ _ | refine Below.setCell ?_ ?_ _ | refine below_step ?_ (by assumption) ?_ | omega | (simp only [zz] at *; omega))))) (hB7.ext (by (repeat (first | exact Below.refl _ _ | assumption | refine below_drewN ?_ _ | refine below_drew ?_ | refine below_gr ?_ ?_ _ | refine below_alloc ?_ ?_ _ | refine Below.setCell ?_ ?_ _ | refine below_step ?_ (by assumption) ?_ | omega | (simp only [zz] at *; omega)))))).mono ?_; rintro e u4 ⟨Ob, ob, rfl, hb_u4, hOb⟩; replace hb_u4 := ex_below hb_u4; rw [HIL.out]; have bel_u4 : Below u3.heap.size u3 u4 := (by (repeat (first | exact Below.refl _ _ | assumption | refine below_drewN ?_ _ | refine below_drew ?_ | refine below_gr ?_ ?_ _ | refine below_alloc ?_ ?_ _ | refine Below.setCell ?_ ?_ _ | refine below_step ?_ (by assumption) ?_ | omega | (simp only [zz] at *; omega)))); clear hb_u4; have sz_u4 := bel_u4.size; replace hA7 := hA7.ext bel_u4; replace hB7 := hB7.ext bel_u4; replace hTX := hTX.ext bel_u4; replace hX7 := hX7.ext bel_u4; replace hW := below_step hW bel_u4 (by have := hW.size; omega); replace hOa := hOa.ext bel_u4; (try clear hX7c0 hX7f hX7l); have hX7c0 := obj_at hX7 0 _ rfl; have hX7f := obj_fz hX7 0; have hX7l := obj_lt hX7; clear bel_u4; have tok4 : True := trivial)
    | (clear tok4; go_at_call 38; refine (D4.out _ (hA7.ext (by (repeat (first | exact Below.refl _ _ | assumption | refine below_drewN ?_ _ | refine below_drew ?_ | refine below_gr ?_ ?_ _ | refine below_alloc ?_ ?_ _ | refine Below.setCell ?_ ?_ _ | refine below_step ?_ (by assumption) ?_ | omega | (simp only [zz] at *; omega))))) (hTX.ext (by (repeat (first | exact Below.refl _ _ | assumption | refine below_drewN ?_ _ | refine below_drew ?_ | refine below_gr ?_ ?_ _ | refine below_alloc ?_ ?_ _ | refine Below.setCell ?_ ?_ _ | refine below_step ?_ (by assumption) ?_ | omega | (simp only [zz] at *; omega)))))).mono ?_; rintro e u5 ⟨Oc, oc, rfl, hb_u5, hOc⟩; replace hb_u5 := ex_below hb_u5; rw [HZL.out]; have bel_u5 : Below u4.heap.size u4 u5 := (by (repeat (first | exact Below.refl _ _ | assumption | refine below_drewN ?_ _ | refine below_drew ?_ | refine below_gr ?_ ?_ _ | refine below_alloc ?_ ?_ _ | refine Below.setCell ?_ ?_ _ | refine below_step ?_ (by assumption) ?_ | omega | (simp only [zz] at *; omega)))); clear hb_u5; have sz_u5 := bel_u5.size; replace hA7 := hA7.ext bel_u5; replace hB7 := hB7.ext bel_u5; replace hTX := hTX.ext bel_u5; replace hX7 := hX7.ext bel_u5; replace hW := below_step hW bel_u5 (by have := hW.size; omega); replace hOa := hOa.ext bel_u5; replace hOb := hOb.ext bel_u5; (try clear hX7c0 hX7f hX7l); have hX7c0 := obj_at hX7 0 _ rfl; have hX7f := obj_fz hX7 0; have hX7l := obj_lt hX7; clear bel_u5; have tok5 : True := trivial))
                    go_cut [308] from 285 to 307 (fun s wx => s = .bool false ∧ wx = u5)
                    case first =>
                      as_aux_lemma =>
                      go_wp2_with fail
                      go_meet
                      exact ⟨v_bool (by first | rfl | (simp; omega)), rfl⟩
                    case rest =>
                    as_aux_lemma =>
                    obtain ⟨rfl, hwe⟩ := hcut
                    rw [hwe]
                    clear hwe D1 D2 D3 D4
                    go_wp2
                    go_loopw [47] (fun t47 wr => ∃ y : Nat, y ≤ ts1.length ∧ t47 = .int .i64 (y : Nat) ∧ Below u5.heap.size u5 wr) (fun y _ => ts1.length - (intOf y).toNat)
                    case atStart => exact ⟨0, Nat.zero_le _, rfl, Below.refl _ _⟩
                    case round =>
                      as_aux_lemma =>
                      obtain ⟨y, hy, rfl, hb⟩ := hrel
                      have hP1 := hOb.ext hb
                      have hP2 := hOc.ext hb
                      by_cases hlt : y < ts1.length
                      · have hyi : (y : Int) < (ts1.length : Int) := by omega
                        by_cases hye : y = i
                        · have hyn : ((y : Int) != (i : Int)) = false := by simp; omega
                          go_wp2
                          exact ⟨⟨y + 1, by omega, by go_num, hb⟩, by simp [intOf]; omega⟩
                        · have hyn : ((y : Int) != (i : Int)) = true := by simp; omega
                          have heq := HIO.out y hlt hye
                          have G1 := hide (fun P q w' (h : I64 w' P (zs il)) => E1.out P q y w' h)
                          have G2 := hide (fun P q w' (h : I64 w' P (zs zl)) => E2.out P q y w' h)
                          rw [zs_contains, zs_len] at G1
                          rw [zs_contains, zs_len, heq] at G2
                          generalize decide (y ∈ il) = bv at *
                          have hbv : (bv != bv) = false := by simp
                          clear heq
                          have tok0 : True := trivial
                          cases bv
                          all_goals
                            go_wp2_with (first
    | (clear tok0; go_at_call 48; refine (G1.out _ _ _ (hP1.ext (by (repeat (first | exact Below.refl _ _ | assumption | refine below_drewN ?_ _ | refine below_drew ?_ | refine below_gr ?_ ?_ _ | refine below_alloc ?_ ?_ _ | refine Below.setCell ?_ ?_ _ | refine below_step ?_ (by assumption) ?_ | omega | (simp only [zz] at *; omega)))))).mono ?_; rintro e u1 ⟨rfl, hb_u1⟩; replace hb_u1 := ex_below hb_u1; have bel_u1 : Below wr.heap.size wr u1 := (by (repeat (first | exact Below.refl _ _ | assumption | refine below_drewN ?_ _ | refine below_drew ?_ | refine below_gr ?_ ?_ _ | refine below_alloc ?_ ?_ _ | refine Below.setCell ?_ ?_ _ | refine below_step ?_ (by assumption) ?_ | omega | (simp only [zz] at *; omega)))); clear hb_u1; have sz_u1 := bel_u1.size; replace hP1 := hP1.ext bel_u1; replace hP2 := hP2.ext bel_u1; replace hb := below_step hb bel_u1 (by have := hb.size; omega); clear bel_u1; have tok1 : True := trivial)
    | (clear tok1; go_at_call 48; refine (G2.out _ _ _ (hP2.ext (by (repeat (first | exact Below.refl _ _ | assumption | refine below_drewN ?_ _ | refine below_drew ?_ | refine below_gr ?_ ?_ _ | refine below_alloc ?_ ?_ _ | refine Below.setCell ?_ ?_ _ | refine below_step ?_ (by assumption) ?_ | omega | (simp only [zz] at *; omega)))))).mono ?_; rintro e u2 ⟨rfl, hb_u2⟩; replace hb_u2 := ex_below hb_u2; have bel_u2 : Below u1.heap.size u1 u2 := (by (repeat (first | exact Below.refl _ _ | assumption | refine below_drewN ?_ _ | refine below_drew ?_ | refine below_gr ?_ ?_ _ | refine below_alloc ?_ ?_ _ | refine Below.setCell ?_ ?_ _ | refine below_step ?_ (by assumption) ?_ | omega | (simp only [zz] at *; omega)))); clear hb_u2; have sz_u2 := bel_u2.size; replace hP1 := hP1.ext bel_u2; replace hP2 := hP2.ext bel_u2; replace hb := below_step hb bel_u2 (by have := hb.size; omega); clear bel_u2; have tok2 : True := trivial))
                            exact ⟨⟨y + 1, by omega, by go_num, hb⟩, by simp [intOf]; omega⟩
                      · have hyi : ¬ (y : Int) < (ts1.length : Int) := by omega
                        have hW1 := below_step hW hb (by have := hW.size; omega)
                        have G1 := hide (fun P q w' (h : I64 w' P (zs il)) => E1.out P q i w' h)
                        have G2 := hide (fun P q w' (h : I64 w' P (zs zl)) => E2.out P q i w' h)
                        have G3 := hide (fun P q w' (h : I64 w' P (zs zl)) => E2.out P q ts1.length w' h)
                        have hde := dec_and9 HIW.out
                        rw [zs_contains, zs_len, hde] at G1
                        clear hde
                        rw [zs_contains, zs_len] at G2 G3
                        generalize decide (i ∈ zl) = bv at *
                        generalize decide (ts1.length ∈ zl) = cv at *
                        have tok0 : True := trivial
                        go_upto_region 36 with fail
                        go_cut [12] from 327 to 342 (fun s wx => s = .bool true ∧ Below w.heap.size w wx)
                        case first =>
                          rcases Bool.eq_false_or_eq_true bv with hbv2 | hbv2
                          · rw [hbv2, Bool.true_and] at G1
                            rw [hbv2] at G2
                            clear hbv2
                            have hcv : (cv == cv) = true := by simp
                            as_aux_lemma =>
                            go_wp2_with (first
    | (clear tok0; go_at_call 48; refine (G1.out _ _ _ (hP1.ext (by (repeat (first | exact Below.refl _ _ | assumption | refine below_drewN ?_ _ | refine below_drew ?_ | refine below_gr ?_ ?_ _ | refine below_alloc ?_ ?_ _ | refine Below.setCell ?_ ?_ _ | refine below_step ?_ (by assumption) ?_ | omega | (simp only [zz] at *; omega)))))).mono ?_; rintro e z1 ⟨rfl, hb_z1⟩; replace hb_z1 := ex_below hb_z1; have bel_z1 : Below wr.heap.size wr z1 := (by (repeat (first | exact Below.refl _ _ | assumption | refine below_drewN ?_ _ | refine below_drew ?_ | refine below_gr ?_ ?_ _ | refine below_alloc ?_ ?_ _ | refine Below.setCell ?_ ?_ _ | refine below_step ?_ (by assumption) ?_ | omega | (simp only [zz] at *; omega)))); clear hb_z1; have sz_z1 := bel_z1.size; replace hP1 := hP1.ext bel_z1; replace hP2 := hP2.ext bel_z1; replace hW1 := below_step hW1 bel_z1 (by have := hW1.size; omega); clear bel_z1; have tok1 : True := trivial)
    | (clear tok1; go_at_call 48; refine (G2.out _ _ _ (hP2.ext (by (repeat (first | exact Below.refl _ _ | assumption | refine below_drewN ?_ _ | refine below_drew ?_ | refine below_gr ?_ ?_ _ | refine below_alloc ?_ ?_ _ | refine Below.setCell ?_ ?_ _ | refine below_step ?_ (by assumption) ?_ | omega | (simp only [zz] at *; omega)))))).mono ?_; rintro e z2 ⟨rfl, hb_z2⟩; replace hb_z2 := ex_below hb_z2; have bel_z2 : Below z1.heap.size z1 z2 := (by (repeat (first | exact Below.refl _ _ | assumption | refine below_drewN ?_ _ | refine below_drew ?_ | refine below_gr ?_ ?_ _ | refine below_alloc ?_ ?_ _ | refine Below.setCell ?_ ?_ _ | refine below_step ?_ (by assumption) ?_ | omega | (simp only [zz] at *; omega)))); clear hb_z2; have sz_z2 := bel_z2.size; replace hP1 := hP1.ext bel_z2; replace hP2 := hP2.ext bel_z2; replace hW1 := below_step hW1 bel_z2 (by have := hW1.size; omega); clear bel_z2; have tok2 : True := trivial)
    | (clear tok2; go_at_call 48; refine (G3.out _ _ _ (hP2.ext (by (repeat (first | exact Below.refl _ _ | assumption | refine below_drewN ?_ _ | refine below_drew ?_ | refine below_gr ?_ ?_ _ | refine below_alloc ?_ ?_ _ | refine Below.setCell ?_ ?_ _ | refine below_step ?_ (by assumption) ?_ | omega | (simp only [zz] at *; omega)))))).mono ?_; rintro e z3 ⟨rfl, hb_z3⟩; replace hb_z3 := ex_below hb_z3; have bel_z3 : Below z2.heap.size z2 z3 := (by (repeat (first | exact Below.refl _ _ | assumption | refine below_drewN ?_ _ | refine below_drew ?_ | refine below_gr ?_ ?_ _ | refine below_alloc ?_ ?_ _ | refine Below.setCell ?_ ?_ _ | refine below_step ?_ (by assumption) ?_ | omega | (simp only [zz] at *; omega)))); clear hb_z3; have sz_z3 := bel_z3.size; replace hP1 := hP1.ext bel_z3; replace hP2 := hP2.ext bel_z3; replace hW1 := below_step hW1 bel_z3 (by have := hW1.size; omega); clear bel_z3; have tok3 : True := trivial)
    | (clear tok3; go_at_call 20; refine (works_any _).mono ?_; rintro e z4 ⟨rfl, hb_z4⟩; replace hb_z4 := ex_below hb_z4; replace hW1 := below_step hW1 hb_z4 (by have := hW1.size; omega); clear hb_z4 hP1 hP2 G1 G2 G3))
                            go_meet
                            exact ⟨rfl, hW1⟩
                          · rw [hbv2, Bool.false_and] at G1
                            rw [hbv2] at G2
                            clear hbv2
                            have hcv : (cv == cv) = true := by simp
                            as_aux_lemma =>
                            go_wp2_with (first
    | (clear tok0; go_at_call 48; refine (G1.out _ _ _ (hP1.ext (by (repeat (first | exact Below.refl _ _ | assumption | refine below_drewN ?_ _ | refine below_drew ?_ | refine below_gr ?_ ?_ _ | refine below_alloc ?_ ?_ _ | refine Below.setCell ?_ ?_ _ | refine below_step ?_ (by assumption) ?_ | omega | (simp only [zz] at *; omega)))))).mono ?_; rintro e z1 ⟨rfl, hb_z1⟩; replace hb_z1 := ex_below hb_z1; have bel_z1 : Below wr.heap.size wr z1 := (by (repeat (first | exact Below.refl _ _ | assumption | refine below_drewN ?_ _ | refine below_drew ?_ | refine below_gr ?_ ?_ _ | refine below_alloc ?_ ?_ _ | refine Below.setCell ?_ ?_ _ | refine below_step ?_ (by assumption) ?_ | omega | (simp only [zz] at *; omega)))); clear hb_z1; have sz_z1 := bel_z1.size; replace hP1 := hP1.ext bel_z1; replace hP2 := hP2.ext bel_z1; replace hW1 := below_step hW1 bel_z1 (by have := hW1.size; omega); clear bel_z1; have tok1 : True := trivial)
    | (clear tok1; go_at_call 48; refine (G2.out _ _ _ (hP2.ext (by (repeat (first | exact Below.refl _ _ | assumption | refine below_drewN ?_ _ | refine below_drew ?_ | refine below_gr ?_ ?_ _ | refine below_alloc ?_ ?_ _ | refine Below.setCell ?_ ?_ _ | refine below_step ?_ (by assumption) ?_ | omega | (simp only [zz] at *; omega)))))).mono ?_; rintro e z2 ⟨rfl, hb_z2⟩; replace hb_z2 := ex_below hb_z2; have bel_z2 : Below z1.heap.size z1 z2 := (by (repeat (first | exact Below.refl _ _ | assumption | refine below_drewN ?_ _ | refine below_drew ?_ | refine below_gr ?_ ?_ _ | refine below_alloc ?_ ?_ _ | refine Below.setCell ?_ ?_ _ | refine below_step ?_ (by assumption) ?_ | omega | (simp only [zz] at *; omega)))); clear hb_z2; have sz_z2 := bel_z2.size; replace hP1 := hP1.ext bel_z2; replace hP2 := hP2.ext bel_z2; replace hW1 := below_step hW1 bel_z2 (by have := hW1.size; omega); clear bel_z2; have tok2 : True := trivial)
    | (clear tok2; go_at_call 20; refine (works_any _).mono ?_; rintro e z4 ⟨rfl, hb_z4⟩; replace hb_z4 := ex_below hb_z4; replace hW1 := below_step hW1 hb_z4 (by have := hW1.size; omega); clear hb_z4 hP1 hP2 G1 G2 G3))
                            go_meet
                            exact ⟨rfl, hW1⟩
                        case rest =>
                          as_aux_lemma =>
                          obtain ⟨rfl, hW2⟩ := hcut
                          go_wp2
                          go_ret
                          exact gives_of rfl hW2

end Go.Proofs.Ytlbkaeoagdbemaa
