/- Proved here: the law BoxWrong, a part of the proofs about the box laws. Conditions: those that each theorem names, no others. -/
import Derived.Test.YtlbkaeoagdbemaaP38
import Derived.WalkKit
import Derived.WalkSpells
import Derived.WalkLawsBesides
import Derived.Below
import Derived.Deep.QuietTactic
import Derived.BigQuiet
import Derived.Deep.Light
import Derived.Test.YtlbkaeoagdbemaaG9
import Derived.Test.YtlbkaeoagdbemaaG15
import Derived.Test.YtlbkaeoagdbemaaG17
import Derived.Deep.RegionHeld3
import Derived.Deep.CutRange
import Derived.Laws.OwnMore
set_option linter.unusedSimpArgs false
set_option linter.unusedVariables false
namespace Go.Proofs.Ytlbkaeoagdbemaa
open Go.RowKit Go.Maps
theorem set_two {W : World} {b : Nat} {x y u v : Value} {t : TypeId} (h : W.heap[b]? = some (.cells #[x, y] t (0, 0))) : BlkAt ((W.setCell ⟨b, 0, none⟩ u).setCell ⟨b, 1, none⟩ v) b #[u, v] t := set_obj (set_obj h 0 u) 1 v
theorem one_i64 (xs : List Int) : ∀ u ∈ xs.map (Value.int .i64), u.oneCell' = true := by
  intro u hu
  obtain ⟨x, _, rfl⟩ := List.mem_map.1 hu
  rfl
theorem tks_onez {w : World} {b : Nat} {Y : Option Addr} {S : List Nat} {c : Nat} {u : Int} {t : TypeId} (h : w.heap[b]? = some (.cells #[.slice Y S.length c, .int .i64 u] t (0, 0))) (hY : I64 w Y (zs S)) (hyc : S.length ≤ c) : Tks w (some ⟨b, 0, none⟩) [(zs S, u)] :=
  tks_one (S := zs S) (by rw [zs_len]; exact h) hY (by rw [zs_len]; exact hyc)
theorem mAnd : ∀ n : Fin 7, ∀ m : Fin 256, bits BinOp.and .i64 ((m.1 : Nat) : Int) (IntKind.i64.wrap (IntKind.i64.wrap ((2 : Int) ^ n.1) - 1)) = ((m.1 &&& (2 ^ n.1 - 1) : Nat) : Int) := by decide +kernel
theorem mOr : ∀ s : Fin 64, ∀ m : Fin 64, bits BinOp.or .i64 ((s.1 : Nat) : Int) ((m.1 : Nat) : Int) = ((s.1 ||| m.1 : Nat) : Int) := by decide +kernel
theorem mBoth {s m n : Nat} (hs : s < 64) (hm : m < 256) (hn : n ≤ 6) : bits BinOp.or .i64 ((s : Nat) : Int) (bits BinOp.and .i64 ((m : Nat) : Int) (IntKind.i64.wrap (IntKind.i64.wrap ((2 : Int) ^ n) - 1))) = ((s ||| (m &&& (2 ^ n - 1)) : Nat) : Int) := by
  have h1 := mAnd ⟨n, by omega⟩ ⟨m, hm⟩
  simp only at h1
  rw [h1]
  have h2 : m &&& (2 ^ n - 1) < 64 := by
    have := Bm.pow_le6 hn
    have h3 : m &&& (2 ^ n - 1) ≤ 2 ^ n - 1 := Nat.and_le_right
    have : 0 < 2 ^ n := Nat.two_pow_pos n
    omega
  exact mOr ⟨s, hs⟩ ⟨m &&& (2 ^ n - 1), h2⟩
def lastW (R S : List Nat) : Nat → Nat
  | 0 => 0
  | k + 1 => Bm.withinN R S k
theorem total_snoc : ∀ (R : List Nat) (n : Nat), Bm.total (R ++ [n]) = Bm.total R * n
  | [], n => by simp [Bm.total]
  | m :: R, n => by rw [List.cons_append, Bm.total, Bm.total, total_snoc R n, Nat.mul_assoc]
theorem total_take (R : List Nat) (k : Nat) (h : k < R.length) : Bm.total (R.take (k + 1)) = Bm.total (R.take k) * R[k] := by
  rw [List.take_succ_eq_append_getElem h, total_snoc]
theorem own_setFar {W : World} {B n sz : Nat} {e : TypeId} {v : Value} {xs : List Value} {b : Nat} (hO : W.ownsRow B e sz v n xs) (hF : Far v b) (k : Nat) (u : Value) : (W.setCell ⟨b, k, none⟩ u).ownsRow B e sz v n xs := by
  have hg : W.grownBy (W.setCell ⟨b, k, none⟩ u) (some b) := ⟨rfl, rfl, rfl, by simp, fun i _ hi => Below.heap_setCell _ _ _ _ (fun e => hi (by rw [e]))⟩
  refine hO.kept hg ?_
  cases ho : v.ownBlock with
  | none => exact .inl rfl
  | some g => exact .inr (fun e => hF g ho (Option.some.inj e).symm)
set_option maxRecDepth 100000 in
set_option maxHeartbeats 8000000 in
theorem wrong_law (A : Option Addr) (R : List Int) (c : Nat) (Y : Option Addr) (S : List Int) (yc : Nat) (u : Int) (race more : Nat) (w : World) (hA : I64 w A R) (hY : I64 w Y S) (hyc : S.length ≤ yc) (hl9 : R.length ≤ 9223372036854775807) (hc9 : yc ≤ 9223372036854775807) (hr8 : race < 256) (hm8 : more < 256) : Calls Try.prog 15 #[.agg #[.slice A R.length c], .agg #[.slice Y S.length yc, .int .i64 u], .int .u8 (race : Nat), .int .u8 (more : Nat)] w (Gives w (.bool true)) := by
  cases hf : fineB R [(S, u)] with
  | false =>
    have tok0 : True := trivial
    go_enter Try.func15, Try.ntmps15
    go_wp2_with (first
    | (clear tok0; go_at_call 45; refine (fine_any A R c (some ⟨w.heap.size + 1 + 1, 0, none⟩) [(S, u)] 1 _ (hA.ext (by (repeat (first | exact Below.refl _ _ | assumption | (refine below_gr ?_ (by (first | omega | (simp only [size_grow, World.size_alloc, size_drewN, size_drew, size_setCell] at *; omega))) _) | (refine below_alloc ?_ (by (first | omega | (simp only [size_grow, World.size_alloc, size_drewN, size_drew, size_setCell] at *; omega))) _) | (refine Below.setCell ?_ (by (first | omega | (simp only [size_grow, World.size_alloc, size_drewN, size_drew, size_setCell] at *; omega))) _) | refine below_drewN ?_ _ | refine below_drew ?_ | (refine below_step ?_ (by assumption) (by (first | omega | (simp only [size_grow, World.size_alloc, size_drewN, size_drew, size_setCell] at *; omega)))))))) (tks_one (heap_c3 w _ _ _) (hY.ext (by (repeat (first | exact Below.refl _ _ | assumption | (refine below_gr ?_ (by (first | omega | (simp only [size_grow, World.size_alloc, size_drewN, size_drew, size_setCell] at *; omega))) _) | (refine below_alloc ?_ (by (first | omega | (simp only [size_grow, World.size_alloc, size_drewN, size_drew, size_setCell] at *; omega))) _) | (refine Below.setCell ?_ (by (first | omega | (simp only [size_grow, World.size_alloc, size_drewN, size_drew, size_setCell] at *; omega))) _) | refine below_drewN ?_ _ | refine below_drew ?_ | (refine below_step ?_ (by assumption) (by (first | omega | (simp only [size_grow, World.size_alloc, size_drewN, size_drew, size_setCell] at *; omega)))))))) hyc) hl9 (by simp) (by simp) (fun t ht => by rw [List.mem_singleton.1 ht]; simp only; omega)).mono ?_; rintro e u1 ⟨rfl, hb_u1⟩; replace hb_u1 := ex_below hb_u1; have hX : BlkAt u1 w.heap.size #[.slice A R.length c] 24 := (show BlkAt (((w.alloc (.cells #[.slice A R.length c] 24)).alloc (.cells #[.slice Y S.length yc, .int .i64 u] 34)).alloc (.cells #[.slice Y S.length yc, .int .i64 u] 34)) w.heap.size #[.slice A R.length c] 24 from (by unfold BlkAt; (repeat (first | rw [Below.heap_alloc _ _ _ (by (first | omega | (simp only [size_grow, World.size_alloc, size_drewN, size_drew, size_setCell]; omega) | (simp only [size_grow, World.size_alloc, size_drewN, size_drew, size_setCell] at *; omega) | (simp; done) | (simp; omega)))])); exact heap_at (by (first | omega | (simp only [size_grow, World.size_alloc, size_drewN, size_drew, size_setCell]; omega) | (simp only [size_grow, World.size_alloc, size_drewN, size_drew, size_setCell] at *; omega) | (simp; done) | (simp; omega))))).ext hb_u1; have hT : BlkAt u1 (w.heap.size + 1) #[.slice Y S.length yc, .int .i64 u] 34 := (show BlkAt (((w.alloc (.cells #[.slice A R.length c] 24)).alloc (.cells #[.slice Y S.length yc, .int .i64 u] 34)).alloc (.cells #[.slice Y S.length yc, .int .i64 u] 34)) (w.heap.size + 1) #[.slice Y S.length yc, .int .i64 u] 34 from (by unfold BlkAt; (repeat (first | rw [Below.heap_alloc _ _ _ (by (first | omega | (simp only [size_grow, World.size_alloc, size_drewN, size_drew, size_setCell]; omega) | (simp only [size_grow, World.size_alloc, size_drewN, size_drew, size_setCell] at *; omega) | (simp; done) | (simp; omega)))])); exact heap_at (by (first | omega | (simp only [size_grow, World.size_alloc, size_drewN, size_drew, size_setCell]; omega) | (simp only [size_grow, World.size_alloc, size_drewN, size_drew, size_setCell] at *; omega) | (simp; done) | (simp; omega))))).ext hb_u1; have hL3 : BlkAt u1 (w.heap.size + 1 + 1) #[.slice Y S.length yc, .int .i64 u] 34 := (show BlkAt (((w.alloc (.cells #[.slice A R.length c] 24)).alloc (.cells #[.slice Y S.length yc, .int .i64 u] 34)).alloc (.cells #[.slice Y S.length yc, .int .i64 u] 34)) (w.heap.size + 1 + 1) #[.slice Y S.length yc, .int .i64 u] 34 from (by unfold BlkAt; (repeat (first | rw [Below.heap_alloc _ _ _ (by (first | omega | (simp only [size_grow, World.size_alloc, size_drewN, size_drew, size_setCell]; omega) | (simp only [size_grow, World.size_alloc, size_drewN, size_drew, size_setCell] at *; omega) | (simp; done) | (simp; omega)))])); exact heap_at (by (first | omega | (simp only [size_grow, World.size_alloc, size_drewN, size_drew, size_setCell]; omega) | (simp only [size_grow, World.size_alloc, size_drewN, size_drew, size_setCell] at *; omega) | (simp; done) | (simp; omega))))).ext hb_u1; (try rw [hf]); have bel_u1 : Below w.heap.size w u1 := (by (repeat (first | exact Below.refl _ _ | assumption | (refine below_gr ?_ (by (first | omega | (simp only [size_grow, World.size_alloc, size_drewN, size_drew, size_setCell] at *; omega))) _) | (refine below_alloc ?_ (by (first | omega | (simp only [size_grow, World.size_alloc, size_drewN, size_drew, size_setCell] at *; omega))) _) | (refine Below.setCell ?_ (by (first | omega | (simp only [size_grow, World.size_alloc, size_drewN, size_drew, size_setCell] at *; omega))) _) | refine below_drewN ?_ _ | refine below_drew ?_ | (refine below_step ?_ (by assumption) (by (first | omega | (simp only [size_grow, World.size_alloc, size_drewN, size_drew, size_setCell] at *; omega))))))); clear hb_u1; have sz_u1 := bel_u1.size; replace hA := hA.ext bel_u1; replace hY := hY.ext bel_u1; (try clear hXc0 hXf hXl); have hXc0 := obj_at hX 0 _ rfl; have hXf := obj_fz hX 0; have hXl := obj_lt hX; (try clear hTc0 hTc1 hTf hTl); have hTc0 := obj_at hT 0 _ rfl; have hTc1 := obj_at hT 1 _ rfl; have hTf := obj_fz hT 0; have hTl := obj_lt hT; (try clear hL3c0 hL3c1 hL3f hL3l); have hL3c0 := obj_at hL3 0 _ rfl; have hL3c1 := obj_at hL3 1 _ rfl; have hL3f := obj_fz hL3 0; have hL3l := obj_lt hL3; have hW := bel_u1; clear bel_u1; have tok1 : True := trivial)
    | (clear tok1; go_at_call 20; refine (works_any _).mono ?_; rintro e u2 ⟨rfl, hb_u2⟩; replace hb_u2 := ex_below hb_u2; have bel_u2 : Below u1.heap.size u1 u2 := (by (repeat (first | exact Below.refl _ _ | assumption | (refine below_gr ?_ (by (first | omega | (simp only [size_grow, World.size_alloc, size_drewN, size_drew, size_setCell] at *; omega))) _) | (refine below_alloc ?_ (by (first | omega | (simp only [size_grow, World.size_alloc, size_drewN, size_drew, size_setCell] at *; omega))) _) | (refine Below.setCell ?_ (by (first | omega | (simp only [size_grow, World.size_alloc, size_drewN, size_drew, size_setCell] at *; omega))) _) | refine below_drewN ?_ _ | refine below_drew ?_ | (refine below_step ?_ (by assumption) (by (first | omega | (simp only [size_grow, World.size_alloc, size_drewN, size_drew, size_setCell] at *; omega))))))); clear hb_u2; have sz_u2 := bel_u2.size; replace hA := hA.ext bel_u2; replace hY := hY.ext bel_u2; replace hX := hX.ext bel_u2; replace hT := hT.ext bel_u2; replace hL3 := hL3.ext bel_u2; replace hW := below_step hW bel_u2 (by have := hW.size; omega); (try clear hXc0 hXf hXl); have hXc0 := obj_at hX 0 _ rfl; have hXf := obj_fz hX 0; have hXl := obj_lt hX; (try clear hTc0 hTc1 hTf hTl); have hTc0 := obj_at hT 0 _ rfl; have hTc1 := obj_at hT 1 _ rfl; have hTf := obj_fz hT 0; have hTl := obj_lt hT; (try clear hL3c0 hL3c1 hL3f hL3l); have hL3c0 := obj_at hL3 0 _ rfl; have hL3c1 := obj_at hL3 1 _ rfl; have hL3f := obj_fz hL3 0; have hL3l := obj_lt hL3; clear bel_u2; have tok2 : True := trivial))

    go_ret
    exact gives_of rfl hW
  | true =>
    obtain ⟨R1, ts1, rfl, hts, hok, hgr, hwd⟩ := fine_ok hf
    obtain ⟨S1, uu, rfl, rfl, rfl⟩ := tz_single hts.symm
    have HF := hide (fun b w' (h1 : I64 w' A (zs R1)) (h2 : Tks w' b [(zs S1, (uu : Int))]) => by
      have := fine_any A (zs R1) c b [(zs S1, (uu : Int))] 1 w' h1 h2 hl9 (by simp) (by simp) (fun t ht => by rw [List.mem_singleton.1 ht]; simp only; omega)
      rw [hf, zs_len] at this
      exact this)
    rw [zs_len] at hyc hl9
    rw [zs_len, zs_len]
    clear hf hts
    have hR5 := hok.h5
    have hR1 := hok.h1
    have hbx : Bm.isBox R1 S1 = true := hok.tb (S1, uu) (by simp)
    have hsl : S1.length = R1.length := Bm.isBox_len hbx
    have hR5i : (R1.length : Int) ≤ 5 := by omega
    have hqm : ((race : Int)).tmod (R1.length : Int) = ((race % R1.length : Nat) : Int) := by rw [Int.tmod_eq_emod_of_nonneg (by omega)]; simp
    have hx8 : (race : Int) < 256 := by omega
    have hwx : IntKind.i64.wrap (race : Nat) = ((race : Nat) : Int) := by rw [IntKind.wrap_i64]; omega
    have hwm : IntKind.i64.wrap (more : Nat) = ((more : Nat) : Int) := by rw [IntKind.wrap_i64]; omega
    have hrl : race % R1.length < R1.length := Nat.mod_lt _ (by omega)
    have hn0 : (R1.length : Int) ≠ 0 := by omega
    have hnn : ¬ R1.length = 0 := by omega
    generalize race % R1.length = r at *
    obtain ⟨j0, jh, jz, js, jb⟩ := info_parts info3
    have hs5 : S1.length ≤ 5 := by omega
    have hs1 : 1 ≤ S1.length := by omega
    have HSL := hide hsl
    clear hsl
    have tok0 : True := trivial
    go_enter Try.func15, Try.ntmps15
    go_wp2_with (first
    | (clear tok0; go_at_call 45; refine (HF.out (some ⟨w.heap.size + 1 + 1, 0, none⟩) _ (hA.ext (by (repeat (first | exact Below.refl _ _ | assumption | (refine below_gr ?_ (by (first | omega | (simp only [size_grow, World.size_alloc, size_drewN, size_drew, size_setCell] at *; omega))) _) | (refine below_alloc ?_ (by (first | omega | (simp only [size_grow, World.size_alloc, size_drewN, size_drew, size_setCell] at *; omega))) _) | (refine Below.setCell ?_ (by (first | omega | (simp only [size_grow, World.size_alloc, size_drewN, size_drew, size_setCell] at *; omega))) _) | refine below_drewN ?_ _ | refine below_drew ?_ | (refine below_step ?_ (by assumption) (by (first | omega | (simp only [size_grow, World.size_alloc, size_drewN, size_drew, size_setCell] at *; omega)))))))) (tks_onez (heap_c3 w _ _ _) (hY.ext (by (repeat (first | exact Below.refl _ _ | assumption | (refine below_gr ?_ (by (first | omega | (simp only [size_grow, World.size_alloc, size_drewN, size_drew, size_setCell] at *; omega))) _) | (refine below_alloc ?_ (by (first | omega | (simp only [size_grow, World.size_alloc, size_drewN, size_drew, size_setCell] at *; omega))) _) | (refine Below.setCell ?_ (by (first | omega | (simp only [size_grow, World.size_alloc, size_drewN, size_drew, size_setCell] at *; omega))) _) | refine below_drewN ?_ _ | refine below_drew ?_ | (refine below_step ?_ (by assumption) (by (first | omega | (simp only [size_grow, World.size_alloc, size_drewN, size_drew, size_setCell] at *; omega)))))))) hyc)).mono ?_; rintro e u1 ⟨rfl, hb_u1⟩; replace hb_u1 := ex_below hb_u1; have hX : BlkAt u1 w.heap.size #[.slice A R1.length c] 24 := (show BlkAt (((w.alloc (.cells #[.slice A R1.length c] 24)).alloc (.cells #[.slice Y S1.length yc, .int .i64 (uu : Nat)] 34)).alloc (.cells #[.slice Y S1.length yc, .int .i64 (uu : Nat)] 34)) w.heap.size #[.slice A R1.length c] 24 from (by unfold BlkAt; (repeat (first | rw [Below.heap_alloc _ _ _ (by (first | omega | (simp only [size_grow, World.size_alloc, size_drewN, size_drew, size_setCell]; omega) | (simp only [size_grow, World.size_alloc, size_drewN, size_drew, size_setCell] at *; omega) | (simp; done) | (simp; omega)))])); exact heap_at (by (first | omega | (simp only [size_grow, World.size_alloc, size_drewN, size_drew, size_setCell]; omega) | (simp only [size_grow, World.size_alloc, size_drewN, size_drew, size_setCell] at *; omega) | (simp; done) | (simp; omega))))).ext hb_u1; have hT : BlkAt u1 (w.heap.size + 1) #[.slice Y S1.length yc, .int .i64 (uu : Nat)] 34 := (show BlkAt (((w.alloc (.cells #[.slice A R1.length c] 24)).alloc (.cells #[.slice Y S1.length yc, .int .i64 (uu : Nat)] 34)).alloc (.cells #[.slice Y S1.length yc, .int .i64 (uu : Nat)] 34)) (w.heap.size + 1) #[.slice Y S1.length yc, .int .i64 (uu : Nat)] 34 from (by unfold BlkAt; (repeat (first | rw [Below.heap_alloc _ _ _ (by (first | omega | (simp only [size_grow, World.size_alloc, size_drewN, size_drew, size_setCell]; omega) | (simp only [size_grow, World.size_alloc, size_drewN, size_drew, size_setCell] at *; omega) | (simp; done) | (simp; omega)))])); exact heap_at (by (first | omega | (simp only [size_grow, World.size_alloc, size_drewN, size_drew, size_setCell]; omega) | (simp only [size_grow, World.size_alloc, size_drewN, size_drew, size_setCell] at *; omega) | (simp; done) | (simp; omega))))).ext hb_u1; have hL3 : BlkAt u1 (w.heap.size + 1 + 1) #[.slice Y S1.length yc, .int .i64 (uu : Nat)] 34 := (show BlkAt (((w.alloc (.cells #[.slice A R1.length c] 24)).alloc (.cells #[.slice Y S1.length yc, .int .i64 (uu : Nat)] 34)).alloc (.cells #[.slice Y S1.length yc, .int .i64 (uu : Nat)] 34)) (w.heap.size + 1 + 1) #[.slice Y S1.length yc, .int .i64 (uu : Nat)] 34 from (by unfold BlkAt; (repeat (first | rw [Below.heap_alloc _ _ _ (by (first | omega | (simp only [size_grow, World.size_alloc, size_drewN, size_drew, size_setCell]; omega) | (simp only [size_grow, World.size_alloc, size_drewN, size_drew, size_setCell] at *; omega) | (simp; done) | (simp; omega)))])); exact heap_at (by (first | omega | (simp only [size_grow, World.size_alloc, size_drewN, size_drew, size_setCell]; omega) | (simp only [size_grow, World.size_alloc, size_drewN, size_drew, size_setCell] at *; omega) | (simp; done) | (simp; omega))))).ext hb_u1; skip; have bel_u1 : Below w.heap.size w u1 := (by (repeat (first | exact Below.refl _ _ | assumption | (refine below_gr ?_ (by (first | omega | (simp only [size_grow, World.size_alloc, size_drewN, size_drew, size_setCell] at *; omega))) _) | (refine below_alloc ?_ (by (first | omega | (simp only [size_grow, World.size_alloc, size_drewN, size_drew, size_setCell] at *; omega))) _) | (refine Below.setCell ?_ (by (first | omega | (simp only [size_grow, World.size_alloc, size_drewN, size_drew, size_setCell] at *; omega))) _) | refine below_drewN ?_ _ | refine below_drew ?_ | (refine below_step ?_ (by assumption) (by (first | omega | (simp only [size_grow, World.size_alloc, size_drewN, size_drew, size_setCell] at *; omega))))))); clear hb_u1; have sz_u1 := bel_u1.size; replace hA := hA.ext bel_u1; replace hY := hY.ext bel_u1; (try clear hXc0 hXf hXl); have hXc0 := obj_at hX 0 _ rfl; have hXf := obj_fz hX 0; have hXl := obj_lt hX; (try clear hTc0 hTc1 hTf hTl); have hTc0 := obj_at hT 0 _ rfl; have hTc1 := obj_at hT 1 _ rfl; have hTf := obj_fz hT 0; have hTl := obj_lt hT; (try clear hL3c0 hL3c1 hL3f hL3l); have hL3c0 := obj_at hL3 0 _ rfl; have hL3c1 := obj_at hL3 1 _ rfl; have hL3f := obj_fz hL3 0; have hL3l := obj_lt hL3; have hW := bel_u1; clear bel_u1; have tok1 : True := trivial))

    have hwu := hTl
    have HTE := hide hT
    have HYS := hide hY
    obtain ⟨ab, ao, rfl, hab⟩ := zsF hA (by omega)
    obtain ⟨yb, yo, rfl, hyb⟩ := zsF hY (by omega)
    obtain ⟨wa, hwa⟩ : ∃ v, v = u1 := ⟨_, rfl⟩
    go_cut [10] from 33 to 39 (fun sx wx => ∃ (blk : Nat) (A2 : Option Addr) (c2 : Nat), sx = .pointer (some ⟨blk, 0, none⟩) ∧ BlkAt wx blk #[.slice A2 S1.length c2, .int .i64 (uu : Nat)] 34 ∧ wx.ownsRow u1.heap.size 3 1 (.slice A2 S1.length c2) S1.length ((zs S1).map (Value.int .i64)) ∧ Far (.slice A2 S1.length c2) blk ∧ u1.heap.size ≤ blk ∧ Below u1.heap.size u1 wx)
    case first =>
      as_aux_lemma =>
        refine wp_region_noPanic ?_
        refine wp_region_held_drew (S := fun w' => Below u1.heap.size u1 w') (by kernel_rfl) ?_ (fun _ => ?_)
        · exact below_drew (Below.refl _ _)
        have hP : Below u1.heap.size u1 u1.drew := below_drew (Below.refl _ _)
        have hZ : u1.heap.size ≤ u1.drew.heap.size := Nat.le_refl _
        obtain ⟨W0, hW0⟩ : ∃ W0, u1.drew = W0 := ⟨_, rfl⟩
        rw [hW0] at hP hZ ⊢
        clear hW0
        refine wpAnyH_take (i := 1) (v := ?_) rfl (by kernel_rfl) (by kernel_rfl) (by kernel_rfl) (fun _ _ _ h => h) (Or.inl ⟨by rfl, ?_⟩) hP ?_
        rotate_left
        · (intro ww hSw; go_simp; try with_reducible rfl)
        (try simp only [Act.put, List.getElem_toArray, List.getElem_cons_zero, List.getElem_cons_succ, List.setIfInBounds_toArray, List.set_cons_zero, List.set_cons_succ])
        refine wpAnyH_take (i := 2) (v := ?_) rfl (by kernel_rfl) (by kernel_rfl) (by kernel_rfl) (fun _ _ _ h => h) (Or.inl ⟨by rfl, ?_⟩) hP ?_
        rotate_left
        · (intro ww hSw; have g0 := (hSw.cell (p := ⟨w.heap.size + 1, 0, none⟩) hTl).trans hTc0; go_simp; try with_reducible rfl)
        (try simp only [Act.put, List.getElem_toArray, List.getElem_cons_zero, List.getElem_cons_succ, List.setIfInBounds_toArray, List.set_cons_zero, List.set_cons_succ])
        refine wpAnyH_take (i := 4) (v := ?_) rfl (by kernel_rfl) (by kernel_rfl) (by kernel_rfl) (fun _ _ _ h => h) (Or.inl ⟨by rfl, ?_⟩) hP ?_
        rotate_left
        · (intro ww hSw; go_simp; try with_reducible rfl)
        (try simp only [Act.put, List.getElem_toArray, List.getElem_cons_zero, List.getElem_cons_succ, List.setIfInBounds_toArray, List.set_cons_zero, List.set_cons_succ])
        refine wpAnyH_take (i := 5) (v := ?_) rfl (by kernel_rfl) (by kernel_rfl) (by kernel_rfl) (fun _ _ _ h => h) (Or.inl ⟨by rfl, ?_⟩) hP ?_
        rotate_left
        · (intro ww hSw; have g1 := (hSw.cell (p := ⟨w.heap.size + 1, 1, none⟩) hTl).trans hTc1; go_simp; try with_reducible rfl)
        (try simp only [Act.put, List.getElem_toArray, List.getElem_cons_zero, List.getElem_cons_succ, List.setIfInBounds_toArray, List.set_cons_zero, List.set_cons_succ])
        refine wpAnyH_ready (rs := [0, 7]) (by kernel_rfl) (by simp) ?_
        refine AllReadyH.cons rfl ?_ ?_
        · intro K' hK
          rw [if_pos (by rfl)]
          go_simp
          have hP2 := below_alloc hP hZ (.cells #[] 3)
          refine hK.out _ _ hP2 (fun _ => ?_)
          clear hK K'
          (try simp only [Act.put, List.getElem_toArray, List.getElem_cons_zero, List.getElem_cons_succ, List.setIfInBounds_toArray, List.set_cons_zero, List.set_cons_succ])
          have hO : (W0.alloc (.cells #[] 3)).ownsRow u1.heap.size 3 1 (.slice (some ⟨W0.heap.size, 0, none⟩) 0 0) 0 [] := own_lit0 (heap_alloc_new W0 _) hZ
          replace hZ : u1.heap.size ≤ (W0.alloc (.cells #[] 3)).heap.size := by rw [World.size_alloc]; omega
          clear hP
          have hP := hP2
          clear hP2
          obtain ⟨W1, hWe⟩ : ∃ W1, (W0.alloc (.cells #[] 3)) = W1 := ⟨_, rfl⟩
          rw [hWe] at hP hZ hO ⊢
          clear hWe
          refine wpAnyH_ready (rs := [3, 7]) (by kernel_rfl) (by simp) ?_
          refine AllReadyH.cons rfl ?_ ?_
          · intro K' hK
            refine step_appN W1 rfl (.tmp 33) (.tmp 35) 22 rfl u1.heap.size 3 j0 _ 1 8 und22 jh jz js jb rfl (by decide) _ (0) ([]) rfl hO (some ⟨yb, yo, none⟩) (S1.length) yc (((zs S1).map (Value.int .i64))) rfl (by have := i64_rd (HYS.out.ext hP); rwa [zs_len] at this) (one_i64 _) (by unfold maxLen; omega) (by omega) hZ ?_
            intro A2 c2 W2 hO2 hg2 hf2
            rw [Nat.zero_add S1.length, List.nil_append] at hO2
            rw [Nat.zero_add S1.length] at hf2 ⊢
            have hP2 := gb_below hP hg2 hZ (fun g hg => (hO.lt g hg).1)
            have hZ2 := Nat.le_trans hZ hg2.size
            refine hK.out _ _ hP2 (fun _ => ?_)
            clear hK K'
            (try simp only [Act.put, List.getElem_toArray, List.getElem_cons_zero, List.getElem_cons_succ, List.setIfInBounds_toArray, List.set_cons_zero, List.set_cons_succ])
            clear hO hP hZ hg2 hf2
            have hO := hO2
            have hP := hP2
            have hZ := hZ2
            clear hO2 hP2 hZ2
            refine wpAnyH_take (i := 6) (v := ?_) rfl (by kernel_rfl) (by kernel_rfl) (by kernel_rfl) (fun _ _ _ h => h) (Or.inl ⟨by rfl, ?_⟩) hP ?_
            rotate_left
            · (intro ww hSw; go_simp; try with_reducible rfl)
            (try simp only [Act.put, List.getElem_toArray, List.getElem_cons_zero, List.getElem_cons_succ, List.setIfInBounds_toArray, List.set_cons_zero, List.set_cons_succ])
            refine wpAnyH_ready (rs := [7]) (by kernel_rfl) (by simp) ?_
            refine AllReadyH.cons rfl ?_ ?_
            · intro K' hK
              rw [if_pos (by rfl)]
              go_simp
              have hP2 := below_alloc hP hZ (.cells #[.slice none 0 0, .int .i64 0] 34)
              refine hK.out _ _ hP2 (fun _ => ?_)
              clear hK K'
              (try simp only [Act.put, List.getElem_toArray, List.getElem_cons_zero, List.getElem_cons_succ, List.setIfInBounds_toArray, List.set_cons_zero, List.set_cons_succ])
              have hs_B := Side.fresh hZ hO #[.slice none 0 0, .int .i64 0] 34
              replace hO := hO.alloc (.cells #[.slice none 0 0, .int .i64 0] 34)
              replace hZ : u1.heap.size ≤ (W2.alloc (.cells #[.slice none 0 0, .int .i64 0] 34)).heap.size := by rw [World.size_alloc]; omega
              clear hP
              have hP := hP2
              clear hP2
              obtain ⟨W3, hWe⟩ : ∃ W3, (W2.alloc (.cells #[.slice none 0 0, .int .i64 0] 34)) = W3 := ⟨_, rfl⟩
              rw [hWe] at hP hZ hO hs_B ⊢
              clear hWe
              refine wpAnyH_ready (rs := [8]) (by kernel_rfl) (by simp) ?_
              refine AllReadyH.cons rfl ?_ ?_
              · intro K' hK
                rw [if_pos (by rfl)]
                have c0 := obj_at hs_B.2.2.1 0 _ rfl
                have c1 := obj_at hs_B.2.2.1 1 _ rfl
                have f0 := obj_fz hs_B.2.2.1 0
                have f1 := obj_fz hs_B.2.2.1 1
                go_simp
                refine hK.out _ _ (Below.setCell (p := ⟨W2.heap.size, 1, none⟩) (Below.setCell (p := ⟨W2.heap.size, 0, none⟩) hP hs_B.1 _) hs_B.1 _) (fun _ => ?_)
                clear hK K'
                (try simp only [Act.put, List.getElem_toArray, List.getElem_cons_zero, List.getElem_cons_succ, List.setIfInBounds_toArray, List.set_cons_zero, List.set_cons_succ])
                refine wpAnyH_done (by kernel_rfl) ?_ _
                refine NoPanic.normal ?_
                go_wp2_with fail
                go_meet
                exact ⟨_, A2, c2, rfl, set_two hs_B.2.2.1, own_setFar (own_setFar hO hs_B.2.2.2 0 _) hs_B.2.2.2 1 _, hs_B.2.2.2, hs_B.1, Below.setCell (Below.setCell hP hs_B.1 _) hs_B.1 _⟩
              exact AllReadyH.nil
            exact AllReadyH.nil
          refine AllReadyH.cons rfl ?_ ?_
          · intro K' hK
            rw [if_pos (by rfl)]
            go_simp
            have hP2 := below_alloc hP hZ (.cells #[.slice none 0 0, .int .i64 0] 34)
            refine hK.out _ _ hP2 (fun _ => ?_)
            clear hK K'
            (try simp only [Act.put, List.getElem_toArray, List.getElem_cons_zero, List.getElem_cons_succ, List.setIfInBounds_toArray, List.set_cons_zero, List.set_cons_succ])
            have hs_B := Side.fresh hZ hO #[.slice none 0 0, .int .i64 0] 34
            replace hO := hO.alloc (.cells #[.slice none 0 0, .int .i64 0] 34)
            replace hZ : u1.heap.size ≤ (W1.alloc (.cells #[.slice none 0 0, .int .i64 0] 34)).heap.size := by rw [World.size_alloc]; omega
            clear hP
            have hP := hP2
            clear hP2
            obtain ⟨W5, hWe⟩ : ∃ W5, (W1.alloc (.cells #[.slice none 0 0, .int .i64 0] 34)) = W5 := ⟨_, rfl⟩
            rw [hWe] at hP hZ hO hs_B ⊢
            clear hWe
            refine wpAnyH_ready (rs := [3]) (by kernel_rfl) (by simp) ?_
            refine AllReadyH.cons rfl ?_ ?_
            · intro K' hK
              refine step_appN W5 rfl (.tmp 33) (.tmp 35) 22 rfl u1.heap.size 3 j0 _ 1 8 und22 jh jz js jb rfl (by decide) _ (0) ([]) rfl hO (some ⟨yb, yo, none⟩) (S1.length) yc (((zs S1).map (Value.int .i64))) rfl (by have := i64_rd (HYS.out.ext hP); rwa [zs_len] at this) (one_i64 _) (by unfold maxLen; omega) (by omega) hZ ?_
              intro A2 c2 W6 hO2 hg2 hf2
              rw [Nat.zero_add S1.length, List.nil_append] at hO2
              rw [Nat.zero_add S1.length] at hf2 ⊢
              have hP2 := gb_below hP hg2 hZ (fun g hg => (hO.lt g hg).1)
              have hZ2 := Nat.le_trans hZ hg2.size
              refine hK.out _ _ hP2 (fun _ => ?_)
              clear hK K'
              (try simp only [Act.put, List.getElem_toArray, List.getElem_cons_zero, List.getElem_cons_succ, List.setIfInBounds_toArray, List.set_cons_zero, List.set_cons_succ])
              replace hs_B := hs_B.grown hg2 hf2
              clear hO hP hZ hg2 hf2
              have hO := hO2
              have hP := hP2
              have hZ := hZ2
              clear hO2 hP2 hZ2
              refine wpAnyH_take (i := 6) (v := ?_) rfl (by kernel_rfl) (by kernel_rfl) (by kernel_rfl) (fun _ _ _ h => h) (Or.inl ⟨by rfl, ?_⟩) hP ?_
              rotate_left
              · (intro ww hSw; go_simp; try with_reducible rfl)
              (try simp only [Act.put, List.getElem_toArray, List.getElem_cons_zero, List.getElem_cons_succ, List.setIfInBounds_toArray, List.set_cons_zero, List.set_cons_succ])
              refine wpAnyH_ready (rs := [8]) (by kernel_rfl) (by simp) ?_
              refine AllReadyH.cons rfl ?_ ?_
              · intro K' hK
                rw [if_pos (by rfl)]
                have c0 := obj_at hs_B.2.2.1 0 _ rfl
                have c1 := obj_at hs_B.2.2.1 1 _ rfl
                have f0 := obj_fz hs_B.2.2.1 0
                have f1 := obj_fz hs_B.2.2.1 1
                go_simp
                refine hK.out _ _ (Below.setCell (p := ⟨W1.heap.size, 1, none⟩) (Below.setCell (p := ⟨W1.heap.size, 0, none⟩) hP hs_B.1 _) hs_B.1 _) (fun _ => ?_)
                clear hK K'
                (try simp only [Act.put, List.getElem_toArray, List.getElem_cons_zero, List.getElem_cons_succ, List.setIfInBounds_toArray, List.set_cons_zero, List.set_cons_succ])
                refine wpAnyH_done (by kernel_rfl) ?_ _
                refine NoPanic.normal ?_
                go_wp2_with fail
                go_meet
                exact ⟨_, A2, c2, rfl, set_two hs_B.2.2.1, own_setFar (own_setFar hO hs_B.2.2.2 0 _) hs_B.2.2.2 1 _, hs_B.2.2.2, hs_B.1, Below.setCell (Below.setCell hP hs_B.1 _) hs_B.1 _⟩
              exact AllReadyH.nil
            exact AllReadyH.nil
          exact AllReadyH.nil
        refine AllReadyH.cons rfl ?_ ?_
        · intro K' hK
          rw [if_pos (by rfl)]
          go_simp
          have hP2 := below_alloc hP hZ (.cells #[.slice none 0 0, .int .i64 0] 34)
          refine hK.out _ _ hP2 (fun _ => ?_)
          clear hK K'
          (try simp only [Act.put, List.getElem_toArray, List.getElem_cons_zero, List.getElem_cons_succ, List.setIfInBounds_toArray, List.set_cons_zero, List.set_cons_succ])
          have hs_B := Side.fresh0 (W := W0) hZ #[.slice none 0 0, .int .i64 0] 34
          replace hZ : u1.heap.size ≤ (W0.alloc (.cells #[.slice none 0 0, .int .i64 0] 34)).heap.size := by rw [World.size_alloc]; omega
          clear hP
          have hP := hP2
          clear hP2
          obtain ⟨W8, hWe⟩ : ∃ W8, (W0.alloc (.cells #[.slice none 0 0, .int .i64 0] 34)) = W8 := ⟨_, rfl⟩
          rw [hWe] at hP hZ hs_B ⊢
          clear hWe
          refine wpAnyH_ready (rs := [0]) (by kernel_rfl) (by simp) ?_
          refine AllReadyH.cons rfl ?_ ?_
          · intro K' hK
            rw [if_pos (by rfl)]
            go_simp
            have hP2 := below_alloc hP hZ (.cells #[] 3)
            refine hK.out _ _ hP2 (fun _ => ?_)
            clear hK K'
            (try simp only [Act.put, List.getElem_toArray, List.getElem_cons_zero, List.getElem_cons_succ, List.setIfInBounds_toArray, List.set_cons_zero, List.set_cons_succ])
            replace hs_B := hs_B.lit (.cells #[] 3)
            have hO : (W8.alloc (.cells #[] 3)).ownsRow u1.heap.size 3 1 (.slice (some ⟨W8.heap.size, 0, none⟩) 0 0) 0 [] := own_lit0 (heap_alloc_new W8 _) hZ
            replace hZ : u1.heap.size ≤ (W8.alloc (.cells #[] 3)).heap.size := by rw [World.size_alloc]; omega
            clear hP
            have hP := hP2
            clear hP2
            obtain ⟨W9, hWe⟩ : ∃ W9, (W8.alloc (.cells #[] 3)) = W9 := ⟨_, rfl⟩
            rw [hWe] at hP hZ hO hs_B ⊢
            clear hWe
            refine wpAnyH_ready (rs := [3]) (by kernel_rfl) (by simp) ?_
            refine AllReadyH.cons rfl ?_ ?_
            · intro K' hK
              refine step_appN W9 rfl (.tmp 33) (.tmp 35) 22 rfl u1.heap.size 3 j0 _ 1 8 und22 jh jz js jb rfl (by decide) _ (0) ([]) rfl hO (some ⟨yb, yo, none⟩) (S1.length) yc (((zs S1).map (Value.int .i64))) rfl (by have := i64_rd (HYS.out.ext hP); rwa [zs_len] at this) (one_i64 _) (by unfold maxLen; omega) (by omega) hZ ?_
              intro A2 c2 W10 hO2 hg2 hf2
              rw [Nat.zero_add S1.length, List.nil_append] at hO2
              rw [Nat.zero_add S1.length] at hf2 ⊢
              have hP2 := gb_below hP hg2 hZ (fun g hg => (hO.lt g hg).1)
              have hZ2 := Nat.le_trans hZ hg2.size
              refine hK.out _ _ hP2 (fun _ => ?_)
              clear hK K'
              (try simp only [Act.put, List.getElem_toArray, List.getElem_cons_zero, List.getElem_cons_succ, List.setIfInBounds_toArray, List.set_cons_zero, List.set_cons_succ])
              replace hs_B := hs_B.grown hg2 hf2
              clear hO hP hZ hg2 hf2
              have hO := hO2
              have hP := hP2
              have hZ := hZ2
              clear hO2 hP2 hZ2
              refine wpAnyH_take (i := 6) (v := ?_) rfl (by kernel_rfl) (by kernel_rfl) (by kernel_rfl) (fun _ _ _ h => h) (Or.inl ⟨by rfl, ?_⟩) hP ?_
              rotate_left
              · (intro ww hSw; go_simp; try with_reducible rfl)
              (try simp only [Act.put, List.getElem_toArray, List.getElem_cons_zero, List.getElem_cons_succ, List.setIfInBounds_toArray, List.set_cons_zero, List.set_cons_succ])
              refine wpAnyH_ready (rs := [8]) (by kernel_rfl) (by simp) ?_
              refine AllReadyH.cons rfl ?_ ?_
              · intro K' hK
                rw [if_pos (by rfl)]
                have c0 := obj_at hs_B.2.2.1 0 _ rfl
                have c1 := obj_at hs_B.2.2.1 1 _ rfl
                have f0 := obj_fz hs_B.2.2.1 0
                have f1 := obj_fz hs_B.2.2.1 1
                go_simp
                refine hK.out _ _ (Below.setCell (p := ⟨W0.heap.size, 1, none⟩) (Below.setCell (p := ⟨W0.heap.size, 0, none⟩) hP hs_B.1 _) hs_B.1 _) (fun _ => ?_)
                clear hK K'
                (try simp only [Act.put, List.getElem_toArray, List.getElem_cons_zero, List.getElem_cons_succ, List.setIfInBounds_toArray, List.set_cons_zero, List.set_cons_succ])
                refine wpAnyH_done (by kernel_rfl) ?_ _
                refine NoPanic.normal ?_
                go_wp2_with fail
                go_meet
                exact ⟨_, A2, c2, rfl, set_two hs_B.2.2.1, own_setFar (own_setFar hO hs_B.2.2.2 0 _) hs_B.2.2.2 1 _, hs_B.2.2.2, hs_B.1, Below.setCell (Below.setCell hP hs_B.1 _) hs_B.1 _⟩
              exact AllReadyH.nil
            exact AllReadyH.nil
          exact AllReadyH.nil
        exact AllReadyH.nil
    case rest =>
      obtain ⟨blk, A2, c2, rfl, hK, hO, hFar, hblk, hbc⟩ := hcut
      obtain ⟨v2, hv2⟩ : ∃ v, v = wc := ⟨_, rfl⟩
      rw [← hv2] at hK hO hbc ⊢
      have HAU := hide hA
      have HYU := hide hY
      have HXU := hide hX
      have HTU := hide hT
      have HWU := hide hW
      have HBC := hide hbc
      clear tok1 hv2 hwa HTE HYS hL3 j0 jh jz js jb hL3c0 hL3c1 hL3f hL3l
      replace hA := hA.ext hbc
      replace hY := hY.ext hbc
      replace hX := hX.ext hbc
      replace hT := hT.ext hbc
      replace hW := below_step hW hbc (by have := hW.size; omega)
      clear hbc
      (try clear hXc0 hXf hXl)
      have hXc0 := obj_at hX 0 _ rfl
      have hXf := obj_fz hX 0
      have hXl := obj_lt hX
      (try clear hTc0 hTc1 hTf hTl)
      have hTc0 := obj_at hT 0 _ rfl
      have hTc1 := obj_at hT 1 _ rfl
      have hTf := obj_fz hT 0
      have hTl := obj_lt hT
      (try clear hKc0 hKc1 hKf hKl)
      have hKc0 := obj_at hK 0 _ rfl
      have hKc1 := obj_at hK 1 _ rfl
      have hKf := obj_fz hK 0
      have hKl := obj_lt hK
      rw [← HSL.out] at hrl
      have hrr : r < R1.length := by rw [← HSL.out]; exact hrl
      obtain ⟨g, rfl, hg, hgc⟩ := own_at2 hO r (.int .i64 (S1[r] : Nat)) (by simp [zs, hrl])
      have hgf := hO.frozenAt r
      have r0 := zsI hA hrr
      have r1 := zsI hY hrl
      have hbk := hFar g rfl
      have hn1 := hok.r1 _ (List.getElem_mem hrr)
      have hn6 := hok.r6 _ (List.getElem_mem hrr)
      have hs64 := box64 hok.r6 hbx _ (List.getElem_mem hrl)
      generalize hnn0 : R1[r] = n at *
      generalize hss0 : S1[r] = s at *
      have hnn1 := hide hnn0
      have hss1 := hide hss0
      clear hnn0 hss0
      have hri : (r : Int) < (R1.length : Int) := by omega
      have hri2 : (r : Int) < (S1.length : Int) := by omega
      have hg1 := (hO.lt g rfl).1
      have e1 : g ≠ ab := by omega
      have e2 : g ≠ yb := by omega
      have e3 : g ≠ w.heap.size := by omega
      have e4 : g ≠ w.heap.size + 1 := by omega
      have e5 : g ≠ blk := fun e => hbk e.symm
      have tok5 : True := trivial
      go_upto_region 5 with fail
      go_region_held3 (fun w' => w'.cell? ⟨blk, 0, none⟩ = some (.slice (some ⟨g, 0, none⟩) S1.length c2) ∧ w'.cell? ⟨w.heap.size + 1, 0, none⟩ = some (.slice (some ⟨yb, yo, none⟩) S1.length yc) ∧ w'.cell? ⟨w.heap.size, 0, none⟩ = some (.slice (some ⟨ab, ao, none⟩) R1.length c) ∧ w'.cell? ⟨yb, yo + r, none⟩ = some (.int .i64 (s : Nat)) ∧ w'.cell? ⟨ab, ao + r, none⟩ = some (.int .i64 (n : Nat))) (simp (maxDischargeDepth := 9) [*, World.cell?_alloc_some, World.cell?_setCell_far]) (fail)
      rename_i hHD
      clear hHD
      rw [mBoth hs64 hm8 hn6]
      generalize bits BinOp.and .i64 ((more : Nat) : Int) (IntKind.i64.wrap (IntKind.i64.wrap ((2 : Int) ^ n) - 1)) = z1
      generalize IntKind.i64.wrap (IntKind.i64.wrap ((2 : Int) ^ n) - 1) = z2
      generalize IntKind.i64.wrap ((2 : Int) ^ n) = z3
      obtain ⟨v3, hv3⟩ : ∃ v, (v2.setCell ⟨g, r, none⟩ (.int .i64 ((s ||| (more &&& (2 ^ n - 1)) : Nat)))).drew = v := ⟨_, rfl⟩
      rw [hv3]
      have hb3 : Below u1.heap.size u1 v3 := by rw [← hv3]; exact below_drew (Below.setCell HBC.out hg1 _)
      have hO3 := ownsRow_grows (hO.stored r (.int .i64 ((s ||| (more &&& (2 ^ n - 1)) : Nat)))).1 (below_drew (Below.refl _ _))
      rw [hv3] at hO3
      have hK3 : BlkAt v3 blk #[.slice (some ⟨g, 0, none⟩) S1.length c2, .int .i64 (uu : Nat)] 34 := by
        rw [← hv3]
        exact (show ((v2.setCell ⟨g, r, none⟩ _).heap[blk]? = _) from (Below.heap_setCell _ _ _ _ hbk).trans hK)
      have hmn : more &&& (2 ^ n - 1) < 2 ^ R1.getD r 0 := by
        rw [getD_at _ _ hrr, hnn1.out]
        have h3 : more &&& (2 ^ n - 1) ≤ 2 ^ n - 1 := Nat.and_le_right
        have : 0 < 2 ^ n := Nat.two_pow_pos n
        omega
      have hS2 : Bm.wideS S1 r (more &&& (2 ^ n - 1)) = S1.set r (s ||| (more &&& (2 ^ n - 1))) := by
        unfold Bm.wideS; rw [getD_at _ _ hrl, hss1.out]
      have hbx2 := Bm.wide_box hbx hrr hmn
      have hle := fun k => Bm.within_wide hok.r6 hbx hrr hmn k
      have hup := fun a b (h : a ≤ b) => Bm.within_up hok.r6 hbx h
      have hze := Bm.within_zero hok.r6 hbx
      have hal := Bm.within_all hok.r6 hbx
      have hl2 : (Bm.wideS S1 r (more &&& (2 ^ n - 1))).length = S1.length := by unfold Bm.wideS; rw [List.length_set]
      have hI3 := own_i64 (xs := zs (Bm.wideS S1 r (more &&& (2 ^ n - 1)))) (c := c2) (by
        rw [zs_len, hl2, hS2]
        simpa [zs, List.map_set] using hO3)
      generalize Bm.wideS S1 r (more &&& (2 ^ n - 1)) = S2 at *
      have hA3 := HAU.out.ext hb3
      have hY3 := HYU.out.ext hb3
      have hX3 := HXU.out.ext hb3
      have hT3 := HTU.out.ext hb3
      have hW3 := below_step HWU.out hb3 (by have := HWU.out.size; omega)
      have hZ3 := hI3.1
      have hc2 : S2.length ≤ c2 := by have := hI3.2.1; rwa [zs_len] at this
      have hok2 : Ok R1 [(S2, uu)] := { h1 := hok.h1, h5 := hok.h5, r1 := hok.r1, r6 := hok.r6, t10 := by simp, tb := fun x hx => by rw [List.mem_singleton.1 hx]; exact hbx2, tu := fun x hx => by rw [List.mem_singleton.1 hx]; exact hok.tu (S1, uu) (by simp) }
      have htot : ∀ k, Bm.total (R1.take k) ≤ 7776 := fun k => by
        have := Bm.total_le (R1.take k) (fun n hn => hok.r6 n (List.mem_of_mem_take hn)) 5 (by rw [List.length_take]; omega)
        omega
      have C1 := fun k (hk : k ≤ R1.length) => hide (fun w' (h1 : I64 w' (some ⟨ab, ao, none⟩) (zs R1)) (h2 : I64 w' (some ⟨yb, yo, none⟩) (zs S1)) => within_ok (some ⟨ab, ao, none⟩) R1 c (some ⟨yb, yo, none⟩) S1 yc uu k w' h1 h2 hyc hok hk)
      have C2 := fun k (hk : k ≤ R1.length) => hide (fun w' (h1 : I64 w' (some ⟨ab, ao, none⟩) (zs R1)) (h2 : I64 w' (some ⟨g, 0, none⟩) (zs S2)) => within_ok (some ⟨ab, ao, none⟩) R1 c (some ⟨g, 0, none⟩) S2 c2 uu k w' h1 h2 hc2 hok2 hk)
      have C3 := hide (fun w' (h1 : I64 w' (some ⟨ab, ao, none⟩) (zs R1)) (h2 : I64 w' (some ⟨yb, yo, none⟩) (zs S1)) => size_api_ok (some ⟨ab, ao, none⟩) R1 c (some ⟨yb, yo, none⟩) S1 yc uu w' h1 h2 hyc hok)
      rw [hl2] at C2
      have HPR := hide (fun k (hk : k < R1.length) => And.intro (hok.r1 _ (List.getElem_mem hk)) (And.intro (hok.r6 _ (List.getElem_mem hk)) (total_take R1 k hk)))
      generalize (((s ||| (more &&& (2 ^ n - 1)) : Nat)) : Int) = z4
      clear hS2 hmn hO3 hI3 hv3 hb3 hX hT hA hY hK hO hXc0 hTc0 hTc1 hKc0 hKc1 hXf hXl hTf hTl hKf hKl hW HAU HYU HXU HTU HWU HBC hok hok2 hbx hbx2 hnn1 hss1 hg hgc hgf hbk hg1 e1 e2 e3 e4 e5 r0 r1 hFar hl2 hc2 hgr hwd hn1 hn6 hs64 HF hqm hwx hwm hx8 hri hri2 hrl hrr hs5 hs1 hwu hab hyb hblk hn0 hnn hr8 hm8 hl9 hc9 sz_u1 HSL tok5
      have hX3c0 := obj_at hX3 0 _ rfl
      go_wp2
      go_loopw [11, 12] (fun t11 t12 wr => ∃ k : Nat, k ≤ R1.length ∧ t12 = .int .i64 (k : Nat) ∧ t11 = .int .i64 (Bm.total (R1.take k) : Nat) ∧ wr = v3) (fun _ i _ => R1.length - (intOf i).toNat)
      case atStart => exact ⟨0, Nat.zero_le _, rfl, rfl, rfl⟩
      case round =>
        obtain ⟨k, hk, rfl, rfl, hwr⟩ := hrel
        rw [hwr]
        clear hwr
        by_cases hlt : k < R1.length
        · have hlti : (k : Int) < (R1.length : Int) := by omega
          have c9 := zsI hA3 hlt
          obtain ⟨p1, p6, pt⟩ := HPR.out k hlt
          have pk := htot k
          generalize R1[k] = n at *
          have pki : ((Bm.total (R1.take k) : Nat) : Int) ≤ 7776 := by omega
          have PT := hide pt
          clear pt
          generalize Bm.total (R1.take k) = tk at *
          have hml : (tk : Int) * (n : Int) = ((tk * n : Nat) : Int) := by simp
          have hmb : tk * n ≤ 7776 * 6 := Nat.mul_le_mul pk p6
          have hm0 : (0 : Int) ≤ (tk : Int) * (n : Int) := by rw [hml]; omega
          have hm1 : (tk : Int) * (n : Int) ≤ 46656 := by rw [hml]; omega
          have HML := hide hml
          clear hml hmb
          go_wp2
          go_roundw
          case measure => simp [intOf]; omega
          exact ⟨k + 1, by omega, by go_num, v_int (by rw [PT.out, ← HML.out]), by first | rfl | trivial⟩
        · have hkl : k = R1.length := by omega
          have hlti : ¬ (k : Int) < (R1.length : Int) := by omega
          rw [show R1.take k = R1 by rw [hkl, List.take_length]]
          clear hkl hlt
          go_wp2
          clear htot HPR
          go_loopw [13, 14] (fun t13 t14 wr => ∃ k : Nat, k ≤ R1.length + 1 ∧ t14 = .int .i64 (k : Nat) ∧ t13 = .int .i64 (lastW R1 S1 k : Nat) ∧ Below v3.heap.size v3 wr) (fun _ i _ => R1.length + 1 - (intOf i).toNat)
          case atStart => exact ⟨0, Nat.zero_le _, rfl, rfl, Below.refl _ _⟩
          case round =>
            obtain ⟨k, hk, rfl, rfl, hb⟩ := hrel
            have hA1 := hA3.ext hb
            have hY1 := hY3.ext hb
            have hZ1 := hZ3.ext hb
            have hX1 := hX3.ext hb
            have hT1 := hT3.ext hb
            have hK1 := hK3.ext hb
            clear hX3c0
            by_cases hlt : k ≤ R1.length
            · have D1 := C1 k hlt
              have D2 := C2 k hlt
              have q1 := hle k
              have q2 : lastW R1 S1 k ≤ Bm.withinN R1 S1 k := by
                cases k with
                | zero => exact Nat.zero_le _
                | succ k => exact hup k (k + 1) (by omega)
              have HL := hide (show lastW R1 S1 (k + 1) = Bm.withinN R1 S1 k from rfl)
              have q3 : k = 0 → Bm.withinN R1 S1 k = Bm.size S1 := fun e => by rw [e]; exact hze
              have q4 : k = R1.length → Bm.withinN R1 S1 k = Bm.total R1 := fun e => by rw [e]; exact hal
              generalize lastW R1 S1 k = la at *
              generalize Bm.withinN R1 S1 k = n at *
              generalize Bm.withinN R1 S2 k = m at *
              have hki : (k : Int) ≤ (R1.length : Int) := by omega
              have f1 : ¬ (n : Int) < (la : Int) := by omega
              have f2 : ¬ (m : Int) < (n : Int) := by omega
              have Q := hide (And.intro q1 (And.intro q2 (And.intro q3 q4)))
              clear q1 q2 q3 q4 hle hup hze hal C1 C2
              by_cases h0 : k = 0
              · have e0 : Bm.size S1 = n := (Q.out.2.2.1 h0).symm
                rw [e0] at C3
                have h0i : ((k : Int) == 0) = true := by simp [h0]
                have f3 : ((k : Int) == (R1.length : Int)) = false := by simp; omega
                clear e0
                replace h0 := hide h0
                (try clear hX1c0 hX1f hX1l)
                have hX1c0 := obj_at hX1 0 _ rfl
                have hX1f := obj_fz hX1 0
                have hX1l := obj_lt hX1
                (try clear hT1c0 hT1c1 hT1f hT1l)
                have hT1c0 := obj_at hT1 0 _ rfl
                have hT1c1 := obj_at hT1 1 _ rfl
                have hT1f := obj_fz hT1 0
                have hT1l := obj_lt hT1
                (try clear hK1c0 hK1c1 hK1f hK1l)
                have hK1c0 := obj_at hK1 0 _ rfl
                have hK1c1 := obj_at hK1 1 _ rfl
                have hK1f := obj_fz hK1 0
                have hK1l := obj_lt hK1
                have tok0 : True := trivial
                go_wp2_with (first
    | (clear tok0; go_at_call 27; refine (D1.out _ (hA1.ext (by (repeat (first | exact Below.refl _ _ | assumption | (refine below_gr ?_ (by (first | omega | (simp only [size_grow, World.size_alloc, size_drewN, size_drew, size_setCell] at *; omega))) _) | (refine below_alloc ?_ (by (first | omega | (simp only [size_grow, World.size_alloc, size_drewN, size_drew, size_setCell] at *; omega))) _) | (refine Below.setCell ?_ (by (first | omega | (simp only [size_grow, World.size_alloc, size_drewN, size_drew, size_setCell] at *; omega))) _) | refine below_drewN ?_ _ | refine below_drew ?_ | (refine below_step ?_ (by assumption) (by (first | omega | (simp only [size_grow, World.size_alloc, size_drewN, size_drew, size_setCell] at *; omega)))))))) (hY1.ext (by (repeat (first | exact Below.refl _ _ | assumption | (refine below_gr ?_ (by (first | omega | (simp only [size_grow, World.size_alloc, size_drewN, size_drew, size_setCell] at *; omega))) _) | (refine below_alloc ?_ (by (first | omega | (simp only [size_grow, World.size_alloc, size_drewN, size_drew, size_setCell] at *; omega))) _) | (refine Below.setCell ?_ (by (first | omega | (simp only [size_grow, World.size_alloc, size_drewN, size_drew, size_setCell] at *; omega))) _) | refine below_drewN ?_ _ | refine below_drew ?_ | (refine below_step ?_ (by assumption) (by (first | omega | (simp only [size_grow, World.size_alloc, size_drewN, size_drew, size_setCell] at *; omega))))))))).mono ?_; rintro e u1 ⟨rfl, hb_u1⟩; replace hb_u1 := ex_below hb_u1; have bel_u1 : Below wr.heap.size wr u1 := (by (repeat (first | exact Below.refl _ _ | assumption | (refine below_gr ?_ (by (first | omega | (simp only [size_grow, World.size_alloc, size_drewN, size_drew, size_setCell] at *; omega))) _) | (refine below_alloc ?_ (by (first | omega | (simp only [size_grow, World.size_alloc, size_drewN, size_drew, size_setCell] at *; omega))) _) | (refine Below.setCell ?_ (by (first | omega | (simp only [size_grow, World.size_alloc, size_drewN, size_drew, size_setCell] at *; omega))) _) | refine below_drewN ?_ _ | refine below_drew ?_ | (refine below_step ?_ (by assumption) (by (first | omega | (simp only [size_grow, World.size_alloc, size_drewN, size_drew, size_setCell] at *; omega))))))); clear hb_u1; have sz_u1 := bel_u1.size; replace hA1 := hA1.ext bel_u1; replace hY1 := hY1.ext bel_u1; replace hZ1 := hZ1.ext bel_u1; replace hX1 := hX1.ext bel_u1; replace hT1 := hT1.ext bel_u1; replace hK1 := hK1.ext bel_u1; replace hb := below_step hb bel_u1 (by have := hb.size; omega); (try clear hX1c0 hX1f hX1l); have hX1c0 := obj_at hX1 0 _ rfl; have hX1f := obj_fz hX1 0; have hX1l := obj_lt hX1; (try clear hT1c0 hT1c1 hT1f hT1l); have hT1c0 := obj_at hT1 0 _ rfl; have hT1c1 := obj_at hT1 1 _ rfl; have hT1f := obj_fz hT1 0; have hT1l := obj_lt hT1; (try clear hK1c0 hK1c1 hK1f hK1l); have hK1c0 := obj_at hK1 0 _ rfl; have hK1c1 := obj_at hK1 1 _ rfl; have hK1f := obj_fz hK1 0; have hK1l := obj_lt hK1; clear bel_u1; have tok1 : True := trivial)
    | (clear tok1; go_at_call 27; refine (D2.out _ (hA1.ext (by (repeat (first | exact Below.refl _ _ | assumption | (refine below_gr ?_ (by (first | omega | (simp only [size_grow, World.size_alloc, size_drewN, size_drew, size_setCell] at *; omega))) _) | (refine below_alloc ?_ (by (first | omega | (simp only [size_grow, World.size_alloc, size_drewN, size_drew, size_setCell] at *; omega))) _) | (refine Below.setCell ?_ (by (first | omega | (simp only [size_grow, World.size_alloc, size_drewN, size_drew, size_setCell] at *; omega))) _) | refine below_drewN ?_ _ | refine below_drew ?_ | (refine below_step ?_ (by assumption) (by (first | omega | (simp only [size_grow, World.size_alloc, size_drewN, size_drew, size_setCell] at *; omega)))))))) (hZ1.ext (by (repeat (first | exact Below.refl _ _ | assumption | (refine below_gr ?_ (by (first | omega | (simp only [size_grow, World.size_alloc, size_drewN, size_drew, size_setCell] at *; omega))) _) | (refine below_alloc ?_ (by (first | omega | (simp only [size_grow, World.size_alloc, size_drewN, size_drew, size_setCell] at *; omega))) _) | (refine Below.setCell ?_ (by (first | omega | (simp only [size_grow, World.size_alloc, size_drewN, size_drew, size_setCell] at *; omega))) _) | refine below_drewN ?_ _ | refine below_drew ?_ | (refine below_step ?_ (by assumption) (by (first | omega | (simp only [size_grow, World.size_alloc, size_drewN, size_drew, size_setCell] at *; omega))))))))).mono ?_; rintro e u2 ⟨rfl, hb_u2⟩; replace hb_u2 := ex_below hb_u2; have bel_u2 : Below u1.heap.size u1 u2 := (by (repeat (first | exact Below.refl _ _ | assumption | (refine below_gr ?_ (by (first | omega | (simp only [size_grow, World.size_alloc, size_drewN, size_drew, size_setCell] at *; omega))) _) | (refine below_alloc ?_ (by (first | omega | (simp only [size_grow, World.size_alloc, size_drewN, size_drew, size_setCell] at *; omega))) _) | (refine Below.setCell ?_ (by (first | omega | (simp only [size_grow, World.size_alloc, size_drewN, size_drew, size_setCell] at *; omega))) _) | refine below_drewN ?_ _ | refine below_drew ?_ | (refine below_step ?_ (by assumption) (by (first | omega | (simp only [size_grow, World.size_alloc, size_drewN, size_drew, size_setCell] at *; omega))))))); clear hb_u2; have sz_u2 := bel_u2.size; replace hA1 := hA1.ext bel_u2; replace hY1 := hY1.ext bel_u2; replace hZ1 := hZ1.ext bel_u2; replace hX1 := hX1.ext bel_u2; replace hT1 := hT1.ext bel_u2; replace hK1 := hK1.ext bel_u2; replace hb := below_step hb bel_u2 (by have := hb.size; omega); (try clear hX1c0 hX1f hX1l); have hX1c0 := obj_at hX1 0 _ rfl; have hX1f := obj_fz hX1 0; have hX1l := obj_lt hX1; (try clear hT1c0 hT1c1 hT1f hT1l); have hT1c0 := obj_at hT1 0 _ rfl; have hT1c1 := obj_at hT1 1 _ rfl; have hT1f := obj_fz hT1 0; have hT1l := obj_lt hT1; (try clear hK1c0 hK1c1 hK1f hK1l); have hK1c0 := obj_at hK1 0 _ rfl; have hK1c1 := obj_at hK1 1 _ rfl; have hK1f := obj_fz hK1 0; have hK1l := obj_lt hK1; clear bel_u2; have tok2 : True := trivial)
    | (clear tok2; go_at_call 25; refine (C3.out _ (hA1.ext (by (repeat (first | exact Below.refl _ _ | assumption | (refine below_gr ?_ (by (first | omega | (simp only [size_grow, World.size_alloc, size_drewN, size_drew, size_setCell] at *; omega))) _) | (refine below_alloc ?_ (by (first | omega | (simp only [size_grow, World.size_alloc, size_drewN, size_drew, size_setCell] at *; omega))) _) | (refine Below.setCell ?_ (by (first | omega | (simp only [size_grow, World.size_alloc, size_drewN, size_drew, size_setCell] at *; omega))) _) | refine below_drewN ?_ _ | refine below_drew ?_ | (refine below_step ?_ (by assumption) (by (first | omega | (simp only [size_grow, World.size_alloc, size_drewN, size_drew, size_setCell] at *; omega)))))))) (hY1.ext (by (repeat (first | exact Below.refl _ _ | assumption | (refine below_gr ?_ (by (first | omega | (simp only [size_grow, World.size_alloc, size_drewN, size_drew, size_setCell] at *; omega))) _) | (refine below_alloc ?_ (by (first | omega | (simp only [size_grow, World.size_alloc, size_drewN, size_drew, size_setCell] at *; omega))) _) | (refine Below.setCell ?_ (by (first | omega | (simp only [size_grow, World.size_alloc, size_drewN, size_drew, size_setCell] at *; omega))) _) | refine below_drewN ?_ _ | refine below_drew ?_ | (refine below_step ?_ (by assumption) (by (first | omega | (simp only [size_grow, World.size_alloc, size_drewN, size_drew, size_setCell] at *; omega))))))))).mono ?_; rintro e u3 ⟨rfl, hb_u3⟩; replace hb_u3 := ex_below hb_u3; have bel_u3 : Below u2.heap.size u2 u3 := (by (repeat (first | exact Below.refl _ _ | assumption | (refine below_gr ?_ (by (first | omega | (simp only [size_grow, World.size_alloc, size_drewN, size_drew, size_setCell] at *; omega))) _) | (refine below_alloc ?_ (by (first | omega | (simp only [size_grow, World.size_alloc, size_drewN, size_drew, size_setCell] at *; omega))) _) | (refine Below.setCell ?_ (by (first | omega | (simp only [size_grow, World.size_alloc, size_drewN, size_drew, size_setCell] at *; omega))) _) | refine below_drewN ?_ _ | refine below_drew ?_ | (refine below_step ?_ (by assumption) (by (first | omega | (simp only [size_grow, World.size_alloc, size_drewN, size_drew, size_setCell] at *; omega))))))); clear hb_u3; have sz_u3 := bel_u3.size; replace hA1 := hA1.ext bel_u3; replace hY1 := hY1.ext bel_u3; replace hZ1 := hZ1.ext bel_u3; replace hX1 := hX1.ext bel_u3; replace hT1 := hT1.ext bel_u3; replace hK1 := hK1.ext bel_u3; replace hb := below_step hb bel_u3 (by have := hb.size; omega); (try clear hX1c0 hX1f hX1l); have hX1c0 := obj_at hX1 0 _ rfl; have hX1f := obj_fz hX1 0; have hX1l := obj_lt hX1; (try clear hT1c0 hT1c1 hT1f hT1l); have hT1c0 := obj_at hT1 0 _ rfl; have hT1c1 := obj_at hT1 1 _ rfl; have hT1f := obj_fz hT1 0; have hT1l := obj_lt hT1; (try clear hK1c0 hK1c1 hK1f hK1l); have hK1c0 := obj_at hK1 0 _ rfl; have hK1c1 := obj_at hK1 1 _ rfl; have hK1f := obj_fz hK1 0; have hK1l := obj_lt hK1; clear bel_u3; have tok3 : True := trivial))
                exact ⟨⟨k + 1, by omega, by go_num, v_int (by rw [HL.out]), hb⟩, by simp [intOf]; omega⟩
              · have h0i : ((k : Int) == 0) = false := by simp; omega
                by_cases hl : k = R1.length
                · have e0 : Bm.total R1 = n := (Q.out.2.2.2 hl).symm
                  rw [e0]
                  have f3 : ((k : Int) == (R1.length : Int)) = true := by simp; omega
                  have f4 : ((n : Int) != (n : Int)) = false := by simp
                  clear e0
                  replace hl := hide hl
                  (try clear hX1c0 hX1f hX1l)
                  have hX1c0 := obj_at hX1 0 _ rfl
                  have hX1f := obj_fz hX1 0
                  have hX1l := obj_lt hX1
                  (try clear hT1c0 hT1c1 hT1f hT1l)
                  have hT1c0 := obj_at hT1 0 _ rfl
                  have hT1c1 := obj_at hT1 1 _ rfl
                  have hT1f := obj_fz hT1 0
                  have hT1l := obj_lt hT1
                  (try clear hK1c0 hK1c1 hK1f hK1l)
                  have hK1c0 := obj_at hK1 0 _ rfl
                  have hK1c1 := obj_at hK1 1 _ rfl
                  have hK1f := obj_fz hK1 0
                  have hK1l := obj_lt hK1
                  have tok0 : True := trivial
                  go_wp2_with (first
    | (clear tok0; go_at_call 27; refine (D1.out _ (hA1.ext (by (repeat (first | exact Below.refl _ _ | assumption | (refine below_gr ?_ (by (first | omega | (simp only [size_grow, World.size_alloc, size_drewN, size_drew, size_setCell] at *; omega))) _) | (refine below_alloc ?_ (by (first | omega | (simp only [size_grow, World.size_alloc, size_drewN, size_drew, size_setCell] at *; omega))) _) | (refine Below.setCell ?_ (by (first | omega | (simp only [size_grow, World.size_alloc, size_drewN, size_drew, size_setCell] at *; omega))) _) | refine below_drewN ?_ _ | refine below_drew ?_ | (refine below_step ?_ (by assumption) (by (first | omega | (simp only [size_grow, World.size_alloc, size_drewN, size_drew, size_setCell] at *; omega)))))))) (hY1.ext (by (repeat (first | exact Below.refl _ _ | assumption | (refine below_gr ?_ (by (first | omega | (simp only [size_grow, World.size_alloc, size_drewN, size_drew, size_setCell] at *; omega))) _) | (refine below_alloc ?_ (by (first | omega | (simp only [size_grow, World.size_alloc, size_drewN, size_drew, size_setCell] at *; omega))) _) | (refine Below.setCell ?_ (by (first | omega | (simp only [size_grow, World.size_alloc, size_drewN, size_drew, size_setCell] at *; omega))) _) | refine below_drewN ?_ _ | refine below_drew ?_ | (refine below_step ?_ (by assumption) (by (first | omega | (simp only [size_grow, World.size_alloc, size_drewN, size_drew, size_setCell] at *; omega))))))))).mono ?_; rintro e u1 ⟨rfl, hb_u1⟩; replace hb_u1 := ex_below hb_u1; have bel_u1 : Below wr.heap.size wr u1 := (by (repeat (first | exact Below.refl _ _ | assumption | (refine below_gr ?_ (by (first | omega | (simp only [size_grow, World.size_alloc, size_drewN, size_drew, size_setCell] at *; omega))) _) | (refine below_alloc ?_ (by (first | omega | (simp only [size_grow, World.size_alloc, size_drewN, size_drew, size_setCell] at *; omega))) _) | (refine Below.setCell ?_ (by (first | omega | (simp only [size_grow, World.size_alloc, size_drewN, size_drew, size_setCell] at *; omega))) _) | refine below_drewN ?_ _ | refine below_drew ?_ | (refine below_step ?_ (by assumption) (by (first | omega | (simp only [size_grow, World.size_alloc, size_drewN, size_drew, size_setCell] at *; omega))))))); clear hb_u1; have sz_u1 := bel_u1.size; replace hA1 := hA1.ext bel_u1; replace hY1 := hY1.ext bel_u1; replace hZ1 := hZ1.ext bel_u1; replace hX1 := hX1.ext bel_u1; replace hT1 := hT1.ext bel_u1; replace hK1 := hK1.ext bel_u1; replace hb := below_step hb bel_u1 (by have := hb.size; omega); (try clear hX1c0 hX1f hX1l); have hX1c0 := obj_at hX1 0 _ rfl; have hX1f := obj_fz hX1 0; have hX1l := obj_lt hX1; (try clear hT1c0 hT1c1 hT1f hT1l); have hT1c0 := obj_at hT1 0 _ rfl; have hT1c1 := obj_at hT1 1 _ rfl; have hT1f := obj_fz hT1 0; have hT1l := obj_lt hT1; (try clear hK1c0 hK1c1 hK1f hK1l); have hK1c0 := obj_at hK1 0 _ rfl; have hK1c1 := obj_at hK1 1 _ rfl; have hK1f := obj_fz hK1 0; have hK1l := obj_lt hK1; clear bel_u1; have tok1 : True := trivial)
    | (clear tok1; go_at_call 27; refine (D2.out _ (hA1.ext (by (repeat (first | exact Below.refl _ _ | assumption | (refine below_gr ?_ (by (first | omega | (simp only [size_grow, World.size_alloc, size_drewN, size_drew, size_setCell] at *; omega))) _) | (refine below_alloc ?_ (by (first | omega | (simp only [size_grow, World.size_alloc, size_drewN, size_drew, size_setCell] at *; omega))) _) | (refine Below.setCell ?_ (by (first | omega | (simp only [size_grow, World.size_alloc, size_drewN, size_drew, size_setCell] at *; omega))) _) | refine below_drewN ?_ _ | refine below_drew ?_ | (refine below_step ?_ (by assumption) (by (first | omega | (simp only [size_grow, World.size_alloc, size_drewN, size_drew, size_setCell] at *; omega)))))))) (hZ1.ext (by (repeat (first | exact Below.refl _ _ | assumption | (refine below_gr ?_ (by (first | omega | (simp only [size_grow, World.size_alloc, size_drewN, size_drew, size_setCell] at *; omega))) _) | (refine below_alloc ?_ (by (first | omega | (simp only [size_grow, World.size_alloc, size_drewN, size_drew, size_setCell] at *; omega))) _) | (refine Below.setCell ?_ (by (first | omega | (simp only [size_grow, World.size_alloc, size_drewN, size_drew, size_setCell] at *; omega))) _) | refine below_drewN ?_ _ | refine below_drew ?_ | (refine below_step ?_ (by assumption) (by (first | omega | (simp only [size_grow, World.size_alloc, size_drewN, size_drew, size_setCell] at *; omega))))))))).mono ?_; rintro e u2 ⟨rfl, hb_u2⟩; replace hb_u2 := ex_below hb_u2; have bel_u2 : Below u1.heap.size u1 u2 := (by (repeat (first | exact Below.refl _ _ | assumption | (refine below_gr ?_ (by (first | omega | (simp only [size_grow, World.size_alloc, size_drewN, size_drew, size_setCell] at *; omega))) _) | (refine below_alloc ?_ (by (first | omega | (simp only [size_grow, World.size_alloc, size_drewN, size_drew, size_setCell] at *; omega))) _) | (refine Below.setCell ?_ (by (first | omega | (simp only [size_grow, World.size_alloc, size_drewN, size_drew, size_setCell] at *; omega))) _) | refine below_drewN ?_ _ | refine below_drew ?_ | (refine below_step ?_ (by assumption) (by (first | omega | (simp only [size_grow, World.size_alloc, size_drewN, size_drew, size_setCell] at *; omega))))))); clear hb_u2; have sz_u2 := bel_u2.size; replace hA1 := hA1.ext bel_u2; replace hY1 := hY1.ext bel_u2; replace hZ1 := hZ1.ext bel_u2; replace hX1 := hX1.ext bel_u2; replace hT1 := hT1.ext bel_u2; replace hK1 := hK1.ext bel_u2; replace hb := below_step hb bel_u2 (by have := hb.size; omega); (try clear hX1c0 hX1f hX1l); have hX1c0 := obj_at hX1 0 _ rfl; have hX1f := obj_fz hX1 0; have hX1l := obj_lt hX1; (try clear hT1c0 hT1c1 hT1f hT1l); have hT1c0 := obj_at hT1 0 _ rfl; have hT1c1 := obj_at hT1 1 _ rfl; have hT1f := obj_fz hT1 0; have hT1l := obj_lt hT1; (try clear hK1c0 hK1c1 hK1f hK1l); have hK1c0 := obj_at hK1 0 _ rfl; have hK1c1 := obj_at hK1 1 _ rfl; have hK1f := obj_fz hK1 0; have hK1l := obj_lt hK1; clear bel_u2; have tok2 : True := trivial))
                  exact ⟨⟨k + 1, by omega, by go_num, v_int (by rw [HL.out]), hb⟩, by simp [intOf]; omega⟩
                · have f3 : ((k : Int) == (R1.length : Int)) = false := by simp; omega
                  (try clear hX1c0 hX1f hX1l)
                  have hX1c0 := obj_at hX1 0 _ rfl
                  have hX1f := obj_fz hX1 0
                  have hX1l := obj_lt hX1
                  (try clear hT1c0 hT1c1 hT1f hT1l)
                  have hT1c0 := obj_at hT1 0 _ rfl
                  have hT1c1 := obj_at hT1 1 _ rfl
                  have hT1f := obj_fz hT1 0
                  have hT1l := obj_lt hT1
                  (try clear hK1c0 hK1c1 hK1f hK1l)
                  have hK1c0 := obj_at hK1 0 _ rfl
                  have hK1c1 := obj_at hK1 1 _ rfl
                  have hK1f := obj_fz hK1 0
                  have hK1l := obj_lt hK1
                  have tok0 : True := trivial
                  go_wp2_with (first
    | (clear tok0; go_at_call 27; refine (D1.out _ (hA1.ext (by (repeat (first | exact Below.refl _ _ | assumption | (refine below_gr ?_ (by (first | omega | (simp only [size_grow, World.size_alloc, size_drewN, size_drew, size_setCell] at *; omega))) _) | (refine below_alloc ?_ (by (first | omega | (simp only [size_grow, World.size_alloc, size_drewN, size_drew, size_setCell] at *; omega))) _) | (refine Below.setCell ?_ (by (first | omega | (simp only [size_grow, World.size_alloc, size_drewN, size_drew, size_setCell] at *; omega))) _) | refine below_drewN ?_ _ | refine below_drew ?_ | (refine below_step ?_ (by assumption) (by (first | omega | (simp only [size_grow, World.size_alloc, size_drewN, size_drew, size_setCell] at *; omega)))))))) (hY1.ext (by (repeat (first | exact Below.refl _ _ | assumption | (refine below_gr ?_ (by (first | omega | (simp only [size_grow, World.size_alloc, size_drewN, size_drew, size_setCell] at *; omega))) _) | (refine below_alloc ?_ (by (first | omega | (simp only [size_grow, World.size_alloc, size_drewN, size_drew, size_setCell] at *; omega))) _) | (refine Below.setCell ?_ (by (first | omega | (simp only [size_grow, World.size_alloc, size_drewN, size_drew, size_setCell] at *; omega))) _) | refine below_drewN ?_ _ | refine below_drew ?_ | (refine below_step ?_ (by assumption) (by (first | omega | (simp only [size_grow, World.size_alloc, size_drewN, size_drew, size_setCell] at *; omega))))))))).mono ?_; rintro e u1 ⟨rfl, hb_u1⟩; replace hb_u1 := ex_below hb_u1; have bel_u1 : Below wr.heap.size wr u1 := (by (repeat (first | exact Below.refl _ _ | assumption | (refine below_gr ?_ (by (first | omega | (simp only [size_grow, World.size_alloc, size_drewN, size_drew, size_setCell] at *; omega))) _) | (refine below_alloc ?_ (by (first | omega | (simp only [size_grow, World.size_alloc, size_drewN, size_drew, size_setCell] at *; omega))) _) | (refine Below.setCell ?_ (by (first | omega | (simp only [size_grow, World.size_alloc, size_drewN, size_drew, size_setCell] at *; omega))) _) | refine below_drewN ?_ _ | refine below_drew ?_ | (refine below_step ?_ (by assumption) (by (first | omega | (simp only [size_grow, World.size_alloc, size_drewN, size_drew, size_setCell] at *; omega))))))); clear hb_u1; have sz_u1 := bel_u1.size; replace hA1 := hA1.ext bel_u1; replace hY1 := hY1.ext bel_u1; replace hZ1 := hZ1.ext bel_u1; replace hX1 := hX1.ext bel_u1; replace hT1 := hT1.ext bel_u1; replace hK1 := hK1.ext bel_u1; replace hb := below_step hb bel_u1 (by have := hb.size; omega); (try clear hX1c0 hX1f hX1l); have hX1c0 := obj_at hX1 0 _ rfl; have hX1f := obj_fz hX1 0; have hX1l := obj_lt hX1; (try clear hT1c0 hT1c1 hT1f hT1l); have hT1c0 := obj_at hT1 0 _ rfl; have hT1c1 := obj_at hT1 1 _ rfl; have hT1f := obj_fz hT1 0; have hT1l := obj_lt hT1; (try clear hK1c0 hK1c1 hK1f hK1l); have hK1c0 := obj_at hK1 0 _ rfl; have hK1c1 := obj_at hK1 1 _ rfl; have hK1f := obj_fz hK1 0; have hK1l := obj_lt hK1; clear bel_u1; have tok1 : True := trivial)
    | (clear tok1; go_at_call 27; refine (D2.out _ (hA1.ext (by (repeat (first | exact Below.refl _ _ | assumption | (refine below_gr ?_ (by (first | omega | (simp only [size_grow, World.size_alloc, size_drewN, size_drew, size_setCell] at *; omega))) _) | (refine below_alloc ?_ (by (first | omega | (simp only [size_grow, World.size_alloc, size_drewN, size_drew, size_setCell] at *; omega))) _) | (refine Below.setCell ?_ (by (first | omega | (simp only [size_grow, World.size_alloc, size_drewN, size_drew, size_setCell] at *; omega))) _) | refine below_drewN ?_ _ | refine below_drew ?_ | (refine below_step ?_ (by assumption) (by (first | omega | (simp only [size_grow, World.size_alloc, size_drewN, size_drew, size_setCell] at *; omega)))))))) (hZ1.ext (by (repeat (first | exact Below.refl _ _ | assumption | (refine below_gr ?_ (by (first | omega | (simp only [size_grow, World.size_alloc, size_drewN, size_drew, size_setCell] at *; omega))) _) | (refine below_alloc ?_ (by (first | omega | (simp only [size_grow, World.size_alloc, size_drewN, size_drew, size_setCell] at *; omega))) _) | (refine Below.setCell ?_ (by (first | omega | (simp only [size_grow, World.size_alloc, size_drewN, size_drew, size_setCell] at *; omega))) _) | refine below_drewN ?_ _ | refine below_drew ?_ | (refine below_step ?_ (by assumption) (by (first | omega | (simp only [size_grow, World.size_alloc, size_drewN, size_drew, size_setCell] at *; omega))))))))).mono ?_; rintro e u2 ⟨rfl, hb_u2⟩; replace hb_u2 := ex_below hb_u2; have bel_u2 : Below u1.heap.size u1 u2 := (by (repeat (first | exact Below.refl _ _ | assumption | (refine below_gr ?_ (by (first | omega | (simp only [size_grow, World.size_alloc, size_drewN, size_drew, size_setCell] at *; omega))) _) | (refine below_alloc ?_ (by (first | omega | (simp only [size_grow, World.size_alloc, size_drewN, size_drew, size_setCell] at *; omega))) _) | (refine Below.setCell ?_ (by (first | omega | (simp only [size_grow, World.size_alloc, size_drewN, size_drew, size_setCell] at *; omega))) _) | refine below_drewN ?_ _ | refine below_drew ?_ | (refine below_step ?_ (by assumption) (by (first | omega | (simp only [size_grow, World.size_alloc, size_drewN, size_drew, size_setCell] at *; omega))))))); clear hb_u2; have sz_u2 := bel_u2.size; replace hA1 := hA1.ext bel_u2; replace hY1 := hY1.ext bel_u2; replace hZ1 := hZ1.ext bel_u2; replace hX1 := hX1.ext bel_u2; replace hT1 := hT1.ext bel_u2; replace hK1 := hK1.ext bel_u2; replace hb := below_step hb bel_u2 (by have := hb.size; omega); (try clear hX1c0 hX1f hX1l); have hX1c0 := obj_at hX1 0 _ rfl; have hX1f := obj_fz hX1 0; have hX1l := obj_lt hX1; (try clear hT1c0 hT1c1 hT1f hT1l); have hT1c0 := obj_at hT1 0 _ rfl; have hT1c1 := obj_at hT1 1 _ rfl; have hT1f := obj_fz hT1 0; have hT1l := obj_lt hT1; (try clear hK1c0 hK1c1 hK1f hK1l); have hK1c0 := obj_at hK1 0 _ rfl; have hK1c1 := obj_at hK1 1 _ rfl; have hK1f := obj_fz hK1 0; have hK1l := obj_lt hK1; clear bel_u2; have tok2 : True := trivial))
                  exact ⟨⟨k + 1, by omega, by go_num, v_int (by rw [HL.out]), hb⟩, by simp [intOf]; omega⟩
            · have hki : ¬ (k : Int) ≤ (R1.length : Int) := by omega
              have hW1 := below_step hW3 hb (by have := hW3.size; omega)
              (try clear hX1c0 hX1f hX1l)
              have hX1c0 := obj_at hX1 0 _ rfl
              have hX1f := obj_fz hX1 0
              have hX1l := obj_lt hX1
              have tok0 : True := trivial
              go_wp2_with (first
    | (clear tok0; go_at_call 20; refine (works_any _).mono ?_; rintro e u1 ⟨rfl, hb_u1⟩; replace hb_u1 := ex_below hb_u1; have bel_u1 : Below wr.heap.size wr u1 := (by (repeat (first | exact Below.refl _ _ | assumption | (refine below_gr ?_ (by (first | omega | (simp only [size_grow, World.size_alloc, size_drewN, size_drew, size_setCell] at *; omega))) _) | (refine below_alloc ?_ (by (first | omega | (simp only [size_grow, World.size_alloc, size_drewN, size_drew, size_setCell] at *; omega))) _) | (refine Below.setCell ?_ (by (first | omega | (simp only [size_grow, World.size_alloc, size_drewN, size_drew, size_setCell] at *; omega))) _) | refine below_drewN ?_ _ | refine below_drew ?_ | (refine below_step ?_ (by assumption) (by (first | omega | (simp only [size_grow, World.size_alloc, size_drewN, size_drew, size_setCell] at *; omega))))))); clear hb_u1; have sz_u1 := bel_u1.size; replace hA1 := hA1.ext bel_u1; replace hX1 := hX1.ext bel_u1; replace hW1 := below_step hW1 bel_u1 (by have := hW1.size; omega); (try clear hX1c0 hX1f hX1l); have hX1c0 := obj_at hX1 0 _ rfl; have hX1f := obj_fz hX1 0; have hX1l := obj_lt hX1; clear bel_u1; have tok1 : True := trivial))
              go_ret
              exact gives_of rfl hW1

end Go.Proofs.Ytlbkaeoagdbemaa
