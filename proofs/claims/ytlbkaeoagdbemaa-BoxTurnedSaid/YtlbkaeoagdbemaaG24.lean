/- Proved here: the law BoxTurned, a part of the proofs about the box laws. Conditions: those that each theorem names, no others. -/
import Derived.Test.YtlbkaeoagdbemaaP38
import Derived.WalkKit
import Derived.WalkSpells
import Derived.WalkLawsBesides
import Derived.Below
import Derived.Deep.QuietTactic
import Derived.BigQuiet
import Derived.Deep.Light
import Derived.Test.YtlbkaeoagdbemaaG23
import Derived.Test.YtlbkaeoagdbemaaG25
set_option linter.unusedSimpArgs false
set_option linter.unusedVariables false
namespace Go.Proofs.Ytlbkaeoagdbemaa
open Go.RowKit Go.Maps
theorem swb_val : ∀ p : Fin 6, ∀ q : Fin 6, ∀ s : Fin 64, bits .or .i64 (bits .or .i64 (bits .andNot .i64 ((s.1 : Nat) : Int) (bits .or .i64 (IntKind.i64.wrap ((2 : Int) ^ p.1)) (IntKind.i64.wrap ((2 : Int) ^ q.1)))) (IntKind.i64.wrap (bits .and .i64 (((s.1 : Nat) : Int) / 2 ^ p.1) 1 * 2 ^ q.1))) (IntKind.i64.wrap (bits .and .i64 (((s.1 : Nat) : Int) / 2 ^ q.1) 1 * 2 ^ p.1)) = ((Bm.swb p.1 q.1 s.1 : Nat) : Int) := by decide +kernel
theorem swb_val6 {p q s : Nat} (hp : p < 6) (hq : q < 6) (hs : s < 64) : bits .or .i64 (bits .or .i64 (bits .andNot .i64 ((s : Nat) : Int) (bits .or .i64 (IntKind.i64.wrap ((2 : Int) ^ p)) (IntKind.i64.wrap ((2 : Int) ^ q)))) (IntKind.i64.wrap (bits .and .i64 (((s : Nat) : Int) / 2 ^ p) 1 * 2 ^ q))) (IntKind.i64.wrap (bits .and .i64 (((s : Nat) : Int) / 2 ^ q) 1 * 2 ^ p)) = ((Bm.swb p q s : Nat) : Int) := swb_val ⟨p, hp⟩ ⟨q, hq⟩ ⟨s, hs⟩
set_option maxRecDepth 100000 in
set_option maxHeartbeats 8000000 in
theorem turned_law (A : Option Addr) (R : List Int) (c : Nat) (B : Option Addr) (ts : List Tz) (d : Nat) (x0 x1 y0 y1 wr : Nat) (w : World) (hA : I64 w A R) (hB : Tks w B ts) (hl9 : R.length ≤ 9223372036854775807) (hd : ts.length ≤ d) (hd9 : d ≤ 9223372036854775807) (hts9 : ∀ t, t ∈ ts → t.1.length ≤ 9223372036854775807) (bx0 : x0 < 256) (bx1 : x1 < 256) (by0 : y0 < 256) (by1 : y1 < 256) (bwr : wr < 256) : Calls Try.prog 10 #[.agg #[.slice A R.length c], .slice B ts.length d, .agg #[.int .u8 (x0 : Nat), .int .u8 (x1 : Nat)], .agg #[.int .u8 (y0 : Nat), .int .u8 (y1 : Nat)], .int .u8 (wr : Nat)] w (Gives w (.bool true)) := by
  have hdi : (ts.length : Int) ≤ 9223372036854775807 := by omega
  cases hf : fineB R ts with
  | false =>
    have tok0 : True := trivial
    go_enter Try.func10, Try.ntmps10
    go_wp2_with (first
    | (clear tok0; go_at_call 45; refine (fine_any A R c B ts d _ (hA.ext (by (repeat (first | exact Below.refl _ _ | assumption | refine below_drewN ?_ _ | refine below_drew ?_ | refine below_gr ?_ ?_ _ | refine below_alloc ?_ ?_ _ | refine Below.setCell ?_ ?_ _ | refine below_step ?_ (by assumption) ?_ | omega | (simp only [zz] at *; omega))))) (hB.ext (by (repeat (first | exact Below.refl _ _ | assumption | refine below_drewN ?_ _ | refine below_drew ?_ | refine below_gr ?_ ?_ _ | refine below_alloc ?_ ?_ _ | refine Below.setCell ?_ ?_ _ | refine below_step ?_ (by assumption) ?_ | omega | (simp only [zz] at *; omega))))) hl9 hd hd9 hts9).mono ?_; rintro e u1 ⟨rfl, hb_u1⟩; replace hb_u1 := ex_below hb_u1; have hX : BlkAt u1 w.heap.size #[.slice A R.length c] 24 := (show BlkAt (((w.alloc (.cells #[.slice A R.length c] 24)).alloc (.cells #[.int .u8 (x0 : Nat), .int .u8 (x1 : Nat)] 58)).alloc (.cells #[.int .u8 (y0 : Nat), .int .u8 (y1 : Nat)] 58)) w.heap.size #[.slice A R.length c] 24 from (by unfold BlkAt; (repeat (first | rw [Below.heap_alloc _ _ _ (by (first | omega | (simp only [zz]; omega) | (simp only [zz] at *; omega) | (simp; done) | (simp; omega)))])); exact heap_at (by (first | omega | (simp only [zz]; omega) | (simp only [zz] at *; omega) | (simp; done) | (simp; omega))))).ext hb_u1; have hY : BlkAt u1 (w.heap.size + 1) #[.int .u8 (x0 : Nat), .int .u8 (x1 : Nat)] 58 := (show BlkAt (((w.alloc (.cells #[.slice A R.length c] 24)).alloc (.cells #[.int .u8 (x0 : Nat), .int .u8 (x1 : Nat)] 58)).alloc (.cells #[.int .u8 (y0 : Nat), .int .u8 (y1 : Nat)] 58)) (w.heap.size + 1) #[.int .u8 (x0 : Nat), .int .u8 (x1 : Nat)] 58 from (by unfold BlkAt; (repeat (first | rw [Below.heap_alloc _ _ _ (by (first | omega | (simp only [zz]; omega) | (simp only [zz] at *; omega) | (simp; done) | (simp; omega)))])); exact heap_at (by (first | omega | (simp only [zz]; omega) | (simp only [zz] at *; omega) | (simp; done) | (simp; omega))))).ext hb_u1; have hZ : BlkAt u1 (w.heap.size + 1 + 1) #[.int .u8 (y0 : Nat), .int .u8 (y1 : Nat)] 58 := (show BlkAt (((w.alloc (.cells #[.slice A R.length c] 24)).alloc (.cells #[.int .u8 (x0 : Nat), .int .u8 (x1 : Nat)] 58)).alloc (.cells #[.int .u8 (y0 : Nat), .int .u8 (y1 : Nat)] 58)) (w.heap.size + 1 + 1) #[.int .u8 (y0 : Nat), .int .u8 (y1 : Nat)] 58 from (by unfold BlkAt; (repeat (first | rw [Below.heap_alloc _ _ _ (by (first | omega | (simp only [zz]; omega) | (simp only [zz] at *; omega) | (simp; done) | (simp; omega)))])); exact heap_at (by (first | omega | (simp only [zz]; omega) | (simp only [zz] at *; omega) | (simp; done) | (simp; omega))))).ext hb_u1; (try rw [hf]); have bel_u1 : Below w.heap.size w u1 := (by (repeat (first | exact Below.refl _ _ | assumption | refine below_drewN ?_ _ | refine below_drew ?_ | refine below_gr ?_ ?_ _ | refine below_alloc ?_ ?_ _ | refine Below.setCell ?_ ?_ _ | refine below_step ?_ (by assumption) ?_ | omega | (simp only [zz] at *; omega)))); clear hb_u1; have sz_u1 := bel_u1.size; replace hA := hA.ext bel_u1; replace hB := hB.ext bel_u1; (try clear hXc0 hXf hXl); have hXc0 := obj_at hX 0 _ rfl; have hXf := obj_fz hX 0; have hXl := obj_lt hX; (try clear hYc0 hYc1 hYf hYl); have hYc0 := obj_at hY 0 _ rfl; have hYc1 := obj_at hY 1 _ rfl; have hYf := obj_fz hY 0; have hYl := obj_lt hY; (try clear hZc0 hZc1 hZf hZl); have hZc0 := obj_at hZ 0 _ rfl; have hZc1 := obj_at hZ 1 _ rfl; have hZf := obj_fz hZ 0; have hZl := obj_lt hZ; have hW := bel_u1; clear bel_u1; have tok1 : True := trivial)
    | (clear tok1; go_at_call 20; refine (works_any _).mono ?_; rintro e u2 ⟨rfl, hb_u2⟩; replace hb_u2 := ex_below hb_u2; have bel_u2 : Below u1.heap.size u1 u2 := (by (repeat (first | exact Below.refl _ _ | assumption | refine below_drewN ?_ _ | refine below_drew ?_ | refine below_gr ?_ ?_ _ | refine below_alloc ?_ ?_ _ | refine Below.setCell ?_ ?_ _ | refine below_step ?_ (by assumption) ?_ | omega | (simp only [zz] at *; omega)))); clear hb_u2; have sz_u2 := bel_u2.size; replace hA := hA.ext bel_u2; replace hB := hB.ext bel_u2; replace hX := hX.ext bel_u2; replace hY := hY.ext bel_u2; replace hZ := hZ.ext bel_u2; replace hW := below_step hW bel_u2 (by have := hW.size; omega); (try clear hXc0 hXf hXl); have hXc0 := obj_at hX 0 _ rfl; have hXf := obj_fz hX 0; have hXl := obj_lt hX; (try clear hYc0 hYc1 hYf hYl); have hYc0 := obj_at hY 0 _ rfl; have hYc1 := obj_at hY 1 _ rfl; have hYf := obj_fz hY 0; have hYl := obj_lt hY; (try clear hZc0 hZc1 hZf hZl); have hZc0 := obj_at hZ 0 _ rfl; have hZc1 := obj_at hZ 1 _ rfl; have hZf := obj_fz hZ 0; have hZl := obj_lt hZ; clear bel_u2; have tok2 : True := trivial))

    go_ret
    exact gives_of rfl hW
  | true =>
    obtain ⟨R1, ts1, rfl, rfl, hok, hgr, hwd⟩ := fine_ok hf
    have HF := hide (fun w' (h1 : I64 w' A (zs R1)) (h2 : Tks w' B (tz ts1)) => by
      have := fine_any A (zs R1) c B (tz ts1) d w' h1 h2 hl9 hd hd9 hts9
      rw [hf, zs_len, tz_len] at this
      exact this)
    rw [zs_len, tz_len]
    clear hf hts9
    have hR5 := hok.h5
    have ht10 := hok.t10
    have hR5i : (R1.length : Int) ≤ 5 := by omega
    have ht10i : (ts1.length : Int) ≤ 10 := by omega
    skip
    have hR1 := hok.h1
    have hr0 : (R1.length : Int) ≠ 0 := by omega
    have hrn : ¬ R1.length = 0 := by omega
    have hxa8 : (x0 : Int) < 256 := by omega
    have hxb8 : (x1 : Int) < 256 := by omega
    have hya8 : (y0 : Int) < 256 := by omega
    have hyb8 : (y1 : Int) < 256 := by omega
    have hwa8 : IntKind.i64.wrap (x0 : Nat) = ((x0 : Nat) : Int) := by rw [IntKind.wrap_i64]; omega
    have hwb8 : IntKind.i64.wrap (x1 : Nat) = ((x1 : Nat) : Int) := by rw [IntKind.wrap_i64]; omega
    have hwp8 : IntKind.i64.wrap (y0 : Nat) = ((y0 : Nat) : Int) := by rw [IntKind.wrap_i64]; omega
    have hwq8 : IntKind.i64.wrap (y1 : Nat) = ((y1 : Nat) : Int) := by rw [IntKind.wrap_i64]; omega
    have hqa : ((x0 : Nat) : Int).tmod (R1.length : Int) = ((x0 % R1.length : Nat) : Int) := by rw [Int.tmod_eq_emod_of_nonneg (by omega)]; simp
    have hqb : ((x1 : Nat) : Int).tmod (R1.length : Int) = ((x1 % R1.length : Nat) : Int) := by rw [Int.tmod_eq_emod_of_nonneg (by omega)]; simp
    have hal : x0 % R1.length < R1.length := Nat.mod_lt _ (by omega)
    have hbl : x1 % R1.length < R1.length := Nat.mod_lt _ (by omega)
    generalize x0 % R1.length = a at *
    generalize x1 % R1.length = b at *
    have hna1 := hok.r1 _ (List.getElem_mem hal)
    have hna6 := hok.r6 _ (List.getElem_mem hal)
    have hnb6 := hok.r6 _ (List.getElem_mem hbl)
    obtain ⟨na, hna⟩ : ∃ na, R1[a] = na := ⟨_, rfl⟩
    obtain ⟨nb, hnb⟩ : ∃ nb, R1[b] = nb := ⟨_, rfl⟩
    rw [hna] at hna1 hna6
    rw [hnb] at hnb6
    have HNA := hide hna
    have HNB := hide hnb
    clear hna hnb
    have hqp : ((y0 : Nat) : Int).tmod (na : Int) = ((y0 % na : Nat) : Int) := by rw [Int.tmod_eq_emod_of_nonneg (by omega)]; simp
    have hqq : ((y1 : Nat) : Int).tmod (na : Int) = ((y1 % na : Nat) : Int) := by rw [Int.tmod_eq_emod_of_nonneg (by omega)]; simp
    have hpl : y0 % na < na := Nat.mod_lt _ (by omega)
    have hql : y1 % na < na := Nat.mod_lt _ (by omega)
    generalize y0 % na = p at *
    generalize y1 % na = q at *
    have hna0 : (na : Int) ≠ 0 := by omega
    have hnan : ¬ na = 0 := by omega
    have hai : (a : Int) < (R1.length : Int) := by omega
    have hbi : (b : Int) < (R1.length : Int) := by omega
    obtain ⟨j0, jh, jz, js, jb⟩ := info_parts info3
    have tok0 : True := trivial
    go_enter Try.func10, Try.ntmps10
    go_wp2_with (first
    | (clear tok0; go_at_call 45; refine (HF.out _ (hA.ext (by (repeat (first | exact Below.refl _ _ | assumption | refine below_drewN ?_ _ | refine below_drew ?_ | refine below_gr ?_ ?_ _ | refine below_alloc ?_ ?_ _ | refine Below.setCell ?_ ?_ _ | refine below_step ?_ (by assumption) ?_ | omega | (simp only [zz] at *; omega))))) (hB.ext (by (repeat (first | exact Below.refl _ _ | assumption | refine below_drewN ?_ _ | refine below_drew ?_ | refine below_gr ?_ ?_ _ | refine below_alloc ?_ ?_ _ | refine Below.setCell ?_ ?_ _ | refine below_step ?_ (by assumption) ?_ | omega | (simp only [zz] at *; omega)))))).mono ?_; rintro e u1 ⟨rfl, hb_u1⟩; replace hb_u1 := ex_below hb_u1; have hX : BlkAt u1 w.heap.size #[.slice A R1.length c] 24 := (show BlkAt (((w.alloc (.cells #[.slice A R1.length c] 24)).alloc (.cells #[.int .u8 (x0 : Nat), .int .u8 (x1 : Nat)] 58)).alloc (.cells #[.int .u8 (y0 : Nat), .int .u8 (y1 : Nat)] 58)) w.heap.size #[.slice A R1.length c] 24 from (by unfold BlkAt; (repeat (first | rw [Below.heap_alloc _ _ _ (by (first | omega | (simp only [zz]; omega) | (simp only [zz] at *; omega) | (simp; done) | (simp; omega)))])); exact heap_at (by (first | omega | (simp only [zz]; omega) | (simp only [zz] at *; omega) | (simp; done) | (simp; omega))))).ext hb_u1; have hY : BlkAt u1 (w.heap.size + 1) #[.int .u8 (x0 : Nat), .int .u8 (x1 : Nat)] 58 := (show BlkAt (((w.alloc (.cells #[.slice A R1.length c] 24)).alloc (.cells #[.int .u8 (x0 : Nat), .int .u8 (x1 : Nat)] 58)).alloc (.cells #[.int .u8 (y0 : Nat), .int .u8 (y1 : Nat)] 58)) (w.heap.size + 1) #[.int .u8 (x0 : Nat), .int .u8 (x1 : Nat)] 58 from (by unfold BlkAt; (repeat (first | rw [Below.heap_alloc _ _ _ (by (first | omega | (simp only [zz]; omega) | (simp only [zz] at *; omega) | (simp; done) | (simp; omega)))])); exact heap_at (by (first | omega | (simp only [zz]; omega) | (simp only [zz] at *; omega) | (simp; done) | (simp; omega))))).ext hb_u1; have hZ : BlkAt u1 (w.heap.size + 1 + 1) #[.int .u8 (y0 : Nat), .int .u8 (y1 : Nat)] 58 := (show BlkAt (((w.alloc (.cells #[.slice A R1.length c] 24)).alloc (.cells #[.int .u8 (x0 : Nat), .int .u8 (x1 : Nat)] 58)).alloc (.cells #[.int .u8 (y0 : Nat), .int .u8 (y1 : Nat)] 58)) (w.heap.size + 1 + 1) #[.int .u8 (y0 : Nat), .int .u8 (y1 : Nat)] 58 from (by unfold BlkAt; (repeat (first | rw [Below.heap_alloc _ _ _ (by (first | omega | (simp only [zz]; omega) | (simp only [zz] at *; omega) | (simp; done) | (simp; omega)))])); exact heap_at (by (first | omega | (simp only [zz]; omega) | (simp only [zz] at *; omega) | (simp; done) | (simp; omega))))).ext hb_u1; skip; have bel_u1 : Below w.heap.size w u1 := (by (repeat (first | exact Below.refl _ _ | assumption | refine below_drewN ?_ _ | refine below_drew ?_ | refine below_gr ?_ ?_ _ | refine below_alloc ?_ ?_ _ | refine Below.setCell ?_ ?_ _ | refine below_step ?_ (by assumption) ?_ | omega | (simp only [zz] at *; omega)))); clear hb_u1; have sz_u1 := bel_u1.size; replace hA := hA.ext bel_u1; replace hB := hB.ext bel_u1; (try clear hXc0 hXf hXl); have hXc0 := obj_at hX 0 _ rfl; have hXf := obj_fz hX 0; have hXl := obj_lt hX; (try clear hYc0 hYc1 hYf hYl); have hYc0 := obj_at hY 0 _ rfl; have hYc1 := obj_at hY 1 _ rfl; have hYf := obj_fz hY 0; have hYl := obj_lt hY; (try clear hZc0 hZc1 hZf hZl); have hZc0 := obj_at hZ 0 _ rfl; have hZc1 := obj_at hZ 1 _ rfl; have hZf := obj_fz hZ 0; have hZl := obj_lt hZ; have hW := bel_u1; clear bel_u1; have tok1 : True := trivial))

    obtain ⟨ab, ao, rfl, hab⟩ := zsF hA (by omega)
    have ca := zsI hA hal
    have cb := zsI hA hbl
    rw [HNA.out] at ca
    rw [HNB.out] at cb
    clear tok1
    go_upto_region 3 with fail
    go_region_held3 (fun w' => w'.cell? ⟨w.heap.size, 0, none⟩ = some (.slice (some ⟨ab, ao, none⟩) R1.length c) ∧ w'.cell? ⟨w.heap.size + 1, 0, none⟩ = some (.int .u8 (x0 : Nat)) ∧ w'.cell? ⟨w.heap.size + 1, 1, none⟩ = some (.int .u8 (x1 : Nat))) (simp (maxDischargeDepth := 9) [*, World.cell?_alloc_some, World.cell?_setCell_far]) (fail)
    rename_i hHD
    clear hHD
    go_upto_region 4 with fail
    go_region_held3 (fun w' => w'.cell? ⟨w.heap.size, 0, none⟩ = some (.slice (some ⟨ab, ao, none⟩) R1.length c) ∧ w'.cell? ⟨w.heap.size + 1 + 1, 0, none⟩ = some (.int .u8 (y0 : Nat)) ∧ w'.cell? ⟨w.heap.size + 1 + 1, 1, none⟩ = some (.int .u8 (y1 : Nat)) ∧ w'.cell? ⟨ab, ao + a, none⟩ = some (.int .i64 (na : Nat))) (simp (maxDischargeDepth := 9) [*, World.cell?_alloc_some, World.cell?_setCell_far]) (fail)
    rename_i hHD
    clear hHD
    clear hwa8 hwb8 hwp8 hwq8 hqa hqb hqp hqq hxa8 hxb8 hya8 hyb8
    go_upto_region 5 with fail
    go_cut [15] from 83 to 87 (fun sx wx => ∃ (blk g c2 : Nat) (cs : Array Value), sx = .pointer (some ⟨blk, 0, none⟩) ∧ BlkAt wx blk #[.slice (some ⟨g, 0, none⟩) R1.length c2] 24 ∧ BlkAt wx g cs 3 ∧ Nums cs R1 ∧ blk ≠ g ∧ u1.heap.size ≤ blk ∧ u1.heap.size ≤ g ∧ R1.length ≤ c2 ∧ Below u1.heap.size u1 wx)
    case first =>
      as_aux_lemma =>
      go_wp2_with (first
    | (at_builtin; refine wpList_new _ rfl (.tmp 83) (.tmp 85) 22 rfl 3 j0 _ und22 jh jz js jb _ rfl (some ⟨ab, ao, none⟩) R1.length c ((zs R1).map (Value.int .i64)) rfl (by have := i64_rd (hA.ext (show Below u1.heap.size u1 ((u1.alloc (.cells #[] 3)).drew.drew) by (repeat (first | exact Below.refl _ _ | assumption | (refine below_gr ?_ (by (first | omega | (simp only [zz] at *; omega))) _) | (refine below_alloc ?_ (by (first | omega | (simp only [zz] at *; omega))) _) | (refine Below.setCell ?_ (by (first | omega | (simp only [zz] at *; omega))) _) | refine below_drewN ?_ _ | refine below_drew ?_ | (refine below_step ?_ (by assumption) (by (first | omega | (simp only [zz] at *; omega)))))))); rwa [zs_len] at this) (one_i64 _) hR1 (by omega) ?_; intro g c2 v5 cs hb5 hg5 hc5 hB5 hn5))
      have hs5 := hb5.size
      simp only [size_drew, World.size_alloc] at hs5 hg5
      have hb15 : Below u1.heap.size u1 v5 := by (repeat (first | exact Below.refl _ _ | assumption | (refine below_gr ?_ (by (first | omega | (simp only [zz] at *; omega))) _) | (refine below_alloc ?_ (by (first | omega | (simp only [zz] at *; omega))) _) | (refine Below.setCell ?_ (by (first | omega | (simp only [zz] at *; omega))) _) | refine below_drewN ?_ _ | refine below_drew ?_ | (refine below_step ?_ (by assumption) (by (first | omega | (simp only [zz] at *; omega))))))
      have hgl := obj_lt hB5
      go_meet
      exact ⟨_, g, c2, cs, rfl, heap_alloc_new _ _, hB5.ext (by (repeat (first | exact Below.refl _ _ | assumption | refine below_drewN ?_ _ | refine below_drew ?_ | refine below_gr ?_ ?_ _ | refine below_alloc ?_ ?_ _ | refine Below.setCell ?_ ?_ _ | refine below_step ?_ (by assumption) ?_ | omega | (simp only [zz] at *; omega)))), nums_of hn5, by omega, by omega, by omega, hc5, by (repeat (first | exact Below.refl _ _ | assumption | (refine below_gr ?_ (by (first | omega | (simp only [zz] at *; omega))) _) | (refine below_alloc ?_ (by (first | omega | (simp only [zz] at *; omega))) _) | (refine Below.setCell ?_ (by (first | omega | (simp only [zz] at *; omega))) _) | refine below_drewN ?_ _ | refine below_drew ?_ | (refine below_step ?_ (by assumption) (by (first | omega | (simp only [zz] at *; omega))))))⟩
    case rest =>
      as_aux_lemma =>
      obtain ⟨xb, g, c2, cs, rfl, hXs, hG, hnu, hxg, hxb, hgu, hcc, hbc⟩ := hcut
      obtain ⟨v6, hv6⟩ : ∃ v, v = wc := ⟨_, rfl⟩
      rw [← hv6] at hXs hG hbc ⊢
      have hb6 := hbc
      clear hv6
      have HA1 := hide hA
      have HB1 := hide hB
      have HX1 := hide hX
      have HY1 := hide hY
      have HZ1 := hide hZ
      have HW1 := hide hW
      have hxs0 := obj_at hXs 0 _ rfl
      have hxsf := obj_fz hXs 0
      have ya := obj_at hG a _ (hnu a na (by rw [List.getElem?_eq_getElem hal, HNA.out]))
      have yb := obj_at hG b _ (hnu b nb (by rw [List.getElem?_eq_getElem hbl, HNB.out]))
      have fa := obj_fz hG a
      have fb := obj_fz hG b
      have hG1 := set_obj hG a (.int .i64 (nb : Nat))
      have hnu1 := hnu.set a nb
      have yb1 : (v6.setCell ⟨g, a, none⟩ (.int .i64 (nb : Nat))).cell? ⟨g, b, none⟩ = some (.int .i64 (if a = b then nb else nb : Nat)) := obj_at hG1 b _ (by
        refine hnu1 b _ ?_
        rw [List.getElem?_set]
        by_cases e : a = b
        · subst e; rw [if_pos rfl, if_pos hal, if_pos rfl]
        · rw [if_neg e, List.getElem?_eq_getElem hbl, HNB.out, if_neg e])
      have fb1 := obj_fz hG1 b
      have hgx := hxg.symm
      go_upto_region 6 with fail
      go_cut [] from 88 to 105 (fun wx => BlkAt wx xb #[.slice (some ⟨g, 0, none⟩) R1.length c2] 24 ∧ (∃ cs2, BlkAt wx g cs2 3 ∧ Nums cs2 (Bm.swapL R1 a b)) ∧ Below u1.heap.size u1 wx)
      case first =>
        as_aux_lemma =>
        have HSW := hide (show Bm.swapL R1 a b = (R1.set a nb).set b na by unfold Bm.swapL; rw [getD_at _ _ hal, getD_at _ _ hbl, HNA.out, HNB.out])
        have k0 := hxs0
        have k1 := (obj_at (show BlkAt (v6.setCell ⟨g, a, none⟩ (.int .i64 (nb : Nat))) xb #[.slice (some ⟨g, 0, none⟩) R1.length c2] 24 from (Below.heap_setCell _ _ _ _ hxg).trans hXs) 0 _ rfl)
        have k2 := (obj_at (show BlkAt ((v6.setCell ⟨g, a, none⟩ (.int .i64 (nb : Nat))).setCell ⟨g, b, none⟩ (.int .i64 (na : Nat))) xb #[.slice (some ⟨g, 0, none⟩) R1.length c2] 24 from (Below.heap_setCell _ _ _ _ hxg).trans ((Below.heap_setCell _ _ _ _ hxg).trans hXs)) 0 _ rfl)
        refine wp_region_noPanic ?_
        refine wp_region_F [17] (fun w' => w'.cell? ⟨xb, 0, none⟩ = some (.slice (some ⟨g, 0, none⟩) R1.length c2)) (fun w' => w'.cell? ⟨g, a, none⟩ = some (.int .i64 (na : Nat)) ∧ w'.cell? ⟨g, b, none⟩ = some (.int .i64 (nb : Nat))) (by kernel_rfl) ?_
        have hS0 := k0
        have hS1 := And.intro ya yb
        refine wpAnyF_take0 (i := 0) (v := ?_) rfl rfl (by kernel_rfl) (by kernel_rfl) (by kernel_rfl) (fun _ _ _ h => h) (Or.inl ⟨by rfl, ?_⟩) hS0 (fun _ => hS1) ?_
        rotate_left
        · (intro ww hSw; (try dsimp only at hSw); go_simp; try with_reducible rfl)
        (try simp only [Act.put, List.getElem_toArray, List.getElem_cons_zero, List.getElem_cons_succ, List.setIfInBounds_toArray, List.set_cons_zero, List.set_cons_succ])
        refine wpAnyF_take0 (i := 1) (v := ?_) rfl rfl (by kernel_rfl) (by kernel_rfl) (by kernel_rfl) (fun _ _ _ h => h) (Or.inl ⟨by rfl, ?_⟩) hS0 (fun _ => hS1) ?_
        rotate_left
        · (intro ww hSw; (try dsimp only at hSw); go_simp; try with_reducible rfl)
        (try simp only [Act.put, List.getElem_toArray, List.getElem_cons_zero, List.getElem_cons_succ, List.setIfInBounds_toArray, List.set_cons_zero, List.set_cons_succ])
        refine wpAnyF_take0 (i := 2) (v := ?_) rfl rfl (by kernel_rfl) (by kernel_rfl) (by kernel_rfl) (fun _ _ _ h => h) (Or.inl ⟨by rfl, ?_⟩) hS0 (fun _ => hS1) ?_
        rotate_left
        · (intro ww hSw; (try dsimp only at hSw); go_simp; try with_reducible rfl)
        (try simp only [Act.put, List.getElem_toArray, List.getElem_cons_zero, List.getElem_cons_succ, List.setIfInBounds_toArray, List.set_cons_zero, List.set_cons_succ])
        refine wpAnyF_take0 (i := 3) (v := ?_) rfl rfl (by kernel_rfl) (by kernel_rfl) (by kernel_rfl) (fun _ _ _ h => h) (Or.inl ⟨by rfl, ?_⟩) hS0 (fun _ => hS1) ?_
        rotate_left
        · (intro ww hSw; (try dsimp only at hSw); go_simp; try with_reducible rfl)
        (try simp only [Act.put, List.getElem_toArray, List.getElem_cons_zero, List.getElem_cons_succ, List.setIfInBounds_toArray, List.set_cons_zero, List.set_cons_succ])
        refine wpAnyF_take0 (i := 4) (v := ?_) rfl rfl (by kernel_rfl) (by kernel_rfl) (by kernel_rfl) (fun _ _ _ h => h) (Or.inl ⟨by rfl, ?_⟩) hS0 (fun _ => hS1) ?_
        rotate_left
        · (intro ww hSw; (try dsimp only at hSw); go_simp; try with_reducible rfl)
        (try simp only [Act.put, List.getElem_toArray, List.getElem_cons_zero, List.getElem_cons_succ, List.setIfInBounds_toArray, List.set_cons_zero, List.set_cons_succ])
        refine wpAnyF_take0 (i := 5) (v := ?_) rfl rfl (by kernel_rfl) (by kernel_rfl) (by kernel_rfl) (fun _ _ _ h => h) (Or.inl ⟨by rfl, ?_⟩) hS0 (fun _ => hS1) ?_
        rotate_left
        · (intro ww hSw; (try dsimp only at hSw); go_simp; try with_reducible rfl)
        (try simp only [Act.put, List.getElem_toArray, List.getElem_cons_zero, List.getElem_cons_succ, List.setIfInBounds_toArray, List.set_cons_zero, List.set_cons_succ])
        refine wpAnyF_take0 (i := 6) (v := ?_) rfl rfl (by kernel_rfl) (by kernel_rfl) (by kernel_rfl) (fun _ _ _ h => h) (Or.inl ⟨by rfl, ?_⟩) hS0 (fun _ => hS1) ?_
        rotate_left
        · (intro ww hSw; (try dsimp only at hSw); go_simp; try with_reducible rfl)
        (try simp only [Act.put, List.getElem_toArray, List.getElem_cons_zero, List.getElem_cons_succ, List.setIfInBounds_toArray, List.set_cons_zero, List.set_cons_succ])
        refine wpAnyF_take0 (i := 7) (v := ?_) rfl rfl (by kernel_rfl) (by kernel_rfl) (by kernel_rfl) (fun _ _ _ h => h) (Or.inl ⟨by rfl, ?_⟩) hS0 (fun _ => hS1) ?_
        rotate_left
        · (intro ww hSw; (try dsimp only at hSw); go_simp; try with_reducible rfl)
        (try simp only [Act.put, List.getElem_toArray, List.getElem_cons_zero, List.getElem_cons_succ, List.setIfInBounds_toArray, List.set_cons_zero, List.set_cons_succ])
        refine wpAnyF_take0 (i := 8) (v := ?_) rfl rfl (by kernel_rfl) (by kernel_rfl) (by kernel_rfl) (fun _ _ _ h => h) (Or.inl ⟨by rfl, ?_⟩) hS0 (fun _ => hS1) ?_
        rotate_left
        · (intro ww hSw; (try dsimp only at hSw); go_simp; try with_reducible rfl)
        (try simp only [Act.put, List.getElem_toArray, List.getElem_cons_zero, List.getElem_cons_succ, List.setIfInBounds_toArray, List.set_cons_zero, List.set_cons_succ])
        refine wpAnyF_take0 (i := 9) (v := ?_) rfl rfl (by kernel_rfl) (by kernel_rfl) (by kernel_rfl) (fun _ _ _ h => h) (Or.inl ⟨by rfl, ?_⟩) hS0 (fun _ => hS1) ?_
        rotate_left
        · (intro ww hSw; (try dsimp only at hSw); go_simp; try with_reducible rfl)
        (try simp only [Act.put, List.getElem_toArray, List.getElem_cons_zero, List.getElem_cons_succ, List.setIfInBounds_toArray, List.set_cons_zero, List.set_cons_succ])
        refine wpAnyF_take1 (i := 10) (v := ?_) rfl rfl (by kernel_rfl) (by kernel_rfl) (by kernel_rfl) (by kernel_rfl) (fun _ _ _ h => h) (Or.inl ⟨by rfl, ?_⟩) hS0 (by kernel_rfl) hS1 ?_
        rotate_left
        · (intro ww hSw; (try dsimp only at hSw); go_simp; try with_reducible rfl)
        (try simp only [Act.put, List.getElem_toArray, List.getElem_cons_zero, List.getElem_cons_succ, List.setIfInBounds_toArray, List.set_cons_zero, List.set_cons_succ])
        refine wpAnyF_take0 (i := 11) (v := ?_) rfl rfl (by kernel_rfl) (by kernel_rfl) (by kernel_rfl) (fun _ _ _ h => h) (Or.inl ⟨by rfl, ?_⟩) hS0 (fun _ => hS1) ?_
        rotate_left
        · (intro ww hSw; (try dsimp only at hSw); go_simp; try with_reducible rfl)
        (try simp only [Act.put, List.getElem_toArray, List.getElem_cons_zero, List.getElem_cons_succ, List.setIfInBounds_toArray, List.set_cons_zero, List.set_cons_succ])
        refine wpAnyF_take0 (i := 12) (v := ?_) rfl rfl (by kernel_rfl) (by kernel_rfl) (by kernel_rfl) (fun _ _ _ h => h) (Or.inl ⟨by rfl, ?_⟩) hS0 (fun _ => hS1) ?_
        rotate_left
        · (intro ww hSw; (try dsimp only at hSw); go_simp; try with_reducible rfl)
        (try simp only [Act.put, List.getElem_toArray, List.getElem_cons_zero, List.getElem_cons_succ, List.setIfInBounds_toArray, List.set_cons_zero, List.set_cons_succ])
        refine wpAnyF_take0 (i := 13) (v := ?_) rfl rfl (by kernel_rfl) (by kernel_rfl) (by kernel_rfl) (fun _ _ _ h => h) (Or.inl ⟨by rfl, ?_⟩) hS0 (fun _ => hS1) ?_
        rotate_left
        · (intro ww hSw; (try dsimp only at hSw); go_simp; try with_reducible rfl)
        (try simp only [Act.put, List.getElem_toArray, List.getElem_cons_zero, List.getElem_cons_succ, List.setIfInBounds_toArray, List.set_cons_zero, List.set_cons_succ])
        refine wpAnyF_take0 (i := 14) (v := ?_) rfl rfl (by kernel_rfl) (by kernel_rfl) (by kernel_rfl) (fun _ _ _ h => h) (Or.inl ⟨by rfl, ?_⟩) hS0 (fun _ => hS1) ?_
        rotate_left
        · (intro ww hSw; (try dsimp only at hSw); go_simp; try with_reducible rfl)
        (try simp only [Act.put, List.getElem_toArray, List.getElem_cons_zero, List.getElem_cons_succ, List.setIfInBounds_toArray, List.set_cons_zero, List.set_cons_succ])
        refine wpAnyF_take1 (i := 15) (v := ?_) rfl rfl (by kernel_rfl) (by kernel_rfl) (by kernel_rfl) (by kernel_rfl) (fun _ _ _ h => h) (Or.inl ⟨by rfl, ?_⟩) hS0 (by kernel_rfl) hS1 ?_
        rotate_left
        · (intro ww hSw; (try dsimp only at hSw); go_simp; try with_reducible rfl)
        (try simp only [Act.put, List.getElem_toArray, List.getElem_cons_zero, List.getElem_cons_succ, List.setIfInBounds_toArray, List.set_cons_zero, List.set_cons_succ])
        refine wpAnyF_take0 (i := 16) (v := ?_) rfl rfl (by kernel_rfl) (by kernel_rfl) (by kernel_rfl) (fun _ _ _ h => h) (Or.inl ⟨by rfl, ?_⟩) hS0 (fun _ => hS1) ?_
        rotate_left
        · (intro ww hSw; (try dsimp only at hSw); go_simp; try with_reducible rfl)
        (try simp only [Act.put, List.getElem_toArray, List.getElem_cons_zero, List.getElem_cons_succ, List.setIfInBounds_toArray, List.set_cons_zero, List.set_cons_succ])
        refine wpAnyF_ready (rs := [17]) (by kernel_rfl) (by simp) ?_
        refine AllReadyF.cons rfl ?_ ?_
        · intro K' hK
          rw [if_pos (by rfl)]
          go_simp
          refine hK.out _ _ (k1) (fun h => nomatch (show false = true from h)) (fun _ => ?_)
          clear hK K' hS0
          have hS0 := k1
          (try simp only [Act.put, List.getElem_toArray, List.getElem_cons_zero, List.getElem_cons_succ, List.setIfInBounds_toArray, List.set_cons_zero, List.set_cons_succ])
          refine wpAnyF_take0 (i := 18) (v := ?_) rfl rfl (by kernel_rfl) (by kernel_rfl) (by kernel_rfl) (fun _ _ _ h => h) (Or.inl ⟨by rfl, ?_⟩) hS0 (fun h => nomatch (show false = true from h)) ?_
          rotate_left
          · (intro ww hSw; (try dsimp only at hSw); go_simp; try with_reducible rfl)
          (try simp only [Act.put, List.getElem_toArray, List.getElem_cons_zero, List.getElem_cons_succ, List.setIfInBounds_toArray, List.set_cons_zero, List.set_cons_succ])
          refine wpAnyF_ready (rs := [19]) (by kernel_rfl) (by simp) ?_
          refine AllReadyF.cons rfl ?_ ?_
          · intro K' hK
            rw [if_pos (by rfl)]
            go_simp
            refine hK.out _ _ (k2) (fun h => nomatch (show false = true from h)) (fun _ => ?_)
            clear hK K' hS0
            have hS0 := k2
            (try simp only [Act.put, List.getElem_toArray, List.getElem_cons_zero, List.getElem_cons_succ, List.setIfInBounds_toArray, List.set_cons_zero, List.set_cons_succ])
            refine wpAnyF_done (by kernel_rfl) ?_ _
            refine NoPanic.normal ?_
            go_wp2_with fail
            go_meet
            exact ⟨(Below.heap_setCell _ _ _ _ hxg).trans ((Below.heap_setCell _ _ _ _ hxg).trans hXs), ⟨_, set_obj hG1 b _, by have := hnu1.set b na; rw [← HSW.out] at this; exact this⟩, below_drew (Below.setCell (Below.setCell hb6 hgu _) hgu _)⟩
          exact AllReadyF.nil
        exact AllReadyF.nil
      case rest =>
        as_aux_lemma =>
        obtain ⟨hXs, ⟨cs3, hG3, hnu3⟩, hbc⟩ := hcut
        obtain ⟨v7, hv7⟩ : ∃ v, v = wc := ⟨_, rfl⟩
        rw [← hv7] at hXs hG3 hbc ⊢
        have hA := HA1.out.ext hbc
        have hB := HB1.out.ext hbc
        have hX := HX1.out.ext hbc
        have hW := below_step HW1.out hbc (by have := HW1.out.size; omega)
        have hI := nums_i64 hG3 hnu3
        clear hv7 HA1 HB1 HX1 HY1 HZ1 HW1 hG hG1 hG3 hnu hnu1 hnu3 hxs0 hxsf ya yb fa fb yb1 fb1 hgx hxg hxb hgu hb6 hbc ca cb hab hXc0 hXf hXl hYc0 hYc1 hYf hYl hZc0 hZc1 hZf hZl
        (try clear hXc0 hXf hXl)
        have hXc0 := obj_at hX 0 _ rfl
        have hXf := obj_fz hX 0
        have hXl := obj_lt hX
        (try clear hXsc0 hXsf hXsl)
        have hXsc0 := obj_at hXs 0 _ rfl
        have hXsf := obj_fz hXs 0
        have hXsl := obj_lt hXs
        have hsl := fun t (ht : t ∈ ts1) => Bm.isBox_len (hok.tb t ht)
        have hs64 := fun t (ht : t ∈ ts1) => box64 hok.r6 (hok.tb t ht)
        have HSL := hide hsl
        have HS64 := hide hs64
        clear hsl hs64
        go_wp2
        go_loopw [16, 17, 18] (fun t16 t17 t18 wr => ∃ (i : Nat) (rx ry : List Row) (OX OY : Option Addr) (ocx ocy : Nat), i ≤ ts1.length ∧ t18 = .int .i64 (i : Nat) ∧ t16 = .slice OX rx.length ocx ∧ t17 = .slice OY ry.length ocy ∧ TwoR v7 wr (.slice OX rx.length ocx) (.slice OY ry.length ocy) rx ry ∧ tksT rx = tz ((ts1.take i).map (turnX a b)) ∧ tksT ry = tz ((ts1.take i).map (turnY a p q))) (fun _ _ i _ => ts1.length - (intOf i).toNat)
        case atStart => exact ⟨0, [], [], none, none, 0, 0, Nat.zero_le _, rfl, rfl, rfl, TwoR.start v7, rfl, rfl⟩
        case round =>
          obtain ⟨i, rx, ry, OX, OY, ocx, ocy, hi, rfl, rfl, rfl, hTR, htx, hty⟩ := hrel
          obtain ⟨wp, rfl⟩ : ∃ wp, wp = wr := ⟨_, rfl⟩
          have hbp := hTR.bel
          by_cases hlt : i < ts1.length
          · as_aux_lemma =>
            have hii : (i : Int) < (ts1.length : Int) := by omega
            have hBp := hB.ext hbp
            obtain ⟨tb, tq, rfl, htb7⟩ := hB.form (by rw [tz_len]; omega)
            have htb : tb < wp.heap.size := Nat.lt_of_lt_of_le htb7 hbp.size
            obtain ⟨Sa, sc, q1, q2, q3, hS⟩ := hBp.at (k := i) (by rw [tz_len]; exact hlt)
            simp only [tz_at _ _ hlt, zs_len] at q1 q2 q3 hS
            have hsl := HSL.out _ (List.getElem_mem hlt)
            have hs64 := HS64.out _ (List.getElem_mem hlt)
            have htx2 : tz ((ts1.take (i + 1)).map (turnX a b)) = tz ((ts1.take i).map (turnX a b)) ++ tz [turnX a b ts1[i]] := by rw [take_snoc _ _ hlt, List.map_append]; unfold tz; rw [List.map_append]; rfl
            have hty2 : tz ((ts1.take (i + 1)).map (turnY a p q)) = tz ((ts1.take i).map (turnY a p q)) ++ tz [turnY a p q ts1[i]] := by rw [take_snoc _ _ hlt, List.map_append]; unfold tz; rw [List.map_append]; rfl
            rw [← htx] at htx2
            rw [← hty] at hty2
            have hrx : rx.length ≤ 10 := by have h := congrArg List.length htx; unfold tksT at h; rw [List.length_map, tz_len, List.length_map, List.length_take] at h; omega
            have hry : ry.length ≤ 10 := by have h := congrArg List.length hty; unfold tksT at h; rw [List.length_map, tz_len, List.length_map, List.length_take] at h; omega
            have HTX := hide htx2
            have HTY := hide hty2
            clear htx hty htx2 hty2
            generalize ts1[i] = t at *
            obtain ⟨S, uu⟩ : Bm.Tk := t
            simp only at q1 q2 q3 hS hsl hs64
            obtain ⟨sb, so, rfl, hsb⟩ := zsF hS (by omega)
            have hRD : Rd wp 1 (some ⟨sb, so, none⟩) S.length ((zs S).map (Value.int .i64)) := by have := i64_rd hS; rwa [zs_len] at this
            have hS1 : 0 < S.length := by omega
            have hS5 : S.length ≤ 1000 := by omega
            have haS : a < S.length := by omega
            have hbS : b < S.length := by omega
            have haSi : (a : Int) < (S.length : Int) := by omega
            have hbSi : (b : Int) < (S.length : Int) := by omega
            have hsa64 := hs64 _ (List.getElem_mem haS)
            obtain ⟨sva, hsva⟩ : ∃ v, S[a] = v := ⟨_, rfl⟩
            obtain ⟨svb, hsvb⟩ : ∃ v, S[b] = v := ⟨_, rfl⟩
            rw [hsva] at hsa64
            have HSA := hide hsva
            have HSB := hide hsvb
            have HLS := hide hsl
            clear hs64 hsva hsvb hsl
            go_upto_region 11 with fail
            go_cut [19, 20] from 112 to 125 (fun sx sy wx => ∃ (bs bt cs ct : Nat) (ms mt : Array Value), sx = .slice (some ⟨bs, 0, none⟩) S.length cs ∧ sy = .slice (some ⟨bt, 0, none⟩) S.length ct ∧ BlkAt wx bs ms 3 ∧ BlkAt wx bt mt 3 ∧ Nums ms S ∧ Nums mt S ∧ bs ≠ bt ∧ wp.heap.size ≤ bs ∧ wp.heap.size ≤ bt ∧ S.length ≤ cs ∧ S.length ≤ ct ∧ Below wp.heap.size wp wx)
            case first =>
              as_aux_lemma =>
              refine wp_region_noPanic ?_
              refine wp_region_held_drew (S := fun w' => w'.cell? ⟨tb, tq + i * 2, none⟩ = some (.slice (some ⟨sb, so, none⟩) S.length sc)) (by kernel_rfl) ?_ (fun hHeld => ?_)
              · (try dsimp only)
                (simp (maxDischargeDepth := 9) [*, World.cell?_alloc_some, World.cell?_setCell_far])
              refine wpAnyH_take (i := 1) (v := ?_) rfl (by kernel_rfl) (by kernel_rfl) (by kernel_rfl) (fun _ _ _ h => h) (Or.inl ⟨by rfl, ?_⟩) hHeld ?_
              rotate_left
              · (intro ww hSw; (try dsimp only at hSw); go_simp; try with_reducible rfl)
              (try simp only [Act.put, List.getElem_toArray, List.getElem_cons_zero, List.getElem_cons_succ, List.setIfInBounds_toArray, List.set_cons_zero, List.set_cons_succ])
              refine wpAnyH_take (i := 2) (v := ?_) rfl (by kernel_rfl) (by kernel_rfl) (by kernel_rfl) (fun _ _ _ h => h) (Or.inl ⟨by rfl, ?_⟩) hHeld ?_
              rotate_left
              · (intro ww hSw; (try dsimp only at hSw); go_simp; try with_reducible rfl)
              (try simp only [Act.put, List.getElem_toArray, List.getElem_cons_zero, List.getElem_cons_succ, List.setIfInBounds_toArray, List.set_cons_zero, List.set_cons_succ])
              refine wpAnyH_take (i := 3) (v := ?_) rfl (by kernel_rfl) (by kernel_rfl) (by kernel_rfl) (fun _ _ _ h => h) (Or.inl ⟨by rfl, ?_⟩) hHeld ?_
              rotate_left
              · (intro ww hSw; (try dsimp only at hSw); go_simp; try with_reducible rfl)
              (try simp only [Act.put, List.getElem_toArray, List.getElem_cons_zero, List.getElem_cons_succ, List.setIfInBounds_toArray, List.set_cons_zero, List.set_cons_succ])
              refine wpAnyH_take (i := 4) (v := ?_) rfl (by kernel_rfl) (by kernel_rfl) (by kernel_rfl) (fun _ _ _ h => h) (Or.inl ⟨by rfl, ?_⟩) hHeld ?_
              rotate_left
              · (intro ww hSw; (try dsimp only at hSw); go_simp; try with_reducible rfl)
              (try simp only [Act.put, List.getElem_toArray, List.getElem_cons_zero, List.getElem_cons_succ, List.setIfInBounds_toArray, List.set_cons_zero, List.set_cons_succ])
              refine wpAnyH_take (i := 5) (v := ?_) rfl (by kernel_rfl) (by kernel_rfl) (by kernel_rfl) (fun _ _ _ h => h) (Or.inl ⟨by rfl, ?_⟩) hHeld ?_
              rotate_left
              · (intro ww hSw; (try dsimp only at hSw); go_simp; try with_reducible rfl)
              (try simp only [Act.put, List.getElem_toArray, List.getElem_cons_zero, List.getElem_cons_succ, List.setIfInBounds_toArray, List.set_cons_zero, List.set_cons_succ])
              refine wpAnyH_take (i := 8) (v := ?_) rfl (by kernel_rfl) (by kernel_rfl) (by kernel_rfl) (fun _ _ _ h => h) (Or.inl ⟨by rfl, ?_⟩) hHeld ?_
              rotate_left
              · (intro ww hSw; (try dsimp only at hSw); go_simp; try with_reducible rfl)
              (try simp only [Act.put, List.getElem_toArray, List.getElem_cons_zero, List.getElem_cons_succ, List.setIfInBounds_toArray, List.set_cons_zero, List.set_cons_succ])
              refine wpAnyH_take (i := 9) (v := ?_) rfl (by kernel_rfl) (by kernel_rfl) (by kernel_rfl) (fun _ _ _ h => h) (Or.inl ⟨by rfl, ?_⟩) hHeld ?_
              rotate_left
              · (intro ww hSw; (try dsimp only at hSw); go_simp; try with_reducible rfl)
              (try simp only [Act.put, List.getElem_toArray, List.getElem_cons_zero, List.getElem_cons_succ, List.setIfInBounds_toArray, List.set_cons_zero, List.set_cons_succ])
              refine wpAnyH_take (i := 10) (v := ?_) rfl (by kernel_rfl) (by kernel_rfl) (by kernel_rfl) (fun _ _ _ h => h) (Or.inl ⟨by rfl, ?_⟩) hHeld ?_
              rotate_left
              · (intro ww hSw; (try dsimp only at hSw); go_simp; try with_reducible rfl)
              (try simp only [Act.put, List.getElem_toArray, List.getElem_cons_zero, List.getElem_cons_succ, List.setIfInBounds_toArray, List.set_cons_zero, List.set_cons_succ])
              refine wpAnyH_take (i := 11) (v := ?_) rfl (by kernel_rfl) (by kernel_rfl) (by kernel_rfl) (fun _ _ _ h => h) (Or.inl ⟨by rfl, ?_⟩) hHeld ?_
              rotate_left
              · (intro ww hSw; (try dsimp only at hSw); go_simp; try with_reducible rfl)
              (try simp only [Act.put, List.getElem_toArray, List.getElem_cons_zero, List.getElem_cons_succ, List.setIfInBounds_toArray, List.set_cons_zero, List.set_cons_succ])
              refine wpAnyH_take (i := 12) (v := ?_) rfl (by kernel_rfl) (by kernel_rfl) (by kernel_rfl) (fun _ _ _ h => h) (Or.inl ⟨by rfl, ?_⟩) hHeld ?_
              rotate_left
              · (intro ww hSw; (try dsimp only at hSw); go_simp; try with_reducible rfl)
              (try simp only [Act.put, List.getElem_toArray, List.getElem_cons_zero, List.getElem_cons_succ, List.setIfInBounds_toArray, List.set_cons_zero, List.set_cons_succ])
              refine wpAnyH_ready (rs := [0, 7]) (by kernel_rfl) (by simp) ?_
              refine AllReadyH.cons rfl ?_ ?_
              · intro K' hK
                rw [if_pos (by rfl)]
                go_simp
                refine hK.out _ _ ?_ (fun hHeld2 => ?_)
                · (try dsimp only)
                  (simp (maxDischargeDepth := 9) [*, World.cell?_alloc_some, World.cell?_setCell_far])
                clear hK K' hHeld
                have hHeld := hHeld2
                clear hHeld2
                (try simp only [Act.put, List.getElem_toArray, List.getElem_cons_zero, List.getElem_cons_succ, List.setIfInBounds_toArray, List.set_cons_zero, List.set_cons_succ])
                refine wpAnyH_ready (rs := [6, 7]) (by kernel_rfl) (by simp) ?_
                refine AllReadyH.cons rfl ?_ ?_
                · intro K' hK
                  refine step_new _ rfl (.tmp 112) (.tmp 117) 22 rfl 3 j0 _ und22 jh jz js jb _ rfl (some ⟨sb, so, none⟩) S.length sc ((zs S).map (Value.int .i64)) rfl (hRD.ext (by (repeat (first | exact Below.refl _ _ | assumption | refine below_drewN ?_ _ | refine below_drew ?_ | refine below_gr ?_ ?_ _ | refine below_alloc ?_ ?_ _ | refine Below.setCell ?_ ?_ _ | refine below_step ?_ (by assumption) ?_ | omega | (simp only [zz] at *; omega))))) (one_i64 _) hS1 hS5 ?_
                  intro b6 c6 w6 m6 hb6 hge6 hcc6 hB6 hn6
                  have hsz6 := hb6.size
                  (try simp only [size_drew, World.size_alloc] at hsz6 hge6)
                  have hlt6 := obj_lt hB6
                  have hbw6 : Below wp.heap.size wp w6 := by (repeat (first | exact Below.refl _ _ | assumption | (refine below_gr ?_ (by (first | omega | (simp only [zz] at *; omega))) _) | (refine below_alloc ?_ (by (first | omega | (simp only [zz] at *; omega))) _) | (refine Below.setCell ?_ (by (first | omega | (simp only [zz] at *; omega))) _) | refine below_drewN ?_ _ | refine below_drew ?_ | (refine below_step ?_ (by assumption) (by (first | omega | (simp only [zz] at *; omega))))))
                  refine hK.out _ _ ((hbw6.cell (p := ⟨tb, tq + i * 2, none⟩) htb).trans q1) (fun hHeld2 => ?_)
                  clear hK K' hHeld
                  have hHeld := hHeld2
                  clear hHeld2
                  (try simp only [Act.put, List.getElem_toArray, List.getElem_cons_zero, List.getElem_cons_succ, List.setIfInBounds_toArray, List.set_cons_zero, List.set_cons_succ])
                  refine wpAnyH_ready (rs := [7]) (by kernel_rfl) (by simp) ?_
                  refine AllReadyH.cons rfl ?_ ?_
                  · intro K' hK
                    rw [if_pos (by rfl)]
                    go_simp
                    refine hK.out _ _ ?_ (fun hHeld2 => ?_)
                    · (try dsimp only)
                      (simp (maxDischargeDepth := 9) [*, World.cell?_alloc_some, World.cell?_setCell_far])
                    clear hK K' hHeld
                    have hHeld := hHeld2
                    clear hHeld2
                    (try simp only [Act.put, List.getElem_toArray, List.getElem_cons_zero, List.getElem_cons_succ, List.setIfInBounds_toArray, List.set_cons_zero, List.set_cons_succ])
                    refine wpAnyH_ready (rs := [13]) (by kernel_rfl) (by simp) ?_
                    refine AllReadyH.cons rfl ?_ ?_
                    · intro K' hK
                      refine step_new _ rfl (.tmp 119) (.tmp 124) 22 rfl 3 j0 _ und22 jh jz js jb _ rfl (some ⟨sb, so, none⟩) S.length sc ((zs S).map (Value.int .i64)) rfl (hRD.ext (by (repeat (first | exact Below.refl _ _ | assumption | refine below_drewN ?_ _ | refine below_drew ?_ | refine below_gr ?_ ?_ _ | refine below_alloc ?_ ?_ _ | refine Below.setCell ?_ ?_ _ | refine below_step ?_ (by assumption) ?_ | omega | (simp only [zz] at *; omega))))) (one_i64 _) hS1 hS5 ?_
                      intro b13 c13 w13 m13 hb13 hge13 hcc13 hB13 hn13
                      have hsz13 := hb13.size
                      (try simp only [size_drew, World.size_alloc] at hsz13 hge13)
                      have hlt13 := obj_lt hB13
                      have hb613 : Below w6.heap.size w6 w13 := below_step (by (repeat (first | exact Below.refl _ _ | assumption | refine below_drewN ?_ _ | refine below_drew ?_ | refine below_gr ?_ ?_ _ | refine below_alloc ?_ ?_ _ | refine Below.setCell ?_ ?_ _ | refine below_step ?_ (by assumption) ?_ | omega | (simp only [zz] at *; omega)))) hb13 (by (first | omega | (simp only [zz]; omega) | (simp only [zz] at *; omega) | (simp; done) | (simp; omega)))
                      have hbw13 : Below wp.heap.size wp w13 := by (repeat (first | exact Below.refl _ _ | assumption | (refine below_gr ?_ (by (first | omega | (simp only [zz] at *; omega))) _) | (refine below_alloc ?_ (by (first | omega | (simp only [zz] at *; omega))) _) | (refine Below.setCell ?_ (by (first | omega | (simp only [zz] at *; omega))) _) | refine below_drewN ?_ _ | refine below_drew ?_ | (refine below_step ?_ (by assumption) (by (first | omega | (simp only [zz] at *; omega))))))
                      refine hK.out _ _ ((hbw13.cell (p := ⟨tb, tq + i * 2, none⟩) htb).trans q1) (fun hHeld2 => ?_)
                      clear hK K' hHeld
                      have hHeld := hHeld2
                      clear hHeld2
                      (try simp only [Act.put, List.getElem_toArray, List.getElem_cons_zero, List.getElem_cons_succ, List.setIfInBounds_toArray, List.set_cons_zero, List.set_cons_succ])
                      refine wpAnyH_take (i := 14) (v := ?_) rfl (by kernel_rfl) (by kernel_rfl) (by kernel_rfl) (fun _ _ _ h => h) (Or.inl ⟨by rfl, ?_⟩) hHeld ?_
                      rotate_left
                      · (intro ww hSw; (try dsimp only at hSw); go_simp; try with_reducible rfl)
                      (try simp only [Act.put, List.getElem_toArray, List.getElem_cons_zero, List.getElem_cons_succ, List.setIfInBounds_toArray, List.set_cons_zero, List.set_cons_succ])
                      refine wpAnyH_take (i := 15) (v := ?_) rfl (by kernel_rfl) (by kernel_rfl) (by kernel_rfl) (fun _ _ _ h => h) (Or.inl ⟨by rfl, ?_⟩) hHeld ?_
                      rotate_left
                      · (intro ww hSw; (try dsimp only at hSw); go_simp; try with_reducible rfl)
                      (try simp only [Act.put, List.getElem_toArray, List.getElem_cons_zero, List.getElem_cons_succ, List.setIfInBounds_toArray, List.set_cons_zero, List.set_cons_succ])
                      refine wpAnyH_done (by kernel_rfl) ?_ _
                      refine NoPanic.normal ?_
                      go_wp2_with fail
                      go_meet
                      exact ⟨b6, b13, c6, c13, m6, m13, rfl, rfl, hB6.ext hb613, hB13, nums_of hn6, nums_of hn13, by omega, by omega, by omega, hcc6, hcc13, hbw13⟩
                    exact AllReadyH.nil
                  exact AllReadyH.nil
                refine AllReadyH.cons rfl ?_ ?_
                · intro K' hK
                  rw [if_pos (by rfl)]
                  go_simp
                  refine hK.out _ _ ?_ (fun hHeld2 => ?_)
                  · (try dsimp only)
                    (simp (maxDischargeDepth := 9) [*, World.cell?_alloc_some, World.cell?_setCell_far])
                  clear hK K' hHeld
                  have hHeld := hHeld2
                  clear hHeld2
                  (try simp only [Act.put, List.getElem_toArray, List.getElem_cons_zero, List.getElem_cons_succ, List.setIfInBounds_toArray, List.set_cons_zero, List.set_cons_succ])
                  refine wpAnyH_ready (rs := [6]) (by kernel_rfl) (by simp) ?_
                  refine AllReadyH.cons rfl ?_ ?_
                  · intro K' hK
                    refine step_new _ rfl (.tmp 112) (.tmp 117) 22 rfl 3 j0 _ und22 jh jz js jb _ rfl (some ⟨sb, so, none⟩) S.length sc ((zs S).map (Value.int .i64)) rfl (hRD.ext (by (repeat (first | exact Below.refl _ _ | assumption | refine below_drewN ?_ _ | refine below_drew ?_ | refine below_gr ?_ ?_ _ | refine below_alloc ?_ ?_ _ | refine Below.setCell ?_ ?_ _ | refine below_step ?_ (by assumption) ?_ | omega | (simp only [zz] at *; omega))))) (one_i64 _) hS1 hS5 ?_
                    intro b6 c6 w6 m6 hb6 hge6 hcc6 hB6 hn6
                    have hsz6 := hb6.size
                    (try simp only [size_drew, World.size_alloc] at hsz6 hge6)
                    have hlt6 := obj_lt hB6
                    have hbw6 : Below wp.heap.size wp w6 := by (repeat (first | exact Below.refl _ _ | assumption | (refine below_gr ?_ (by (first | omega | (simp only [zz] at *; omega))) _) | (refine below_alloc ?_ (by (first | omega | (simp only [zz] at *; omega))) _) | (refine Below.setCell ?_ (by (first | omega | (simp only [zz] at *; omega))) _) | refine below_drewN ?_ _ | refine below_drew ?_ | (refine below_step ?_ (by assumption) (by (first | omega | (simp only [zz] at *; omega))))))
                    refine hK.out _ _ ((hbw6.cell (p := ⟨tb, tq + i * 2, none⟩) htb).trans q1) (fun hHeld2 => ?_)
                    clear hK K' hHeld
                    have hHeld := hHeld2
                    clear hHeld2
                    (try simp only [Act.put, List.getElem_toArray, List.getElem_cons_zero, List.getElem_cons_succ, List.setIfInBounds_toArray, List.set_cons_zero, List.set_cons_succ])
                    refine wpAnyH_ready (rs := [13]) (by kernel_rfl) (by simp) ?_
                    refine AllReadyH.cons rfl ?_ ?_
                    · intro K' hK
                      refine step_new _ rfl (.tmp 119) (.tmp 124) 22 rfl 3 j0 _ und22 jh jz js jb _ rfl (some ⟨sb, so, none⟩) S.length sc ((zs S).map (Value.int .i64)) rfl (hRD.ext (by (repeat (first | exact Below.refl _ _ | assumption | refine below_drewN ?_ _ | refine below_drew ?_ | refine below_gr ?_ ?_ _ | refine below_alloc ?_ ?_ _ | refine Below.setCell ?_ ?_ _ | refine below_step ?_ (by assumption) ?_ | omega | (simp only [zz] at *; omega))))) (one_i64 _) hS1 hS5 ?_
                      intro b13 c13 w13 m13 hb13 hge13 hcc13 hB13 hn13
                      have hsz13 := hb13.size
                      (try simp only [size_drew, World.size_alloc] at hsz13 hge13)
                      have hlt13 := obj_lt hB13
                      have hb613 : Below w6.heap.size w6 w13 := below_step (by (repeat (first | exact Below.refl _ _ | assumption | refine below_drewN ?_ _ | refine below_drew ?_ | refine below_gr ?_ ?_ _ | refine below_alloc ?_ ?_ _ | refine Below.setCell ?_ ?_ _ | refine below_step ?_ (by assumption) ?_ | omega | (simp only [zz] at *; omega)))) hb13 (by (first | omega | (simp only [zz]; omega) | (simp only [zz] at *; omega) | (simp; done) | (simp; omega)))
                      have hbw13 : Below wp.heap.size wp w13 := by (repeat (first | exact Below.refl _ _ | assumption | (refine below_gr ?_ (by (first | omega | (simp only [zz] at *; omega))) _) | (refine below_alloc ?_ (by (first | omega | (simp only [zz] at *; omega))) _) | (refine Below.setCell ?_ (by (first | omega | (simp only [zz] at *; omega))) _) | refine below_drewN ?_ _ | refine below_drew ?_ | (refine below_step ?_ (by assumption) (by (first | omega | (simp only [zz] at *; omega))))))
                      refine hK.out _ _ ((hbw13.cell (p := ⟨tb, tq + i * 2, none⟩) htb).trans q1) (fun hHeld2 => ?_)
                      clear hK K' hHeld
                      have hHeld := hHeld2
                      clear hHeld2
                      (try simp only [Act.put, List.getElem_toArray, List.getElem_cons_zero, List.getElem_cons_succ, List.setIfInBounds_toArray, List.set_cons_zero, List.set_cons_succ])
                      refine wpAnyH_take (i := 14) (v := ?_) rfl (by kernel_rfl) (by kernel_rfl) (by kernel_rfl) (fun _ _ _ h => h) (Or.inl ⟨by rfl, ?_⟩) hHeld ?_
                      rotate_left
                      · (intro ww hSw; (try dsimp only at hSw); go_simp; try with_reducible rfl)
                      (try simp only [Act.put, List.getElem_toArray, List.getElem_cons_zero, List.getElem_cons_succ, List.setIfInBounds_toArray, List.set_cons_zero, List.set_cons_succ])
                      refine wpAnyH_take (i := 15) (v := ?_) rfl (by kernel_rfl) (by kernel_rfl) (by kernel_rfl) (fun _ _ _ h => h) (Or.inl ⟨by rfl, ?_⟩) hHeld ?_
                      rotate_left
                      · (intro ww hSw; (try dsimp only at hSw); go_simp; try with_reducible rfl)
                      (try simp only [Act.put, List.getElem_toArray, List.getElem_cons_zero, List.getElem_cons_succ, List.setIfInBounds_toArray, List.set_cons_zero, List.set_cons_succ])
                      refine wpAnyH_done (by kernel_rfl) ?_ _
                      refine NoPanic.normal ?_
                      go_wp2_with fail
                      go_meet
                      exact ⟨b6, b13, c6, c13, m6, m13, rfl, rfl, hB6.ext hb613, hB13, nums_of hn6, nums_of hn13, by omega, by omega, by omega, hcc6, hcc13, hbw13⟩
                    exact AllReadyH.nil
                  exact AllReadyH.nil
                exact AllReadyH.nil
              refine AllReadyH.cons rfl ?_ ?_
              · intro K' hK
                rw [if_pos (by rfl)]
                go_simp
                refine hK.out _ _ ?_ (fun hHeld2 => ?_)
                · (try dsimp only)
                  (simp (maxDischargeDepth := 9) [*, World.cell?_alloc_some, World.cell?_setCell_far])
                clear hK K' hHeld
                have hHeld := hHeld2
                clear hHeld2
                (try simp only [Act.put, List.getElem_toArray, List.getElem_cons_zero, List.getElem_cons_succ, List.setIfInBounds_toArray, List.set_cons_zero, List.set_cons_succ])
                refine wpAnyH_ready (rs := [0]) (by kernel_rfl) (by simp) ?_
                refine AllReadyH.cons rfl ?_ ?_
                · intro K' hK
                  rw [if_pos (by rfl)]
                  go_simp
                  refine hK.out _ _ ?_ (fun hHeld2 => ?_)
                  · (try dsimp only)
                    (simp (maxDischargeDepth := 9) [*, World.cell?_alloc_some, World.cell?_setCell_far])
                  clear hK K' hHeld
                  have hHeld := hHeld2
                  clear hHeld2
                  (try simp only [Act.put, List.getElem_toArray, List.getElem_cons_zero, List.getElem_cons_succ, List.setIfInBounds_toArray, List.set_cons_zero, List.set_cons_succ])
                  refine wpAnyH_ready (rs := [6]) (by kernel_rfl) (by simp) ?_
                  refine AllReadyH.cons rfl ?_ ?_
                  · intro K' hK
                    refine step_new _ rfl (.tmp 112) (.tmp 117) 22 rfl 3 j0 _ und22 jh jz js jb _ rfl (some ⟨sb, so, none⟩) S.length sc ((zs S).map (Value.int .i64)) rfl (hRD.ext (by (repeat (first | exact Below.refl _ _ | assumption | refine below_drewN ?_ _ | refine below_drew ?_ | refine below_gr ?_ ?_ _ | refine below_alloc ?_ ?_ _ | refine Below.setCell ?_ ?_ _ | refine below_step ?_ (by assumption) ?_ | omega | (simp only [zz] at *; omega))))) (one_i64 _) hS1 hS5 ?_
                    intro b6 c6 w6 m6 hb6 hge6 hcc6 hB6 hn6
                    have hsz6 := hb6.size
                    (try simp only [size_drew, World.size_alloc] at hsz6 hge6)
                    have hlt6 := obj_lt hB6
                    have hbw6 : Below wp.heap.size wp w6 := by (repeat (first | exact Below.refl _ _ | assumption | (refine below_gr ?_ (by (first | omega | (simp only [zz] at *; omega))) _) | (refine below_alloc ?_ (by (first | omega | (simp only [zz] at *; omega))) _) | (refine Below.setCell ?_ (by (first | omega | (simp only [zz] at *; omega))) _) | refine below_drewN ?_ _ | refine below_drew ?_ | (refine below_step ?_ (by assumption) (by (first | omega | (simp only [zz] at *; omega))))))
                    refine hK.out _ _ ((hbw6.cell (p := ⟨tb, tq + i * 2, none⟩) htb).trans q1) (fun hHeld2 => ?_)
                    clear hK K' hHeld
                    have hHeld := hHeld2
                    clear hHeld2
                    (try simp only [Act.put, List.getElem_toArray, List.getElem_cons_zero, List.getElem_cons_succ, List.setIfInBounds_toArray, List.set_cons_zero, List.set_cons_succ])
                    refine wpAnyH_ready (rs := [13]) (by kernel_rfl) (by simp) ?_
                    refine AllReadyH.cons rfl ?_ ?_
                    · intro K' hK
                      refine step_new _ rfl (.tmp 119) (.tmp 124) 22 rfl 3 j0 _ und22 jh jz js jb _ rfl (some ⟨sb, so, none⟩) S.length sc ((zs S).map (Value.int .i64)) rfl (hRD.ext (by (repeat (first | exact Below.refl _ _ | assumption | refine below_drewN ?_ _ | refine below_drew ?_ | refine below_gr ?_ ?_ _ | refine below_alloc ?_ ?_ _ | refine Below.setCell ?_ ?_ _ | refine below_step ?_ (by assumption) ?_ | omega | (simp only [zz] at *; omega))))) (one_i64 _) hS1 hS5 ?_
                      intro b13 c13 w13 m13 hb13 hge13 hcc13 hB13 hn13
                      have hsz13 := hb13.size
                      (try simp only [size_drew, World.size_alloc] at hsz13 hge13)
                      have hlt13 := obj_lt hB13
                      have hb613 : Below w6.heap.size w6 w13 := below_step (by (repeat (first | exact Below.refl _ _ | assumption | refine below_drewN ?_ _ | refine below_drew ?_ | refine below_gr ?_ ?_ _ | refine below_alloc ?_ ?_ _ | refine Below.setCell ?_ ?_ _ | refine below_step ?_ (by assumption) ?_ | omega | (simp only [zz] at *; omega)))) hb13 (by (first | omega | (simp only [zz]; omega) | (simp only [zz] at *; omega) | (simp; done) | (simp; omega)))
                      have hbw13 : Below wp.heap.size wp w13 := by (repeat (first | exact Below.refl _ _ | assumption | (refine below_gr ?_ (by (first | omega | (simp only [zz] at *; omega))) _) | (refine below_alloc ?_ (by (first | omega | (simp only [zz] at *; omega))) _) | (refine Below.setCell ?_ (by (first | omega | (simp only [zz] at *; omega))) _) | refine below_drewN ?_ _ | refine below_drew ?_ | (refine below_step ?_ (by assumption) (by (first | omega | (simp only [zz] at *; omega))))))
                      refine hK.out _ _ ((hbw13.cell (p := ⟨tb, tq + i * 2, none⟩) htb).trans q1) (fun hHeld2 => ?_)
                      clear hK K' hHeld
                      have hHeld := hHeld2
                      clear hHeld2
                      (try simp only [Act.put, List.getElem_toArray, List.getElem_cons_zero, List.getElem_cons_succ, List.setIfInBounds_toArray, List.set_cons_zero, List.set_cons_succ])
                      refine wpAnyH_take (i := 14) (v := ?_) rfl (by kernel_rfl) (by kernel_rfl) (by kernel_rfl) (fun _ _ _ h => h) (Or.inl ⟨by rfl, ?_⟩) hHeld ?_
                      rotate_left
                      · (intro ww hSw; (try dsimp only at hSw); go_simp; try with_reducible rfl)
                      (try simp only [Act.put, List.getElem_toArray, List.getElem_cons_zero, List.getElem_cons_succ, List.setIfInBounds_toArray, List.set_cons_zero, List.set_cons_succ])
                      refine wpAnyH_take (i := 15) (v := ?_) rfl (by kernel_rfl) (by kernel_rfl) (by kernel_rfl) (fun _ _ _ h => h) (Or.inl ⟨by rfl, ?_⟩) hHeld ?_
                      rotate_left
                      · (intro ww hSw; (try dsimp only at hSw); go_simp; try with_reducible rfl)
                      (try simp only [Act.put, List.getElem_toArray, List.getElem_cons_zero, List.getElem_cons_succ, List.setIfInBounds_toArray, List.set_cons_zero, List.set_cons_succ])
                      refine wpAnyH_done (by kernel_rfl) ?_ _
                      refine NoPanic.normal ?_
                      go_wp2_with fail
                      go_meet
                      exact ⟨b6, b13, c6, c13, m6, m13, rfl, rfl, hB6.ext hb613, hB13, nums_of hn6, nums_of hn13, by omega, by omega, by omega, hcc6, hcc13, hbw13⟩
                    exact AllReadyH.nil
                  exact AllReadyH.nil
                exact AllReadyH.nil
              exact AllReadyH.nil
            case rest =>
              as_aux_lemma =>
              obtain ⟨bs, bt, cs, ct, ms, mt, rfl, rfl, hMs, hMt, hns, hnt, hst, hbs, hbt, hcs, hct, hbc⟩ := hcut
              obtain ⟨v11, hv11⟩ : ∃ v, v = wc := ⟨_, rfl⟩
              rw [← hv11] at hMs hMt hbc ⊢
              have hb11 := hbc
              clear hv11 hbc
              have ya := obj_at hMs a _ (hns a sva (by rw [List.getElem?_eq_getElem haS, HSA.out]))
              have yb := obj_at hMs b _ (hns b svb (by rw [List.getElem?_eq_getElem hbS, HSB.out]))
              have fa := obj_fz hMs a
              have fb := obj_fz hMs b
              have hG1 := set_obj hMs a (.int .i64 (svb : Nat))
              have hnu1 := hns.set a svb
              have yb1 : ∃ z : Nat, (v11.setCell ⟨bs, a, none⟩ (.int .i64 (svb : Nat))).cell? ⟨bs, b, none⟩ = some (.int .i64 (z : Nat)) := by
                by_cases e : a = b
                · exact ⟨svb, obj_at hG1 b _ (hnu1 b _ (by rw [List.getElem?_set, if_pos e, if_pos (by omega)]))⟩
                · exact ⟨svb, obj_at hG1 b _ (hnu1 b _ (by rw [List.getElem?_set, if_neg e, List.getElem?_eq_getElem hbS, HSB.out]))⟩
              obtain ⟨zb, yb1⟩ := yb1
              have fb1 := obj_fz hG1 b
              go_upto_region 12 with fail
              go_cut [] from 126 to 139 (fun wx => (∃ m2, BlkAt wx bs m2 3 ∧ Nums m2 (Bm.swapL S a b)) ∧ BlkAt wx bt mt 3 ∧ Below wp.heap.size wp wx)
              case first =>
                as_aux_lemma =>
                have HSW := hide (show Bm.swapL S a b = (S.set a svb).set b sva by unfold Bm.swapL; rw [getD_at _ _ haS, getD_at _ _ hbS, HSA.out, HSB.out])
                refine wp_region_noPanic ?_
                refine wp_region_F [13] (fun w' => True) (fun w' => w'.cell? ⟨bs, a, none⟩ = some (.int .i64 (sva : Nat)) ∧ w'.cell? ⟨bs, b, none⟩ = some (.int .i64 (svb : Nat))) (by kernel_rfl) ?_
                have hS0 := trivial
                have hS1 := And.intro ya yb
                refine wpAnyF_take0 (i := 0) (v := ?_) rfl rfl (by kernel_rfl) (by kernel_rfl) (by kernel_rfl) (fun _ _ _ h => h) (Or.inl ⟨by rfl, ?_⟩) hS0 (fun _ => hS1) ?_
                rotate_left
                · (intro ww hSw; (try dsimp only at hSw); go_simp; try with_reducible rfl)
                (try simp only [Act.put, List.getElem_toArray, List.getElem_cons_zero, List.getElem_cons_succ, List.setIfInBounds_toArray, List.set_cons_zero, List.set_cons_succ])
                refine wpAnyF_take0 (i := 1) (v := ?_) rfl rfl (by kernel_rfl) (by kernel_rfl) (by kernel_rfl) (fun _ _ _ h => h) (Or.inl ⟨by rfl, ?_⟩) hS0 (fun _ => hS1) ?_
                rotate_left
                · (intro ww hSw; (try dsimp only at hSw); go_simp; try with_reducible rfl)
                (try simp only [Act.put, List.getElem_toArray, List.getElem_cons_zero, List.getElem_cons_succ, List.setIfInBounds_toArray, List.set_cons_zero, List.set_cons_succ])
                refine wpAnyF_take0 (i := 2) (v := ?_) rfl rfl (by kernel_rfl) (by kernel_rfl) (by kernel_rfl) (fun _ _ _ h => h) (Or.inl ⟨by rfl, ?_⟩) hS0 (fun _ => hS1) ?_
                rotate_left
                · (intro ww hSw; (try dsimp only at hSw); go_simp; try with_reducible rfl)
                (try simp only [Act.put, List.getElem_toArray, List.getElem_cons_zero, List.getElem_cons_succ, List.setIfInBounds_toArray, List.set_cons_zero, List.set_cons_succ])
                refine wpAnyF_take0 (i := 3) (v := ?_) rfl rfl (by kernel_rfl) (by kernel_rfl) (by kernel_rfl) (fun _ _ _ h => h) (Or.inl ⟨by rfl, ?_⟩) hS0 (fun _ => hS1) ?_
                rotate_left
                · (intro ww hSw; (try dsimp only at hSw); go_simp; try with_reducible rfl)
                (try simp only [Act.put, List.getElem_toArray, List.getElem_cons_zero, List.getElem_cons_succ, List.setIfInBounds_toArray, List.set_cons_zero, List.set_cons_succ])
                refine wpAnyF_take0 (i := 4) (v := ?_) rfl rfl (by kernel_rfl) (by kernel_rfl) (by kernel_rfl) (fun _ _ _ h => h) (Or.inl ⟨by rfl, ?_⟩) hS0 (fun _ => hS1) ?_
                rotate_left
                · (intro ww hSw; (try dsimp only at hSw); go_simp; try with_reducible rfl)
                (try simp only [Act.put, List.getElem_toArray, List.getElem_cons_zero, List.getElem_cons_succ, List.setIfInBounds_toArray, List.set_cons_zero, List.set_cons_succ])
                refine wpAnyF_take0 (i := 5) (v := ?_) rfl rfl (by kernel_rfl) (by kernel_rfl) (by kernel_rfl) (fun _ _ _ h => h) (Or.inl ⟨by rfl, ?_⟩) hS0 (fun _ => hS1) ?_
                rotate_left
                · (intro ww hSw; (try dsimp only at hSw); go_simp; try with_reducible rfl)
                (try simp only [Act.put, List.getElem_toArray, List.getElem_cons_zero, List.getElem_cons_succ, List.setIfInBounds_toArray, List.set_cons_zero, List.set_cons_succ])
                refine wpAnyF_take0 (i := 6) (v := ?_) rfl rfl (by kernel_rfl) (by kernel_rfl) (by kernel_rfl) (fun _ _ _ h => h) (Or.inl ⟨by rfl, ?_⟩) hS0 (fun _ => hS1) ?_
                rotate_left
                · (intro ww hSw; (try dsimp only at hSw); go_simp; try with_reducible rfl)
                (try simp only [Act.put, List.getElem_toArray, List.getElem_cons_zero, List.getElem_cons_succ, List.setIfInBounds_toArray, List.set_cons_zero, List.set_cons_succ])
                refine wpAnyF_take1 (i := 7) (v := ?_) rfl rfl (by kernel_rfl) (by kernel_rfl) (by kernel_rfl) (by kernel_rfl) (fun _ _ _ h => h) (Or.inl ⟨by rfl, ?_⟩) hS0 (by kernel_rfl) hS1 ?_
                rotate_left
                · (intro ww hSw; (try dsimp only at hSw); go_simp; try with_reducible rfl)
                (try simp only [Act.put, List.getElem_toArray, List.getElem_cons_zero, List.getElem_cons_succ, List.setIfInBounds_toArray, List.set_cons_zero, List.set_cons_succ])
                refine wpAnyF_take0 (i := 8) (v := ?_) rfl rfl (by kernel_rfl) (by kernel_rfl) (by kernel_rfl) (fun _ _ _ h => h) (Or.inl ⟨by rfl, ?_⟩) hS0 (fun _ => hS1) ?_
                rotate_left
                · (intro ww hSw; (try dsimp only at hSw); go_simp; try with_reducible rfl)
                (try simp only [Act.put, List.getElem_toArray, List.getElem_cons_zero, List.getElem_cons_succ, List.setIfInBounds_toArray, List.set_cons_zero, List.set_cons_succ])
                refine wpAnyF_take0 (i := 9) (v := ?_) rfl rfl (by kernel_rfl) (by kernel_rfl) (by kernel_rfl) (fun _ _ _ h => h) (Or.inl ⟨by rfl, ?_⟩) hS0 (fun _ => hS1) ?_
                rotate_left
                · (intro ww hSw; (try dsimp only at hSw); go_simp; try with_reducible rfl)
                (try simp only [Act.put, List.getElem_toArray, List.getElem_cons_zero, List.getElem_cons_succ, List.setIfInBounds_toArray, List.set_cons_zero, List.set_cons_succ])
                refine wpAnyF_take0 (i := 10) (v := ?_) rfl rfl (by kernel_rfl) (by kernel_rfl) (by kernel_rfl) (fun _ _ _ h => h) (Or.inl ⟨by rfl, ?_⟩) hS0 (fun _ => hS1) ?_
                rotate_left
                · (intro ww hSw; (try dsimp only at hSw); go_simp; try with_reducible rfl)
                (try simp only [Act.put, List.getElem_toArray, List.getElem_cons_zero, List.getElem_cons_succ, List.setIfInBounds_toArray, List.set_cons_zero, List.set_cons_succ])
                refine wpAnyF_take1 (i := 11) (v := ?_) rfl rfl (by kernel_rfl) (by kernel_rfl) (by kernel_rfl) (by kernel_rfl) (fun _ _ _ h => h) (Or.inl ⟨by rfl, ?_⟩) hS0 (by kernel_rfl) hS1 ?_
                rotate_left
                · (intro ww hSw; (try dsimp only at hSw); go_simp; try with_reducible rfl)
                (try simp only [Act.put, List.getElem_toArray, List.getElem_cons_zero, List.getElem_cons_succ, List.setIfInBounds_toArray, List.set_cons_zero, List.set_cons_succ])
                refine wpAnyF_take0 (i := 12) (v := ?_) rfl rfl (by kernel_rfl) (by kernel_rfl) (by kernel_rfl) (fun _ _ _ h => h) (Or.inl ⟨by rfl, ?_⟩) hS0 (fun _ => hS1) ?_
                rotate_left
                · (intro ww hSw; (try dsimp only at hSw); go_simp; try with_reducible rfl)
                (try simp only [Act.put, List.getElem_toArray, List.getElem_cons_zero, List.getElem_cons_succ, List.setIfInBounds_toArray, List.set_cons_zero, List.set_cons_succ])
                refine wpAnyF_ready (rs := [13]) (by kernel_rfl) (by simp) ?_
                refine AllReadyF.cons rfl ?_ ?_
                · intro K' hK
                  rw [if_pos (by rfl)]
                  go_simp
                  refine hK.out _ _ (trivial) (fun h => nomatch (show false = true from h)) (fun _ => ?_)
                  clear hK K' hS0
                  have hS0 := trivial
                  (try simp only [Act.put, List.getElem_toArray, List.getElem_cons_zero, List.getElem_cons_succ, List.setIfInBounds_toArray, List.set_cons_zero, List.set_cons_succ])
                  refine wpAnyF_take0 (i := 14) (v := ?_) rfl rfl (by kernel_rfl) (by kernel_rfl) (by kernel_rfl) (fun _ _ _ h => h) (Or.inl ⟨by rfl, ?_⟩) hS0 (fun h => nomatch (show false = true from h)) ?_
                  rotate_left
                  · (intro ww hSw; (try dsimp only at hSw); go_simp; try with_reducible rfl)
                  (try simp only [Act.put, List.getElem_toArray, List.getElem_cons_zero, List.getElem_cons_succ, List.setIfInBounds_toArray, List.set_cons_zero, List.set_cons_succ])
                  refine wpAnyF_ready (rs := [15]) (by kernel_rfl) (by simp) ?_
                  refine AllReadyF.cons rfl ?_ ?_
                  · intro K' hK
                    rw [if_pos (by rfl)]
                    go_simp
                    refine hK.out _ _ (trivial) (fun h => nomatch (show false = true from h)) (fun _ => ?_)
                    clear hK K' hS0
                    have hS0 := trivial
                    (try simp only [Act.put, List.getElem_toArray, List.getElem_cons_zero, List.getElem_cons_succ, List.setIfInBounds_toArray, List.set_cons_zero, List.set_cons_succ])
                    refine wpAnyF_done (by kernel_rfl) ?_ _
                    refine NoPanic.normal ?_
                    go_wp2_with fail
                    go_meet
                    exact ⟨⟨_, set_obj hG1 b _, by have := hnu1.set b sva; rw [← HSW.out] at this; exact this⟩, (Below.heap_setCell _ _ _ _ hst.symm).trans ((Below.heap_setCell _ _ _ _ hst.symm).trans hMt), below_drew (Below.setCell (Below.setCell hb11 hbs _) hbs _)⟩
                  exact AllReadyF.nil
                exact AllReadyF.nil
              case rest =>
                as_aux_lemma =>
                obtain ⟨⟨m2, hMs2, hns2⟩, hMt2, hb12⟩ := hcut
                obtain ⟨v12, hv12⟩ : ∃ v, v = wc := ⟨_, rfl⟩
                rw [← hv12] at hMs2 hMt2 hb12 ⊢
                clear hv12 ya yb fa fb hG1 hnu1 yb1 fb1 hMs hMt hns
                have ya := obj_at hMt2 a _ (hnt a sva (by rw [List.getElem?_eq_getElem haS, HSA.out]))
                have fa := obj_fz hMt2 a
                go_upto_region 13 with fail
                go_cut [21, 22] from 140 to 153 (fun sx sy wx => sx = .int .i64 (bits BinOp.and .i64 ((sva : Int) / 2 ^ p) 1) ∧ sy = .int .i64 (bits BinOp.and .i64 ((sva : Int) / 2 ^ q) 1) ∧ wx = v12.drew)
                case first =>
                  as_aux_lemma =>
                  refine wp_region_noPanic ?_
                  refine wp_region_held_drew (S := fun w' => w'.cell? ⟨bt, a, none⟩ = some (.int .i64 (sva : Nat))) (by kernel_rfl) ?_ (fun hHeld => ?_)
                  · (try dsimp only)
                    (simp (maxDischargeDepth := 9) [*, World.cell?_alloc_some, World.cell?_setCell_far])
                  refine wpAnyH_take (i := 0) (v := ?_) rfl (by kernel_rfl) (by kernel_rfl) (by kernel_rfl) (fun _ _ _ h => h) (Or.inl ⟨by rfl, ?_⟩) hHeld ?_
                  rotate_left
                  · (intro ww hSw; (try dsimp only at hSw); go_simp; try with_reducible rfl)
                  (try simp only [Act.put, List.getElem_toArray, List.getElem_cons_zero, List.getElem_cons_succ, List.setIfInBounds_toArray, List.set_cons_zero, List.set_cons_succ])
                  refine wpAnyH_take (i := 1) (v := ?_) rfl (by kernel_rfl) (by kernel_rfl) (by kernel_rfl) (fun _ _ _ h => h) (Or.inl ⟨by rfl, ?_⟩) hHeld ?_
                  rotate_left
                  · (intro ww hSw; (try dsimp only at hSw); go_simp; try with_reducible rfl)
                  (try simp only [Act.put, List.getElem_toArray, List.getElem_cons_zero, List.getElem_cons_succ, List.setIfInBounds_toArray, List.set_cons_zero, List.set_cons_succ])
                  refine wpAnyH_take (i := 2) (v := ?_) rfl (by kernel_rfl) (by kernel_rfl) (by kernel_rfl) (fun _ _ _ h => h) (Or.inl ⟨by rfl, ?_⟩) hHeld ?_
                  rotate_left
                  · (intro ww hSw; (try dsimp only at hSw); go_simp; try with_reducible rfl)
                  (try simp only [Act.put, List.getElem_toArray, List.getElem_cons_zero, List.getElem_cons_succ, List.setIfInBounds_toArray, List.set_cons_zero, List.set_cons_succ])
                  refine wpAnyH_take (i := 3) (v := ?_) rfl (by kernel_rfl) (by kernel_rfl) (by kernel_rfl) (fun _ _ _ h => h) (Or.inl ⟨by rfl, ?_⟩) hHeld ?_
                  rotate_left
                  · (intro ww hSw; (try dsimp only at hSw); go_simp; try with_reducible rfl)
                  (try simp only [Act.put, List.getElem_toArray, List.getElem_cons_zero, List.getElem_cons_succ, List.setIfInBounds_toArray, List.set_cons_zero, List.set_cons_succ])
                  refine wpAnyH_take (i := 4) (v := ?_) rfl (by kernel_rfl) (by kernel_rfl) (by kernel_rfl) (fun _ _ _ h => h) (Or.inl ⟨by rfl, ?_⟩) hHeld ?_
                  rotate_left
                  · (intro ww hSw; (try dsimp only at hSw); go_simp; try with_reducible rfl)
                  (try simp only [Act.put, List.getElem_toArray, List.getElem_cons_zero, List.getElem_cons_succ, List.setIfInBounds_toArray, List.set_cons_zero, List.set_cons_succ])
                  refine wpAnyH_take (i := 5) (v := ?_) rfl (by kernel_rfl) (by kernel_rfl) (by kernel_rfl) (fun _ _ _ h => h) (Or.inl ⟨by rfl, ?_⟩) hHeld ?_
                  rotate_left
                  · (intro ww hSw; (try dsimp only at hSw); go_simp; try with_reducible rfl)
                  (try simp only [Act.put, List.getElem_toArray, List.getElem_cons_zero, List.getElem_cons_succ, List.setIfInBounds_toArray, List.set_cons_zero, List.set_cons_succ])
                  refine wpAnyH_take (i := 6) (v := ?_) rfl (by kernel_rfl) (by kernel_rfl) (by kernel_rfl) (fun _ _ _ h => h) (Or.inl ⟨by rfl, ?_⟩) hHeld ?_
                  rotate_left
                  · (intro ww hSw; (try dsimp only at hSw); go_simp; try with_reducible rfl)
                  (try simp only [Act.put, List.getElem_toArray, List.getElem_cons_zero, List.getElem_cons_succ, List.setIfInBounds_toArray, List.set_cons_zero, List.set_cons_succ])
                  refine wpAnyH_take (i := 7) (v := ?_) rfl (by kernel_rfl) (by kernel_rfl) (by kernel_rfl) (fun _ _ _ h => h) (Or.inl ⟨by rfl, ?_⟩) hHeld ?_
                  rotate_left
                  · (intro ww hSw; (try dsimp only at hSw); go_simp; try with_reducible rfl)
                  (try simp only [Act.put, List.getElem_toArray, List.getElem_cons_zero, List.getElem_cons_succ, List.setIfInBounds_toArray, List.set_cons_zero, List.set_cons_succ])
                  refine wpAnyH_take (i := 8) (v := ?_) rfl (by kernel_rfl) (by kernel_rfl) (by kernel_rfl) (fun _ _ _ h => h) (Or.inl ⟨by rfl, ?_⟩) hHeld ?_
                  rotate_left
                  · (intro ww hSw; (try dsimp only at hSw); go_simp; try with_reducible rfl)
                  (try simp only [Act.put, List.getElem_toArray, List.getElem_cons_zero, List.getElem_cons_succ, List.setIfInBounds_toArray, List.set_cons_zero, List.set_cons_succ])
                  refine wpAnyH_take (i := 9) (v := ?_) rfl (by kernel_rfl) (by kernel_rfl) (by kernel_rfl) (fun _ _ _ h => h) (Or.inl ⟨by rfl, ?_⟩) hHeld ?_
                  rotate_left
                  · (intro ww hSw; (try dsimp only at hSw); go_simp; try with_reducible rfl)
                  (try simp only [Act.put, List.getElem_toArray, List.getElem_cons_zero, List.getElem_cons_succ, List.setIfInBounds_toArray, List.set_cons_zero, List.set_cons_succ])
                  refine wpAnyH_take (i := 10) (v := ?_) rfl (by kernel_rfl) (by kernel_rfl) (by kernel_rfl) (fun _ _ _ h => h) (Or.inl ⟨by rfl, ?_⟩) hHeld ?_
                  rotate_left
                  · (intro ww hSw; (try dsimp only at hSw); go_simp; try with_reducible rfl)
                  (try simp only [Act.put, List.getElem_toArray, List.getElem_cons_zero, List.getElem_cons_succ, List.setIfInBounds_toArray, List.set_cons_zero, List.set_cons_succ])
                  refine wpAnyH_take (i := 11) (v := ?_) rfl (by kernel_rfl) (by kernel_rfl) (by kernel_rfl) (fun _ _ _ h => h) (Or.inl ⟨by rfl, ?_⟩) hHeld ?_
                  rotate_left
                  · (intro ww hSw; (try dsimp only at hSw); go_simp; try with_reducible rfl)
                  (try simp only [Act.put, List.getElem_toArray, List.getElem_cons_zero, List.getElem_cons_succ, List.setIfInBounds_toArray, List.set_cons_zero, List.set_cons_succ])
                  refine wpAnyH_take (i := 12) (v := ?_) rfl (by kernel_rfl) (by kernel_rfl) (by kernel_rfl) (fun _ _ _ h => h) (Or.inl ⟨by rfl, ?_⟩) hHeld ?_
                  rotate_left
                  · (intro ww hSw; (try dsimp only at hSw); go_simp; try with_reducible rfl)
                  (try simp only [Act.put, List.getElem_toArray, List.getElem_cons_zero, List.getElem_cons_succ, List.setIfInBounds_toArray, List.set_cons_zero, List.set_cons_succ])
                  refine wpAnyH_take (i := 13) (v := ?_) rfl (by kernel_rfl) (by kernel_rfl) (by kernel_rfl) (fun _ _ _ h => h) (Or.inl ⟨by rfl, ?_⟩) hHeld ?_
                  rotate_left
                  · (intro ww hSw; (try dsimp only at hSw); go_simp; try with_reducible rfl)
                  (try simp only [Act.put, List.getElem_toArray, List.getElem_cons_zero, List.getElem_cons_succ, List.setIfInBounds_toArray, List.set_cons_zero, List.set_cons_succ])
                  refine wpAnyH_take (i := 14) (v := ?_) rfl (by kernel_rfl) (by kernel_rfl) (by kernel_rfl) (fun _ _ _ h => h) (Or.inl ⟨by rfl, ?_⟩) hHeld ?_
                  rotate_left
                  · (intro ww hSw; (try dsimp only at hSw); go_simp; try with_reducible rfl)
                  (try simp only [Act.put, List.getElem_toArray, List.getElem_cons_zero, List.getElem_cons_succ, List.setIfInBounds_toArray, List.set_cons_zero, List.set_cons_succ])
                  refine wpAnyH_take (i := 15) (v := ?_) rfl (by kernel_rfl) (by kernel_rfl) (by kernel_rfl) (fun _ _ _ h => h) (Or.inl ⟨by rfl, ?_⟩) hHeld ?_
                  rotate_left
                  · (intro ww hSw; (try dsimp only at hSw); go_simp; try with_reducible rfl)
                  (try simp only [Act.put, List.getElem_toArray, List.getElem_cons_zero, List.getElem_cons_succ, List.setIfInBounds_toArray, List.set_cons_zero, List.set_cons_succ])
                  refine wpAnyH_done (by kernel_rfl) ?_ _
                  refine NoPanic.normal ?_
                  go_wp2_with fail
                  go_meet
                  exact ⟨rfl, rfl, rfl⟩
                case rest =>
                  as_aux_lemma =>
                  obtain ⟨rfl, rfl, hwx⟩ := hcut
                  rw [hwx]
                  clear hwx
                  go_upto_region 14 with fail
                  go_cut [] from 154 to 174 (fun wx => (∃ m3, BlkAt wx bt m3 3 ∧ Nums m3 (S.set a (Bm.swb p q (S.getD a 0)))) ∧ BlkAt wx bs m2 3 ∧ Below wp.heap.size wp wx)
                  case first =>
                    as_aux_lemma =>
                    refine wp_region_noPanic ?_
                    refine wp_region_F [21] (fun w' => True) (fun w' => w'.cell? ⟨bt, a, none⟩ = some (.int .i64 (sva : Nat))) (by kernel_rfl) ?_
                    have hS0 := trivial
                    have hS1 := ya
                    refine wpAnyF_take0 (i := 0) (v := ?_) rfl rfl (by kernel_rfl) (by kernel_rfl) (by kernel_rfl) (fun _ _ _ h => h) (Or.inl ⟨by rfl, ?_⟩) hS0 (fun _ => hS1) ?_
                    rotate_left
                    · (intro ww hSw; (try dsimp only at hSw); go_simp; try with_reducible rfl)
                    (try simp only [Act.put, List.getElem_toArray, List.getElem_cons_zero, List.getElem_cons_succ, List.setIfInBounds_toArray, List.set_cons_zero, List.set_cons_succ])
                    refine wpAnyF_take0 (i := 1) (v := ?_) rfl rfl (by kernel_rfl) (by kernel_rfl) (by kernel_rfl) (fun _ _ _ h => h) (Or.inl ⟨by rfl, ?_⟩) hS0 (fun _ => hS1) ?_
                    rotate_left
                    · (intro ww hSw; (try dsimp only at hSw); go_simp; try with_reducible rfl)
                    (try simp only [Act.put, List.getElem_toArray, List.getElem_cons_zero, List.getElem_cons_succ, List.setIfInBounds_toArray, List.set_cons_zero, List.set_cons_succ])
                    refine wpAnyF_take0 (i := 2) (v := ?_) rfl rfl (by kernel_rfl) (by kernel_rfl) (by kernel_rfl) (fun _ _ _ h => h) (Or.inl ⟨by rfl, ?_⟩) hS0 (fun _ => hS1) ?_
                    rotate_left
                    · (intro ww hSw; (try dsimp only at hSw); go_simp; try with_reducible rfl)
                    (try simp only [Act.put, List.getElem_toArray, List.getElem_cons_zero, List.getElem_cons_succ, List.setIfInBounds_toArray, List.set_cons_zero, List.set_cons_succ])
                    refine wpAnyF_take0 (i := 3) (v := ?_) rfl rfl (by kernel_rfl) (by kernel_rfl) (by kernel_rfl) (fun _ _ _ h => h) (Or.inl ⟨by rfl, ?_⟩) hS0 (fun _ => hS1) ?_
                    rotate_left
                    · (intro ww hSw; (try dsimp only at hSw); go_simp; try with_reducible rfl)
                    (try simp only [Act.put, List.getElem_toArray, List.getElem_cons_zero, List.getElem_cons_succ, List.setIfInBounds_toArray, List.set_cons_zero, List.set_cons_succ])
                    refine wpAnyF_take0 (i := 4) (v := ?_) rfl rfl (by kernel_rfl) (by kernel_rfl) (by kernel_rfl) (fun _ _ _ h => h) (Or.inl ⟨by rfl, ?_⟩) hS0 (fun _ => hS1) ?_
                    rotate_left
                    · (intro ww hSw; (try dsimp only at hSw); go_simp; try with_reducible rfl)
                    (try simp only [Act.put, List.getElem_toArray, List.getElem_cons_zero, List.getElem_cons_succ, List.setIfInBounds_toArray, List.set_cons_zero, List.set_cons_succ])
                    refine wpAnyF_take1 (i := 5) (v := ?_) rfl rfl (by kernel_rfl) (by kernel_rfl) (by kernel_rfl) (by kernel_rfl) (fun _ _ _ h => h) (Or.inl ⟨by rfl, ?_⟩) hS0 (by kernel_rfl) hS1 ?_
                    rotate_left
                    · (intro ww hSw; (try dsimp only at hSw); go_simp; try with_reducible rfl)
                    (try simp only [Act.put, List.getElem_toArray, List.getElem_cons_zero, List.getElem_cons_succ, List.setIfInBounds_toArray, List.set_cons_zero, List.set_cons_succ])
                    refine wpAnyF_take0 (i := 6) (v := ?_) rfl rfl (by kernel_rfl) (by kernel_rfl) (by kernel_rfl) (fun _ _ _ h => h) (Or.inl ⟨by rfl, ?_⟩) hS0 (fun _ => hS1) ?_
                    rotate_left
                    · (intro ww hSw; (try dsimp only at hSw); go_simp; try with_reducible rfl)
                    (try simp only [Act.put, List.getElem_toArray, List.getElem_cons_zero, List.getElem_cons_succ, List.setIfInBounds_toArray, List.set_cons_zero, List.set_cons_succ])
                    refine wpAnyF_take0 (i := 7) (v := ?_) rfl rfl (by kernel_rfl) (by kernel_rfl) (by kernel_rfl) (fun _ _ _ h => h) (Or.inl ⟨by rfl, ?_⟩) hS0 (fun _ => hS1) ?_
                    rotate_left
                    · (intro ww hSw; (try dsimp only at hSw); go_simp; try with_reducible rfl)
                    (try simp only [Act.put, List.getElem_toArray, List.getElem_cons_zero, List.getElem_cons_succ, List.setIfInBounds_toArray, List.set_cons_zero, List.set_cons_succ])
                    refine wpAnyF_take0 (i := 8) (v := ?_) rfl rfl (by kernel_rfl) (by kernel_rfl) (by kernel_rfl) (fun _ _ _ h => h) (Or.inl ⟨by rfl, ?_⟩) hS0 (fun _ => hS1) ?_
                    rotate_left
                    · (intro ww hSw; (try dsimp only at hSw); go_simp; try with_reducible rfl)
                    (try simp only [Act.put, List.getElem_toArray, List.getElem_cons_zero, List.getElem_cons_succ, List.setIfInBounds_toArray, List.set_cons_zero, List.set_cons_succ])
                    refine wpAnyF_take0 (i := 9) (v := ?_) rfl rfl (by kernel_rfl) (by kernel_rfl) (by kernel_rfl) (fun _ _ _ h => h) (Or.inl ⟨by rfl, ?_⟩) hS0 (fun _ => hS1) ?_
                    rotate_left
                    · (intro ww hSw; (try dsimp only at hSw); go_simp; try with_reducible rfl)
                    (try simp only [Act.put, List.getElem_toArray, List.getElem_cons_zero, List.getElem_cons_succ, List.setIfInBounds_toArray, List.set_cons_zero, List.set_cons_succ])
                    refine wpAnyF_take0 (i := 10) (v := ?_) rfl rfl (by kernel_rfl) (by kernel_rfl) (by kernel_rfl) (fun _ _ _ h => h) (Or.inl ⟨by rfl, ?_⟩) hS0 (fun _ => hS1) ?_
                    rotate_left
                    · (intro ww hSw; (try dsimp only at hSw); go_simp; try with_reducible rfl)
                    (try simp only [Act.put, List.getElem_toArray, List.getElem_cons_zero, List.getElem_cons_succ, List.setIfInBounds_toArray, List.set_cons_zero, List.set_cons_succ])
                    refine wpAnyF_take0 (i := 11) (v := ?_) rfl rfl (by kernel_rfl) (by kernel_rfl) (by kernel_rfl) (fun _ _ _ h => h) (Or.inl ⟨by rfl, ?_⟩) hS0 (fun _ => hS1) ?_
                    rotate_left
                    · (intro ww hSw; (try dsimp only at hSw); go_simp; try with_reducible rfl)
                    (try simp only [Act.put, List.getElem_toArray, List.getElem_cons_zero, List.getElem_cons_succ, List.setIfInBounds_toArray, List.set_cons_zero, List.set_cons_succ])
                    refine wpAnyF_take0 (i := 12) (v := ?_) rfl rfl (by kernel_rfl) (by kernel_rfl) (by kernel_rfl) (fun _ _ _ h => h) (Or.inl ⟨by rfl, ?_⟩) hS0 (fun _ => hS1) ?_
                    rotate_left
                    · (intro ww hSw; (try dsimp only at hSw); go_simp; try with_reducible rfl)
                    (try simp only [Act.put, List.getElem_toArray, List.getElem_cons_zero, List.getElem_cons_succ, List.setIfInBounds_toArray, List.set_cons_zero, List.set_cons_succ])
                    refine wpAnyF_take0 (i := 13) (v := ?_) rfl rfl (by kernel_rfl) (by kernel_rfl) (by kernel_rfl) (fun _ _ _ h => h) (Or.inl ⟨by rfl, ?_⟩) hS0 (fun _ => hS1) ?_
                    rotate_left
                    · (intro ww hSw; (try dsimp only at hSw); go_simp; try with_reducible rfl)
                    (try simp only [Act.put, List.getElem_toArray, List.getElem_cons_zero, List.getElem_cons_succ, List.setIfInBounds_toArray, List.set_cons_zero, List.set_cons_succ])
                    refine wpAnyF_take0 (i := 14) (v := ?_) rfl rfl (by kernel_rfl) (by kernel_rfl) (by kernel_rfl) (fun _ _ _ h => h) (Or.inl ⟨by rfl, ?_⟩) hS0 (fun _ => hS1) ?_
                    rotate_left
                    · (intro ww hSw; (try dsimp only at hSw); go_simp; try with_reducible rfl)
                    (try simp only [Act.put, List.getElem_toArray, List.getElem_cons_zero, List.getElem_cons_succ, List.setIfInBounds_toArray, List.set_cons_zero, List.set_cons_succ])
                    refine wpAnyF_take0 (i := 15) (v := ?_) rfl rfl (by kernel_rfl) (by kernel_rfl) (by kernel_rfl) (fun _ _ _ h => h) (Or.inl ⟨by rfl, ?_⟩) hS0 (fun _ => hS1) ?_
                    rotate_left
                    · (intro ww hSw; (try dsimp only at hSw); go_simp; try with_reducible rfl)
                    (try simp only [Act.put, List.getElem_toArray, List.getElem_cons_zero, List.getElem_cons_succ, List.setIfInBounds_toArray, List.set_cons_zero, List.set_cons_succ])
                    refine wpAnyF_take0 (i := 16) (v := ?_) rfl rfl (by kernel_rfl) (by kernel_rfl) (by kernel_rfl) (fun _ _ _ h => h) (Or.inl ⟨by rfl, ?_⟩) hS0 (fun _ => hS1) ?_
                    rotate_left
                    · (intro ww hSw; (try dsimp only at hSw); go_simp; try with_reducible rfl)
                    (try simp only [Act.put, List.getElem_toArray, List.getElem_cons_zero, List.getElem_cons_succ, List.setIfInBounds_toArray, List.set_cons_zero, List.set_cons_succ])
                    refine wpAnyF_take0 (i := 17) (v := ?_) rfl rfl (by kernel_rfl) (by kernel_rfl) (by kernel_rfl) (fun _ _ _ h => h) (Or.inl ⟨by rfl, ?_⟩) hS0 (fun _ => hS1) ?_
                    rotate_left
                    · (intro ww hSw; (try dsimp only at hSw); go_simp; try with_reducible rfl)
                    (try simp only [Act.put, List.getElem_toArray, List.getElem_cons_zero, List.getElem_cons_succ, List.setIfInBounds_toArray, List.set_cons_zero, List.set_cons_succ])
                    refine wpAnyF_take0 (i := 18) (v := ?_) rfl rfl (by kernel_rfl) (by kernel_rfl) (by kernel_rfl) (fun _ _ _ h => h) (Or.inl ⟨by rfl, ?_⟩) hS0 (fun _ => hS1) ?_
                    rotate_left
                    · (intro ww hSw; (try dsimp only at hSw); go_simp; try with_reducible rfl)
                    (try simp only [Act.put, List.getElem_toArray, List.getElem_cons_zero, List.getElem_cons_succ, List.setIfInBounds_toArray, List.set_cons_zero, List.set_cons_succ])
                    refine wpAnyF_take0 (i := 19) (v := ?_) rfl rfl (by kernel_rfl) (by kernel_rfl) (by kernel_rfl) (fun _ _ _ h => h) (Or.inl ⟨by rfl, ?_⟩) hS0 (fun _ => hS1) ?_
                    rotate_left
                    · (intro ww hSw; (try dsimp only at hSw); go_simp; try with_reducible rfl)
                    (try simp only [Act.put, List.getElem_toArray, List.getElem_cons_zero, List.getElem_cons_succ, List.setIfInBounds_toArray, List.set_cons_zero, List.set_cons_succ])
                    refine wpAnyF_take0 (i := 20) (v := ?_) rfl rfl (by kernel_rfl) (by kernel_rfl) (by kernel_rfl) (fun _ _ _ h => h) (Or.inl ⟨by rfl, ?_⟩) hS0 (fun _ => hS1) ?_
                    rotate_left
                    · (intro ww hSw; (try dsimp only at hSw); go_simp; try with_reducible rfl)
                    (try simp only [Act.put, List.getElem_toArray, List.getElem_cons_zero, List.getElem_cons_succ, List.setIfInBounds_toArray, List.set_cons_zero, List.set_cons_succ])
                    refine wpAnyF_ready (rs := [21]) (by kernel_rfl) (by simp) ?_
                    refine AllReadyF.cons rfl ?_ ?_
                    · intro K' hK
                      rw [if_pos (by rfl)]
                      go_simp
                      refine hK.out _ _ (trivial) (fun h => nomatch (show false = true from h)) (fun _ => ?_)
                      clear hK K' hS0
                      have hS0 := trivial
                      (try simp only [Act.put, List.getElem_toArray, List.getElem_cons_zero, List.getElem_cons_succ, List.setIfInBounds_toArray, List.set_cons_zero, List.set_cons_succ])
                      refine wpAnyF_done (by kernel_rfl) ?_ _
                      refine NoPanic.normal ?_
                      go_wp2_with fail
                      go_meet
                      have hv := swb_val6 (show p < 6 by omega) (show q < 6 by omega) hsa64
                      rw [hv]
                      exact ⟨⟨_, set_obj hMt2 a _, by have := hnt.set a (Bm.swb p q sva); rw [getD_at _ _ haS, HSA.out]; exact this⟩, (Below.heap_setCell _ _ _ _ hst).trans hMs2, below_drew (below_drew (Below.setCell hb12 hbt _))⟩
                    exact AllReadyF.nil
                  case rest =>
                    as_aux_lemma =>
                    obtain ⟨⟨m3, hMt3, hnt3⟩, hMs3, hb14⟩ := hcut
                    obtain ⟨v14, hv14⟩ : ∃ v, v = wc := ⟨_, rfl⟩
                    rw [← hv14] at hMt3 hMs3 hb14 ⊢
                    have hIs := nums_i64 hMs3 hns2
                    have hIt := nums_i64 hMt3 hnt3
                    have hT14 := hTR.ext hb14
                    have u14 := (hb14.cell (p := ⟨tb, tq + i * 2 + 1, none⟩) htb).trans q2
                    have htb14 : tb < v14.heap.size := Nat.lt_of_lt_of_le htb hb14.size
                    have hbs14 := obj_lt hMs3
                    have hbt14 := obj_lt hMt3
                    have fxs : Far (.slice OX rx.length ocx) bs := fun g hg => by have := (hTR.o1.lt g hg).2; omega
                    have fys : Far (.slice OY ry.length ocy) bs := fun g hg => by have := (hTR.o2.lt g hg).2; omega
                    have fxt : Far (.slice OX rx.length ocx) bt := fun g hg => by have := (hTR.o1.lt g hg).2; omega
                    have fyt : Far (.slice OY ry.length ocy) bt := fun g hg => by have := (hTR.o2.lt g hg).2; omega
                    have hlx : (zs (Bm.swapL S a b)).length = S.length := by rw [zs_len, Bm.swapL_len]
                    have hly : (zs (S.set a (Bm.swb p q (S.getD a 0)))).length = S.length := by rw [zs_len, List.length_set]
                    have HST : Hid (tz [turnX a b (S, uu)] = [(zs (Bm.swapL S a b), (uu : Int))]) := hide rfl
                    have HST2 : Hid (tz [turnY a p q (S, uu)] = [(zs (S.set a (Bm.swb p q (S.getD a 0))), (uu : Int))]) := hide rfl
                    generalize Bm.swapL S a b = SX at *
                    generalize S.set a (Bm.swb p q (S.getD a 0)) = SY at *
                    have CT := hide (fun (X : Option Addr) (n xc : Nat) w' => Ticket_any (uu : Nat) X n xc w')
                    obtain ⟨l0, lh, lz, ls, lb⟩ := info_parts info34
                    clear hv14 hMs3 hMt3 hns2 hnt3 hMs2 hMt2 hnt hb12 hb11 ya fa hS hRD hBp q1 q2 hsb
                    go_upto_region 15 with fail
                    have hIs14 := hIs
                    have hIt14 := hIt
                    refine wp_region_noPanic ?_
                    refine wp_region_held_drew (S := fun w' => w'.cell? ⟨tb, tq + i * 2 + 1, none⟩ = some (.int .i64 (uu : Nat))) (by kernel_rfl) ?_ (fun hHeld => ?_)
                    · (try dsimp only)
                      (simp (maxDischargeDepth := 9) [*, World.cell?_alloc_some, World.cell?_setCell_far])
                    refine wpAnyH_take (i := 0) (v := ?_) rfl (by kernel_rfl) (by kernel_rfl) (by kernel_rfl) (fun _ _ _ h => h) (Or.inl ⟨by rfl, ?_⟩) hHeld ?_
                    rotate_left
                    · (intro ww hSw; (try dsimp only at hSw); go_simp; try with_reducible rfl)
                    (try simp only [Act.put, List.getElem_toArray, List.getElem_cons_zero, List.getElem_cons_succ, List.setIfInBounds_toArray, List.set_cons_zero, List.set_cons_succ])
                    refine wpAnyH_take (i := 1) (v := ?_) rfl (by kernel_rfl) (by kernel_rfl) (by kernel_rfl) (fun _ _ _ h => h) (Or.inl ⟨by rfl, ?_⟩) hHeld ?_
                    rotate_left
                    · (intro ww hSw; (try dsimp only at hSw); go_simp; try with_reducible rfl)
                    (try simp only [Act.put, List.getElem_toArray, List.getElem_cons_zero, List.getElem_cons_succ, List.setIfInBounds_toArray, List.set_cons_zero, List.set_cons_succ])
                    refine wpAnyH_take (i := 2) (v := ?_) rfl (by kernel_rfl) (by kernel_rfl) (by kernel_rfl) (fun _ _ _ h => h) (Or.inl ⟨by rfl, ?_⟩) hHeld ?_
                    rotate_left
                    · (intro ww hSw; (try dsimp only at hSw); go_simp; try with_reducible rfl)
                    (try simp only [Act.put, List.getElem_toArray, List.getElem_cons_zero, List.getElem_cons_succ, List.setIfInBounds_toArray, List.set_cons_zero, List.set_cons_succ])
                    refine wpAnyH_take (i := 3) (v := ?_) rfl (by kernel_rfl) (by kernel_rfl) (by kernel_rfl) (fun _ _ _ h => h) (Or.inl ⟨by rfl, ?_⟩) hHeld ?_
                    rotate_left
                    · (intro ww hSw; (try dsimp only at hSw); go_simp; try with_reducible rfl)
                    (try simp only [Act.put, List.getElem_toArray, List.getElem_cons_zero, List.getElem_cons_succ, List.setIfInBounds_toArray, List.set_cons_zero, List.set_cons_succ])
                    refine wpAnyH_take (i := 4) (v := ?_) rfl (by kernel_rfl) (by kernel_rfl) (by kernel_rfl) (fun _ _ _ h => h) (Or.inl ⟨by rfl, ?_⟩) hHeld ?_
                    rotate_left
                    · (intro ww hSw; (try dsimp only at hSw); go_simp; try with_reducible rfl)
                    (try simp only [Act.put, List.getElem_toArray, List.getElem_cons_zero, List.getElem_cons_succ, List.setIfInBounds_toArray, List.set_cons_zero, List.set_cons_succ])
                    refine wpAnyH_take (i := 5) (v := ?_) rfl (by kernel_rfl) (by kernel_rfl) (by kernel_rfl) (fun _ _ _ h => h) (Or.inl ⟨by rfl, ?_⟩) hHeld ?_
                    rotate_left
                    · (intro ww hSw; (try dsimp only at hSw); go_simp; try with_reducible rfl)
                    (try simp only [Act.put, List.getElem_toArray, List.getElem_cons_zero, List.getElem_cons_succ, List.setIfInBounds_toArray, List.set_cons_zero, List.set_cons_succ])
                    refine wpAnyH_take (i := 6) (v := ?_) rfl (by kernel_rfl) (by kernel_rfl) (by kernel_rfl) (fun _ _ _ h => h) (Or.inl ⟨by rfl, ?_⟩) hHeld ?_
                    rotate_left
                    · (intro ww hSw; (try dsimp only at hSw); go_simp; try with_reducible rfl)
                    (try simp only [Act.put, List.getElem_toArray, List.getElem_cons_zero, List.getElem_cons_succ, List.setIfInBounds_toArray, List.set_cons_zero, List.set_cons_succ])
                    refine wpAnyH_take (i := 10) (v := ?_) rfl (by kernel_rfl) (by kernel_rfl) (by kernel_rfl) (fun _ _ _ h => h) (Or.inl ⟨by rfl, ?_⟩) hHeld ?_
                    rotate_left
                    · (intro ww hSw; (try dsimp only at hSw); go_simp; try with_reducible rfl)
                    (try simp only [Act.put, List.getElem_toArray, List.getElem_cons_zero, List.getElem_cons_succ, List.setIfInBounds_toArray, List.set_cons_zero, List.set_cons_succ])
                    refine wpAnyH_take (i := 11) (v := ?_) rfl (by kernel_rfl) (by kernel_rfl) (by kernel_rfl) (fun _ _ _ h => h) (Or.inl ⟨by rfl, ?_⟩) hHeld ?_
                    rotate_left
                    · (intro ww hSw; (try dsimp only at hSw); go_simp; try with_reducible rfl)
                    (try simp only [Act.put, List.getElem_toArray, List.getElem_cons_zero, List.getElem_cons_succ, List.setIfInBounds_toArray, List.set_cons_zero, List.set_cons_succ])
                    refine wpAnyH_take (i := 12) (v := ?_) rfl (by kernel_rfl) (by kernel_rfl) (by kernel_rfl) (fun _ _ _ h => h) (Or.inl ⟨by rfl, ?_⟩) hHeld ?_
                    rotate_left
                    · (intro ww hSw; (try dsimp only at hSw); go_simp; try with_reducible rfl)
                    (try simp only [Act.put, List.getElem_toArray, List.getElem_cons_zero, List.getElem_cons_succ, List.setIfInBounds_toArray, List.set_cons_zero, List.set_cons_succ])
                    refine wpAnyH_take (i := 13) (v := ?_) rfl (by kernel_rfl) (by kernel_rfl) (by kernel_rfl) (fun _ _ _ h => h) (Or.inl ⟨by rfl, ?_⟩) hHeld ?_
                    rotate_left
                    · (intro ww hSw; (try dsimp only at hSw); go_simp; try with_reducible rfl)
                    (try simp only [Act.put, List.getElem_toArray, List.getElem_cons_zero, List.getElem_cons_succ, List.setIfInBounds_toArray, List.set_cons_zero, List.set_cons_succ])
                    refine wpAnyH_take (i := 14) (v := ?_) rfl (by kernel_rfl) (by kernel_rfl) (by kernel_rfl) (fun _ _ _ h => h) (Or.inl ⟨by rfl, ?_⟩) hHeld ?_
                    rotate_left
                    · (intro ww hSw; (try dsimp only at hSw); go_simp; try with_reducible rfl)
                    (try simp only [Act.put, List.getElem_toArray, List.getElem_cons_zero, List.getElem_cons_succ, List.setIfInBounds_toArray, List.set_cons_zero, List.set_cons_succ])
                    refine wpAnyH_take (i := 15) (v := ?_) rfl (by kernel_rfl) (by kernel_rfl) (by kernel_rfl) (fun _ _ _ h => h) (Or.inl ⟨by rfl, ?_⟩) hHeld ?_
                    rotate_left
                    · (intro ww hSw; (try dsimp only at hSw); go_simp; try with_reducible rfl)
                    (try simp only [Act.put, List.getElem_toArray, List.getElem_cons_zero, List.getElem_cons_succ, List.setIfInBounds_toArray, List.set_cons_zero, List.set_cons_succ])
                    refine wpAnyH_take (i := 16) (v := ?_) rfl (by kernel_rfl) (by kernel_rfl) (by kernel_rfl) (fun _ _ _ h => h) (Or.inl ⟨by rfl, ?_⟩) hHeld ?_
                    rotate_left
                    · (intro ww hSw; (try dsimp only at hSw); go_simp; try with_reducible rfl)
                    (try simp only [Act.put, List.getElem_toArray, List.getElem_cons_zero, List.getElem_cons_succ, List.setIfInBounds_toArray, List.set_cons_zero, List.set_cons_succ])
                    refine wpAnyH_ready (rs := [7]) (by kernel_rfl) (by simp) ?_
                    refine AllReadyH.cons rfl ?_ ?_
                    · intro K' hK
                      rw [if_pos (by rfl)]
                      go_simp
                      go_at_call 49
                      refine (CT.out _ _ _ _).mono ?_
                      rintro e w7 ⟨rfl, hb7⟩
                      replace hb7 := ex_below hb7
                      (try dsimp only)
                      have hc7 : Below v14.heap.size v14 w7 := by (repeat (first | exact Below.refl _ _ | assumption | (refine below_gr ?_ (by (first | omega | (simp only [zz] at *; omega))) _) | (refine below_alloc ?_ (by (first | omega | (simp only [zz] at *; omega))) _) | (refine Below.setCell ?_ (by (first | omega | (simp only [zz] at *; omega))) _) | refine below_drewN ?_ _ | refine below_drew ?_ | (refine below_step ?_ (by assumption) (by (first | omega | (simp only [zz] at *; omega))))))
                      have hT7 := hT14.ext hc7
                      have hIs7 := hIs14.ext hc7
                      have hIt7 := hIt14.ext hc7
                      have u7 := (hc7.cell (p := ⟨tb, tq + i * 2 + 1, none⟩) htb14).trans u14
                      have htb7 := Nat.lt_of_lt_of_le htb14 hc7.size
                      have hbs7 := Nat.lt_of_lt_of_le hbs14 hc7.size
                      have hbt7 := Nat.lt_of_lt_of_le hbt14 hc7.size
                      refine hK.out _ _ u7 (fun hHeld2 => ?_)
                      clear hK K' hHeld
                      have hHeld := hHeld2
                      clear hHeld2
                      (try simp only [Act.put, List.getElem_toArray, List.getElem_cons_zero, List.getElem_cons_succ, List.setIfInBounds_toArray, List.set_cons_zero, List.set_cons_succ])
                      refine wpAnyH_ready (rs := [8]) (by kernel_rfl) (by simp) ?_
                      refine AllReadyH.cons rfl ?_ ?_
                      · intro K' hK
                        rw [if_pos (by rfl)]
                        go_simp
                        refine hK.out _ _ ?_ (fun hHeld2 => ?_)
                        · (try dsimp only)
                          (simp (maxDischargeDepth := 9) [*, World.cell?_alloc_some, World.cell?_setCell_far])
                        clear hK K' hHeld
                        have hHeld := hHeld2
                        clear hHeld2
                        (try simp only [Act.put, List.getElem_toArray, List.getElem_cons_zero, List.getElem_cons_succ, List.setIfInBounds_toArray, List.set_cons_zero, List.set_cons_succ])
                        refine wpAnyH_ready (rs := [9]) (by kernel_rfl) (by simp) ?_
                        refine AllReadyH.cons rfl ?_ ?_
                        · intro K' hK
                          have ha9 : Below w7.heap.size w7 (w7.alloc (.cells #[.slice (some ⟨bs, 0, none⟩) S.length cs, .int .i64 (uu : Nat)] 34)) := below_alloc (Below.refl _ _) (Nat.le_refl _) _
                          have hTq := hT7.ext ha9
                          refine step_appN (w7.alloc (.cells #[.slice (some ⟨bs, 0, none⟩) S.length cs, .int .i64 (uu : Nat)] 34)) rfl (.tmp 175) (.tmp 183) 25 rfl v7.heap.size 34 l0 _ 2 32 und25 lh lz ls lb rfl (by decide) (.slice OX rx.length ocx) (rx.length) (cellsT rx) rfl hTq.o1 (some ⟨w7.heap.size, 0, none⟩) 1 1 ([.slice (some ⟨bs, 0, none⟩) S.length cs, .int .i64 (uu : Nat)]) rfl (rd_new2 _ _ _ _) (by simp [Value.oneCell']) (by unfold maxLen; omega) (by omega) hTq.bel.size ?_
                          intro A9 c9 w9 hO9 hg9 hf9
                          have hz9 := hg9.size
                          have he9 : cellsT [(some ⟨bs, 0, none⟩, zs SX, cs, (uu : Int))] = [.slice (some ⟨bs, 0, none⟩) S.length cs, .int .i64 (uu : Nat)] := by unfold cellsT; simp [hlx]
                          have hT9 := hTq.add (r := (some ⟨bs, 0, none⟩, zs SX, cs, (uu : Int))) ⟨hIs7.ext ha9, by simp only; rw [hlx]; assumption⟩ (fun b o e => by cases e; exact ⟨Nat.lt_of_lt_of_le hbs7 ha9.size, fxs, fys⟩) (by rw [he9]; exact hO9) hg9 hf9
                          have hIt9 := i64_grownF (hIt7.ext ha9) hg9 (fun b o e => by cases e; exact fxt)
                          have hbt9 := Nat.lt_of_lt_of_le (Nat.lt_of_lt_of_le hbt7 ha9.size) hz9
                          have fxt9 := hf9 bt (Nat.lt_of_lt_of_le hbt7 ha9.size) fxt
                          have htb9 := Nat.lt_of_lt_of_le (Nat.lt_of_lt_of_le htb7 ha9.size) hz9
                          have u9 := (gb_cell hg9 tb (Nat.lt_of_lt_of_le htb7 ha9.size) (fun g hg => by have := (hTq.o1.lt g hg).1; omega) (tq + i * 2 + 1)).trans ((ha9.cell (p := ⟨tb, tq + i * 2 + 1, none⟩) htb7).trans u7)
                          refine hK.out _ _ u9 (fun hHeld2 => ?_)
                          clear hK K' hHeld
                          have hHeld := hHeld2
                          clear hHeld2
                          (try simp only [Act.put, List.getElem_toArray, List.getElem_cons_zero, List.getElem_cons_succ, List.setIfInBounds_toArray, List.set_cons_zero, List.set_cons_succ])
                          refine wpAnyH_ready (rs := [17]) (by kernel_rfl) (by simp) ?_
                          refine AllReadyH.cons rfl ?_ ?_
                          · intro K' hK
                            rw [if_pos (by rfl)]
                            go_simp
                            go_at_call 49
                            refine (CT.out _ _ _ _).mono ?_
                            rintro e w17 ⟨rfl, hb17⟩
                            replace hb17 := ex_below hb17
                            (try dsimp only)
                            have hc17 : Below w9.heap.size w9 w17 := by (repeat (first | exact Below.refl _ _ | assumption | (refine below_gr ?_ (by (first | omega | (simp only [zz] at *; omega))) _) | (refine below_alloc ?_ (by (first | omega | (simp only [zz] at *; omega))) _) | (refine Below.setCell ?_ (by (first | omega | (simp only [zz] at *; omega))) _) | refine below_drewN ?_ _ | refine below_drew ?_ | (refine below_step ?_ (by assumption) (by (first | omega | (simp only [zz] at *; omega))))))
                            have hT17 := hT9.ext hc17
                            have hIt17 := hIt9.ext hc17
                            have u17 := (hc17.cell (p := ⟨tb, tq + i * 2 + 1, none⟩) htb9).trans u9
                            have htb17 := Nat.lt_of_lt_of_le htb9 hc17.size
                            have hbt17 := Nat.lt_of_lt_of_le hbt9 hc17.size
                            refine hK.out _ _ u17 (fun hHeld2 => ?_)
                            clear hK K' hHeld
                            have hHeld := hHeld2
                            clear hHeld2
                            (try simp only [Act.put, List.getElem_toArray, List.getElem_cons_zero, List.getElem_cons_succ, List.setIfInBounds_toArray, List.set_cons_zero, List.set_cons_succ])
                            refine wpAnyH_ready (rs := [18]) (by kernel_rfl) (by simp) ?_
                            refine AllReadyH.cons rfl ?_ ?_
                            · intro K' hK
                              rw [if_pos (by rfl)]
                              go_simp
                              refine hK.out _ _ ?_ (fun hHeld2 => ?_)
                              · (try dsimp only)
                                (simp (maxDischargeDepth := 9) [*, World.cell?_alloc_some, World.cell?_setCell_far])
                              clear hK K' hHeld
                              have hHeld := hHeld2
                              clear hHeld2
                              (try simp only [Act.put, List.getElem_toArray, List.getElem_cons_zero, List.getElem_cons_succ, List.setIfInBounds_toArray, List.set_cons_zero, List.set_cons_succ])
                              refine wpAnyH_ready (rs := [19]) (by kernel_rfl) (by simp) ?_
                              refine AllReadyH.cons rfl ?_ ?_
                              · intro K' hK
                                have ha19 : Below w17.heap.size w17 (w17.alloc (.cells #[.slice (some ⟨bt, 0, none⟩) S.length ct, .int .i64 (uu : Nat)] 34)) := below_alloc (Below.refl _ _) (Nat.le_refl _) _
                                have hTq := hT17.ext ha19
                                refine step_appN (w17.alloc (.cells #[.slice (some ⟨bt, 0, none⟩) S.length ct, .int .i64 (uu : Nat)] 34)) rfl (.tmp 185) (.tmp 193) 25 rfl v7.heap.size 34 l0 _ 2 32 und25 lh lz ls lb rfl (by decide) (.slice OY ry.length ocy) (ry.length) (cellsT ry) rfl hTq.o2 (some ⟨w17.heap.size, 0, none⟩) 1 1 ([.slice (some ⟨bt, 0, none⟩) S.length ct, .int .i64 (uu : Nat)]) rfl (rd_new2 _ _ _ _) (by simp [Value.oneCell']) (by unfold maxLen; omega) (by omega) hTq.bel.size ?_
                                intro A19 c19 w19 hO19 hg19 hf19
                                have hz19 := hg19.size
                                have he19 : cellsT [(some ⟨bt, 0, none⟩, zs SY, ct, (uu : Int))] = [.slice (some ⟨bt, 0, none⟩) S.length ct, .int .i64 (uu : Nat)] := by unfold cellsT; simp [hly]
                                have hT19 := hTq.swap.add (r := (some ⟨bt, 0, none⟩, zs SY, ct, (uu : Int))) ⟨hIt17.ext ha19, by simp only; rw [hly]; assumption⟩ (fun b o e => by cases e; exact ⟨Nat.lt_of_lt_of_le hbt17 ha19.size, fyt, fxt9⟩) (by rw [he19]; exact hO19) hg19 hf19
                                have htb19 := Nat.lt_of_lt_of_le (Nat.lt_of_lt_of_le htb17 ha19.size) hz19
                                have u19 := (gb_cell hg19 tb (Nat.lt_of_lt_of_le htb17 ha19.size) (fun g hg => by have := (hTq.o2.lt g hg).1; omega) (tq + i * 2 + 1)).trans ((ha19.cell (p := ⟨tb, tq + i * 2 + 1, none⟩) htb17).trans u17)
                                refine hK.out _ _ u19 (fun hHeld2 => ?_)
                                clear hK K' hHeld
                                have hHeld := hHeld2
                                clear hHeld2
                                (try simp only [Act.put, List.getElem_toArray, List.getElem_cons_zero, List.getElem_cons_succ, List.setIfInBounds_toArray, List.set_cons_zero, List.set_cons_succ])
                                refine wpAnyH_take (i := 20) (v := ?_) rfl (by kernel_rfl) (by kernel_rfl) (by kernel_rfl) (fun _ _ _ h => h) (Or.inl ⟨by rfl, ?_⟩) hHeld ?_
                                rotate_left
                                · (intro ww hSw; (try dsimp only at hSw); go_simp; try with_reducible rfl)
                                (try simp only [Act.put, List.getElem_toArray, List.getElem_cons_zero, List.getElem_cons_succ, List.setIfInBounds_toArray, List.set_cons_zero, List.set_cons_succ])
                                refine wpAnyH_take (i := 21) (v := ?_) rfl (by kernel_rfl) (by kernel_rfl) (by kernel_rfl) (fun _ _ _ h => h) (Or.inl ⟨by rfl, ?_⟩) hHeld ?_
                                rotate_left
                                · (intro ww hSw; (try dsimp only at hSw); go_simp; try with_reducible rfl)
                                (try simp only [Act.put, List.getElem_toArray, List.getElem_cons_zero, List.getElem_cons_succ, List.setIfInBounds_toArray, List.set_cons_zero, List.set_cons_succ])
                                refine wpAnyH_done (by kernel_rfl) ?_ _
                                refine NoPanic.normal ?_
                                go_wp2
                                refine ⟨⟨i + 1, rx ++ [(some ⟨bs, 0, none⟩, zs SX, cs, (uu : Int))], ry ++ [(some ⟨bt, 0, none⟩, zs SY, ct, (uu : Int))], A9, A19, c9, c19, by omega, by go_num, by rw [List.length_append]; rfl, by rw [List.length_append]; rfl, ?_, ?_, ?_⟩, by simp [intOf]; omega⟩
                                · rw [List.length_append, List.length_append]; exact hT19.swap.ext (by (repeat (first | exact Below.refl _ _ | assumption | refine below_drewN ?_ _ | refine below_drew ?_ | refine below_gr ?_ ?_ _ | refine below_alloc ?_ ?_ _ | refine Below.setCell ?_ ?_ _ | refine below_step ?_ (by assumption) ?_ | omega | (simp only [zz] at *; omega))))
                                · rw [HTX.out, HST.out]; unfold tksT; rw [List.map_append]; rfl
                                · rw [HTY.out, HST2.out]; unfold tksT; rw [List.map_append]; rfl
                              exact AllReadyH.nil
                            exact AllReadyH.nil
                          exact AllReadyH.nil
                        exact AllReadyH.nil
                      exact AllReadyH.nil
                    exact AllReadyH.nil
          · as_aux_lemma =>
            have hii : ¬ (i : Int) < (ts1.length : Int) := by omega
            have hil : i = ts1.length := by omega
            rw [hil, List.take_length] at htx hty
            have hTX := own_tks hTR.o1 hTR.ok1
            rw [htx] at hTX
            have hTY := own_tks hTR.o2 hTR.ok2
            rw [hty] at hTY
            have hAX := turnX_alike hok hal hbl
            have hAY := turnY_alike (p := p) (q := q) hok hal (by rw [getD_at _ _ hal, HNA.out]; exact hpl) (by rw [getD_at _ _ hal, HNA.out]; exact hql)
            have hxl : (ts1.map (turnX a b)).length = rx.length := by have h := congrArg List.length htx; unfold tksT at h; rw [List.length_map, tz_len] at h; exact h.symm
            have hyl : (ts1.map (turnY a p q)).length = ry.length := by have h := congrArg List.length hty; unfold tksT at h; rw [List.length_map, tz_len] at h; exact h.symm
            have hrx : rx.length = ts1.length := by rw [← hxl, List.length_map]
            have hry : ry.length = ts1.length := by rw [← hyl, List.length_map]
            rw [hrx] at hxl
            rw [hry] at hyl
            clear hil htx hty hTR HSL HS64
            generalize ts1.map (turnX a b) = X at *
            generalize ts1.map (turnY a p q) = Y at *
            generalize Bm.swapL R1 a b = Q at *
            have hm1 : wr % (R1.length + 1) ≤ R1.length := by have := Nat.mod_lt wr (show 0 < R1.length + 1 by omega); omega
            have hwm : ((wr : Nat) : Int).tmod ((R1.length : Int) + 1) = ((wr % (R1.length + 1) : Nat) : Int) := by rw [Int.tmod_eq_emod_of_nonneg (by omega)]; simp
            generalize wr % (R1.length + 1) = m at *
            have hwr0 : ((R1.length : Int) + 1) ≠ 0 := by omega
            have hwr8 : (wr : Int) < 256 := by omega
            have hws : IntKind.i64.wrap (wr : Nat) = ((wr : Nat) : Int) := by rw [IntKind.wrap_i64]; omega
            have hrl1 : (R1.length : Int) + 1 ≤ 6 := by omega
            have C1 := hide (fun w' (h1 : I64 w' (some ⟨ab, ao, none⟩) (zs R1)) (h2 : Tks w' B (tz ts1)) => o_cov (some ⟨ab, ao, none⟩) R1 c B ts1 d w' h1 h2 hok)
            have C2 := hide (fun w' (h1 : I64 w' (some ⟨ab, ao, none⟩) (zs R1)) (h2 : Tks w' B (tz ts1)) => o_deep (some ⟨ab, ao, none⟩) R1 c B ts1 d w' h1 h2 hok)
            have C3 := hide (fun w' (h1 : I64 w' (some ⟨ab, ao, none⟩) (zs R1)) (h2 : Tks w' B (tz ts1)) => o_idle (some ⟨ab, ao, none⟩) R1 c B ts1 d w' h1 h2 hok)
            have DX1 := hide (fun w' (h1 : I64 w' (some ⟨g, 0, none⟩) (zs Q)) (h2 : Tks w' OX (tz X)) => al_cov hAX (some ⟨g, 0, none⟩) c2 OX ocx w' h1 h2 _ hxl)
            have DX2 := hide (fun w' (h1 : I64 w' (some ⟨g, 0, none⟩) (zs Q)) (h2 : Tks w' OX (tz X)) => al_deep hAX (some ⟨g, 0, none⟩) c2 OX ocx w' h1 h2 _ hxl)
            have DX3 := hide (fun w' (h1 : I64 w' (some ⟨g, 0, none⟩) (zs Q)) (h2 : Tks w' OX (tz X)) => al_idle hAX (some ⟨g, 0, none⟩) c2 OX ocx w' h1 h2 _ hxl)
            have DY1 := hide (fun w' (h1 : I64 w' (some ⟨ab, ao, none⟩) (zs R1)) (h2 : Tks w' OY (tz Y)) => al_cov hAY (some ⟨ab, ao, none⟩) c OY ocy w' h1 h2 _ hyl)
            have DY2 := hide (fun w' (h1 : I64 w' (some ⟨ab, ao, none⟩) (zs R1)) (h2 : Tks w' OY (tz Y)) => al_deep hAY (some ⟨ab, ao, none⟩) c OY ocy w' h1 h2 _ hyl)
            have DY3 := hide (fun w' (h1 : I64 w' (some ⟨ab, ao, none⟩) (zs R1)) (h2 : Tks w' OY (tz Y)) => al_idle hAY (some ⟨ab, ao, none⟩) c OY ocy w' h1 h2 _ hyl)
            have E1 := hide (fun (y : Nat) (hy : y < ts1.length) (Z : Option Addr) (zc : Nat) w' (h1 : I64 w' (some ⟨ab, ao, none⟩) (zs R1)) (h2 : I64 w' Z (zs ts1[y].1)) (h3 : ts1[y].1.length ≤ zc) => within_ok (some ⟨ab, ao, none⟩) R1 c Z ts1[y].1 zc ts1[y].2 m w' h1 h2 h3 (ok_one9 hok hy) hm1)
            have EX := hide (fun (y : Nat) (hy : y < ts1.length) (hy2 : y < X.length) (Z : Option Addr) (zc : Nat) w' (h1 : I64 w' (some ⟨g, 0, none⟩) (zs Q)) (h2 : I64 w' Z (zs X[y].1)) (h3 : X[y].1.length ≤ zc) => al_win hAX (some ⟨g, 0, none⟩) c2 Z zc w' y hy hy2 h1 h2 h3 m hm1)
            have EY := hide (fun (y : Nat) (hy : y < ts1.length) (hy2 : y < Y.length) (Z : Option Addr) (zc : Nat) w' (h1 : I64 w' (some ⟨ab, ao, none⟩) (zs R1)) (h2 : I64 w' Z (zs Y[y].1)) (h3 : Y[y].1.length ≤ zc) => al_win hAY (some ⟨ab, ao, none⟩) c Z zc w' y hy hy2 h1 h2 h3 m hm1)
            have hwle := fun (y : Nat) (hy : y < ts1.length) => within_le9 hok (hok.tb _ (List.getElem_mem hy)) hm1
            have HWL := hide hwle
            have hu1 : Bm.uni ts1 (deepO R1 ts1) ≤ 10000 := by have := Bm.uni_le hok.hu (deepO R1 ts1); omega
            have hil1 := Bm.idleN_le R1 ts1 ts1.length
            have HDL := hide (zs_len (deepO R1 ts1))
            have HIL := hide (zs_len (Bm.idleN R1 ts1 ts1.length))
            have hdl5 := Bm.outs_len (deep_mem hok)
            clear hwle hAX hAY hm1 hal hbl hpl hql HNA HNB
            generalize Bm.afterN R1 ts1 [] = N at *
            generalize Bm.uni ts1 (deepO R1 ts1) = dn at *
            generalize Bm.idleN R1 ts1 ts1.length = il at *
            have hilz : (zs il).length ≤ 1000 := by rw [zs_len]; omega
            generalize zs il = ill at *
            replace hA := hA.ext hbp
            replace hB := hB.ext hbp
            replace hI := hI.ext hbp
            replace hX := hX.ext hbp
            replace hXs := hXs.ext hbp
            replace hW := below_step hW hbp (by have := hW.size; omega)
            clear hbp hXc0 hXf hXl hXsc0 hXsf hXsl
            (try clear hXc0 hXf hXl)
            have hXc0 := obj_at hX 0 _ rfl
            have hXf := obj_fz hX 0
            have hXl := obj_lt hX
            (try clear hXsc0 hXsf hXsl)
            have hXsc0 := obj_at hXs 0 _ rfl
            have hXsf := obj_fz hXs 0
            have hXsl := obj_lt hXs
            go_upto_region 17 with fail
            have hbc : Below wp.heap.size wp ((wp.alloc (.cells #[.slice (some ⟨g, 0, none⟩) R1.length c2, .slice (some ⟨ab, ao, none⟩) R1.length c] 24)).alloc (.cells #[.slice OX ts1.length ocx, .slice OY ts1.length ocy] 25)) := by (repeat (first | exact Below.refl _ _ | assumption | (refine below_gr ?_ (by (first | omega | (simp only [zz] at *; omega))) _) | (refine below_alloc ?_ (by (first | omega | (simp only [zz] at *; omega))) _) | (refine Below.setCell ?_ (by (first | omega | (simp only [zz] at *; omega))) _) | refine below_drewN ?_ _ | refine below_drew ?_ | (refine below_step ?_ (by assumption) (by (first | omega | (simp only [zz] at *; omega))))))
            have hCs : BlkAt ((wp.alloc (.cells #[.slice (some ⟨g, 0, none⟩) R1.length c2, .slice (some ⟨ab, ao, none⟩) R1.length c] 24)).alloc (.cells #[.slice OX ts1.length ocx, .slice OY ts1.length ocy] 25)) wp.heap.size #[.slice (some ⟨g, 0, none⟩) R1.length c2, .slice (some ⟨ab, ao, none⟩) R1.length c] 24 := heap_a _ _ _
            have hTs : BlkAt ((wp.alloc (.cells #[.slice (some ⟨g, 0, none⟩) R1.length c2, .slice (some ⟨ab, ao, none⟩) R1.length c] 24)).alloc (.cells #[.slice OX ts1.length ocx, .slice OY ts1.length ocy] 25)) (wp.heap.size + 1) #[.slice OX ts1.length ocx, .slice OY ts1.length ocy] 25 := heap_b _ _ _
            obtain ⟨v16, hv16⟩ : ∃ v, ((wp.alloc (.cells #[.slice (some ⟨g, 0, none⟩) R1.length c2, .slice (some ⟨ab, ao, none⟩) R1.length c] 24)).alloc (.cells #[.slice OX ts1.length ocx, .slice OY ts1.length ocy] 25)) = v := ⟨_, rfl⟩
            rw [hv16] at hbc hCs hTs ⊢
            clear hv16 hrx hry
            replace hA := hA.ext hbc
            replace hB := hB.ext hbc
            replace hTX := hTX.ext hbc
            replace hTY := hTY.ext hbc
            replace hI := hI.ext hbc
            replace hX := hX.ext hbc
            replace hXs := hXs.ext hbc
            replace hW := below_step hW hbc (by have := hW.size; omega)
            clear hbc
            (try clear hXc0 hXf hXl)
            have hXc0 := obj_at hX 0 _ rfl
            have hXf := obj_fz hX 0
            have hXl := obj_lt hX
            (try clear hXsc0 hXsf hXsl)
            have hXsc0 := obj_at hXs 0 _ rfl
            have hXsf := obj_fz hXs 0
            have hXsl := obj_lt hXs
            (try clear hCsc0 hCsc1 hCsf hCsl)
            have hCsc0 := obj_at hCs 0 _ rfl
            have hCsc1 := obj_at hCs 1 _ rfl
            have hCsf := obj_fz hCs 0
            have hCsl := obj_lt hCs
            (try clear hTsc0 hTsc1 hTsf hTsl)
            have hTsc0 := obj_at hTs 0 _ rfl
            have hTsc1 := obj_at hTs 1 _ rfl
            have hTsf := obj_fz hTs 0
            have hTsl := obj_lt hTs
            have tok0 : True := trivial
            go_wp2_with (first
    | (clear tok0; go_at_call 32; refine (C1.out _ (hA.ext (by (repeat (first | exact Below.refl _ _ | assumption | refine below_drewN ?_ _ | refine below_drew ?_ | refine below_gr ?_ ?_ _ | refine below_alloc ?_ ?_ _ | refine Below.setCell ?_ ?_ _ | refine below_step ?_ (by assumption) ?_ | omega | (simp only [zz] at *; omega))))) (hB.ext (by (repeat (first | exact Below.refl _ _ | assumption | refine below_drewN ?_ _ | refine below_drew ?_ | refine below_gr ?_ ?_ _ | refine below_alloc ?_ ?_ _ | refine Below.setCell ?_ ?_ _ | refine below_step ?_ (by assumption) ?_ | omega | (simp only [zz] at *; omega)))))).mono ?_; rintro e u1 ⟨rfl, hb_u1⟩; replace hb_u1 := ex_below hb_u1; have bel_u1 : Below v16.heap.size v16 u1 := (by (repeat (first | exact Below.refl _ _ | assumption | refine below_drewN ?_ _ | refine below_drew ?_ | refine below_gr ?_ ?_ _ | refine below_alloc ?_ ?_ _ | refine Below.setCell ?_ ?_ _ | refine below_step ?_ (by assumption) ?_ | omega | (simp only [zz] at *; omega)))); clear hb_u1; have sz_u1 := bel_u1.size; replace hA := hA.ext bel_u1; replace hB := hB.ext bel_u1; replace hTX := hTX.ext bel_u1; replace hTY := hTY.ext bel_u1; replace hI := hI.ext bel_u1; replace hX := hX.ext bel_u1; replace hXs := hXs.ext bel_u1; replace hW := below_step hW bel_u1 (by have := hW.size; omega); replace hCs := hCs.ext bel_u1; replace hTs := hTs.ext bel_u1; (try clear hXc0 hXf hXl); have hXc0 := obj_at hX 0 _ rfl; have hXf := obj_fz hX 0; have hXl := obj_lt hX; (try clear hXsc0 hXsf hXsl); have hXsc0 := obj_at hXs 0 _ rfl; have hXsf := obj_fz hXs 0; have hXsl := obj_lt hXs; (try clear hCsc0 hCsc1 hCsf hCsl); have hCsc0 := obj_at hCs 0 _ rfl; have hCsc1 := obj_at hCs 1 _ rfl; have hCsf := obj_fz hCs 0; have hCsl := obj_lt hCs; (try clear hTsc0 hTsc1 hTsf hTsl); have hTsc0 := obj_at hTs 0 _ rfl; have hTsc1 := obj_at hTs 1 _ rfl; have hTsf := obj_fz hTs 0; have hTsl := obj_lt hTs; clear bel_u1; have tok1 : True := trivial)
    | (clear tok1; go_at_call 36; refine (C2.out _ (hA.ext (by (repeat (first | exact Below.refl _ _ | assumption | refine below_drewN ?_ _ | refine below_drew ?_ | refine below_gr ?_ ?_ _ | refine below_alloc ?_ ?_ _ | refine Below.setCell ?_ ?_ _ | refine below_step ?_ (by assumption) ?_ | omega | (simp only [zz] at *; omega))))) (hB.ext (by (repeat (first | exact Below.refl _ _ | assumption | refine below_drewN ?_ _ | refine below_drew ?_ | refine below_gr ?_ ?_ _ | refine below_alloc ?_ ?_ _ | refine Below.setCell ?_ ?_ _ | refine below_step ?_ (by assumption) ?_ | omega | (simp only [zz] at *; omega)))))).mono ?_; rintro e u2 ⟨O2, o2, rfl, hb_u2, hO2⟩; replace hb_u2 := ex_below hb_u2; rw [HDL.out]; have bel_u2 : Below u1.heap.size u1 u2 := (by (repeat (first | exact Below.refl _ _ | assumption | refine below_drewN ?_ _ | refine below_drew ?_ | refine below_gr ?_ ?_ _ | refine below_alloc ?_ ?_ _ | refine Below.setCell ?_ ?_ _ | refine below_step ?_ (by assumption) ?_ | omega | (simp only [zz] at *; omega)))); clear hb_u2; have sz_u2 := bel_u2.size; replace hA := hA.ext bel_u2; replace hB := hB.ext bel_u2; replace hTX := hTX.ext bel_u2; replace hTY := hTY.ext bel_u2; replace hI := hI.ext bel_u2; replace hX := hX.ext bel_u2; replace hXs := hXs.ext bel_u2; replace hW := below_step hW bel_u2 (by have := hW.size; omega); replace hCs := hCs.ext bel_u2; replace hTs := hTs.ext bel_u2; (try clear hXc0 hXf hXl); have hXc0 := obj_at hX 0 _ rfl; have hXf := obj_fz hX 0; have hXl := obj_lt hX; (try clear hXsc0 hXsf hXsl); have hXsc0 := obj_at hXs 0 _ rfl; have hXsf := obj_fz hXs 0; have hXsl := obj_lt hXs; (try clear hCsc0 hCsc1 hCsf hCsl); have hCsc0 := obj_at hCs 0 _ rfl; have hCsc1 := obj_at hCs 1 _ rfl; have hCsf := obj_fz hCs 0; have hCsl := obj_lt hCs; (try clear hTsc0 hTsc1 hTsf hTsl); have hTsc0 := obj_at hTs 0 _ rfl; have hTsc1 := obj_at hTs 1 _ rfl; have hTsf := obj_fz hTs 0; have hTsl := obj_lt hTs; clear bel_u2; have tok2 : True := trivial)
    | (clear tok2; go_at_call 38; refine (C3.out _ (hA.ext (by (repeat (first | exact Below.refl _ _ | assumption | refine below_drewN ?_ _ | refine below_drew ?_ | refine below_gr ?_ ?_ _ | refine below_alloc ?_ ?_ _ | refine Below.setCell ?_ ?_ _ | refine below_step ?_ (by assumption) ?_ | omega | (simp only [zz] at *; omega))))) (hB.ext (by (repeat (first | exact Below.refl _ _ | assumption | refine below_drewN ?_ _ | refine below_drew ?_ | refine below_gr ?_ ?_ _ | refine below_alloc ?_ ?_ _ | refine Below.setCell ?_ ?_ _ | refine below_step ?_ (by assumption) ?_ | omega | (simp only [zz] at *; omega)))))).mono ?_; rintro e u3 ⟨O3, o3, rfl, hb_u3, hO3⟩; replace hb_u3 := ex_below hb_u3; have bel_u3 : Below u2.heap.size u2 u3 := (by (repeat (first | exact Below.refl _ _ | assumption | refine below_drewN ?_ _ | refine below_drew ?_ | refine below_gr ?_ ?_ _ | refine below_alloc ?_ ?_ _ | refine Below.setCell ?_ ?_ _ | refine below_step ?_ (by assumption) ?_ | omega | (simp only [zz] at *; omega)))); clear hb_u3; have sz_u3 := bel_u3.size; replace hA := hA.ext bel_u3; replace hB := hB.ext bel_u3; replace hTX := hTX.ext bel_u3; replace hTY := hTY.ext bel_u3; replace hI := hI.ext bel_u3; replace hX := hX.ext bel_u3; replace hXs := hXs.ext bel_u3; replace hW := below_step hW bel_u3 (by have := hW.size; omega); replace hCs := hCs.ext bel_u3; replace hTs := hTs.ext bel_u3; replace hO2 := hO2.ext bel_u3; (try clear hXc0 hXf hXl); have hXc0 := obj_at hX 0 _ rfl; have hXf := obj_fz hX 0; have hXl := obj_lt hX; (try clear hXsc0 hXsf hXsl); have hXsc0 := obj_at hXs 0 _ rfl; have hXsf := obj_fz hXs 0; have hXsl := obj_lt hXs; (try clear hCsc0 hCsc1 hCsf hCsl); have hCsc0 := obj_at hCs 0 _ rfl; have hCsc1 := obj_at hCs 1 _ rfl; have hCsf := obj_fz hCs 0; have hCsl := obj_lt hCs; (try clear hTsc0 hTsc1 hTsf hTsl); have hTsc0 := obj_at hTs 0 _ rfl; have hTsc1 := obj_at hTs 1 _ rfl; have hTsf := obj_fz hTs 0; have hTsl := obj_lt hTs; clear bel_u3; have tok3 : True := trivial))
            clear tok3
            clear C1 C2 C3 HDL
            (try clear hdi); (try clear hgr); (try clear hwd); (try clear hl9); (try clear hd); (try clear hd9); (try clear bx0); (try clear bx1); (try clear by0); (try clear by1); (try clear ht10); (try clear hi); (try clear hii); (try clear hna0); (try clear hnan); (try clear hna1); (try clear hna6); (try clear hnb6); (try clear hai); (try clear hbi); (try clear hr0); (try clear hrn); (try clear hR1); (try clear hR5); (try clear hu1); (try clear hil1); (try clear hdl5); (try clear hcc); (try clear jh); (try clear jz); (try clear js); (try clear jb); (try clear sz_u1); (try clear sz_u2); (try clear sz_u3); (try clear HF)
            have hNN : ((N : Int) != (N : Int)) = false := by simp
            have hdd : ((dn : Int) != (dn : Int)) = false := by simp
            go_loopw [32] (fun t32 wr2 => (t32 = .int .i64 0 ∨ t32 = .int .i64 1 ∨ t32 = .int .i64 2) ∧ Below u3.heap.size u3 wr2) (fun t _ => 2 - (intOf t).toNat)
            case atStart => exact ⟨.inl rfl, Below.refl _ _⟩
            case round =>
              as_aux_lemma =>
              obtain ⟨hk, hbr⟩ := hrel
              obtain ⟨wk, rfl⟩ : ∃ wk, wk = wr := ⟨_, rfl⟩
              have hb9 := hbr
              replace hA := hA.ext hb9
              replace hB := hB.ext hb9
              replace hTX := hTX.ext hb9
              replace hTY := hTY.ext hb9
              replace hI := hI.ext hb9
              replace hX := hX.ext hb9
              replace hXs := hXs.ext hb9
              replace hW := below_step hW hb9 (by have := hW.size; omega)
              replace hCs := hCs.ext hb9
              replace hTs := hTs.ext hb9
              replace hO3 := hO3.ext hb9
              clear hb9
              (try clear hXc0 hXf hXl)
              have hXc0 := obj_at hX 0 _ rfl
              have hXf := obj_fz hX 0
              have hXl := obj_lt hX
              (try clear hXsc0 hXsf hXsl)
              have hXsc0 := obj_at hXs 0 _ rfl
              have hXsf := obj_fz hXs 0
              have hXsl := obj_lt hXs
              (try clear hCsc0 hCsc1 hCsf hCsl)
              have hCsc0 := obj_at hCs 0 _ rfl
              have hCsc1 := obj_at hCs 1 _ rfl
              have hCsf := obj_fz hCs 0
              have hCsl := obj_lt hCs
              (try clear hTsc0 hTsc1 hTsf hTsl)
              have hTsc0 := obj_at hTs 0 _ rfl
              have hTsc1 := obj_at hTs 1 _ rfl
              have hTsf := obj_fz hTs 0
              have hTsl := obj_lt hTs
              rcases hk with rfl | rfl | rfl
              · as_aux_lemma =>
                go_upto_region 25 with fail
                have tkm10 : True := trivial
                go_region_held3 (fun w' => w'.cell? ⟨wp.heap.size, 0, none⟩ = some (.slice (some ⟨g, 0, none⟩) R1.length c2) ∧ w'.cell? ⟨wp.heap.size + 1, 0, none⟩ = some (.slice OX ts1.length ocx)) (simp (maxDischargeDepth := 9) [*, World.cell?_alloc_some, World.cell?_setCell_far]) (first
                  | (clear tkm10; go_at_call 32; refine (DX1.out _ (hI.ext (by (repeat (first | exact Below.refl _ _ | assumption | refine below_drewN ?_ _ | refine below_drew ?_ | refine below_gr ?_ ?_ _ | refine below_alloc ?_ ?_ _ | refine Below.setCell ?_ ?_ _ | refine below_step ?_ (by assumption) ?_ | omega | (simp only [zz] at *; omega))))) (hTX.ext (by (repeat (first | exact Below.refl _ _ | assumption | refine below_drewN ?_ _ | refine below_drew ?_ | refine below_gr ?_ ?_ _ | refine below_alloc ?_ ?_ _ | refine Below.setCell ?_ ?_ _ | refine below_step ?_ (by assumption) ?_ | omega | (simp only [zz] at *; omega)))))).mono ?_; rintro e m1 ⟨rfl, hb_m1⟩; replace hb_m1 := ex_below hb_m1; have hz_m1 := hb_m1.size; (try simp only [zz] at hz_m1); have hk0_m1 := own_cell hb_m1 (b := wp.heap.size) (by (first | omega | (simp only [zz]; omega) | (simp only [zz] at *; omega) | (simp; done) | (simp; omega))); have hl0_m1 : wp.heap.size < m1.heap.size := (by (first | omega | (simp only [zz] at *; omega))); have hk1_m1 := own_cell hb_m1 (b := (wp.heap.size + 1)) (by (first | omega | (simp only [zz]; omega) | (simp only [zz] at *; omega) | (simp; done) | (simp; omega))); have hl1_m1 : (wp.heap.size + 1) < m1.heap.size := (by (first | omega | (simp only [zz] at *; omega))); have tkm11 : True := trivial)
                  )
                have bel_m1 : Below wk.heap.size wk m1 := (by (repeat (first | exact Below.refl _ _ | assumption | refine below_drewN ?_ _ | refine below_drew ?_ | refine below_gr ?_ ?_ _ | refine below_alloc ?_ ?_ _ | refine Below.setCell ?_ ?_ _ | refine below_step ?_ (by assumption) ?_ | omega | (simp only [zz] at *; omega))))
                have sz_m1 := bel_m1.size
                replace hA := hA.ext bel_m1
                replace hB := hB.ext bel_m1
                replace hTX := hTX.ext bel_m1
                replace hTY := hTY.ext bel_m1
                replace hI := hI.ext bel_m1
                replace hX := hX.ext bel_m1
                replace hXs := hXs.ext bel_m1
                replace hW := below_step hW bel_m1 (by have := hW.size; omega)
                replace hCs := hCs.ext bel_m1
                replace hTs := hTs.ext bel_m1
                replace hO3 := hO3.ext bel_m1
                replace hbr := below_step hbr bel_m1 (by have := hbr.size; omega)
                clear bel_m1 hb_m1 hz_m1 hk0_m1 hk1_m1 hl0_m1 hl1_m1
                (try clear hXc0 hXf hXl)
                have hXc0 := obj_at hX 0 _ rfl
                have hXf := obj_fz hX 0
                have hXl := obj_lt hX
                (try clear hXsc0 hXsf hXsl)
                have hXsc0 := obj_at hXs 0 _ rfl
                have hXsf := obj_fz hXs 0
                have hXsl := obj_lt hXs
                (try clear hCsc0 hCsc1 hCsf hCsl)
                have hCsc0 := obj_at hCs 0 _ rfl
                have hCsc1 := obj_at hCs 1 _ rfl
                have hCsf := obj_fz hCs 0
                have hCsl := obj_lt hCs
                (try clear hTsc0 hTsc1 hTsf hTsl)
                have hTsc0 := obj_at hTs 0 _ rfl
                have hTsc1 := obj_at hTs 1 _ rfl
                have hTsf := obj_fz hTs 0
                have hTsl := obj_lt hTs
                go_upto_region 26 with fail
                have tkm20 : True := trivial
                go_region_held3 (fun w' => w'.cell? ⟨wp.heap.size, 0, none⟩ = some (.slice (some ⟨g, 0, none⟩) R1.length c2) ∧ w'.cell? ⟨wp.heap.size + 1, 0, none⟩ = some (.slice OX ts1.length ocx)) (simp (maxDischargeDepth := 9) [*, World.cell?_alloc_some, World.cell?_setCell_far]) (first
                  | (clear tkm20; go_at_call 36; refine (DX2.out _ (hI.ext (by (repeat (first | exact Below.refl _ _ | assumption | refine below_drewN ?_ _ | refine below_drew ?_ | refine below_gr ?_ ?_ _ | refine below_alloc ?_ ?_ _ | refine Below.setCell ?_ ?_ _ | refine below_step ?_ (by assumption) ?_ | omega | (simp only [zz] at *; omega))))) (hTX.ext (by (repeat (first | exact Below.refl _ _ | assumption | refine below_drewN ?_ _ | refine below_drew ?_ | refine below_gr ?_ ?_ _ | refine below_alloc ?_ ?_ _ | refine Below.setCell ?_ ?_ _ | refine below_step ?_ (by assumption) ?_ | omega | (simp only [zz] at *; omega)))))).mono ?_; rintro e m2 ⟨O5, o5, rfl, hb_m2, hO5⟩; replace hb_m2 := ex_below hb_m2; have hz_m2 := hb_m2.size; (try simp only [zz] at hz_m2); have hk0_m2 := own_cell hb_m2 (b := wp.heap.size) (by (first | omega | (simp only [zz]; omega) | (simp only [zz] at *; omega) | (simp; done) | (simp; omega))); have hl0_m2 : wp.heap.size < m2.heap.size := (by (first | omega | (simp only [zz] at *; omega))); have hk1_m2 := own_cell hb_m2 (b := (wp.heap.size + 1)) (by (first | omega | (simp only [zz]; omega) | (simp only [zz] at *; omega) | (simp; done) | (simp; omega))); have hl1_m2 : (wp.heap.size + 1) < m2.heap.size := (by (first | omega | (simp only [zz] at *; omega))); have tkm21 : True := trivial)
                  )
                have bel_m2 : Below m1.heap.size m1 m2 := (by (repeat (first | exact Below.refl _ _ | assumption | refine below_drewN ?_ _ | refine below_drew ?_ | refine below_gr ?_ ?_ _ | refine below_alloc ?_ ?_ _ | refine Below.setCell ?_ ?_ _ | refine below_step ?_ (by assumption) ?_ | omega | (simp only [zz] at *; omega))))
                have sz_m2 := bel_m2.size
                replace hA := hA.ext bel_m2
                replace hB := hB.ext bel_m2
                replace hTX := hTX.ext bel_m2
                replace hTY := hTY.ext bel_m2
                replace hI := hI.ext bel_m2
                replace hX := hX.ext bel_m2
                replace hXs := hXs.ext bel_m2
                replace hW := below_step hW bel_m2 (by have := hW.size; omega)
                replace hCs := hCs.ext bel_m2
                replace hTs := hTs.ext bel_m2
                replace hO3 := hO3.ext bel_m2
                replace hbr := below_step hbr bel_m2 (by have := hbr.size; omega)
                clear bel_m2 hb_m2 hz_m2 hk0_m2 hk1_m2 hl0_m2 hl1_m2
                (try clear hXc0 hXf hXl)
                have hXc0 := obj_at hX 0 _ rfl
                have hXf := obj_fz hX 0
                have hXl := obj_lt hX
                (try clear hXsc0 hXsf hXsl)
                have hXsc0 := obj_at hXs 0 _ rfl
                have hXsf := obj_fz hXs 0
                have hXsl := obj_lt hXs
                (try clear hCsc0 hCsc1 hCsf hCsl)
                have hCsc0 := obj_at hCs 0 _ rfl
                have hCsc1 := obj_at hCs 1 _ rfl
                have hCsf := obj_fz hCs 0
                have hCsl := obj_lt hCs
                (try clear hTsc0 hTsc1 hTsf hTsl)
                have hTsc0 := obj_at hTs 0 _ rfl
                have hTsc1 := obj_at hTs 1 _ rfl
                have hTsf := obj_fz hTs 0
                have hTsl := obj_lt hTs
                clear hO5
                go_upto_region 27 with fail
                have tkm30 : True := trivial
                go_region_held3 (fun w' => w'.cell? ⟨wp.heap.size, 0, none⟩ = some (.slice (some ⟨g, 0, none⟩) R1.length c2) ∧ w'.cell? ⟨wp.heap.size + 1, 0, none⟩ = some (.slice OX ts1.length ocx)) (simp (maxDischargeDepth := 9) [*, World.cell?_alloc_some, World.cell?_setCell_far]) (first
                  | (clear tkm30; go_at_call 38; refine (DX3.out _ (hI.ext (by (repeat (first | exact Below.refl _ _ | assumption | refine below_drewN ?_ _ | refine below_drew ?_ | refine below_gr ?_ ?_ _ | refine below_alloc ?_ ?_ _ | refine Below.setCell ?_ ?_ _ | refine below_step ?_ (by assumption) ?_ | omega | (simp only [zz] at *; omega))))) (hTX.ext (by (repeat (first | exact Below.refl _ _ | assumption | refine below_drewN ?_ _ | refine below_drew ?_ | refine below_gr ?_ ?_ _ | refine below_alloc ?_ ?_ _ | refine Below.setCell ?_ ?_ _ | refine below_step ?_ (by assumption) ?_ | omega | (simp only [zz] at *; omega)))))).mono ?_; rintro e m3 ⟨O6, o6, rfl, hb_m3, hO6⟩; replace hb_m3 := ex_below hb_m3; have hz_m3 := hb_m3.size; (try simp only [zz] at hz_m3); have hk0_m3 := own_cell hb_m3 (b := wp.heap.size) (by (first | omega | (simp only [zz]; omega) | (simp only [zz] at *; omega) | (simp; done) | (simp; omega))); have hl0_m3 : wp.heap.size < m3.heap.size := (by (first | omega | (simp only [zz] at *; omega))); have hk1_m3 := own_cell hb_m3 (b := (wp.heap.size + 1)) (by (first | omega | (simp only [zz]; omega) | (simp only [zz] at *; omega) | (simp; done) | (simp; omega))); have hl1_m3 : (wp.heap.size + 1) < m3.heap.size := (by (first | omega | (simp only [zz] at *; omega))); have tkm31 : True := trivial)
                  )
                have bel_m3 : Below m2.heap.size m2 m3 := (by (repeat (first | exact Below.refl _ _ | assumption | refine below_drewN ?_ _ | refine below_drew ?_ | refine below_gr ?_ ?_ _ | refine below_alloc ?_ ?_ _ | refine Below.setCell ?_ ?_ _ | refine below_step ?_ (by assumption) ?_ | omega | (simp only [zz] at *; omega))))
                have sz_m3 := bel_m3.size
                replace hA := hA.ext bel_m3
                replace hB := hB.ext bel_m3
                replace hTX := hTX.ext bel_m3
                replace hTY := hTY.ext bel_m3
                replace hI := hI.ext bel_m3
                replace hX := hX.ext bel_m3
                replace hXs := hXs.ext bel_m3
                replace hW := below_step hW bel_m3 (by have := hW.size; omega)
                replace hCs := hCs.ext bel_m3
                replace hTs := hTs.ext bel_m3
                replace hO3 := hO3.ext bel_m3
                replace hbr := below_step hbr bel_m3 (by have := hbr.size; omega)
                clear bel_m3 hb_m3 hz_m3 hk0_m3 hk1_m3 hl0_m3 hl1_m3
                (try clear hXc0 hXf hXl)
                have hXc0 := obj_at hX 0 _ rfl
                have hXf := obj_fz hX 0
                have hXl := obj_lt hX
                (try clear hXsc0 hXsf hXsl)
                have hXsc0 := obj_at hXs 0 _ rfl
                have hXsf := obj_fz hXs 0
                have hXsl := obj_lt hXs
                (try clear hCsc0 hCsc1 hCsf hCsl)
                have hCsc0 := obj_at hCs 0 _ rfl
                have hCsc1 := obj_at hCs 1 _ rfl
                have hCsf := obj_fz hCs 0
                have hCsl := obj_lt hCs
                (try clear hTsc0 hTsc1 hTsf hTsl)
                have hTsc0 := obj_at hTs 0 _ rfl
                have hTsc1 := obj_at hTs 1 _ rfl
                have hTsf := obj_fz hTs 0
                have hTsl := obj_lt hTs
                go_upto_region 28 with fail
                go_cut [296] from 271 to 295 (fun s wx => s = .bool false ∧ Below m3.heap.size m3 wx)
                case first =>
                  as_aux_lemma =>
                  have hbw := Below.refl m3.heap.size m3
                  have tok0 : True := trivial
                  go_wp2_with (first
    | (clear tok0; go_at_call 40; refine (w_ints _ _ _ _ _ _ (hO6.ext (by (repeat (first | exact Below.refl _ _ | assumption | refine below_drewN ?_ _ | refine below_drew ?_ | refine below_gr ?_ ?_ _ | refine below_alloc ?_ ?_ _ | refine Below.setCell ?_ ?_ _ | refine below_step ?_ (by assumption) ?_ | omega | (simp only [zz] at *; omega))))) (hO3.ext (by (repeat (first | exact Below.refl _ _ | assumption | refine below_drewN ?_ _ | refine below_drew ?_ | refine below_gr ?_ ?_ _ | refine below_alloc ?_ ?_ _ | refine Below.setCell ?_ ?_ _ | refine below_step ?_ (by assumption) ?_ | omega | (simp only [zz] at *; omega))))) hilz).mono ?_; rintro e u1 ⟨rfl, hb_u1⟩; replace hb_u1 := ex_below hb_u1; have bel_u1 : Below m3.heap.size m3 u1 := (by (repeat (first | exact Below.refl _ _ | assumption | refine below_drewN ?_ _ | refine below_drew ?_ | refine below_gr ?_ ?_ _ | refine below_alloc ?_ ?_ _ | refine Below.setCell ?_ ?_ _ | refine below_step ?_ (by assumption) ?_ | omega | (simp only [zz] at *; omega)))); clear hb_u1; have sz_u1 := bel_u1.size; replace hO6 := hO6.ext bel_u1; replace hO3 := hO3.ext bel_u1; replace hbw := below_step hbw bel_u1 (by have := hbw.size; omega); clear bel_u1; have tok1 : True := trivial))
                  go_meet
                  exact ⟨v_bool (by first | rfl | (simp; omega)), hbw⟩
                case rest =>
                  as_aux_lemma =>
                  obtain ⟨rfl, hbc⟩ := hcut
                  obtain ⟨v28, hv28⟩ : ∃ v, v = wc := ⟨_, rfl⟩
                  rw [← hv28] at hbc ⊢
                  clear hv28
                  replace hA := hA.ext hbc
                  replace hB := hB.ext hbc
                  replace hTX := hTX.ext hbc
                  replace hTY := hTY.ext hbc
                  replace hI := hI.ext hbc
                  replace hX := hX.ext hbc
                  replace hXs := hXs.ext hbc
                  replace hW := below_step hW hbc (by have := hW.size; omega)
                  replace hCs := hCs.ext hbc
                  replace hTs := hTs.ext hbc
                  replace hO3 := hO3.ext hbc
                  replace hbr := below_step hbr hbc (by have := hbr.size; omega)
                  replace hO6 := hO6.ext hbc
                  clear hbc
                  clear hO6
                  (try clear hXc0 hXf hXl)
                  have hXc0 := obj_at hX 0 _ rfl
                  have hXf := obj_fz hX 0
                  have hXl := obj_lt hX
                  (try clear hXsc0 hXsf hXsl)
                  have hXsc0 := obj_at hXs 0 _ rfl
                  have hXsf := obj_fz hXs 0
                  have hXsl := obj_lt hXs
                  (try clear hCsc0 hCsc1 hCsf hCsl)
                  have hCsc0 := obj_at hCs 0 _ rfl
                  have hCsc1 := obj_at hCs 1 _ rfl
                  have hCsf := obj_fz hCs 0
                  have hCsl := obj_lt hCs
                  (try clear hTsc0 hTsc1 hTsf hTsl)
                  have hTsc0 := obj_at hTs 0 _ rfl
                  have hTsc1 := obj_at hTs 1 _ rfl
                  have hTsf := obj_fz hTs 0
                  have hTsl := obj_lt hTs
                  go_wp2
                  go_loopw [40] (fun t wr3 => ∃ y : Nat, y ≤ ts1.length ∧ t = .int .i64 (y : Nat) ∧ Below v28.heap.size v28 wr3) (fun t _ => ts1.length - (intOf t).toNat)
                  case atStart => exact ⟨0, Nat.zero_le _, rfl, Below.refl _ _⟩
                  case round =>
                    obtain ⟨y, hy, rfl, hb3⟩ := hrel
                    obtain ⟨wy, rfl⟩ : ∃ wy, wy = wr := ⟨_, rfl⟩
                    have hb39 := hb3
                    replace hA := hA.ext hb39
                    replace hB := hB.ext hb39
                    replace hTX := hTX.ext hb39
                    replace hTY := hTY.ext hb39
                    replace hI := hI.ext hb39
                    replace hX := hX.ext hb39
                    replace hXs := hXs.ext hb39
                    replace hW := below_step hW hb39 (by have := hW.size; omega)
                    replace hCs := hCs.ext hb39
                    replace hTs := hTs.ext hb39
                    replace hO3 := hO3.ext hb39
                    replace hbr := below_step hbr hb39 (by have := hbr.size; omega)
                    clear hb39
                    (try clear hXc0 hXf hXl)
                    have hXc0 := obj_at hX 0 _ rfl
                    have hXf := obj_fz hX 0
                    have hXl := obj_lt hX
                    (try clear hXsc0 hXsf hXsl)
                    have hXsc0 := obj_at hXs 0 _ rfl
                    have hXsf := obj_fz hXs 0
                    have hXsl := obj_lt hXs
                    (try clear hCsc0 hCsc1 hCsf hCsl)
                    have hCsc0 := obj_at hCs 0 _ rfl
                    have hCsc1 := obj_at hCs 1 _ rfl
                    have hCsf := obj_fz hCs 0
                    have hCsl := obj_lt hCs
                    (try clear hTsc0 hTsc1 hTsf hTsl)
                    have hTsc0 := obj_at hTs 0 _ rfl
                    have hTsc1 := obj_at hTs 1 _ rfl
                    have hTsf := obj_fz hTs 0
                    have hTsl := obj_lt hTs
                    by_cases hly : y < ts1.length
                    · as_aux_lemma =>
                      have hyi : (y : Int) < (ts1.length : Int) := by omega
                      have hxy : y < X.length := by omega
                      obtain ⟨tb, tq, rfl, htb⟩ := hB.form (by rw [tz_len]; omega)
                      obtain ⟨Sa, sc, q1, q2, q3, hS⟩ := hB.at (k := y) (by rw [tz_len]; exact hly)
                      simp only [tz_at _ _ hly, zs_len] at q1 q2 q3 hS
                      obtain ⟨ob, oo, rfl, hob⟩ := hTX.form (by rw [tz_len]; omega)
                      obtain ⟨Xa, xc9, p1, p2, p3, hXS⟩ := hTX.at (k := y) (by rw [tz_len]; exact hxy)
                      simp only [tz_at _ _ hxy, zs_len] at p1 p2 p3 hXS
                      have F1 := hide (fun w' h1 h2 => E1.out y hly Sa sc w' h1 h2 q3)
                      have F2 := hide (fun w' h1 h2 => EX.out y hly hxy Xa xc9 w' h1 h2 p3)
                      have hwl := HWL.out y hly
                      clear q3 p3
                      generalize Bm.withinN R1 ts1[y].1 m = wv at *
                      have hvv : ((wv : Int) != (wv : Int)) = false := by simp
                      generalize ts1[y] = t1 at *
                      generalize X[y] = t2 at *
                      obtain ⟨S1, ua⟩ : Bm.Tk := t1
                      obtain ⟨S2, ub⟩ : Bm.Tk := t2
                      simp only at q1 q2 hS p1 p2 hXS F1 F2
                      go_upto_region 34 with fail
                      have tkn10 : True := trivial
                      go_region_held3 (fun w' => w'.cell? ⟨w.heap.size, 0, none⟩ = some (.slice (some ⟨ab, ao, none⟩) R1.length c) ∧ w'.cell? ⟨tb, tq + y * 2, none⟩ = some (.slice Sa S1.length sc) ∧ w'.cell? ⟨tb, tq + y * 2 + 1, none⟩ = some (.int .i64 (ua : Nat))) (simp (maxDischargeDepth := 9) [*, World.cell?_alloc_some, World.cell?_setCell_far]) (first
                        | (clear tkn10; go_at_call 27; refine (F1.out _ (hA.ext (by (repeat (first | exact Below.refl _ _ | assumption | refine below_drewN ?_ _ | refine below_drew ?_ | refine below_gr ?_ ?_ _ | refine below_alloc ?_ ?_ _ | refine Below.setCell ?_ ?_ _ | refine below_step ?_ (by assumption) ?_ | omega | (simp only [zz] at *; omega))))) (hS.ext (by (repeat (first | exact Below.refl _ _ | assumption | refine below_drewN ?_ _ | refine below_drew ?_ | refine below_gr ?_ ?_ _ | refine below_alloc ?_ ?_ _ | refine Below.setCell ?_ ?_ _ | refine below_step ?_ (by assumption) ?_ | omega | (simp only [zz] at *; omega)))))).mono ?_; rintro e n1 ⟨rfl, hb_n1⟩; replace hb_n1 := ex_below hb_n1; have hz_n1 := hb_n1.size; (try simp only [zz] at hz_n1); have hk0_n1 := own_cell hb_n1 (b := w.heap.size) (by (first | omega | (simp only [zz]; omega) | (simp only [zz] at *; omega) | (simp; done) | (simp; omega))); have hl0_n1 : w.heap.size < n1.heap.size := (by (first | omega | (simp only [zz] at *; omega))); have hk1_n1 := own_cell hb_n1 (b := tb) (by (first | omega | (simp only [zz]; omega) | (simp only [zz] at *; omega) | (simp; done) | (simp; omega))); have hl1_n1 : tb < n1.heap.size := (by (first | omega | (simp only [zz] at *; omega))); have tkn11 : True := trivial)
                        )
                      have bel_n1 : Below wy.heap.size wy n1 := (by (repeat (first | exact Below.refl _ _ | assumption | refine below_drewN ?_ _ | refine below_drew ?_ | refine below_gr ?_ ?_ _ | refine below_alloc ?_ ?_ _ | refine Below.setCell ?_ ?_ _ | refine below_step ?_ (by assumption) ?_ | omega | (simp only [zz] at *; omega))))
                      have sz_n1 := bel_n1.size
                      replace hA := hA.ext bel_n1
                      replace hB := hB.ext bel_n1
                      replace hTX := hTX.ext bel_n1
                      replace hTY := hTY.ext bel_n1
                      replace hI := hI.ext bel_n1
                      replace hX := hX.ext bel_n1
                      replace hXs := hXs.ext bel_n1
                      replace hW := below_step hW bel_n1 (by have := hW.size; omega)
                      replace hCs := hCs.ext bel_n1
                      replace hTs := hTs.ext bel_n1
                      replace hbr := below_step hbr bel_n1 (by have := hbr.size; omega)
                      replace hb3 := below_step hb3 bel_n1 (by have := hb3.size; omega)
                      replace hS := hS.ext bel_n1
                      replace hXS := hXS.ext bel_n1
                      replace q1 := (bel_n1.cell (p := ⟨tb, tq + y * 2, none⟩) htb).trans q1
                      replace q2 := (bel_n1.cell (p := ⟨tb, tq + y * 2 + 1, none⟩) htb).trans q2
                      replace htb := Nat.lt_of_lt_of_le htb bel_n1.size
                      replace p1 := (bel_n1.cell (p := ⟨ob, oo + y * 2, none⟩) hob).trans p1
                      replace p2 := (bel_n1.cell (p := ⟨ob, oo + y * 2 + 1, none⟩) hob).trans p2
                      replace hob := Nat.lt_of_lt_of_le hob bel_n1.size
                      clear bel_n1 hb_n1 hz_n1 hk0_n1 hk1_n1 hl0_n1 hl1_n1
                      (try clear hXc0 hXf hXl)
                      have hXc0 := obj_at hX 0 _ rfl
                      have hXf := obj_fz hX 0
                      have hXl := obj_lt hX
                      (try clear hXsc0 hXsf hXsl)
                      have hXsc0 := obj_at hXs 0 _ rfl
                      have hXsf := obj_fz hXs 0
                      have hXsl := obj_lt hXs
                      (try clear hCsc0 hCsc1 hCsf hCsl)
                      have hCsc0 := obj_at hCs 0 _ rfl
                      have hCsc1 := obj_at hCs 1 _ rfl
                      have hCsf := obj_fz hCs 0
                      have hCsl := obj_lt hCs
                      (try clear hTsc0 hTsc1 hTsf hTsl)
                      have hTsc0 := obj_at hTs 0 _ rfl
                      have hTsc1 := obj_at hTs 1 _ rfl
                      have hTsf := obj_fz hTs 0
                      have hTsl := obj_lt hTs
                      go_upto_region 35 with fail
                      have tkn20 : True := trivial
                      go_region_held3 (fun w' => w'.cell? ⟨wp.heap.size, 0, none⟩ = some (.slice (some ⟨g, 0, none⟩) R1.length c2) ∧ w'.cell? ⟨wp.heap.size + 1, 0, none⟩ = some (.slice (some ⟨ob, oo, none⟩) ts1.length ocx) ∧ w'.cell? ⟨ob, oo + y * 2, none⟩ = some (.slice Xa S2.length xc9) ∧ w'.cell? ⟨ob, oo + y * 2 + 1, none⟩ = some (.int .i64 (ub : Nat))) (simp (maxDischargeDepth := 9) [*, World.cell?_alloc_some, World.cell?_setCell_far]) (first
                        | (clear tkn20; go_at_call 27; refine (F2.out _ (hI.ext (by (repeat (first | exact Below.refl _ _ | assumption | refine below_drewN ?_ _ | refine below_drew ?_ | refine below_gr ?_ ?_ _ | refine below_alloc ?_ ?_ _ | refine Below.setCell ?_ ?_ _ | refine below_step ?_ (by assumption) ?_ | omega | (simp only [zz] at *; omega))))) (hXS.ext (by (repeat (first | exact Below.refl _ _ | assumption | refine below_drewN ?_ _ | refine below_drew ?_ | refine below_gr ?_ ?_ _ | refine below_alloc ?_ ?_ _ | refine Below.setCell ?_ ?_ _ | refine below_step ?_ (by assumption) ?_ | omega | (simp only [zz] at *; omega)))))).mono ?_; rintro e n2 ⟨rfl, hb_n2⟩; replace hb_n2 := ex_below hb_n2; have hz_n2 := hb_n2.size; (try simp only [zz] at hz_n2); have hk0_n2 := own_cell hb_n2 (b := wp.heap.size) (by (first | omega | (simp only [zz]; omega) | (simp only [zz] at *; omega) | (simp; done) | (simp; omega))); have hl0_n2 : wp.heap.size < n2.heap.size := (by (first | omega | (simp only [zz] at *; omega))); have hk1_n2 := own_cell hb_n2 (b := (wp.heap.size + 1)) (by (first | omega | (simp only [zz]; omega) | (simp only [zz] at *; omega) | (simp; done) | (simp; omega))); have hl1_n2 : (wp.heap.size + 1) < n2.heap.size := (by (first | omega | (simp only [zz] at *; omega))); have hk2_n2 := own_cell hb_n2 (b := ob) (by (first | omega | (simp only [zz]; omega) | (simp only [zz] at *; omega) | (simp; done) | (simp; omega))); have hl2_n2 : ob < n2.heap.size := (by (first | omega | (simp only [zz] at *; omega))); have tkn21 : True := trivial)
                        )
                      have bel_n2 : Below n1.heap.size n1 n2 := (by (repeat (first | exact Below.refl _ _ | assumption | refine below_drewN ?_ _ | refine below_drew ?_ | refine below_gr ?_ ?_ _ | refine below_alloc ?_ ?_ _ | refine Below.setCell ?_ ?_ _ | refine below_step ?_ (by assumption) ?_ | omega | (simp only [zz] at *; omega))))
                      have sz_n2 := bel_n2.size
                      replace hA := hA.ext bel_n2
                      replace hB := hB.ext bel_n2
                      replace hTX := hTX.ext bel_n2
                      replace hTY := hTY.ext bel_n2
                      replace hI := hI.ext bel_n2
                      replace hX := hX.ext bel_n2
                      replace hXs := hXs.ext bel_n2
                      replace hW := below_step hW bel_n2 (by have := hW.size; omega)
                      replace hCs := hCs.ext bel_n2
                      replace hTs := hTs.ext bel_n2
                      replace hbr := below_step hbr bel_n2 (by have := hbr.size; omega)
                      replace hb3 := below_step hb3 bel_n2 (by have := hb3.size; omega)
                      replace hS := hS.ext bel_n2
                      replace hXS := hXS.ext bel_n2
                      replace q1 := (bel_n2.cell (p := ⟨tb, tq + y * 2, none⟩) htb).trans q1
                      replace q2 := (bel_n2.cell (p := ⟨tb, tq + y * 2 + 1, none⟩) htb).trans q2
                      replace htb := Nat.lt_of_lt_of_le htb bel_n2.size
                      replace p1 := (bel_n2.cell (p := ⟨ob, oo + y * 2, none⟩) hob).trans p1
                      replace p2 := (bel_n2.cell (p := ⟨ob, oo + y * 2 + 1, none⟩) hob).trans p2
                      replace hob := Nat.lt_of_lt_of_le hob bel_n2.size
                      clear bel_n2 hb_n2 hz_n2 hk0_n2 hk1_n2 hk2_n2 hl0_n2 hl1_n2 hl2_n2
                      (try clear hXc0 hXf hXl)
                      have hXc0 := obj_at hX 0 _ rfl
                      have hXf := obj_fz hX 0
                      have hXl := obj_lt hX
                      (try clear hXsc0 hXsf hXsl)
                      have hXsc0 := obj_at hXs 0 _ rfl
                      have hXsf := obj_fz hXs 0
                      have hXsl := obj_lt hXs
                      (try clear hCsc0 hCsc1 hCsf hCsl)
                      have hCsc0 := obj_at hCs 0 _ rfl
                      have hCsc1 := obj_at hCs 1 _ rfl
                      have hCsf := obj_fz hCs 0
                      have hCsl := obj_lt hCs
                      (try clear hTsc0 hTsc1 hTsf hTsl)
                      have hTsc0 := obj_at hTs 0 _ rfl
                      have hTsc1 := obj_at hTs 1 _ rfl
                      have hTsf := obj_fz hTs 0
                      have hTsl := obj_lt hTs
                      go_wp2
                      exact ⟨⟨y + 1, by omega, by go_num, hb3⟩, by simp [intOf]; omega⟩
                    · have hyi : ¬ (y : Int) < (ts1.length : Int) := by omega
                      have hbr2 := hbr
                      go_wp2
                      exact ⟨⟨.inr (.inl rfl), hbr2⟩, by simp [intOf]⟩
              · as_aux_lemma =>
                go_upto_region 25 with fail
                have tkm10 : True := trivial
                go_region_held3 (fun w' => w'.cell? ⟨wp.heap.size, 1, none⟩ = some (.slice (some ⟨ab, ao, none⟩) R1.length c) ∧ w'.cell? ⟨wp.heap.size + 1, 1, none⟩ = some (.slice OY ts1.length ocy)) (simp (maxDischargeDepth := 9) [*, World.cell?_alloc_some, World.cell?_setCell_far]) (first
                  | (clear tkm10; go_at_call 32; refine (DY1.out _ (hA.ext (by (repeat (first | exact Below.refl _ _ | assumption | refine below_drewN ?_ _ | refine below_drew ?_ | refine below_gr ?_ ?_ _ | refine below_alloc ?_ ?_ _ | refine Below.setCell ?_ ?_ _ | refine below_step ?_ (by assumption) ?_ | omega | (simp only [zz] at *; omega))))) (hTY.ext (by (repeat (first | exact Below.refl _ _ | assumption | refine below_drewN ?_ _ | refine below_drew ?_ | refine below_gr ?_ ?_ _ | refine below_alloc ?_ ?_ _ | refine Below.setCell ?_ ?_ _ | refine below_step ?_ (by assumption) ?_ | omega | (simp only [zz] at *; omega)))))).mono ?_; rintro e m1 ⟨rfl, hb_m1⟩; replace hb_m1 := ex_below hb_m1; have hz_m1 := hb_m1.size; (try simp only [zz] at hz_m1); have hk0_m1 := own_cell hb_m1 (b := wp.heap.size) (by (first | omega | (simp only [zz]; omega) | (simp only [zz] at *; omega) | (simp; done) | (simp; omega))); have hl0_m1 : wp.heap.size < m1.heap.size := (by (first | omega | (simp only [zz] at *; omega))); have hk1_m1 := own_cell hb_m1 (b := (wp.heap.size + 1)) (by (first | omega | (simp only [zz]; omega) | (simp only [zz] at *; omega) | (simp; done) | (simp; omega))); have hl1_m1 : (wp.heap.size + 1) < m1.heap.size := (by (first | omega | (simp only [zz] at *; omega))); have tkm11 : True := trivial)
                  )
                have bel_m1 : Below wk.heap.size wk m1 := (by (repeat (first | exact Below.refl _ _ | assumption | refine below_drewN ?_ _ | refine below_drew ?_ | refine below_gr ?_ ?_ _ | refine below_alloc ?_ ?_ _ | refine Below.setCell ?_ ?_ _ | refine below_step ?_ (by assumption) ?_ | omega | (simp only [zz] at *; omega))))
                have sz_m1 := bel_m1.size
                replace hA := hA.ext bel_m1
                replace hB := hB.ext bel_m1
                replace hTX := hTX.ext bel_m1
                replace hTY := hTY.ext bel_m1
                replace hI := hI.ext bel_m1
                replace hX := hX.ext bel_m1
                replace hXs := hXs.ext bel_m1
                replace hW := below_step hW bel_m1 (by have := hW.size; omega)
                replace hCs := hCs.ext bel_m1
                replace hTs := hTs.ext bel_m1
                replace hO3 := hO3.ext bel_m1
                replace hbr := below_step hbr bel_m1 (by have := hbr.size; omega)
                clear bel_m1 hb_m1 hz_m1 hk0_m1 hk1_m1 hl0_m1 hl1_m1
                (try clear hXc0 hXf hXl)
                have hXc0 := obj_at hX 0 _ rfl
                have hXf := obj_fz hX 0
                have hXl := obj_lt hX
                (try clear hXsc0 hXsf hXsl)
                have hXsc0 := obj_at hXs 0 _ rfl
                have hXsf := obj_fz hXs 0
                have hXsl := obj_lt hXs
                (try clear hCsc0 hCsc1 hCsf hCsl)
                have hCsc0 := obj_at hCs 0 _ rfl
                have hCsc1 := obj_at hCs 1 _ rfl
                have hCsf := obj_fz hCs 0
                have hCsl := obj_lt hCs
                (try clear hTsc0 hTsc1 hTsf hTsl)
                have hTsc0 := obj_at hTs 0 _ rfl
                have hTsc1 := obj_at hTs 1 _ rfl
                have hTsf := obj_fz hTs 0
                have hTsl := obj_lt hTs
                go_upto_region 26 with fail
                have tkm20 : True := trivial
                go_region_held3 (fun w' => w'.cell? ⟨wp.heap.size, 1, none⟩ = some (.slice (some ⟨ab, ao, none⟩) R1.length c) ∧ w'.cell? ⟨wp.heap.size + 1, 1, none⟩ = some (.slice OY ts1.length ocy)) (simp (maxDischargeDepth := 9) [*, World.cell?_alloc_some, World.cell?_setCell_far]) (first
                  | (clear tkm20; go_at_call 36; refine (DY2.out _ (hA.ext (by (repeat (first | exact Below.refl _ _ | assumption | refine below_drewN ?_ _ | refine below_drew ?_ | refine below_gr ?_ ?_ _ | refine below_alloc ?_ ?_ _ | refine Below.setCell ?_ ?_ _ | refine below_step ?_ (by assumption) ?_ | omega | (simp only [zz] at *; omega))))) (hTY.ext (by (repeat (first | exact Below.refl _ _ | assumption | refine below_drewN ?_ _ | refine below_drew ?_ | refine below_gr ?_ ?_ _ | refine below_alloc ?_ ?_ _ | refine Below.setCell ?_ ?_ _ | refine below_step ?_ (by assumption) ?_ | omega | (simp only [zz] at *; omega)))))).mono ?_; rintro e m2 ⟨O5, o5, rfl, hb_m2, hO5⟩; replace hb_m2 := ex_below hb_m2; have hz_m2 := hb_m2.size; (try simp only [zz] at hz_m2); have hk0_m2 := own_cell hb_m2 (b := wp.heap.size) (by (first | omega | (simp only [zz]; omega) | (simp only [zz] at *; omega) | (simp; done) | (simp; omega))); have hl0_m2 : wp.heap.size < m2.heap.size := (by (first | omega | (simp only [zz] at *; omega))); have hk1_m2 := own_cell hb_m2 (b := (wp.heap.size + 1)) (by (first | omega | (simp only [zz]; omega) | (simp only [zz] at *; omega) | (simp; done) | (simp; omega))); have hl1_m2 : (wp.heap.size + 1) < m2.heap.size := (by (first | omega | (simp only [zz] at *; omega))); have tkm21 : True := trivial)
                  )
                have bel_m2 : Below m1.heap.size m1 m2 := (by (repeat (first | exact Below.refl _ _ | assumption | refine below_drewN ?_ _ | refine below_drew ?_ | refine below_gr ?_ ?_ _ | refine below_alloc ?_ ?_ _ | refine Below.setCell ?_ ?_ _ | refine below_step ?_ (by assumption) ?_ | omega | (simp only [zz] at *; omega))))
                have sz_m2 := bel_m2.size
                replace hA := hA.ext bel_m2
                replace hB := hB.ext bel_m2
                replace hTX := hTX.ext bel_m2
                replace hTY := hTY.ext bel_m2
                replace hI := hI.ext bel_m2
                replace hX := hX.ext bel_m2
                replace hXs := hXs.ext bel_m2
                replace hW := below_step hW bel_m2 (by have := hW.size; omega)
                replace hCs := hCs.ext bel_m2
                replace hTs := hTs.ext bel_m2
                replace hO3 := hO3.ext bel_m2
                replace hbr := below_step hbr bel_m2 (by have := hbr.size; omega)
                clear bel_m2 hb_m2 hz_m2 hk0_m2 hk1_m2 hl0_m2 hl1_m2
                (try clear hXc0 hXf hXl)
                have hXc0 := obj_at hX 0 _ rfl
                have hXf := obj_fz hX 0
                have hXl := obj_lt hX
                (try clear hXsc0 hXsf hXsl)
                have hXsc0 := obj_at hXs 0 _ rfl
                have hXsf := obj_fz hXs 0
                have hXsl := obj_lt hXs
                (try clear hCsc0 hCsc1 hCsf hCsl)
                have hCsc0 := obj_at hCs 0 _ rfl
                have hCsc1 := obj_at hCs 1 _ rfl
                have hCsf := obj_fz hCs 0
                have hCsl := obj_lt hCs
                (try clear hTsc0 hTsc1 hTsf hTsl)
                have hTsc0 := obj_at hTs 0 _ rfl
                have hTsc1 := obj_at hTs 1 _ rfl
                have hTsf := obj_fz hTs 0
                have hTsl := obj_lt hTs
                clear hO5
                go_upto_region 27 with fail
                have tkm30 : True := trivial
                go_region_held3 (fun w' => w'.cell? ⟨wp.heap.size, 1, none⟩ = some (.slice (some ⟨ab, ao, none⟩) R1.length c) ∧ w'.cell? ⟨wp.heap.size + 1, 1, none⟩ = some (.slice OY ts1.length ocy)) (simp (maxDischargeDepth := 9) [*, World.cell?_alloc_some, World.cell?_setCell_far]) (first
                  | (clear tkm30; go_at_call 38; refine (DY3.out _ (hA.ext (by (repeat (first | exact Below.refl _ _ | assumption | refine below_drewN ?_ _ | refine below_drew ?_ | refine below_gr ?_ ?_ _ | refine below_alloc ?_ ?_ _ | refine Below.setCell ?_ ?_ _ | refine below_step ?_ (by assumption) ?_ | omega | (simp only [zz] at *; omega))))) (hTY.ext (by (repeat (first | exact Below.refl _ _ | assumption | refine below_drewN ?_ _ | refine below_drew ?_ | refine below_gr ?_ ?_ _ | refine below_alloc ?_ ?_ _ | refine Below.setCell ?_ ?_ _ | refine below_step ?_ (by assumption) ?_ | omega | (simp only [zz] at *; omega)))))).mono ?_; rintro e m3 ⟨O6, o6, rfl, hb_m3, hO6⟩; replace hb_m3 := ex_below hb_m3; have hz_m3 := hb_m3.size; (try simp only [zz] at hz_m3); have hk0_m3 := own_cell hb_m3 (b := wp.heap.size) (by (first | omega | (simp only [zz]; omega) | (simp only [zz] at *; omega) | (simp; done) | (simp; omega))); have hl0_m3 : wp.heap.size < m3.heap.size := (by (first | omega | (simp only [zz] at *; omega))); have hk1_m3 := own_cell hb_m3 (b := (wp.heap.size + 1)) (by (first | omega | (simp only [zz]; omega) | (simp only [zz] at *; omega) | (simp; done) | (simp; omega))); have hl1_m3 : (wp.heap.size + 1) < m3.heap.size := (by (first | omega | (simp only [zz] at *; omega))); have tkm31 : True := trivial)
                  )
                have bel_m3 : Below m2.heap.size m2 m3 := (by (repeat (first | exact Below.refl _ _ | assumption | refine below_drewN ?_ _ | refine below_drew ?_ | refine below_gr ?_ ?_ _ | refine below_alloc ?_ ?_ _ | refine Below.setCell ?_ ?_ _ | refine below_step ?_ (by assumption) ?_ | omega | (simp only [zz] at *; omega))))
                have sz_m3 := bel_m3.size
                replace hA := hA.ext bel_m3
                replace hB := hB.ext bel_m3
                replace hTX := hTX.ext bel_m3
                replace hTY := hTY.ext bel_m3
                replace hI := hI.ext bel_m3
                replace hX := hX.ext bel_m3
                replace hXs := hXs.ext bel_m3
                replace hW := below_step hW bel_m3 (by have := hW.size; omega)
                replace hCs := hCs.ext bel_m3
                replace hTs := hTs.ext bel_m3
                replace hO3 := hO3.ext bel_m3
                replace hbr := below_step hbr bel_m3 (by have := hbr.size; omega)
                clear bel_m3 hb_m3 hz_m3 hk0_m3 hk1_m3 hl0_m3 hl1_m3
                (try clear hXc0 hXf hXl)
                have hXc0 := obj_at hX 0 _ rfl
                have hXf := obj_fz hX 0
                have hXl := obj_lt hX
                (try clear hXsc0 hXsf hXsl)
                have hXsc0 := obj_at hXs 0 _ rfl
                have hXsf := obj_fz hXs 0
                have hXsl := obj_lt hXs
                (try clear hCsc0 hCsc1 hCsf hCsl)
                have hCsc0 := obj_at hCs 0 _ rfl
                have hCsc1 := obj_at hCs 1 _ rfl
                have hCsf := obj_fz hCs 0
                have hCsl := obj_lt hCs
                (try clear hTsc0 hTsc1 hTsf hTsl)
                have hTsc0 := obj_at hTs 0 _ rfl
                have hTsc1 := obj_at hTs 1 _ rfl
                have hTsf := obj_fz hTs 0
                have hTsl := obj_lt hTs
                go_upto_region 28 with fail
                go_cut [296] from 271 to 295 (fun s wx => s = .bool false ∧ Below m3.heap.size m3 wx)
                case first =>
                  as_aux_lemma =>
                  have hbw := Below.refl m3.heap.size m3
                  have tok0 : True := trivial
                  go_wp2_with (first
    | (clear tok0; go_at_call 40; refine (w_ints _ _ _ _ _ _ (hO6.ext (by (repeat (first | exact Below.refl _ _ | assumption | refine below_drewN ?_ _ | refine below_drew ?_ | refine below_gr ?_ ?_ _ | refine below_alloc ?_ ?_ _ | refine Below.setCell ?_ ?_ _ | refine below_step ?_ (by assumption) ?_ | omega | (simp only [zz] at *; omega))))) (hO3.ext (by (repeat (first | exact Below.refl _ _ | assumption | refine below_drewN ?_ _ | refine below_drew ?_ | refine below_gr ?_ ?_ _ | refine below_alloc ?_ ?_ _ | refine Below.setCell ?_ ?_ _ | refine below_step ?_ (by assumption) ?_ | omega | (simp only [zz] at *; omega))))) hilz).mono ?_; rintro e u1 ⟨rfl, hb_u1⟩; replace hb_u1 := ex_below hb_u1; have bel_u1 : Below m3.heap.size m3 u1 := (by (repeat (first | exact Below.refl _ _ | assumption | refine below_drewN ?_ _ | refine below_drew ?_ | refine below_gr ?_ ?_ _ | refine below_alloc ?_ ?_ _ | refine Below.setCell ?_ ?_ _ | refine below_step ?_ (by assumption) ?_ | omega | (simp only [zz] at *; omega)))); clear hb_u1; have sz_u1 := bel_u1.size; replace hO6 := hO6.ext bel_u1; replace hO3 := hO3.ext bel_u1; replace hbw := below_step hbw bel_u1 (by have := hbw.size; omega); clear bel_u1; have tok1 : True := trivial))
                  go_meet
                  exact ⟨v_bool (by first | rfl | (simp; omega)), hbw⟩
                case rest =>
                  as_aux_lemma =>
                  obtain ⟨rfl, hbc⟩ := hcut
                  obtain ⟨v28, hv28⟩ : ∃ v, v = wc := ⟨_, rfl⟩
                  rw [← hv28] at hbc ⊢
                  clear hv28
                  replace hA := hA.ext hbc
                  replace hB := hB.ext hbc
                  replace hTX := hTX.ext hbc
                  replace hTY := hTY.ext hbc
                  replace hI := hI.ext hbc
                  replace hX := hX.ext hbc
                  replace hXs := hXs.ext hbc
                  replace hW := below_step hW hbc (by have := hW.size; omega)
                  replace hCs := hCs.ext hbc
                  replace hTs := hTs.ext hbc
                  replace hO3 := hO3.ext hbc
                  replace hbr := below_step hbr hbc (by have := hbr.size; omega)
                  replace hO6 := hO6.ext hbc
                  clear hbc
                  clear hO6
                  (try clear hXc0 hXf hXl)
                  have hXc0 := obj_at hX 0 _ rfl
                  have hXf := obj_fz hX 0
                  have hXl := obj_lt hX
                  (try clear hXsc0 hXsf hXsl)
                  have hXsc0 := obj_at hXs 0 _ rfl
                  have hXsf := obj_fz hXs 0
                  have hXsl := obj_lt hXs
                  (try clear hCsc0 hCsc1 hCsf hCsl)
                  have hCsc0 := obj_at hCs 0 _ rfl
                  have hCsc1 := obj_at hCs 1 _ rfl
                  have hCsf := obj_fz hCs 0
                  have hCsl := obj_lt hCs
                  (try clear hTsc0 hTsc1 hTsf hTsl)
                  have hTsc0 := obj_at hTs 0 _ rfl
                  have hTsc1 := obj_at hTs 1 _ rfl
                  have hTsf := obj_fz hTs 0
                  have hTsl := obj_lt hTs
                  go_wp2
                  go_loopw [40] (fun t wr3 => ∃ y : Nat, y ≤ ts1.length ∧ t = .int .i64 (y : Nat) ∧ Below v28.heap.size v28 wr3) (fun t _ => ts1.length - (intOf t).toNat)
                  case atStart => exact ⟨0, Nat.zero_le _, rfl, Below.refl _ _⟩
                  case round =>
                    obtain ⟨y, hy, rfl, hb3⟩ := hrel
                    obtain ⟨wy, rfl⟩ : ∃ wy, wy = wr := ⟨_, rfl⟩
                    have hb39 := hb3
                    replace hA := hA.ext hb39
                    replace hB := hB.ext hb39
                    replace hTX := hTX.ext hb39
                    replace hTY := hTY.ext hb39
                    replace hI := hI.ext hb39
                    replace hX := hX.ext hb39
                    replace hXs := hXs.ext hb39
                    replace hW := below_step hW hb39 (by have := hW.size; omega)
                    replace hCs := hCs.ext hb39
                    replace hTs := hTs.ext hb39
                    replace hO3 := hO3.ext hb39
                    replace hbr := below_step hbr hb39 (by have := hbr.size; omega)
                    clear hb39
                    (try clear hXc0 hXf hXl)
                    have hXc0 := obj_at hX 0 _ rfl
                    have hXf := obj_fz hX 0
                    have hXl := obj_lt hX
                    (try clear hXsc0 hXsf hXsl)
                    have hXsc0 := obj_at hXs 0 _ rfl
                    have hXsf := obj_fz hXs 0
                    have hXsl := obj_lt hXs
                    (try clear hCsc0 hCsc1 hCsf hCsl)
                    have hCsc0 := obj_at hCs 0 _ rfl
                    have hCsc1 := obj_at hCs 1 _ rfl
                    have hCsf := obj_fz hCs 0
                    have hCsl := obj_lt hCs
                    (try clear hTsc0 hTsc1 hTsf hTsl)
                    have hTsc0 := obj_at hTs 0 _ rfl
                    have hTsc1 := obj_at hTs 1 _ rfl
                    have hTsf := obj_fz hTs 0
                    have hTsl := obj_lt hTs
                    by_cases hly : y < ts1.length
                    · as_aux_lemma =>
                      have hyi : (y : Int) < (ts1.length : Int) := by omega
                      have hxy : y < Y.length := by omega
                      obtain ⟨tb, tq, rfl, htb⟩ := hB.form (by rw [tz_len]; omega)
                      obtain ⟨Sa, sc, q1, q2, q3, hS⟩ := hB.at (k := y) (by rw [tz_len]; exact hly)
                      simp only [tz_at _ _ hly, zs_len] at q1 q2 q3 hS
                      obtain ⟨ob, oo, rfl, hob⟩ := hTY.form (by rw [tz_len]; omega)
                      obtain ⟨Xa, xc9, p1, p2, p3, hXS⟩ := hTY.at (k := y) (by rw [tz_len]; exact hxy)
                      simp only [tz_at _ _ hxy, zs_len] at p1 p2 p3 hXS
                      have F1 := hide (fun w' h1 h2 => E1.out y hly Sa sc w' h1 h2 q3)
                      have F2 := hide (fun w' h1 h2 => EY.out y hly hxy Xa xc9 w' h1 h2 p3)
                      have hwl := HWL.out y hly
                      clear q3 p3
                      generalize Bm.withinN R1 ts1[y].1 m = wv at *
                      have hvv : ((wv : Int) != (wv : Int)) = false := by simp
                      generalize ts1[y] = t1 at *
                      generalize Y[y] = t2 at *
                      obtain ⟨S1, ua⟩ : Bm.Tk := t1
                      obtain ⟨S2, ub⟩ : Bm.Tk := t2
                      simp only at q1 q2 hS p1 p2 hXS F1 F2
                      go_upto_region 34 with fail
                      have tkn10 : True := trivial
                      go_region_held3 (fun w' => w'.cell? ⟨w.heap.size, 0, none⟩ = some (.slice (some ⟨ab, ao, none⟩) R1.length c) ∧ w'.cell? ⟨tb, tq + y * 2, none⟩ = some (.slice Sa S1.length sc) ∧ w'.cell? ⟨tb, tq + y * 2 + 1, none⟩ = some (.int .i64 (ua : Nat))) (simp (maxDischargeDepth := 9) [*, World.cell?_alloc_some, World.cell?_setCell_far]) (first
                        | (clear tkn10; go_at_call 27; refine (F1.out _ (hA.ext (by (repeat (first | exact Below.refl _ _ | assumption | refine below_drewN ?_ _ | refine below_drew ?_ | refine below_gr ?_ ?_ _ | refine below_alloc ?_ ?_ _ | refine Below.setCell ?_ ?_ _ | refine below_step ?_ (by assumption) ?_ | omega | (simp only [zz] at *; omega))))) (hS.ext (by (repeat (first | exact Below.refl _ _ | assumption | refine below_drewN ?_ _ | refine below_drew ?_ | refine below_gr ?_ ?_ _ | refine below_alloc ?_ ?_ _ | refine Below.setCell ?_ ?_ _ | refine below_step ?_ (by assumption) ?_ | omega | (simp only [zz] at *; omega)))))).mono ?_; rintro e n1 ⟨rfl, hb_n1⟩; replace hb_n1 := ex_below hb_n1; have hz_n1 := hb_n1.size; (try simp only [zz] at hz_n1); have hk0_n1 := own_cell hb_n1 (b := w.heap.size) (by (first | omega | (simp only [zz]; omega) | (simp only [zz] at *; omega) | (simp; done) | (simp; omega))); have hl0_n1 : w.heap.size < n1.heap.size := (by (first | omega | (simp only [zz] at *; omega))); have hk1_n1 := own_cell hb_n1 (b := tb) (by (first | omega | (simp only [zz]; omega) | (simp only [zz] at *; omega) | (simp; done) | (simp; omega))); have hl1_n1 : tb < n1.heap.size := (by (first | omega | (simp only [zz] at *; omega))); have tkn11 : True := trivial)
                        )
                      have bel_n1 : Below wy.heap.size wy n1 := (by (repeat (first | exact Below.refl _ _ | assumption | refine below_drewN ?_ _ | refine below_drew ?_ | refine below_gr ?_ ?_ _ | refine below_alloc ?_ ?_ _ | refine Below.setCell ?_ ?_ _ | refine below_step ?_ (by assumption) ?_ | omega | (simp only [zz] at *; omega))))
                      have sz_n1 := bel_n1.size
                      replace hA := hA.ext bel_n1
                      replace hB := hB.ext bel_n1
                      replace hTX := hTX.ext bel_n1
                      replace hTY := hTY.ext bel_n1
                      replace hI := hI.ext bel_n1
                      replace hX := hX.ext bel_n1
                      replace hXs := hXs.ext bel_n1
                      replace hW := below_step hW bel_n1 (by have := hW.size; omega)
                      replace hCs := hCs.ext bel_n1
                      replace hTs := hTs.ext bel_n1
                      replace hbr := below_step hbr bel_n1 (by have := hbr.size; omega)
                      replace hb3 := below_step hb3 bel_n1 (by have := hb3.size; omega)
                      replace hS := hS.ext bel_n1
                      replace hXS := hXS.ext bel_n1
                      replace q1 := (bel_n1.cell (p := ⟨tb, tq + y * 2, none⟩) htb).trans q1
                      replace q2 := (bel_n1.cell (p := ⟨tb, tq + y * 2 + 1, none⟩) htb).trans q2
                      replace htb := Nat.lt_of_lt_of_le htb bel_n1.size
                      replace p1 := (bel_n1.cell (p := ⟨ob, oo + y * 2, none⟩) hob).trans p1
                      replace p2 := (bel_n1.cell (p := ⟨ob, oo + y * 2 + 1, none⟩) hob).trans p2
                      replace hob := Nat.lt_of_lt_of_le hob bel_n1.size
                      clear bel_n1 hb_n1 hz_n1 hk0_n1 hk1_n1 hl0_n1 hl1_n1
                      (try clear hXc0 hXf hXl)
                      have hXc0 := obj_at hX 0 _ rfl
                      have hXf := obj_fz hX 0
                      have hXl := obj_lt hX
                      (try clear hXsc0 hXsf hXsl)
                      have hXsc0 := obj_at hXs 0 _ rfl
                      have hXsf := obj_fz hXs 0
                      have hXsl := obj_lt hXs
                      (try clear hCsc0 hCsc1 hCsf hCsl)
                      have hCsc0 := obj_at hCs 0 _ rfl
                      have hCsc1 := obj_at hCs 1 _ rfl
                      have hCsf := obj_fz hCs 0
                      have hCsl := obj_lt hCs
                      (try clear hTsc0 hTsc1 hTsf hTsl)
                      have hTsc0 := obj_at hTs 0 _ rfl
                      have hTsc1 := obj_at hTs 1 _ rfl
                      have hTsf := obj_fz hTs 0
                      have hTsl := obj_lt hTs
                      go_upto_region 35 with fail
                      have tkn20 : True := trivial
                      go_region_held3 (fun w' => w'.cell? ⟨wp.heap.size, 1, none⟩ = some (.slice (some ⟨ab, ao, none⟩) R1.length c) ∧ w'.cell? ⟨wp.heap.size + 1, 1, none⟩ = some (.slice (some ⟨ob, oo, none⟩) ts1.length ocy) ∧ w'.cell? ⟨ob, oo + y * 2, none⟩ = some (.slice Xa S2.length xc9) ∧ w'.cell? ⟨ob, oo + y * 2 + 1, none⟩ = some (.int .i64 (ub : Nat))) (simp (maxDischargeDepth := 9) [*, World.cell?_alloc_some, World.cell?_setCell_far]) (first
                        | (clear tkn20; go_at_call 27; refine (F2.out _ (hA.ext (by (repeat (first | exact Below.refl _ _ | assumption | refine below_drewN ?_ _ | refine below_drew ?_ | refine below_gr ?_ ?_ _ | refine below_alloc ?_ ?_ _ | refine Below.setCell ?_ ?_ _ | refine below_step ?_ (by assumption) ?_ | omega | (simp only [zz] at *; omega))))) (hXS.ext (by (repeat (first | exact Below.refl _ _ | assumption | refine below_drewN ?_ _ | refine below_drew ?_ | refine below_gr ?_ ?_ _ | refine below_alloc ?_ ?_ _ | refine Below.setCell ?_ ?_ _ | refine below_step ?_ (by assumption) ?_ | omega | (simp only [zz] at *; omega)))))).mono ?_; rintro e n2 ⟨rfl, hb_n2⟩; replace hb_n2 := ex_below hb_n2; have hz_n2 := hb_n2.size; (try simp only [zz] at hz_n2); have hk0_n2 := own_cell hb_n2 (b := wp.heap.size) (by (first | omega | (simp only [zz]; omega) | (simp only [zz] at *; omega) | (simp; done) | (simp; omega))); have hl0_n2 : wp.heap.size < n2.heap.size := (by (first | omega | (simp only [zz] at *; omega))); have hk1_n2 := own_cell hb_n2 (b := (wp.heap.size + 1)) (by (first | omega | (simp only [zz]; omega) | (simp only [zz] at *; omega) | (simp; done) | (simp; omega))); have hl1_n2 : (wp.heap.size + 1) < n2.heap.size := (by (first | omega | (simp only [zz] at *; omega))); have hk2_n2 := own_cell hb_n2 (b := ob) (by (first | omega | (simp only [zz]; omega) | (simp only [zz] at *; omega) | (simp; done) | (simp; omega))); have hl2_n2 : ob < n2.heap.size := (by (first | omega | (simp only [zz] at *; omega))); have tkn21 : True := trivial)
                        )
                      have bel_n2 : Below n1.heap.size n1 n2 := (by (repeat (first | exact Below.refl _ _ | assumption | refine below_drewN ?_ _ | refine below_drew ?_ | refine below_gr ?_ ?_ _ | refine below_alloc ?_ ?_ _ | refine Below.setCell ?_ ?_ _ | refine below_step ?_ (by assumption) ?_ | omega | (simp only [zz] at *; omega))))
                      have sz_n2 := bel_n2.size
                      replace hA := hA.ext bel_n2
                      replace hB := hB.ext bel_n2
                      replace hTX := hTX.ext bel_n2
                      replace hTY := hTY.ext bel_n2
                      replace hI := hI.ext bel_n2
                      replace hX := hX.ext bel_n2
                      replace hXs := hXs.ext bel_n2
                      replace hW := below_step hW bel_n2 (by have := hW.size; omega)
                      replace hCs := hCs.ext bel_n2
                      replace hTs := hTs.ext bel_n2
                      replace hbr := below_step hbr bel_n2 (by have := hbr.size; omega)
                      replace hb3 := below_step hb3 bel_n2 (by have := hb3.size; omega)
                      replace hS := hS.ext bel_n2
                      replace hXS := hXS.ext bel_n2
                      replace q1 := (bel_n2.cell (p := ⟨tb, tq + y * 2, none⟩) htb).trans q1
                      replace q2 := (bel_n2.cell (p := ⟨tb, tq + y * 2 + 1, none⟩) htb).trans q2
                      replace htb := Nat.lt_of_lt_of_le htb bel_n2.size
                      replace p1 := (bel_n2.cell (p := ⟨ob, oo + y * 2, none⟩) hob).trans p1
                      replace p2 := (bel_n2.cell (p := ⟨ob, oo + y * 2 + 1, none⟩) hob).trans p2
                      replace hob := Nat.lt_of_lt_of_le hob bel_n2.size
                      clear bel_n2 hb_n2 hz_n2 hk0_n2 hk1_n2 hk2_n2 hl0_n2 hl1_n2 hl2_n2
                      (try clear hXc0 hXf hXl)
                      have hXc0 := obj_at hX 0 _ rfl
                      have hXf := obj_fz hX 0
                      have hXl := obj_lt hX
                      (try clear hXsc0 hXsf hXsl)
                      have hXsc0 := obj_at hXs 0 _ rfl
                      have hXsf := obj_fz hXs 0
                      have hXsl := obj_lt hXs
                      (try clear hCsc0 hCsc1 hCsf hCsl)
                      have hCsc0 := obj_at hCs 0 _ rfl
                      have hCsc1 := obj_at hCs 1 _ rfl
                      have hCsf := obj_fz hCs 0
                      have hCsl := obj_lt hCs
                      (try clear hTsc0 hTsc1 hTsf hTsl)
                      have hTsc0 := obj_at hTs 0 _ rfl
                      have hTsc1 := obj_at hTs 1 _ rfl
                      have hTsf := obj_fz hTs 0
                      have hTsl := obj_lt hTs
                      go_wp2
                      exact ⟨⟨y + 1, by omega, by go_num, hb3⟩, by simp [intOf]; omega⟩
                    · have hyi : ¬ (y : Int) < (ts1.length : Int) := by omega
                      have hbr2 := hbr
                      go_wp2
                      exact ⟨⟨.inr (.inr rfl), hbr2⟩, by simp [intOf]⟩
              · have tok0 : True := trivial
                go_wp2_with (first
    | (clear tok0; go_at_call 20; refine (works_any _).mono ?_; rintro e u1 ⟨rfl, hb_u1⟩; replace hb_u1 := ex_below hb_u1; have bel_u1 : Below wk.heap.size wk u1 := (by (repeat (first | exact Below.refl _ _ | assumption | refine below_drewN ?_ _ | refine below_drew ?_ | refine below_gr ?_ ?_ _ | refine below_alloc ?_ ?_ _ | refine Below.setCell ?_ ?_ _ | refine below_step ?_ (by assumption) ?_ | omega | (simp only [zz] at *; omega)))); clear hb_u1; have sz_u1 := bel_u1.size; replace hA := hA.ext bel_u1; replace hB := hB.ext bel_u1; replace hTX := hTX.ext bel_u1; replace hTY := hTY.ext bel_u1; replace hI := hI.ext bel_u1; replace hX := hX.ext bel_u1; replace hXs := hXs.ext bel_u1; replace hW := below_step hW bel_u1 (by have := hW.size; omega); replace hCs := hCs.ext bel_u1; replace hTs := hTs.ext bel_u1; replace hO3 := hO3.ext bel_u1; replace hbr := below_step hbr bel_u1 (by have := hbr.size; omega); (try clear hXc0 hXf hXl); have hXc0 := obj_at hX 0 _ rfl; have hXf := obj_fz hX 0; have hXl := obj_lt hX; (try clear hXsc0 hXsf hXsl); have hXsc0 := obj_at hXs 0 _ rfl; have hXsf := obj_fz hXs 0; have hXsl := obj_lt hXs; (try clear hCsc0 hCsc1 hCsf hCsl); have hCsc0 := obj_at hCs 0 _ rfl; have hCsc1 := obj_at hCs 1 _ rfl; have hCsf := obj_fz hCs 0; have hCsl := obj_lt hCs; (try clear hTsc0 hTsc1 hTsf hTsl); have hTsc0 := obj_at hTs 0 _ rfl; have hTsc1 := obj_at hTs 1 _ rfl; have hTsf := obj_fz hTs 0; have hTsl := obj_lt hTs; clear bel_u1; have tok1 : True := trivial))
                go_ret
                exact gives_of rfl hW

end Go.Proofs.Ytlbkaeoagdbemaa
