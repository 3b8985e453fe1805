/- Proved here: helpers of TicketMore and TicketPaid, a part of the proofs about the ticket laws. Conditions: those that each theorem names, no others. -/
import Derived.Test.YtgjfejpibielaaaO9
import Derived.WalkKit
import Derived.WalkSpells
import Derived.WalkLawsBesides
import Derived.Below
import Derived.Deep.QuietTactic
import Derived.BigQuiet
import Derived.Deep.Light
import Derived.Test.YtgjfejpibielaaaO6
import Derived.Deep.RegionHeld3
set_option linter.unusedSimpArgs false
set_option linter.unusedVariables false
namespace Go.Proofs.Ytgjfejpibielaaa
open Go.RowKit Go.Maps Go.Shelf
attribute [local go_sem] Oper.semAt_some World.cell?_setCell_far
theorem own_capn {w : World} {B : Nat} {e : TypeId} {sz n c : Nat} {A : Option Addr} {xs : List Value} (h : w.ownsRow B e sz (.slice A n c) n xs) : n ≤ c := by
  rcases h.2 with ⟨h', h0⟩ | ⟨g, cap, cur, h', _, _, hnc, _, _, _⟩
  · omega
  · injection h' with _ _ h3
    subst h3
    exact hnc
/-- ranges, with room for them -/
def GivesRc (w : World) (ps : List (Int × Int)) (e : Ending) (w' : World) : Prop := ∃ D dc, e = .returned (.slice D ps.length dc) ∧ Below w.heap.size w w' ∧ Rng w' D ps ∧ ps.length ≤ dc
set_option maxRecDepth 100000 in
set_option maxHeartbeats 4000000 in
theorem sold_cap (N : Nat) (B : Option Addr) (bs : List Nat) (bc : Nat) (w : World) (hN : N ≤ 1679616) (hB : U8 w B bs) (hl : bs.length ≤ 1000) : Calls Try.prog 48 #[.int .i64 (N : Nat), .slice B bs.length bc] w (GivesRc w (zr (soldL N 10 0 bs))) := by
  obtain ⟨ti, ih, iz, is, ib⟩ := info_parts infoR
  have HST := hide (fun m a k (h : 2 * k + 1 < bs.length) => soldL_step N m a k bs h)
  have HZ := hide (fun a (l : List Nat) => soldL_zero N a l)
  have HSH := hide (fun m a (l : List Nat) (h : l.length < 2) => soldL_short N m a l h)
  obtain ⟨R, hR⟩ : ∃ R, soldL N 10 0 bs = R := ⟨_, rfl⟩
  have HR := hide hR
  rw [hR]
  clear hR
  go_enter Try.func48, Try.ntmps48
  go_wp2
  go_loopw [5, 6, 7] (fun o av iv wr => ∃ (k a : Nat) (A2 : Option Addr) (c2 : Nat) (front : List (Nat × Nat)), k ≤ 10 ∧ 2 * k ≤ bs.length + 1 ∧ a ≤ N ∧ iv = .int .i64 ((2 * k : Nat) : Int) ∧ av = .int .i64 (a : Nat) ∧ o = .slice A2 k c2 ∧ Hid (front.length = k ∧ R = front ++ soldL N (10 - k) a (bs.drop (2 * k))) ∧ wr.ownsRow w.heap.size 74 2 (.slice A2 k c2) k (rngC (zr front)) ∧ Below w.heap.size w wr) (fun _ _ iv _ => bs.length + 2 - (intOf iv).toNat)
  case atStart => exact ⟨0, 0, none, 0, [], by omega, by omega, by omega, rfl, rfl, rfl, hide ⟨rfl, HR.out.symm⟩, World.ownsRow_nil _ _ _ _, Below.refl _ _⟩
  case round =>
    obtain ⟨k, a, A2, c2, front, hk, hkl, haN, rfl, rfl, rfl, HF, hO, hb⟩ := hrel
    have hzr := hb.size
    by_cases hlt : 2 * k + 1 < bs.length
    · by_cases hk10 : k < 10
      · have hki : ((2 * k + 1 : Nat) : Int) < (bs.length : Int) := by omega
        have hkj : ((2 * k : Nat) : Int) < (bs.length : Int) := by omega
        have hk1 : (k : Int) < 10 := by omega
        obtain ⟨ob, oo, rfl, hob, hcell⟩ := (hB.ext hb).form (by omega)
        obtain ⟨cx, hx8⟩ := hcell (2 * k) (by omega)
        obtain ⟨cy, hy8⟩ := hcell (2 * k + 1) hlt
        have HS := hide (HST.out (9 - k) a k hlt)
        generalize bs[2 * k] = x at *
        generalize bs[2 * k + 1] = y at *
        have hr9 : Int.tmod (x : Int) 9 = ((x % 9 : Nat) : Int) := rem_nat x 9
        have hr40 : Int.tmod (y : Int) 40 = ((y % 40 : Nat) : Int) := rem_nat y 40
        have hx9 := Nat.mod_lt x (show 9 > 0 by omega)
        have hy40 := Nat.mod_lt y (show 40 > 0 by omega)
        obtain ⟨x9, hx9e⟩ : ∃ v, x % 9 = v := ⟨_, rfl⟩
        obtain ⟨y40, hy40e⟩ : ∃ v, y % 40 = v := ⟨_, rfl⟩
        rw [hx9e] at hx9 hr9 HS
        rw [hy40e] at hy40 hr40 HS
        clear hx9e hy40e hcell
        clear HST HSH HZ HR
        have hkw : (2 * (k : Int) + 1) < (bs.length : Int) := by omega
        have hkv : (2 * (k : Int)) < (bs.length : Int) := by omega
        clear hki hkj
        by_cases hNa : N ≤ a + x9
        · have HE : Hid (R = front) := hide (by rw [HF.out.2, show 10 - k = 9 - k + 1 by omega, HS.out, if_pos hNa, List.append_nil])
          clear HS
          have hgt : (N : Int) - 1 < (a : Int) + (x9 : Int) := by omega
          have hmn : (N : Int) - 1 ≤ (a : Int) + (x9 : Int) + (y40 : Int) := by omega
          go_wp2
          all_goals first | (exfalso; omega) | skip
          go_ret
          exact ⟨A2, c2, by rw [HE.out, zr_len, HF.out.1]; rfl, hb, by rw [HE.out]; exact rd_own2 hO (by rw [zr_len, HF.out.1]), by rw [HE.out, zr_len, HF.out.1]; exact own_capn hO⟩
        · have HE := hide (show R = (front ++ [(a + x9, min (N - 1) (a + x9 + y40))]) ++ soldL N (10 - (k + 1)) (min (N - 1) (a + x9 + y40) + 1) (bs.drop (2 * (k + 1))) by
            rw [HF.out.2, show 10 - k = 9 - k + 1 by omega, HS.out, if_neg hNa, show 10 - (k + 1) = 9 - k by omega, List.append_assoc]; rfl)
          clear HS
          have HL := hide (show (front ++ [(a + x9, min (N - 1) (a + x9 + y40))]).length = k + 1 by rw [List.length_append, HF.out.1]; rfl)
          by_cases hmn : (N : Int) - 1 ≤ (a : Int) + (x9 : Int) + (y40 : Int)
          · have hgt : ¬ ((N : Int) - 1 < (a : Int) + (x9 : Int)) := by omega
            have HV := hide (show ((min (N - 1) (a + x9 + y40) : Nat) : Int) = (N : Int) - 1 by omega)
            go_wp2_with (first
              | (at_builtin; refine wpList_app _ rfl (.tmp 45) (.tmp 49) 35 rfl (w.heap.size) 74 ti _ 2 16 und35 ih iz is ib rfl (by decide) ((.slice A2 k c2)) (k) (_) rfl (hO.alloc _) (some ⟨wr.heap.size, 0, none⟩) (1) (1) ([.int .i64 ((a : Int) + (x9 : Int)), .int .i64 ((N : Int) - 1)]) rfl (rd_new2 _ _ _ _) (by simp [Value.oneCell']) (by unfold maxLen; omega) (by omega) (by (first | omega | (simp only [size_grow, World.size_alloc, size_drewN, size_drew, size_setCell]; omega) | (simp only [size_grow, World.size_alloc, size_drewN, size_drew, size_setCell] at *; omega) | (simp; done) | (simp; omega))) ?_; intro A7 c7 u7 hown7 hgr7))
            all_goals first | (exfalso; omega) | skip
            exact ⟨⟨k + 1, _, A7, c7, _, by omega, by omega, by have := HV.out; omega, (by congr 1 <;> omega), (by have := HV.out; congr 1 <;> omega), rfl, hide ⟨HL.out, HE.out⟩, by rw [zr_snoc, rngC_snoc, HV.out]; exact hown7, gb_below (below_alloc hb (by omega) _) hgr7 (by simp; omega) (fun r e => (hO.lt r e).1)⟩, by simp [intOf]; omega⟩
          · have hgt : ¬ ((a : Int) + (x9 : Int) + (y40 : Int) < (a : Int) + (x9 : Int)) := by omega
            have hgt2 : decide ((a : Int) + (x9 : Int) + (y40 : Int) < (a : Int) + (x9 : Int)) = false := decide_eq_false hgt
            replace hmn := Int.not_le.1 hmn
            have hmn2 : ¬ ((N : Int) - 1 < (a : Int) + (x9 : Int) + (y40 : Int)) := by omega
            have HV := hide (show ((min (N - 1) (a + x9 + y40) : Nat) : Int) = (a : Int) + (x9 : Int) + (y40 : Int) by omega)
            go_wp2_with (first
              | (at_builtin; refine wpList_app _ rfl (.tmp 45) (.tmp 49) 35 rfl (w.heap.size) 74 ti _ 2 16 und35 ih iz is ib rfl (by decide) ((.slice A2 k c2)) (k) (_) rfl (hO.alloc _) (some ⟨wr.heap.size, 0, none⟩) (1) (1) ([.int .i64 ((a : Int) + (x9 : Int)), .int .i64 ((a : Int) + (x9 : Int) + (y40 : Int))]) rfl (rd_new2 _ _ _ _) (by simp [Value.oneCell']) (by unfold maxLen; omega) (by omega) (by (first | omega | (simp only [size_grow, World.size_alloc, size_drewN, size_drew, size_setCell]; omega) | (simp only [size_grow, World.size_alloc, size_drewN, size_drew, size_setCell] at *; omega) | (simp; done) | (simp; omega))) ?_; intro A7 c7 u7 hown7 hgr7))
            all_goals first | (exfalso; omega) | skip
            exact ⟨⟨k + 1, _, A7, c7, _, by omega, by omega, by have := HV.out; omega, (by congr 1 <;> omega), (by have := HV.out; congr 1 <;> omega), rfl, hide ⟨HL.out, HE.out⟩, by rw [zr_snoc, rngC_snoc, HV.out]; exact hown7, gb_below (below_alloc hb (by omega) _) hgr7 (by simp; omega) (fun r e => (hO.lt r e).1)⟩, by simp [intOf]; omega⟩
      · have hki : ((2 * k + 1 : Nat) : Int) < (bs.length : Int) := by omega
        have hk1 : ¬ ((k : Int) < 10) := by omega
        have HE : Hid (R = front) := hide (by rw [HF.out.2, show 10 - k = 0 by omega, HZ.out, List.append_nil])
        clear HST HSH HZ HR
        have hkw : (2 * (k : Int) + 1) < (bs.length : Int) := by omega
        clear hki
        go_wp2
        go_ret
        exact ⟨A2, c2, by rw [HE.out, zr_len, HF.out.1]; rfl, hb, by rw [HE.out]; exact rd_own2 hO (by rw [zr_len, HF.out.1]), by rw [HE.out, zr_len, HF.out.1]; exact own_capn hO⟩
    · have hki : ¬ (((2 * k + 1 : Nat) : Int) < (bs.length : Int)) := by omega
      have HE : Hid (R = front) := hide (by rw [HF.out.2, HSH.out _ _ _ (by rw [List.length_drop]; omega), List.append_nil])
      clear HST HSH HZ HR
      have hkw : ¬ ((2 * (k : Int) + 1) < (bs.length : Int)) := by omega
      clear hki
      go_wp2
      go_ret
      exact ⟨A2, c2, by rw [HE.out, zr_len, HF.out.1]; rfl, hb, by rw [HE.out]; exact rd_own2 hO (by rw [zr_len, HF.out.1]), by rw [HE.out, zr_len, HF.out.1]; exact own_capn hO⟩
/-- kinds of a torn ticket by its counts -/
def kdN (a b : Nat) : Int := if b = 0 then 0 else if b < a then 1 else 2
theorem kind_eq (a b : Nat) : kindV (a : Int) (b : Int) 0 = .tuple #[.int .i64 (kdN a b), .int .i64 0] := by
  unfold kindV kdN
  rw [if_neg (by simp)]
  by_cases h0 : b = 0
  · rw [if_pos (by omega), if_pos h0]
  · rw [if_neg (by omega), if_neg h0]
    by_cases h1 : b < a
    · rw [if_pos (by omega), if_pos h1]
    · rw [if_neg (by omega), if_neg h1]
theorem kd_mono {a b b' : Nat} (h : b ≤ b') : kdN a b ≤ kdN a b' := by
  unfold kdN
  split <;> split <;> (try split) <;> (try split) <;> omega
theorem clm_fine {l rest : Nat} {k : List Nat} {Ts : List (List Nat)} {qs : List (Nat × Nat)} (h6 : Ts.length ≤ 6) (hTT : ∀ T, T ∈ Ts → T.length = k.length ∧ ∀ t, t ∈ T → 1 ≤ t ∧ t < 2 ^ l) (hs : chkSold ((Tt.codes l rest k).length : Nat) (zr qs) = 0) : clmE ((Tt.codes l rest k).length : Nat) l k.length (Ts.map zs) (zr qs) = 0 := by
  have h := chkTs_zero (L := l) (n := k.length) (rows := Ts.map fun T => ((none : Option Addr), zs T, 0)) (Ts := Ts) (by rw [List.map_map]; rfl) hTT
  rw [List.map_map] at h
  unfold clmE
  rw [List.length_map, if_neg (by omega), show Ts.map zs = Ts.map ((fun r : LRow => r.2.1) ∘ fun T => ((none : Option Addr), zs T, 0)) from rfl, h, if_neg (by simp)]
  exact hs
/-- two rows as claims -/
theorem rd_new2b (w : World) (x y : Value) (ty : TypeId) : Rd (w.alloc (.cells #[x, y] ty)) 1 (some ⟨w.heap.size, 0, none⟩) 2 [x, y] :=
  ⟨rfl, fun _ => ⟨w.heap.size, 0, rfl, by simp, fun j u hu => by
    have hb : BlkAt (w.alloc (.cells #[x, y] ty)) w.heap.size #[x, y] ty := heap_alloc_new _ _
    rw [Nat.zero_add]
    exact obj_at hb j _ (by simpa using hu)⟩⟩
theorem Lst.two {w : World} {Y1 Y2 : Option Addr} {t1 t2 : List Nat} (c1 c2 : Nat) (ty : TypeId) (h1 : I64 w Y1 (zs t1)) (h2 : I64 w Y2 (zs t2)) : Lst (w.alloc (.cells #[.slice Y1 t1.length c1, .slice Y2 t2.length c2] ty)) (some ⟨w.heap.size, 0, none⟩) [(Y1, zs t1, c1), (Y2, zs t2, c2)] := by
  refine ⟨?_, fun r hr => ?_⟩
  · have h := rd_new2b w (.slice Y1 t1.length c1) (.slice Y2 t2.length c2) ty
    show Rd _ 1 _ 2 [Value.slice Y1 (zs t1).length c1, Value.slice Y2 (zs t2).length c2]
    rw [zs_len, zs_len]
    exact h
  · have hb : Below w.heap.size w (w.alloc (.cells #[.slice Y1 t1.length c1, .slice Y2 t2.length c2] ty)) := below_alloc (Below.refl _ _) (Nat.le_refl _) _
    rcases List.mem_cons.1 hr with rfl | hr
    · exact h1.ext hb
    · rw [List.mem_singleton.1 hr]
      exact h2.ext hb
theorem rngC_len : ∀ ps : List (Int × Int), (rngC ps).length = ps.length * 2
  | [] => rfl
  | p :: ps => by
    have h := rngC_len ps
    unfold rngC at h ⊢
    rw [List.flatMap_cons, List.length_append, h]
    simp only [List.length_cons, List.length_nil]
    omega
theorem rng_take {w : World} {b o : Nat} {ps : List (Int × Int)} (h : Rng w (some ⟨b, o, none⟩) ps) (i : Nat) (hi : i ≤ ps.length) : Rd w 2 (some ⟨b, o, none⟩) i (rngC (ps.take i)) := by
  have hl : (ps.take i).length = i := by rw [List.length_take]; omega
  refine ⟨by rw [rngC_len, hl], fun hm => ?_⟩
  obtain ⟨b', o', he, hb, hc⟩ := h.2 (by omega)
  injection he with he
  injection he with e1 e2 _
  subst e1 e2
  refine ⟨b, o, rfl, hb, fun j u hu => hc j u ?_⟩
  have e : rngC ps = rngC (ps.take i) ++ rngC (ps.drop i) := by rw [← rngC_app, List.take_append_drop]
  rw [e, List.getElem?_append_left (List.getElem?_eq_some_iff.1 hu).1]
  exact hu
theorem rng_drop {w : World} {b o : Nat} {ps : List (Int × Int)} (h : Rng w (some ⟨b, o, none⟩) ps) (i : Nat) (hi : i ≤ ps.length) : Rd w 2 (some ⟨b, o + i * 2, none⟩) (ps.length - i) (rngC (ps.drop i)) := by
  have hl : (ps.take i).length = i := by rw [List.length_take]; omega
  have hl2 : (ps.drop i).length = ps.length - i := List.length_drop
  refine ⟨by rw [rngC_len, hl2], fun hm => ?_⟩
  obtain ⟨b', o', he, hb, hc⟩ := h.2 (by omega)
  injection he with he
  injection he with e1 e2 _
  subst e1 e2
  refine ⟨b, o + i * 2, rfl, hb, fun j u hu => ?_⟩
  have h2 := hc (i * 2 + j) u (by
    have e : rngC ps = rngC (ps.take i) ++ rngC (ps.drop i) := by rw [← rngC_app, List.take_append_drop]
    rw [e, List.getElem?_append_right (by rw [rngC_len, hl]; omega), rngC_len, hl]
    rw [show i * 2 + j - i * 2 = j by omega]
    exact hu)
  rwa [← Nat.add_assoc] at h2
theorem zr_take (qs : List (Nat × Nat)) (i : Nat) : (zr qs).take i = zr (qs.take i) := by unfold zr; rw [List.map_take]
theorem zr_drop (qs : List (Nat × Nat)) (i : Nat) : (zr qs).drop i = zr (qs.drop i) := by unfold zr; rw [List.map_drop]
theorem bAndB : ∀ a, a < 64 → ∀ b, b < 256 → bits BinOp.and .i64 ((b : Nat) : Int) ((a : Nat) : Int) = ((b &&& a : Nat) : Int) := by decide +kernel
theorem bOrB : ∀ a, a < 64 → ∀ b, b < 64 → bits BinOp.or .i64 ((a : Nat) : Int) ((b : Nat) : Int) = ((a ||| b : Nat) : Int) := by decide +kernel
end Go.Proofs.Ytgjfejpibielaaa
