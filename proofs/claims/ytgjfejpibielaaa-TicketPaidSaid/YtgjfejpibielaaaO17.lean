/- Proved here: helpers of TicketPaid, a part of the proofs about the ticket laws. Conditions: those that each theorem names, no others. -/
import Derived.Test.YtgjfejpibielaaaO15
import Derived.WalkKit
import Derived.WalkSpells
import Derived.WalkLawsBesides
import Derived.Below
import Derived.Deep.QuietTactic
import Derived.BigQuiet
import Derived.Deep.Light
import Derived.Test.YtgjfejpibielaaaO7
import Derived.Deep.RegionHeld3
set_option linter.unusedSimpArgs false
set_option linter.unusedVariables false
namespace Go.Proofs.Ytgjfejpibielaaa
open Go.RowKit Go.Maps Go.Shelf
attribute [local go_sem] Oper.semAt_some World.cell?_setCell_far
/-- a row of the call's own -/
def GivesLf (w : World) (l : List Nat) (e : Ending) (w' : World) : Prop := ∃ A c, e = .returned (.slice A l.length c) ∧ RowKit.Below w.heap.size w w' ∧ I64 w' A (zs l) ∧ ∀ b o, A = some ⟨b, o, none⟩ → w.heap.size ≤ b
set_option maxRecDepth 100000 in
set_option maxHeartbeats 4000000 in
theorem torn_fresh (L rest : Nat) (A : Option Addr) (K : List Nat) (c : Nat) (B : Option Addr) (bs : List Nat) (bc : Nat) (w : World) (hd : OkD L rest K) (hA : I64 w A (zs K)) (hB : U8 w B bs) : Calls Try.prog 46 #[.agg #[.int .i64 (L : Nat), .int .i64 (K.length : Nat), .slice A K.length c, .int .i64 (rest : Nat)], .slice B bs.length bc] w (GivesLf w (tornL L K.length bs)) := by
  obtain ⟨ti, ih, iz, is, ib⟩ := info_parts info3k
  have hn8 := hd.2.2.2.1
  have hL2 := hd.1
  have hL6 := hd.2.1
  have hpw : 2 ^ L ≤ 2 ^ 6 := Nat.pow_le_pow_right (by decide) hL6
  have hp4 : 2 ^ 2 ≤ 2 ^ L := Nat.pow_le_pow_right (by decide) hL2
  have HTN := hide (fun i => (show (List.range (i + 1)).map (tornN L bs) = (List.range i).map (tornN L bs) ++ [tornN L bs i] by rw [List.range_succ, List.map_append]; rfl))
  have HTV := hide (fun i => (show tornN L bs i = if bs.length = 0 then 2 ^ L - 1 else 1 + bs.getD (i % bs.length) 0 % (2 ^ L - 1) from rfl))
  have HGD := hide (fun i (h : i < bs.length) => (show bs.getD i 0 = bs[i] by simp [List.getD, h]))
  have HTL : Hid (tornL L K.length bs = (List.range K.length).map (tornN L bs)) := hide rfl
  rw [HTL.out]
  generalize tornN L bs = fT at *
  obtain ⟨Q, hQ⟩ : ∃ Q, 2 ^ L = Q + 1 := ⟨2 ^ L - 1, by omega⟩
  have hsh : wrap64 (2 ^ L) = (Q : Int) + 1 := by
    have e : ((2 : Int) ^ L) = ((2 ^ L : Nat) : Int) := by push_cast; rfl
    rw [e, hQ]; simp only [wrap64]; omega
  rw [hQ] at hpw hp4 HTV
  rw [Nat.add_sub_cancel] at HTV
  have hsub : wrap64 ((Q : Int) + 1 - 1) = (Q : Int) := by simp only [wrap64]; omega
  have hsub2 : wrap64 (Q : Int) = (Q : Int) := by simp only [wrap64]; omega
  have HQ64 := hide (show Q < 64 ∧ 0 < Q by omega)
  clear hd hQ HTL
  go_enter Try.func46, Try.ntmps46
  go_upto_region 1 with fail
  have hW : Below w.heap.size w (w.alloc (.cells #[.int .i64 (L : Nat), .int .i64 (K.length : Nat), .slice A K.length c, .int .i64 (rest : Nat)] 24)) := below_alloc (Below.refl _ _) (Nat.le_refl _) _
  have hX : BlkAt (w.alloc (.cells #[.int .i64 (L : Nat), .int .i64 (K.length : Nat), .slice A K.length c, .int .i64 (rest : Nat)] 24)) w.heap.size #[.int .i64 (L : Nat), .int .i64 (K.length : Nat), .slice A K.length c, .int .i64 (rest : Nat)] 24 := heap_alloc_new _ _
  obtain ⟨wa, hwa⟩ : ∃ wa, (w.alloc (.cells #[.int .i64 (L : Nat), .int .i64 (K.length : Nat), .slice A K.length c, .int .i64 (rest : Nat)] 24)) = wa := ⟨_, rfl⟩
  rw [hwa] at hW hX ⊢
  clear hwa
  replace hA := hA.ext hW
  have q0 := obj_at hX 0 _ rfl
  have q1 := obj_at hX 1 _ rfl
  have q2 := obj_at hX 2 _ rfl
  have q3 := obj_at hX 3 _ rfl
  have ql := obj_lt hX
  have hWs := hW.size
  have hBr := hB.ext hW
  go_wp2
  go_loopw [5, 6] (fun o iv wr => ∃ (i : Nat) (A2 : Option Addr) (m2 c2 : Nat), i ≤ K.length ∧ iv = .int .i64 (i : Nat) ∧ o = .slice A2 m2 c2 ∧ Hid (m2 = i) ∧ wr.ownsRow wa.heap.size 3 1 (.slice A2 m2 c2) m2 ((zs ((List.range i).map fT)).map (Value.int .i64)) ∧ Below wa.heap.size wa wr) (fun _ iv _ => K.length - (intOf iv).toNat)
  case atStart => exact ⟨0, none, 0, 0, Nat.zero_le _, rfl, rfl, hide rfl, World.ownsRow_nil _ _ _ _, Below.refl _ _⟩
  case round =>
    obtain ⟨i, A2, m2, c2, hi, rfl, rfl, HM, hO, hb⟩ := hrel
    have hm2 : m2 ≤ K.length := by rw [HM.out]; exact hi
    have hzr := hb.size
    have hXr := hX.ext hb
    clear q0 q1 q2 q3 ql
    have q0 := obj_at hXr 0 _ rfl
    have q1 := obj_at hXr 1 _ rfl
    have q2 := obj_at hXr 2 _ rfl
    have q3 := obj_at hXr 3 _ rfl
    have ql := obj_lt hXr
    by_cases hlt : i < K.length
    · have hki : (i : Int) < (K.length : Int) := by omega
      have HS := hide (HTN.out i)
      by_cases hz : bs.length = 0
      · have hzi : ((bs.length : Int) > 0) = False := by simp [hz]
        have hzd : ¬ (0 < (bs.length : Int)) := by omega
        have HV := hide (show fT i = Q by rw [HTV.out, if_pos hz])
        clear HTV HGD
        generalize fT i = y at *
        go_wp2_with (first
          | (at_builtin; refine wpList_app _ rfl (.tmp 32) (.tmp 34) 22 rfl (wa.heap.size) 3 ti _ 1 8 und22k ih iz is ib rfl (by decide) ((.slice A2 m2 c2)) (m2) (_) rfl (hO.alloc _) (some ⟨wr.heap.size, 0, none⟩) (1) (1) ([.int .i64 (Q : Nat)]) rfl (rd_new1 _ _ _) (by simp [Value.oneCell']) (by unfold maxLen; omega) (by omega) (by (first | omega | (simp only [size_grow, World.size_alloc, size_drewN, size_drew, size_setCell]; omega) | (simp only [size_grow, World.size_alloc, size_drewN, size_drew, size_setCell] at *; omega) | (simp; done) | (simp; omega))) ?_; intro A7 c7 u7 hown7 hgr7))
        exact ⟨⟨i + 1, by omega, by go_num, A7, m2 + 1, c7, ⟨rfl, rfl, rfl⟩, hide (by rw [HM.out]), by rw [HS.out, HV.out, zs_snoc, List.map_append]; exact hown7, gb_below (below_alloc hb (by omega) _) hgr7 (by simp; omega) (fun r e => (hO.lt r e).1)⟩, by simp [intOf]; omega⟩
      · have hzd : 0 < (bs.length : Int) := by omega
        obtain ⟨ob, oo, rfl, hob, hcell⟩ := (hBr.ext hb).form (by omega)
        have hz0 : ¬ ((bs.length : Int) = 0) := by omega
        have hjl := Nat.mod_lt i (show bs.length > 0 by omega)
        have hrm := rem_nat i bs.length
        obtain ⟨hce, hce2⟩ := hcell (i % bs.length) hjl
        have HV := hide (show fT i = 1 + bs[i % bs.length] % Q by rw [HTV.out, if_neg hz, HGD.out _ hjl])
        generalize bs[i % bs.length] = y at *
        generalize i % bs.length = j at *
        have hji : (j : Int) < (bs.length : Int) := by omega
        go_upto_region 7 with fail
        clear hsh hsub hsub2 hpw hp4
        have hrm2 := rem_nat y Q
        have hpos : ¬ ((Q : Int) = 0) := by have := HQ64.out; omega
        have hpos2 : ¬ (Q = 0) := by have := HQ64.out; omega
        have hym := Nat.mod_lt y (show Q > 0 from HQ64.out.2)
        clear HTV HGD hcell
        obtain ⟨z, hz0⟩ : ∃ z, y % Q = z := ⟨_, rfl⟩
        rw [hz0] at HV hrm2 hym
        clear hz0
        have hQ64 := HQ64.out
        have hz1 : wrap64 (1 + (z : Int)) = 1 + (z : Int) := by simp only [wrap64]; omega
        clear hQ64
        go_wp2_with (first
          | (at_builtin; refine wpList_app _ rfl (.tmp 32) (.tmp 34) 22 rfl (wa.heap.size) 3 ti _ 1 8 und22k ih iz is ib rfl (by decide) ((.slice A2 m2 c2)) (m2) (_) rfl (hO.alloc _) (some ⟨wr.heap.size, 0, none⟩) (1) (1) ([.int .i64 (1 + (z : Int))]) rfl (rd_new1 _ _ _) (by simp [Value.oneCell']) (by unfold maxLen; omega) (by omega) (by (first | omega | (simp only [size_grow, World.size_alloc, size_drewN, size_drew, size_setCell]; omega) | (simp only [size_grow, World.size_alloc, size_drewN, size_drew, size_setCell] at *; omega) | (simp; done) | (simp; omega))) ?_; intro A7 c7 u7 hown7 hgr7))
        exact ⟨⟨i + 1, A7, m2 + 1, c7, by omega, by go_num, rfl, hide (by rw [HM.out]), by rw [HS.out, HV.out, zs_snoc, List.map_append]; exact hown7, gb_below (below_alloc hb (by omega) _) hgr7 (by simp; omega) (fun r e => (hO.lt r e).1)⟩, by simp [intOf]; omega⟩
    · have hki : ¬ ((i : Int) < (K.length : Int)) := by omega
      obtain rfl : i = K.length := by omega
      have hI := own_i64 hO
      have HM2 := HM
      clear HM
      go_wp2
      go_ret
      exact ⟨A2, c2, by rw [HM2.out]; simp, below_step hW hb (by omega), hI, fun b o e => by have := (own_base hO b o e).1; have := hW.size; omega⟩
theorem few_codes {l rest : Nat} {k : List Nat} (hd : OkD l rest k) : (Tt.codes l rest k).length ≤ 1679616 := by
  have hk8 := hd.2.2.2.1
  have h3 := Tt.cnt_small (L := l) (rest := rest) (ps := k.zip (Tt.fulls l k.length)) (la := -1) (s := 0) hd.2.1 (by rw [List.length_zip]; omega)
  rwa [cnt_codes] at h3
theorem rows_len {rows : List LRow} {Ts : List (List Nat)} (h : (rows.map fun r => r.2.1) = Ts.map zs) : rows.length = Ts.length := by
  have := congrArg List.length h
  simpa using this
/-- a set with the least bound: what both say of it -/
theorem short_fine {l rest : Nat} {k : List Nat} (hd : OkD l rest k) {Ts : List (List Nat)} (h6 : Ts.length ≤ 6) (hTT : ∀ T, T ∈ Ts → T.length = k.length ∧ ∀ t, t ∈ T → 1 ≤ t ∧ t < 2 ^ l) {qs : List (Nat × Nat)} (ho : Tt.okSold (Tt.codes l rest k).length 0 qs = true) (hl : qs.length ≤ 10) (A : Option Addr) (c : Nat) (Y : Option Addr) (rows : List LRow) (yc : Nat) (D : Option Addr) (dc : Nat) (w : World) (hA : I64 w A (zs k)) (hY : Lst w Y rows) (ht : (rows.map fun r => r.2.1) = Ts.map zs) (hD : Rng w D (zr qs)) : Calls Try.prog 40 #[.agg #[.int .i64 (l : Nat), .int .i64 (k.length : Nat), .slice A k.length c, .int .i64 (rest : Nat)], .slice Y rows.length yc, .slice D qs.length dc] w (fun en w' => ∃ (xs : List Int) (B : Option Addr) (d : Nat), en = .returned (.tuple #[.slice B xs.length d, .int .i64 0]) ∧ Below w.heap.size w w' ∧ I64 w' B xs ∧ ProgSays (l : Nat) (k.length : Nat) (rest : Nat) (zs k) (Ts.map zs) (zr qs) xs (leastI l rest k Ts (zr qs) Ts.length) 0 ∧ ShortSays (l : Nat) (k.length : Nat) (rest : Nat) (zs k) (Ts.map zs) (zr qs) xs (leastI l rest k Ts (zr qs) Ts.length) 0) := by
  have hk := chkSold_of ho hl
  have hf := clm_fine h6 hTT hk
  have hsc : chkSold ((Tt.cnt l rest (k.zip (Tt.fulls l k.length)) (-1) 0) : Nat) (zr qs) = 0 := by rw [cnt_codes]; exact hk
  have hrl := rows_len ht
  refine (Short_ok l rest A k c Y rows yc Ts D qs dc w hd hA hY (by omega) ht hTT hD hsc).mono fun en w' h => ?_
  obtain ⟨m, B, d, rfl, hb, hB, hm, hR⟩ := h
  have hpl : (Tt.payAll (canL l rest k qs Ts) (canL l rest k qs Ts).length).length = Ts.length := by
    rw [(Tt.payAll_spec (canL_pos (L := l) (rest := rest) (K := k) (qs := qs) (Ts := Ts)) _ (Nat.le_refl _)).1.len, canL_len]
  rw [hpl] at hm hR
  have hol : (Tt.outM m).length ≤ 6 := by
    have : (Tt.outM m).length ≤ m.length := by unfold Tt.outM; exact Nat.le_trans (List.length_filter_le _ _) (by simp)
    omega
  obtain ⟨v, e, hv, hp, hs⟩ := (claims_fine l rest k hd Ts qs (by rw [List.length_map]; omega) (by rw [zr_len]; omega) (by rw [List.length_map]; omega) hTT hk hf).2 (zs (Tt.outM m)) (by rw [zs_len]; omega)
  rw [set_says hm hR] at hv
  injection hv with hv
  injection hv with hv
  injection hv with e1 hv
  injection hv with e2 _
  injection e1 with _ e1
  injection e2 with _ e2
  subst e1 e2
  exact ⟨zs (Tt.outM m), B, d, by rw [zs_len], hb, hB, hp, hs⟩
/-- a payment: what the reference says of it -/
theorem paid_fine {l rest : Nat} {k : List Nat} (hd : OkD l rest k) {Ts : List (List Nat)} (h6 : Ts.length ≤ 6) (hTT : ∀ T, T ∈ Ts → T.length = k.length ∧ ∀ t, t ∈ T → 1 ≤ t ∧ t < 2 ^ l) {qs : List (Nat × Nat)} (ho : Tt.okSold (Tt.codes l rest k).length 0 qs = true) (hl : qs.length ≤ 10) (A : Option Addr) (c : Nat) (Y : Option Addr) (rows : List LRow) (yc : Nat) (D : Option Addr) (dc : Nat) (w : World) (hA : I64 w A (zs k)) (hY : Lst w Y rows) (ht : (rows.map fun r => r.2.1) = Ts.map zs) (hD : Rng w D (zr qs)) : Calls Try.prog 41 #[.agg #[.int .i64 (l : Nat), .int .i64 (k.length : Nat), .slice A k.length c, .int .i64 (rest : Nat)], .slice Y rows.length yc, .slice D qs.length dc] w (fun en w' => ∃ (xs : List Int) (B : Option Addr) (d : Nat), en = .returned (.tuple #[.slice B xs.length d, .int .i64 0]) ∧ Below w.heap.size w w' ∧ I64 w' B xs ∧ PaySays (l : Nat) (k.length : Nat) (rest : Nat) (zs k) (Ts.map zs) (zr qs) xs (leastI l rest k Ts (zr qs) Ts.length)) := by
  have hk := chkSold_of ho hl
  have hf := clm_fine h6 hTT hk
  have h0 := (claims_fine l rest k hd Ts qs (by rw [List.length_map]; omega) (by rw [zr_len]; omega) (by rw [List.length_map]; omega) hTT hk hf).1
  have h := h0.2.2.2 A c Y rows yc D dc w hA hY ht hD
  rw [zs_len, zr_len] at h
  refine h.mono fun e w' hg => ?_
  obtain ⟨xs, ⟨P, pc, rfl, hb2, hP⟩, _, _, hx⟩ := hg
  exact ⟨xs, P, pc, rfl, hb2, hP, hx rfl⟩
theorem set_nat (s : List Nat) : (zs s).map Int.toNat = s := by
  unfold zs
  rw [List.map_map]
  conv => rhs; rw [← List.map_id s]
  exact List.map_congr_left fun x _ => Int.toNat_natCast x
theorem bits_inc (n b : Nat) : (bitsS n b).Pairwise (· < ·) := List.Pairwise.filter _ List.pairwise_lt_range
/-- a given set -/
theorem set_fine {l rest : Nat} {k : List Nat} (hd : OkD l rest k) {Ts : List (List Nat)} (h6 : Ts.length ≤ 6) (hTT : ∀ T, T ∈ Ts → T.length = k.length ∧ ∀ t, t ∈ T → 1 ≤ t ∧ t < 2 ^ l) {qs : List (Nat × Nat)} (ho : Tt.okSold (Tt.codes l rest k).length 0 qs = true) (hl : qs.length ≤ 10) (bt : Nat) : ∃ v : Int, ProgSays (l : Nat) (k.length : Nat) (rest : Nat) (zs k) (Ts.map zs) (zr qs) (zs (bitsS Ts.length bt)) v 0 ∧ (leastI l rest k Ts (zr qs) Ts.length) ≤ v ∧ v ≤ 1679622 ∧ ∀ p : List Int, p.length = Ts.length → (List.range Ts.length).all (okP l rest k Ts (zr qs) p) = true → (Tt.paidN p : Int) ≤ (leastI l rest k Ts (zr qs) Ts.length) ∧ (Tt.paidN p : Int) ≤ v := by
  have hk := chkSold_of ho hl
  have hf := clm_fine h6 hTT hk
  have hlt : ∀ x, x ∈ bitsS Ts.length bt → x < Ts.length := fun x hx => bitsS_lt x hx
  have hlen : (bitsS Ts.length bt).length ≤ 6 := by
    have h := List.length_filter_le (fun i => bt.testBit i) (List.range Ts.length)
    rw [List.length_range] at h
    exact Nat.le_trans h h6
  obtain ⟨v, e, hv, hp, _⟩ := (claims_fine l rest k hd Ts qs (by rw [List.length_map]; omega) (by rw [zr_len]; omega) (by rw [List.length_map]; omega) hTT hk hf).2 (zs (bitsS Ts.length bt)) (by rw [zs_len]; omega)
  have hb : bitsS Ts.length bt = bitsS Ts.length (bt % 2 ^ Ts.length) := by
    unfold bitsS
    refine List.filter_congr fun i hi => ?_
    rw [Nat.testBit_mod_two_pow, decide_eq_true (List.mem_range.1 hi), Bool.true_and]
  unfold chkShortR at hv
  have hsb : setB (Ts.length : Int) 0 (zs (bitsS Ts.length bt)) = true := setB_of (bitsS Ts.length bt) 0 (bits_inc _ _) (fun x hx => ⟨Nat.zero_le _, hlt x hx⟩)
  rw [if_pos hsb, set_nat, zs_len] at hv
  injection hv with hv
  injection hv with hv
  injection hv with e1 hv
  injection hv with e2 _
  injection e1 with _ e1
  injection e2 with _ e2
  subst e1 e2
  have hls := least_set (L := l) (rest := rest) (K := k) (Ts := Ts) (rs := zr qs) (k := Ts.length) (bt % 2 ^ Ts.length) (Nat.mod_lt _ (Nat.two_pow_pos _))
  have hbd := (bndF_bd (L := l) (rest := rest) (K := k) (Ts := Ts) (rs := zr qs) (k := Ts.length) (few_codes hd) h6 (bt % 2 ^ Ts.length)).2
  unfold bndF at hls hbd
  rw [← hb] at hls hbd
  refine ⟨_, hp, hls, hbd, fun p hl2 ha => ?_⟩
  obtain ⟨h1, h2⟩ := pay_le hl2 ha
  exact ⟨h1, h2 _ (bitsS_nodup _ _) hlt⟩
theorem least_le (l rest : Nat) (k : List Nat) (Ts : List (List Nat)) (rs : List (Int × Int)) (n : Nat) : leastI l rest k Ts rs n ≤ (n : Int) := (lstF_le n (bndF l rest k Ts rs n) (2 ^ n)).1
/-- a given payment -/
theorem own_pay (l rest : Nat) (k : List Nat) (Ts : List (List Nat)) (rs : List (Int × Int)) (n : Nat) (p : List Int) {a v : Int} (h : p.length = n → (List.range n).all (okP l rest k Ts rs p) = true → (Tt.paidN p : Int) ≤ a ∧ (Tt.paidN p : Int) ≤ v) : ∃ (m : Int) (ok : Bool), payV l rest k Ts rs n p = .tuple #[.int .i64 m, .bool ok] ∧ (ok = true → m ≤ a ∧ m ≤ v) := by
  unfold payV
  split
  · rename_i hc
    exact ⟨_, true, rfl, fun _ => h hc.1 hc.2⟩
  · exact ⟨_, false, rfl, fun h => by cases h⟩
end Go.Proofs.Ytgjfejpibielaaa
