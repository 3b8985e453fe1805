/- Proved here: the counter of claims, a part of the proofs about the ticket laws. Conditions: those that each theorem names, no others. -/
import Derived.Test.YtgjfejpibielaaaQ25
import Derived.WalkKit
import Derived.WalkSpells
import Derived.WalkLawsBesides
import Derived.Below
import Derived.Deep.QuietTactic
import Derived.BigQuiet
import Derived.Deep.Light
set_option linter.unusedSimpArgs false
set_option linter.unusedVariables false
namespace Go.Proofs.Ytgjfejpibielaaa
open Go.RowKit Go.Maps Go.Shelf
attribute [local go_sem] Oper.semAt_some World.cell?_setCell_far
theorem info2 : (Try.prog.info? 2).map (fun i => (i.zero, i.size, i.bytes)) = some (some (.int .i64 0), 1, 8) := by kernel_rfl
theorem info53 : (Try.prog.info? 53).map (fun i => (i.zero, i.size, i.bytes)) = some (some (.slice none 0 0), 1, 24) := by kernel_rfl
theorem und53 : Try.prog.underlying 53 = some (.slice 2) := by kernel_rfl
theorem und114 : Try.prog.underlying 114 = some (.slice 53) := by kernel_rfl
theorem rd_blk {w : World} {b : Nat} {v : Value} {t : TypeId} (h : BlkAt w b #[v] t) : Rd w 1 (some ⟨b, 0, none⟩) 1 [v] := ⟨rfl, fun _ => ⟨b, 0, rfl, obj_lt h, fun j u hj => by
 match j, hj with
 | 0, hj => cases hj; exact obj_at h 0 _ rfl
 | _ + 1, hj => cases hj⟩⟩
theorem own_i64 {w : World} {B : Nat} {e : TypeId} {n c : Nat} {A : Option Addr} {xs : List Int} (h : w.ownsRow B e 1 (.slice A n c) n (xs.map (Value.int .i64))) : I64 w A xs := fun k x hk => by
 obtain ⟨b, hA, hl, hc⟩ := own_at2 h k (.int .i64 x) (by rw [List.getElem?_map, hk]; rfl)
 exact ⟨b, 0, hA, hl, by omega, by rw [Nat.zero_add]; exact hc⟩
theorem own_base {w : World} {B : Nat} {e : TypeId} {sz n c : Nat} {A : Option Addr} {xs : List Value} (h : w.ownsRow B e sz (.slice A n c) n xs) : ∀ b o, A = some ⟨b, o, none⟩ → B ≤ b ∧ b < w.heap.size := fun b o e => by
 subst e
 exact h.lt b rfl
theorem Rng.gx1 {w w' : World} {D : Option Addr} {xs : List (Int × Int)} (h : Rng w D xs) {k : TypeId} {M : Nat} {good : Value → Value → Prop} {must : Value → Prop} (hm : KMap k M good must w) (g : GX [M] w w') : Rng w' D xs := by
 rcases Nat.eq_zero_or_pos xs.length with h0 | h0
 · exact ⟨h.1, fun h => absurd h (by omega)⟩
 · exact Rd.gx h g (fun b o e => by have := h.notMap h0 hm b o e; simp; exact this)
theorem own_p64 {w : World} {B : Nat} {n c : Nat} {A : Option Addr} {xs : List Int} (h : w.ownsRow B 2 1 (.slice A n c) n (xs.map (Value.int .i64))) (h0 : 0 < n) : ∃ Pb, A = some ⟨Pb, 0, none⟩ ∧ P64 w Pb 0 xs ∧ B ≤ Pb ∧ Pb < w.heap.size := by
 rcases h.2 with ⟨h1, h2⟩ | ⟨g, cap, cur, h1, hb, hg, h3, h4, h5, h6⟩
 · omega
 · injection h1 with h1 h7 h8
   refine ⟨g, h1, ⟨cur, hg, fun j y hj => ?_⟩, hb, obj_lt (show w.heap[g]? = some (.cells cur 2 (0, 0)) from hg)⟩
   have hx : (xs.map (Value.int .i64))[j]? = some (.int .i64 y) := by rw [List.getElem?_map, hj]; rfl
   rw [← h6] at hx
   rw [Nat.zero_add]
   simpa using (List.getElem?_take_of_lt (by
    have := (List.getElem?_eq_some_iff.1 hx).1
    rw [List.length_take] at this
    omega)).symm.trans hx
theorem flatten_le {α : Type} (l : List (List α)) (m : Nat) (h : ∀ x, x ∈ l → x.length ≤ m) : l.flatten.length ≤ l.length * m := by
 induction l with
 | nil => simp
 | cons a l ih =>
   have := ih (fun x hx => h x (by simp [hx]))
   have := h a (by simp)
   rw [List.flatten_cons, List.length_append, List.length_cons, Nat.add_mul, Nat.one_mul]
   omega
/-- the numbers of a claim, while they are found -/
def preX (num : Nat → Nat) (n : Nat) (pre : List Nat) (lo x : Nat) : List Nat := (pre ++ (List.range' lo (x - lo)).map num).take n
theorem preX_lo (num : Nat → Nat) (n : Nat) (pre : List Nat) (lo : Nat) : preX num n pre lo lo = pre.take n := by unfold preX; simp
theorem preX_next (num : Nat → Nat) (n : Nat) (pre : List Nat) (lo x : Nat) (h : lo ≤ x) (hf : (preX num n pre lo x).length < n) : preX num n pre lo (x + 1) = preX num n pre lo x ++ [num x] := by
 unfold preX at hf ⊢
 rw [List.length_take] at hf
 rw [show x + 1 - lo = (x - lo) + 1 by omega, List.range'_1_concat, List.map_append, ← List.append_assoc, show lo + (x - lo) = x by omega]
 rw [List.take_of_length_le (by simp at hf ⊢; omega), List.take_of_length_le (by simp at hf ⊢; omega)]
 rfl
theorem preX_len (num : Nat → Nat) (n : Nat) (pre : List Nat) (lo x : Nat) : (preX num n pre lo x).length ≤ n := by unfold preX; rw [List.length_take]; omega
theorem preX_full (num : Nat → Nat) (n : Nat) (pre : List Nat) (lo x y : Nat) (h1 : lo ≤ x) (h2 : x ≤ y) (hf : ¬ (preX num n pre lo x).length < n) : preX num n pre lo x = preX num n pre lo y := by
 unfold preX at hf ⊢
 rw [List.length_take] at hf
 have e := List.range'_append_1 (s := lo) (m := x - lo) (n := y - x)
 rw [show lo + (x - lo) = x by omega, show x - lo + (y - x) = y - lo by omega] at e
 rw [← e, List.map_append, ← List.append_assoc]
 exact (List.take_append_of_le_length (by omega)).symm
/-- those of the first ranges -/
def flatJ (num : Nat → Nat) (ps : List (Int × Int)) (j : Nat) : List Nat := (ps.take j).flatMap fun p => (List.range' p.1.toNat (p.2 + 1 - p.1).toNat).map num
theorem flatJ_succ (num : Nat → Nat) (ps : List (Int × Int)) (n j lo hi : Nat) (h : j < ps.length) (he : ps[j] = ((lo : Int), (hi : Int))) : (flatJ num ps (j + 1)).take n = preX num n (flatJ num ps j) lo (hi + 1) := by
 unfold flatJ preX
 rw [List.take_succ_eq_append_getElem h, List.flatMap_append, he]
 simp only [List.flatMap_cons, List.flatMap_nil, List.append_nil, Int.toNat_natCast]
 rw [show ((hi : Int) + 1 - (lo : Int)).toNat = hi + 1 - lo by omega]
theorem flat0 (num : Nat → Nat) (ps : List (Int × Int)) (n : Nat) : (flatJ num ps 0).take n = [] := by simp [flatJ]
theorem zs_snoc (l : List Nat) (x : Nat) : zs (l ++ [x]) = zs l ++ [(x : Int)] := by unfold zs; simp
theorem Lst.gx1 {w w' : World} {Y : Option Addr} {rows : List LRow} (h : Lst w Y rows) {k : TypeId} {M : Nat} {good : Value → Value → Prop} {must : Value → Prop} (hm : KMap k M good must w) (hne : ∀ r, r ∈ rows → 0 < r.2.1.length) (g : GX [M] w w') : Lst w' Y rows := by
 refine ⟨?_, fun r hr => (h.2 r hr).gx g (fun b o e => by have := (h.2 r hr).notMap (hne r hr) hm b o e; simp; exact this)⟩
 rcases Nat.eq_zero_or_pos rows.length with h0 | h0
 · have : rows = [] := List.eq_nil_of_length_eq_zero h0
   subst this
   exact ⟨rfl, fun h => absurd h (by simp)⟩
 · refine Rd.gx h.1 g (fun b o e => ?_)
   obtain ⟨b', o', he, hb, hc⟩ := h.1.2 h0
   rw [e] at he
   injection he with he
   injection he with e1 e2 _
   subst e1 e2
   have := hm.notCell (hc 0 (cellL rows[0]) (by rw [List.getElem?_map, List.getElem?_eq_getElem h0]; rfl))
   simp
   exact this
/-- the numbers of all claims -/
def canL (L rest : Nat) (K : List Nat) (qs : List (Nat × Nat)) (Ts : List (List Nat)) : List (List Int) := Ts.map fun T => zs ((canN L rest K T qs).take Ts.length)
/-- a counter in memory, whatever its lists are -/
def CntAt (w : World) (C : Nat) (v0 v1 v2 : Value) (can : List (List Int)) (p : List Int) : Prop :=
 ∃ (Ac : Option Addr) (rows : List LRow) (cc : Nat) (Ap : Option Addr) (pc : Nat), BlkAt w C #[v0, v1, v2, .slice Ac rows.length cc, .slice Ap p.length pc] 116 ∧ Lst w Ac rows ∧ I64 w Ap p ∧ (rows.map fun r => r.2.1) = can
def NewC (w : World) (B M : Nat) (L rest : Nat) (A : Option Addr) (K : List Nat) (c : Nat) (S : Option Addr) (T : List Nat) (d : Nat) (v1 v2 : Value) (can : List (List Int)) (e : Ending) (w' : World) : Prop :=
 ∃ C, e = .returned (.pointer (some ⟨C, 0, none⟩)) ∧ GX [M] w w' ∧ w.heap.size ≤ C ∧ Mx w' B M L rest A K c S T d (fun x => x = stV 0 (-1) 0) ∧ CntAt w' C (.pointer (some ⟨B, 0, none⟩)) v1 v2 can (Tt.payAll can can.length)
theorem canL_len (L rest : Nat) (K : List Nat) (qs : List (Nat × Nat)) (Ts : List (List Nat)) : (canL L rest K qs Ts).length = Ts.length := List.length_map ..
theorem canL_row {L rest : Nat} {K : List Nat} {qs : List (Nat × Nat)} {Ts : List (List Nat)} {r : List Int} (h : r ∈ canL L rest K qs Ts) : r.length ≤ Ts.length ∧ ∀ x, x ∈ r → 0 ≤ x ∧ x < ((Tt.codes L rest K).length : Int) := by
 obtain ⟨T, hT, rfl⟩ := List.mem_map.1 h
 refine ⟨by rw [zs_len, List.length_take]; omega, fun x hx => ?_⟩
 obtain ⟨y, hy, rfl⟩ := List.mem_map.1 hx
 have hy := List.mem_of_mem_take hy
 unfold canN at hy
 have := List.mem_range.1 (List.mem_filter.1 hy).1
 omega
theorem canL_pos {L rest : Nat} {K : List Nat} {qs : List (Nat × Nat)} {Ts : List (List Nat)} : ∀ n, ∀ x, x ∈ (canL L rest K qs Ts).getD n [] → x ≠ -1 := fun n x hx => by
 rw [List.getD_eq_getElem?_getD] at hx
 cases hc : (canL L rest K qs Ts)[n]? with
 | none => rw [hc] at hx; cases hx
 | some r => rw [hc] at hx; have := (canL_row (List.mem_of_getElem? hc)).2 x hx; omega
set_option maxRecDepth 100000 in
set_option maxHeartbeats 8000000 in
theorem newCounter_any (L rest : Nat) (A : Option Addr) (K : List Nat) (c B M : Nat) (S : Option Addr) (d : Nat) (Y : Option Addr) (crows : List LRow) (yc : Nat) (Ts : List (List Nat)) (D : Option Addr) (qs : List (Nat × Nat)) (dc : Nat) (w : World)
 (hmx : Mx w B M L rest A K c S (Tt.fulls L K.length) d (fun x => x = stV 0 (-1) 0)) (hY : Lst w Y crows) (hTs : (crows.map fun r => r.2.1) = Ts.map zs) (hT : ∀ T, T ∈ Ts → T.length = K.length ∧ ∀ t, t ∈ T → 1 ≤ t ∧ t < 2 ^ L) (hl : crows.length ≤ 6)
 (hD : Rng w D (zr qs)) (hq : Tt.okSold (Tt.codes L rest K).length 0 qs = true) (hq10 : qs.length ≤ 10) :
 Calls Try.prog 92 #[.pointer (some ⟨B, 0, none⟩), .slice Y crows.length yc, .slice D qs.length dc] w (NewC w B M L rest A K c S (Tt.fulls L K.length) d (.slice Y crows.length yc) (.slice D qs.length dc) (canL L rest K qs Ts)) := by
 obtain ⟨ti, ih2, iz2, is2, ib2⟩ := info_parts info2
 obtain ⟨tj, ih53, iz53, is53, ib53⟩ := info_parts info53
 have hn8 := hmx.ok.2.2.2.1
 have hn2 := hmx.ok.2.2.1
 have hL6 := hmx.ok.2.1
 have hok := hmx.ok
 have hlt := hmx.lts
 have hTl : Ts.length = crows.length := by have := congrArg List.length hTs; simpa using this.symm
 have HTL := hide hTl
 have HTS := hide hTs
 have HT := hide hT
 have HQ := hide hq
 have HKM := hide hmx.km
 have hqs := okSold_lt hq
 have HQS := hide hqs
 have hpos : Hid (∀ r, r ∈ crows → 0 < r.2.1.length) := hide (fun r hr => by
  have h1 : r.2.1 ∈ Ts.map zs := by rw [← hTs]; exact List.mem_map.2 ⟨r, hr, rfl⟩
  obtain ⟨T, hTm, he⟩ := List.mem_map.1 h1
  rw [← he, zs_len, (hT T hTm).1]
  omega)
 clear hTl hTs hT hq hqs
 go_enter Try.func92, Try.ntmps92
 go_wp2
 obtain ⟨wc, hwc⟩ : ∃ v, w.alloc (.cells #[.pointer (some ⟨B, 0, none⟩), .slice Y crows.length yc, .slice D qs.length dc, .slice none 0 0, .slice none 0 0] 116) = v := ⟨_, rfl⟩
 have hbc : Below w.heap.size w wc := by rw [← hwc]; exact below_alloc (Below.refl _ _) (Nat.le_refl _) _
 have hXc : BlkAt wc w.heap.size #[.pointer (some ⟨B, 0, none⟩), .slice Y crows.length yc, .slice D qs.length dc, .slice none 0 0, .slice none 0 0] 116 := by rw [← hwc]; exact heap_alloc_new _ _
 have hszc : wc.heap.size = w.heap.size + 1 := by rw [← hwc]; simp
 rw [hwc]
 clear hwc
 go_loopw [23] (fun iv wr => ∃ (k : Nat) (canV paidV : Value) (rows : List LRow), k ≤ crows.length ∧ iv = .int .i64 (k : Nat) ∧ Hid (rows.length = k) ∧ Hid ((rows.map fun r => r.2.1) = (Ts.take k).map fun T => zs ((canN L rest K T qs).take crows.length)) ∧ BlkAt wr w.heap.size #[.pointer (some ⟨B, 0, none⟩), .slice Y crows.length yc, .slice D qs.length dc, canV, paidV] 116 ∧ wr.ownsRow wc.heap.size 53 1 canV k (rows.map cellL) ∧ wr.ownsRow wc.heap.size 2 1 paidV k ((List.replicate k (-1 : Int)).map (Value.int .i64)) ∧ Rows wc.heap.size wr rows ∧ LFar canV rows ∧ LFar paidV rows ∧ Apart canV paidV ∧ Mx wr B M L rest A K c S (Tt.fulls L K.length) d (fun x => x = stV 0 (-1) 0) ∧ GX [M] w wr ∧ wc.heap.size ≤ wr.heap.size) (fun iv _ => crows.length - (intOf iv).toNat)
 case atStart => exact ⟨0, .slice none 0 0, .slice none 0 0, [], Nat.zero_le _, rfl, rfl, rfl, hXc, World.ownsRow_nil _ _ _ _, World.ownsRow_nil _ _ _ _, Rows.nil _ _, LFar.nil _, LFar.nil _, Apart.none _ _, hmx.ext hbc, (GX.refl _ _).below hbc (Nat.le_refl _), Nat.le_refl _⟩
 case round =>
  obtain ⟨k, canV, paidV, rows, hk, rfl, HRL, HRC, hX, hO1, hO2, hR, hF1, hF2, hAp, hm, hG, hzc⟩ := hrel
  obtain ⟨wo, rfl⟩ : ∃ wo : World, wo = wr := ⟨_, rfl⟩
  clear hXc hbc
  have hzo := hG.size
  have hG0 := hG
  by_cases hlk : k < crows.length
  · have hki : (k : Int) < (crows.length : Int) := by omega
    have hYr := hY.gx1 HKM.out hpos.out hG
    have hkT : k < Ts.length := by rw [HTL.out]; exact hlk
    have hrm := List.getElem_mem hlk
    have hYI := hYr.2 _ hrm
    obtain ⟨yb, yo, hye, hyb, hyc⟩ := hYr.1.2 (by omega)
    have hcy := hyc k (cellL crows[k]) (by rw [List.getElem?_map, List.getElem?_eq_getElem hlk]; rfl)
    have hTe : crows[k].2.1 = zs Ts[k] := by
     have h := congrArg (fun l => l[k]?) HTS.out
     simp only [List.getElem?_map, List.getElem?_eq_getElem hlk, List.getElem?_eq_getElem hkT, Option.map_some] at h
     exact Option.some.inj h
    obtain ⟨hTn, hTb⟩ := HT.out _ (List.getElem_mem hkT)
    have HTK := hide (List.take_succ_eq_append_getElem hkT)
    obtain ⟨T, hTT⟩ : ∃ v, Ts[k] = v := ⟨_, rfl⟩
    rw [hTT] at hTe hTn hTb HTK
    obtain ⟨⟨yA, yT, yC⟩, hrr⟩ : ∃ v, crows[k] = v := ⟨_, rfl⟩
    rw [hrr] at hcy hTe hYI
    dsimp only at hTe hYI
    subst hTe
    unfold cellL at hcy
    dsimp only at hcy
    rw [zs_len] at hcy
    clear hTT hrr hyc hrm hkT
    have hokT : OkM L rest K T := ⟨hok.1, hok.2.1, hok.2.2.1, hok.2.2.2.1, hTn, hok.2.2.2.2.2.1, fun t ht => by have := hTb t ht; have := two_pow L hL6; omega, hok.2.2.2.2.2.2.2⟩
    have HOKT := hide hokT
    subst hye
    have m0 := obj_at hm.at_.1 0 _ rfl
    have m1 := obj_at hm.at_.1 1 _ rfl
    have m2 := obj_at hm.at_.1 2 _ rfl
    have m3 := obj_at hm.at_.1 3 _ rfl
    have ml := obj_lt hm.at_.1
    have HPS := hide (idxL_lt (L := L) (rest := rest) (K := K) hTn HQ.out)
    have HRAW := hide (raw_eq (L := L) (rest := rest) (K := K) hTn HQ.out)
    have HTN := hide hTn
    clear hTb hTn
    have hDm : 0 < qs.length → ∀ b o, D = some ⟨b, o, none⟩ → b ≠ M ∧ b < w.heap.size := fun h0 b o e => by
     have h1 := hD.notMap (by rw [zr_len]; exact h0) HKM.out b o e
     obtain ⟨b', o', he, hb, _⟩ := hD.2 (by rw [zr_len]; exact h0)
     rw [e] at he
     injection he with he
     injection he with e1 _ _
     subst e1
     exact ⟨h1, hb⟩
    have HDM := hide hDm
    clear hDm
    go_wp2_with (first
 | (go_at_call 73; refine (new_torn L rest A K c yA T yC _ HOKT.out hm.at_.2.1 hYI).mono ?_; intro e w1 hnew; obtain ⟨B2, M2, S2, d2, rfl, hb1, hB2, hM2, hm2⟩ := hnew.mx HOKT.out; clear hnew; have hz1 := hb1.size; have hx12 := hm.new hM2; have hltm := hm.lts; have hm1 := hm.ext hb1; have hx21 := FarM.of hm2 hm1.km (by omega); have hD1 : Rng w1 D (zr qs) := hD.gx1 HKM.out (hG.below hb1 hzo))
 | (go_at_call 68; refine (indexes_any L rest A K c B M S (Tt.fulls L K.length) d (fun x => x = stV 0 (-1) 0) B2 M2 S2 T d2 (fun x => x = stV 0 (-1) 0) hx12 hx21 D qs dc _ hm1 hm2 hD1 (fun h0 b o e => by have := HDM.out h0 b o e; omega) (by rw [cnt_codes]; exact HQS.out) (by omega)).mono ?_; rintro e w2 ⟨rv, rfl, hOr, hG2, hm1', hm2'⟩; obtain ⟨rA, rC, rfl⟩ := own_form hOr; have hz2 := hG2.size)
     | fail)
    obtain ⟨ps, hps⟩ : ∃ v, idxL L rest K (Tt.fulls L K.length) T qs = v := ⟨_, rfl⟩
    rw [hps] at hOr
    have HP := hide hps
    rw [hps]
    clear hps
    have hpl : ps.length ≤ 10 := by rw [← HP.out]; exact Nat.le_trans (idxL_len _ _ _ _ _ _) hq10
    have hPR := rd_own hOr (by decide)
    have hmlt := hm1'.lts
    have hm2lt := hm2.lts
    have hgw2 : GX [M] wo w2 := ((GX.refl [M] wo).below hb1 (Nat.le_refl _)).back hG2 (fun x hx hlt => by simp at hx ⊢; omega)
    obtain ⟨num, hnum⟩ : ∃ v, numI L rest K T = v := ⟨_, rfl⟩
    have HNUM := hide hnum
    have hrb := own_base hOr
    clear hnum hm1 hm2 hD1 hOr
    go_loopw [11, 38] (fun lv jv wr => ∃ (j : Nat) (lA : Option Addr) (ln lc : Nat), j ≤ ps.length ∧ jv = .int .i64 (j : Nat) ∧ lv = .slice lA ln lc ∧ Hid (ln = ((flatJ num ps j).take crows.length).length) ∧ wr.ownsRow w2.heap.size 2 1 (.slice lA ln lc) ln ((zs ((flatJ num ps j).take crows.length)).map (Value.int .i64)) ∧ Mx wr B M L rest A K c S (Tt.fulls L K.length) d (fun x => x = stV 0 (-1) 0) ∧ Mx wr B2 M2 L rest A K c S2 T d2 (fun x => x = stV 0 (-1) 0) ∧ GX [M, M2] w2 wr) (fun _ jv _ => ps.length - (intOf jv).toNat)
    case atStart => exact ⟨0, none, 0, 0, Nat.zero_le _, rfl, rfl, hide (by rw [flat0]; rfl), by rw [flat0]; exact World.ownsRow_nil _ _ _ _, hm1', hm2', GX.refl _ _⟩
    case round =>
     obtain ⟨j, lA, ln, lc, hj, rfl, rfl, HLN, hO, hm, hm2, hG⟩ := hrel
     obtain ⟨wp, rfl⟩ : ∃ wp : World, wp = wr := ⟨_, rfl⟩
     have hzp := hG.size
     by_cases hjl : j < ps.length
     · have hji : (j : Int) < (ps.length : Int) := by omega
       have hPr : Rng wp rA ps := Rd.gx hPR hG (fun b o e => by have := hrb b o e; simp; omega)
       obtain ⟨Rb, Ro, hre, hRb⟩ := hPr.form (by omega)
       subst hre
       obtain ⟨_, d0, d1⟩ := hPr.at hjl
       have hpj := HPS.out ps[j] (by rw [HP.out]; exact List.getElem_mem hjl)
       obtain ⟨⟨plo, phi⟩, hpe⟩ : ∃ v, ps[j] = v := ⟨_, rfl⟩
       rw [hpe] at hpj d0 d1
       dsimp only at hpj d0 d1
       obtain ⟨lo, rfl⟩ : ∃ v : Nat, plo = (v : Int) := ⟨plo.toNat, by omega⟩
       obtain ⟨hi, rfl⟩ : ∃ v : Nat, phi = (v : Int) := ⟨phi.toNat, by omega⟩
       have HFJ := hide (flatJ_succ num ps crows.length j lo hi hjl hpe)
       have hlh : lo ≤ hi := by omega
       have hhT : hi < Tt.cnt L rest (K.zip T) (-1) 0 := by omega
       have HHT := hide hhT
       have hh6 : hi ≤ 1679616 := by have := Tt.cnt_small (L := L) (rest := rest) (ps := K.zip T) (la := -1) (s := 0) hL6 (by rw [List.length_zip]; omega); omega
       clear hpe hpj hhT
       have hx1m := hide (fun r (h : w2.heap.size ≤ r) => hm1'.new h)
       have hx2m := hide (fun r (h : w2.heap.size ≤ r) => hm2'.new h)
       go_upto_region 10 with fail
       have hba : Below wp.heap.size wp (wp.alloc (.cells #[.int .i64 (lo : Nat), .int .i64 (hi : Nat)] 74)) := below_alloc (Below.refl _ _) (Nat.le_refl _) _
       have hBX : BlkAt (wp.alloc (.cells #[.int .i64 (lo : Nat), .int .i64 (hi : Nat)] 74)) wp.heap.size #[.int .i64 (lo : Nat), .int .i64 (hi : Nat)] 74 := heap_alloc_new _ _
       replace hm := hm.ext hba
       replace hm2 := hm2.ext hba
       replace hO := own_ext hO hba
       replace hG := hG.below hba hzp
       obtain ⟨bx, hbx⟩ : ∃ v, wp.heap.size = v := ⟨_, rfl⟩
       rw [hbx] at hBX hzp ⊢
       obtain ⟨wq, hwq⟩ : ∃ v, (wp.alloc (.cells #[.int .i64 (lo : Nat), .int .i64 (hi : Nat)] 74)) = v := ⟨_, rfl⟩
       rw [hwq] at hBX hm hm2 hO hG ⊢
       have x0 := obj_at hBX 0 _ rfl
       have xl := obj_lt hBX
       clear hwq hba hPr hbx d0 d1
       go_wp2
       go_loopw [11, 14] (fun lv iv wr => ∃ (x : Nat) (lA : Option Addr) (ln lc : Nat), lo ≤ x ∧ x ≤ hi + 1 ∧ iv = .int .i64 (x : Nat) ∧ lv = .slice lA ln lc ∧ Hid (ln = (preX num crows.length (flatJ num ps j) lo x).length) ∧ wr.ownsRow w2.heap.size 2 1 (.slice lA ln lc) ln ((zs (preX num crows.length (flatJ num ps j) lo x)).map (Value.int .i64)) ∧ Mx wr B M L rest A K c S (Tt.fulls L K.length) d (fun x => x = stV 0 (-1) 0) ∧ Mx wr B2 M2 L rest A K c S2 T d2 (fun x => x = stV 0 (-1) 0) ∧ GX [M, M2] w2 wr ∧ BlkAt wr bx #[.int .i64 (lo : Nat), .int .i64 (hi : Nat)] 74) (fun _ iv _ => hi + 1 - (intOf iv).toNat)
       case atStart => exact ⟨lo, lA, ln, lc, Nat.le_refl _, by omega, rfl, rfl, hide (by rw [preX_lo]; exact HLN.out), by rw [preX_lo]; exact hO, hm, hm2, hG, hBX⟩
       case round =>
        clear hm hm2 hO hG hBX x0 xl
        obtain ⟨x, lA, ln, lc, hx1, hx2, rfl, rfl, HLX, hO, hm, hm2, hG, hBX⟩ := hrel
        have hzr := hG.size
        have x1 := obj_at hBX 1 _ rfl
        have xl := obj_lt hBX
        have hln := preX_len num crows.length (flatJ num ps j) lo x
        rw [← HLX.out] at hln
        by_cases hxh : x ≤ hi
        · have hxI : (x : Int) ≤ (hi : Int) := by omega
          by_cases hlf : ln < crows.length
          · have hlI : (ln : Int) < (crows.length : Int) := by omega
            have HNX := hide (preX_next num crows.length (flatJ num ps j) lo x hx1 (by rw [← HLX.out]; exact hlf))
            have hxT : x < Tt.cnt L rest (K.zip T) (-1) 0 := by have := HHT.out; omega
            have hcl := Tt.codeA_len L rest (K.zip T) (-1) 0 x hxT
            have hzT : (K.zip T).length = K.length := by rw [List.length_zip, HTN.out]; omega
            rw [hzT] at hcl
            have hnb := Tt.bef_le L rest (K.zip (Tt.fulls L K.length)) (-1) 0 (Tt.codeA L rest (K.zip T) (-1) 0 x) (by rw [hcl.1, List.length_zip]; simp [Tt.fulls]) hcl.2
            have hcs := Tt.cnt_small (L := L) (rest := rest) (ps := K.zip (Tt.fulls L K.length)) (la := -1) (s := 0) hL6 (by rw [List.length_zip]; omega)
            have hnx : Tt.befA L rest (K.zip (Tt.fulls L K.length)) (-1) 0 (Tt.codeA L rest (K.zip T) (-1) 0 x) = num x := by rw [← HNUM.out]; rfl
            rw [hnx] at hnb
            have HNB := hide hnx
            have HXT := hide hxT
            have HCL := hide hcl
            clear hcl hzT hnx hxT
            obtain ⟨cw, hcw⟩ : ∃ v, Tt.codeA L rest (K.zip T) (-1) 0 x = v := ⟨_, rfl⟩
            rw [hcw] at HNB HCL
            have HCW := hide hcw
            clear hcw
            have hb2' := hm2.lts
            obtain ⟨nx, hnx⟩ : ∃ v, num x = v := ⟨_, rfl⟩
            rw [hnx] at HNB HNX hnb
            clear hnx
            have hob : ∀ g, (Value.slice lA ln lc).ownBlock = some g → g ≠ bx := fun g hg => own_kind hO hg hBX (by decide)
            go_wp2_with (first
 | (go_at_call 60; refine (code_any B2 M2 L rest A K c S2 T d2 (fun x => x = stV 0 (-1) 0) x _ hm2.at_ hm2.ok hm2.ne hm2.km HXT.out).mono ?_; rintro e u1 ⟨rfl, hg, hk⟩; have hzu1 := hg.size; replace hm2 := hm2.own hg hk; replace hm := hm.far hg hx12; replace hO := own_far hO hg (by omega); replace hG := hG.grown hg (fun r e _ => by rw [← Option.some.inj e]; simp); replace hBX := hBX.gx ((GX.refl [M2] _).grown hg (fun r e _ => by rw [← Option.some.inj e]; simp)) (by simp; omega); clear hg hk; rw [HCW.out])
 | (go_at_call 64; refine (before_any B M L rest A K c S (Tt.fulls L K.length) d (fun x => x = stV 0 (-1) 0) cw _ hm.at_ hm.ok hm.ne hm.km HCL.out.1 HCL.out.2).mono ?_; rintro e u2 ⟨rfl, hg, hk⟩; have hzu2 := hg.size; replace hm := hm.own hg hk; replace hm2 := hm2.far hg hx21; replace hO := own_far hO hg (by omega); replace hG := hG.grown hg (fun r e _ => by rw [← Option.some.inj e]; simp); replace hBX := hBX.gx ((GX.refl [M] _).grown hg (fun r e _ => by rw [← Option.some.inj e]; simp)) (by simp; omega); clear hg hk; rw [HNB.out])
 | (at_builtin; refine wpList_app _ rfl (.tmp 57) (.tmp 63) 53 rfl (w2.heap.size) 2 ti _ 1 8 und53 ih2 iz2 is2 ib2 rfl (by decide) ((.slice lA ln lc)) (ln) (_) rfl (hO.alloc _) (some ⟨u2.heap.size, 0, none⟩) (1) (1) ([.int .i64 (nx : Nat)]) rfl (rd_new1 _ _ _) (by simp [Value.oneCell']) (by unfold maxLen; omega) (by omega) (by (first | omega | (simp only [zz]; omega) | (simp only [zz] at *; omega) | (simp; done) | (simp; omega))) ?_; intro A7 c7 u7 hown7 hgr7))
            have hrow : ∀ r, (Value.slice lA ln lc).ownBlock = some r → w2.heap.size ≤ r := fun r e => (hO.lt r e).1
            have hba6 := below_alloc (Below.refl u2.heap.size u2) (Nat.le_refl _) (.cells #[.int .i64 (nx : Nat)] 2)
            refine ⟨⟨x + 1, A7, ln + 1, c7, by omega, by omega, by go_num, rfl, hide (by rw [HNX.out, List.length_append, ← HLX.out]; rfl), ?_, (hm.ext hba6).row hgr7 (fun r e => hx1m.out r (hrow r e)), (hm2.ext hba6).row hgr7 (fun r e => hx2m.out r (hrow r e)), (hG.alloc _).grown hgr7 (fun r e hlt => by have := hrow r e; omega), ?_⟩, by simp [intOf]; omega⟩
            · rw [HNX.out, zs_snoc, List.map_append]; exact hown7
            · exact (hgr7.block bx (by have := obj_lt hBX; simp; omega) (fun e => hob bx e.symm rfl)).trans (hBX.ext hba6)
          · have hlI : ¬ ((ln : Int) < (crows.length : Int)) := by omega
            have HE : Hid (preX num crows.length (flatJ num ps j) lo x = (flatJ num ps (j + 1)).take crows.length) := hide (by
             rw [HFJ.out]
             exact preX_full num crows.length (flatJ num ps j) lo x (hi + 1) hx1 (by omega) (by rw [← HLX.out]; omega))
            go_wp2
            exact ⟨⟨j + 1, lA, ln, lc, by omega, by go_num, rfl, hide (by rw [← HE.out]; exact HLX.out), by rw [← HE.out]; exact hO, hm, hm2, hG⟩, by simp [intOf]; omega⟩
        · have hxI : ¬ ((x : Int) ≤ (hi : Int)) := by omega
          have hxe : x = hi + 1 := by omega
          have HE : Hid (preX num crows.length (flatJ num ps j) lo x = (flatJ num ps (j + 1)).take crows.length) := hide (by rw [HFJ.out, hxe])
          clear hxe
          go_wp2
          exact ⟨⟨j + 1, lA, ln, lc, by omega, by go_num, rfl, hide (by rw [← HE.out]; exact HLX.out), by rw [← HE.out]; exact hO, hm, hm2, hG⟩, by simp [intOf]; omega⟩
     · have hji : ¬ ((j : Int) < (ps.length : Int)) := by omega
       have hje : j = ps.length := by omega
       have hfe : (flatJ num ps j).take crows.length = (canN L rest K T qs).take crows.length := by
        rw [← HRAW.out, hje, ← HNUM.out]
        unfold rawL flatJ spanI
        rw [HP.out, List.take_length]
       rw [hfe] at hO HLN
       obtain ⟨lst, hlst⟩ : ∃ v, (canN L rest K T qs).take crows.length = v := ⟨_, rfl⟩
       rw [hlst] at hO HLN
       have HLST := hide hlst
       have hlne : ln = (zs lst).length := by rw [zs_len]; exact HLN.out
       have hHJ := hide hje
       clear hlst hfe HLN hje
       subst hlne
       have gw := hgw2.back hG (fun x hx hlt => by simp at hx ⊢; omega)
       have hXC := hX.gx gw (by simp; omega)
       have hb0 := own_base hO
       have hRw : Rows wc.heap.size wp (rows ++ [(lA, zs lst, lc)]) := (hR.gx gw (fun s hs => .inl (by simp at hs; omega))).app (own_i64 hO) (fun b o e => by have := hb0 b o e; omega)
       have hF1w : LFar canV (rows ++ [(lA, zs lst, lc)]) := hF1.app (fun b o e g hg => by have h1 := (hO1.lt g hg).2; have h2 := (hb0 b o e).1; omega)
       have hF2w : LFar paidV (rows ++ [(lA, zs lst, lc)]) := hF2.app (fun b o e g hg => by have h1 := (hO2.lt g hg).2; have h2 := (hb0 b o e).1; omega)
       have hO1w := own_gx hO1 gw (fun g hg => by have := (hO1.lt g hg).1; simp; omega)
       have hO2w := own_gx hO2 gw (fun g hg => by have := (hO2.lt g hg).1; simp; omega)
       have hGw := hG0.trans gw
       have hzw := hGw.size
       clear hX hF1 hF2 hO1 hO2 hR hG0 gw hG hgw2 hm2 hO hm1' hm2' hG2 hPR hYr hYI hcy m0 m1 m2 m3 ml hrb hx12 hx21
       have hF1 := hF1w
       have hF2 := hF2w
       clear hF1w hF2w
       go_upto_region 15 with fail
       refine wp_region_noPanic ?_
       refine wp_region_F [17, 20] (fun w' => True) (fun w' => w'.cell? ⟨w.heap.size, 3, none⟩ = some canV ∧ w'.cell? ⟨w.heap.size, 4, none⟩ = some paidV) (by kernel_rfl) ?_
       have hS0 := trivial
       have hS1 := And.intro (obj_at (hXC.ext (below_drew (Below.refl _ _))) 3 _ rfl) (obj_at (hXC.ext (below_drew (Below.refl _ _))) 4 _ rfl)
       have hbY := below_drew (Below.refl wp.heap.size wp)
       replace hXC := hXC.ext hbY
       have hO1 := own_ext hO1w hbY
       have hO2 := own_ext hO2w hbY
       replace hRw := hRw.gx ((GX.refl [] _).below hbY (Nat.le_refl _)) (fun s hs => by cases hs)
       replace hm := hm.ext hbY
       have hGc := hGw.below hbY hGw.size
       obtain ⟨v0, hv0⟩ : ∃ v, wp.drew = v := ⟨_, rfl⟩
       rw [hv0] at hXC hO1 hO2 hRw hm hGc hS1 ⊢
       have hzY0 : wp.heap.size ≤ v0.heap.size := by rw [← hv0]; exact hbY.size
       clear hbY hv0 hO1w hO2w hGw hzw
       refine wpAnyF_take0 (i := 0) (v := ?_) rfl rfl (by kernel_rfl) (by kernel_rfl) (by kernel_rfl) (fun _ _ _ h => h) (Or.inl ⟨by rfl, ?_⟩) hS0 (fun _ => hS1) ?_
       rotate_left
       · (intro ww hSw; (try dsimp only at hSw); go_simp; try with_reducible rfl)
       (try simp only [Act.put, List.getElem_toArray, List.getElem_cons_zero, List.getElem_cons_succ, List.setIfInBounds_toArray, List.set_cons_zero, List.set_cons_succ])
       refine wpAnyF_take0 (i := 1) (v := ?_) rfl rfl (by kernel_rfl) (by kernel_rfl) (by kernel_rfl) (fun _ _ _ h => h) (Or.inl ⟨by rfl, ?_⟩) hS0 (fun _ => hS1) ?_
       rotate_left
       · (intro ww hSw; (try dsimp only at hSw); go_simp; try with_reducible rfl)
       (try simp only [Act.put, List.getElem_toArray, List.getElem_cons_zero, List.getElem_cons_succ, List.setIfInBounds_toArray, List.set_cons_zero, List.set_cons_succ])
       refine wpAnyF_take0 (i := 2) (v := ?_) rfl rfl (by kernel_rfl) (by kernel_rfl) (by kernel_rfl) (fun _ _ _ h => h) (Or.inl ⟨by rfl, ?_⟩) hS0 (fun _ => hS1) ?_
       rotate_left
       · (intro ww hSw; (try dsimp only at hSw); go_simp; try with_reducible rfl)
       (try simp only [Act.put, List.getElem_toArray, List.getElem_cons_zero, List.getElem_cons_succ, List.setIfInBounds_toArray, List.set_cons_zero, List.set_cons_succ])
       refine wpAnyF_take0 (i := 3) (v := ?_) rfl rfl (by kernel_rfl) (by kernel_rfl) (by kernel_rfl) (fun _ _ _ h => h) (Or.inl ⟨by rfl, ?_⟩) hS0 (fun _ => hS1) ?_
       rotate_left
       · (intro ww hSw; (try dsimp only at hSw); go_simp; try with_reducible rfl)
       (try simp only [Act.put, List.getElem_toArray, List.getElem_cons_zero, List.getElem_cons_succ, List.setIfInBounds_toArray, List.set_cons_zero, List.set_cons_succ])
       refine wpAnyF_take0 (i := 4) (v := ?_) rfl rfl (by kernel_rfl) (by kernel_rfl) (by kernel_rfl) (fun _ _ _ h => h) (Or.inl ⟨by rfl, ?_⟩) hS0 (fun _ => hS1) ?_
       rotate_left
       · (intro ww hSw; (try dsimp only at hSw); go_simp; try with_reducible rfl)
       (try simp only [Act.put, List.getElem_toArray, List.getElem_cons_zero, List.getElem_cons_succ, List.setIfInBounds_toArray, List.set_cons_zero, List.set_cons_succ])
       refine wpAnyF_take1 (i := 5) (v := ?_) rfl rfl (by kernel_rfl) (by kernel_rfl) (by kernel_rfl) (by kernel_rfl) (fun _ _ _ h => h) (Or.inl ⟨by rfl, ?_⟩) hS0 (by kernel_rfl) hS1 ?_
       rotate_left
       · (intro ww hSw; (try dsimp only at hSw); go_simp; try with_reducible rfl)
       (try simp only [Act.put, List.getElem_toArray, List.getElem_cons_zero, List.getElem_cons_succ, List.setIfInBounds_toArray, List.set_cons_zero, List.set_cons_succ])
       refine wpAnyF_take0 (i := 6) (v := ?_) rfl rfl (by kernel_rfl) (by kernel_rfl) (by kernel_rfl) (fun _ _ _ h => h) (Or.inl ⟨by rfl, ?_⟩) hS0 (fun _ => hS1) ?_
       rotate_left
       · (intro ww hSw; (try dsimp only at hSw); go_simp; try with_reducible rfl)
       (try simp only [Act.put, List.getElem_toArray, List.getElem_cons_zero, List.getElem_cons_succ, List.setIfInBounds_toArray, List.set_cons_zero, List.set_cons_succ])
       refine wpAnyF_take0 (i := 9) (v := ?_) rfl rfl (by kernel_rfl) (by kernel_rfl) (by kernel_rfl) (fun _ _ _ h => h) (Or.inl ⟨by rfl, ?_⟩) hS0 (fun _ => hS1) ?_
       rotate_left
       · (intro ww hSw; (try dsimp only at hSw); go_simp; try with_reducible rfl)
       (try simp only [Act.put, List.getElem_toArray, List.getElem_cons_zero, List.getElem_cons_succ, List.setIfInBounds_toArray, List.set_cons_zero, List.set_cons_succ])
       refine wpAnyF_take0 (i := 10) (v := ?_) rfl rfl (by kernel_rfl) (by kernel_rfl) (by kernel_rfl) (fun _ _ _ h => h) (Or.inl ⟨by rfl, ?_⟩) hS0 (fun _ => hS1) ?_
       rotate_left
       · (intro ww hSw; (try dsimp only at hSw); go_simp; try with_reducible rfl)
       (try simp only [Act.put, List.getElem_toArray, List.getElem_cons_zero, List.getElem_cons_succ, List.setIfInBounds_toArray, List.set_cons_zero, List.set_cons_succ])
       refine wpAnyF_take0 (i := 11) (v := ?_) rfl rfl (by kernel_rfl) (by kernel_rfl) (by kernel_rfl) (fun _ _ _ h => h) (Or.inl ⟨by rfl, ?_⟩) hS0 (fun _ => hS1) ?_
       rotate_left
       · (intro ww hSw; (try dsimp only at hSw); go_simp; try with_reducible rfl)
       (try simp only [Act.put, List.getElem_toArray, List.getElem_cons_zero, List.getElem_cons_succ, List.setIfInBounds_toArray, List.set_cons_zero, List.set_cons_succ])
       refine wpAnyF_take1 (i := 12) (v := ?_) rfl rfl (by kernel_rfl) (by kernel_rfl) (by kernel_rfl) (by kernel_rfl) (fun _ _ _ h => h) (Or.inl ⟨by rfl, ?_⟩) hS0 (by kernel_rfl) hS1 ?_
       rotate_left
       · (intro ww hSw; (try dsimp only at hSw); go_simp; try with_reducible rfl)
       (try simp only [Act.put, List.getElem_toArray, List.getElem_cons_zero, List.getElem_cons_succ, List.setIfInBounds_toArray, List.set_cons_zero, List.set_cons_succ])
       refine wpAnyF_ready (rs := [7, 13]) (by kernel_rfl) (by simp) ?_
       refine AllReadyF.cons rfl ?_ ?_
       · intro K' hK
         rw [if_pos (by rfl)]
         go_simp
         have hbY := below_alloc (Below.refl v0.heap.size v0) (Nat.le_refl _) (.cells #[.slice lA (zs lst).length lc] 53)
         have hL7 : BlkAt (v0.alloc (.cells #[.slice lA (zs lst).length lc] 53)) v0.heap.size #[.slice lA (zs lst).length lc] 53 := heap_alloc_new _ _
         obtain ⟨b7, hb7⟩ : ∃ v, v0.heap.size = v := ⟨_, rfl⟩
         rw [hb7] at hL7 ⊢
         obtain ⟨v1, hvY⟩ : ∃ v, (v0.alloc (.cells #[.slice lA (zs lst).length lc] 53)) = v := ⟨_, rfl⟩
         rw [hvY] at hbY hL7 ⊢
         clear hvY hb7
         replace hXC := hXC.ext hbY
         replace hO1 := own_ext hO1 hbY
         replace hO2 := own_ext hO2 hbY
         replace hRw := hRw.gx ((GX.refl [] _).below hbY (Nat.le_refl _)) (fun s hs => by cases hs)
         replace hm := hm.ext hbY
         replace hGc := hGc.below hbY hGc.size
         have hzY1 := hbY.size
         clear hS1
         have hS1 := And.intro (obj_at hXC 3 _ rfl) (obj_at hXC 4 _ rfl)
         refine hK.out _ _ trivial (fun _ => hS1) (fun _ => ?_)
         clear hK K'
         (try simp only [Act.put, List.getElem_toArray, List.getElem_cons_zero, List.getElem_cons_succ, List.setIfInBounds_toArray, List.set_cons_zero, List.set_cons_succ])
         refine wpAnyF_ready (rs := [8, 13]) (by kernel_rfl) (by simp) ?_
         refine AllReadyF.cons rfl ?_ ?_
         · intro K' hK
           refine step_appN _ rfl (.tmp 71) (.tmp 73) 114 rfl wc.heap.size 53 tj _ 1 24 und114 ih53 iz53 is53 ib53 rfl (by decide) canV k (rows.map cellL) rfl hO1 (some ⟨b7, 0, none⟩) 1 1 [.slice lA (zs lst).length lc] rfl (rd_blk hL7) (by simp [Value.oneCell']) (by unfold maxLen; omega) (by omega) (by omega) ?_
           intro A8 c8 v2 hown8 hgr far8
           have hzY2 := hgr.size
           have hXD : BlkAt v2 w.heap.size #[.pointer (some ⟨B, 0, none⟩), .slice (some ⟨yb, yo, none⟩) crows.length yc, .slice D qs.length dc, canV, paidV] 116 := (hgr.block w.heap.size (obj_lt hXC) (fun e => own_kind hO1 e.symm hXC (by decide) rfl)).trans hXC
           have hAp8 := Apart.grown (W := v1) (W' := v2) hAp hO2 far8
           replace hO2 := own_other hO2 hgr hAp.symm
           have hF1n := hF1.to hRw far8
           replace hRw := hRw.grown hgr hF1
           replace hm := hm.row hgr (fun q e => hmx.new (by have := (hO1.lt q e).1; omega))
           replace hGc := hGc.grown hgr (fun q e hlt => by have := (hO1.lt q e).1; omega)
           clear hXC hL7 hO1 hF1 hAp
           have hXC := hXD
           have hO1 := hown8
           have hF1 := hF1n
           have hAp := hAp8
           clear hXD hown8 hF1n hAp8 hgr far8
           clear hS1
           have hS1 := And.intro (obj_at hXC 3 _ rfl) (obj_at hXC 4 _ rfl)
           refine hK.out _ _ trivial (fun _ => hS1) (fun _ => ?_)
           clear hK K'
           (try simp only [Act.put, List.getElem_toArray, List.getElem_cons_zero, List.getElem_cons_succ, List.setIfInBounds_toArray, List.set_cons_zero, List.set_cons_succ])
           refine wpAnyF_ready (rs := [13]) (by kernel_rfl) (by simp) ?_
           refine AllReadyF.cons rfl ?_ ?_
           · intro K' hK
             rw [if_pos (by rfl)]
             go_simp
             have hbY := below_alloc (Below.refl v2.heap.size v2) (Nat.le_refl _) (.cells #[.int .i64 (-1)] 2)
             have hL13 : BlkAt (v2.alloc (.cells #[.int .i64 (-1)] 2)) v2.heap.size #[.int .i64 (-1)] 2 := heap_alloc_new _ _
             obtain ⟨b13, hb13⟩ : ∃ v, v2.heap.size = v := ⟨_, rfl⟩
             rw [hb13] at hL13 ⊢
             obtain ⟨v3, hvY⟩ : ∃ v, (v2.alloc (.cells #[.int .i64 (-1)] 2)) = v := ⟨_, rfl⟩
             rw [hvY] at hbY hL13 ⊢
             clear hvY hb13
             replace hXC := hXC.ext hbY
             replace hO1 := own_ext hO1 hbY
             replace hO2 := own_ext hO2 hbY
             replace hRw := hRw.gx ((GX.refl [] _).below hbY (Nat.le_refl _)) (fun s hs => by cases hs)
             replace hm := hm.ext hbY
             replace hGc := hGc.below hbY hGc.size
             have hzY3 := hbY.size
             clear hS1
             have hS1 := And.intro (obj_at hXC 3 _ rfl) (obj_at hXC 4 _ rfl)
             refine hK.out _ _ trivial (fun _ => hS1) (fun _ => ?_)
             clear hK K'
             (try simp only [Act.put, List.getElem_toArray, List.getElem_cons_zero, List.getElem_cons_succ, List.setIfInBounds_toArray, List.set_cons_zero, List.set_cons_succ])
             refine wpAnyF_ready (rs := [14]) (by kernel_rfl) (by simp) ?_
             refine AllReadyF.cons rfl ?_ ?_
             · intro K' hK
               refine step_appN _ rfl (.tmp 78) (.tmp 79) 53 rfl wc.heap.size 2 ti _ 1 8 und53 ih2 iz2 is2 ib2 rfl (by decide) paidV k ((List.replicate k (-1 : Int)).map (Value.int .i64)) rfl hO2 (some ⟨b13, 0, none⟩) 1 1 [.int .i64 (-1)] rfl (rd_blk hL13) (by simp [Value.oneCell']) (by unfold maxLen; omega) (by omega) (by omega) ?_
               intro A14 c14 v4 hown14 hgr far14
               have hzY4 := hgr.size
               have hXD : BlkAt v4 w.heap.size #[.pointer (some ⟨B, 0, none⟩), .slice (some ⟨yb, yo, none⟩) crows.length yc, .slice D qs.length dc, canV, paidV] 116 := (hgr.block w.heap.size (obj_lt hXC) (fun e => own_kind hO2 e.symm hXC (by decide) rfl)).trans hXC
               have hAp14 := (Apart.grown (W := v3) (W' := v4) hAp.symm hO1 far14).symm
               replace hO1 := own_other hO1 hgr hAp
               have hF2n := hF2.to hRw far14
               replace hRw := hRw.grown hgr hF2
               replace hm := hm.row hgr (fun q e => hmx.new (by have := (hO2.lt q e).1; omega))
               replace hGc := hGc.grown hgr (fun q e hlt => by have := (hO2.lt q e).1; omega)
               clear hXC hL13 hO2 hF2 hAp
               have hXC := hXD
               have hO2 := hown14
               have hF2 := hF2n
               have hAp := hAp14
               clear hXD hown14 hF2n hAp14 hgr far14
               clear hS1
               have hS1 := And.intro (obj_at hXC 3 _ rfl) (obj_at hXC 4 _ rfl)
               have f3 := obj_fz hXC 3
               have f4 := obj_fz hXC 4
               have xl := obj_lt hXC
               obtain ⟨s3, s4⟩ := id hS1
               refine hK.out _ _ trivial (fun _ => hS1) (fun _ => ?_)
               clear hK K'
               (try simp only [Act.put, List.getElem_toArray, List.getElem_cons_zero, List.getElem_cons_succ, List.setIfInBounds_toArray, List.set_cons_zero, List.set_cons_succ])
               refine wpAnyF_take0 (i := 15) (v := ?_) rfl rfl (by kernel_rfl) (by kernel_rfl) (by kernel_rfl) (fun _ _ _ h => h) (Or.inl ⟨by rfl, ?_⟩) hS0 (fun _ => hS1) ?_
               rotate_left
               · (intro ww hSw; (try dsimp only at hSw); go_simp; try with_reducible rfl)
               (try simp only [Act.put, List.getElem_toArray, List.getElem_cons_zero, List.getElem_cons_succ, List.setIfInBounds_toArray, List.set_cons_zero, List.set_cons_succ])
               refine wpAnyF_take0 (i := 16) (v := ?_) rfl rfl (by kernel_rfl) (by kernel_rfl) (by kernel_rfl) (fun _ _ _ h => h) (Or.inl ⟨by rfl, ?_⟩) hS0 (fun _ => hS1) ?_
               rotate_left
               · (intro ww hSw; (try dsimp only at hSw); go_simp; try with_reducible rfl)
               (try simp only [Act.put, List.getElem_toArray, List.getElem_cons_zero, List.getElem_cons_succ, List.setIfInBounds_toArray, List.set_cons_zero, List.set_cons_succ])
               refine wpAnyF_ready (rs := [17]) (by kernel_rfl) (by simp) ?_
               refine AllReadyF.cons rfl ?_ ?_
               · intro K' hK
                 rw [if_pos (by rfl)]
                 go_simp
                 refine hK.out _ _ (trivial) (fun h => nomatch (show false = true from h)) (fun _ => ?_)
                 clear hK K' hS0
                 have hS0 := trivial
                 (try simp only [Act.put, List.getElem_toArray, List.getElem_cons_zero, List.getElem_cons_succ, List.setIfInBounds_toArray, List.set_cons_zero, List.set_cons_succ])
                 refine wpAnyF_take0 (i := 18) (v := ?_) rfl rfl (by kernel_rfl) (by kernel_rfl) (by kernel_rfl) (fun _ _ _ h => h) (Or.inl ⟨by rfl, ?_⟩) hS0 (fun h => nomatch (show false = true from h)) ?_
                 rotate_left
                 · (intro ww hSw; (try dsimp only at hSw); go_simp; try with_reducible rfl)
                 (try simp only [Act.put, List.getElem_toArray, List.getElem_cons_zero, List.getElem_cons_succ, List.setIfInBounds_toArray, List.set_cons_zero, List.set_cons_succ])
                 refine wpAnyF_take0 (i := 19) (v := ?_) rfl rfl (by kernel_rfl) (by kernel_rfl) (by kernel_rfl) (fun _ _ _ h => h) (Or.inl ⟨by rfl, ?_⟩) hS0 (fun h => nomatch (show false = true from h)) ?_
                 rotate_left
                 · (intro ww hSw; (try dsimp only at hSw); go_simp; try with_reducible rfl)
                 (try simp only [Act.put, List.getElem_toArray, List.getElem_cons_zero, List.getElem_cons_succ, List.setIfInBounds_toArray, List.set_cons_zero, List.set_cons_succ])
                 refine wpAnyF_ready (rs := [20]) (by kernel_rfl) (by simp) ?_
                 refine AllReadyF.cons rfl ?_ ?_
                 · intro K' hK
                   rw [if_pos (by rfl)]
                   go_simp
                   refine hK.out _ _ (trivial) (fun h => nomatch (show false = true from h)) (fun _ => ?_)
                   clear hK K' hS0
                   have hS0 := trivial
                   (try simp only [Act.put, List.getElem_toArray, List.getElem_cons_zero, List.getElem_cons_succ, List.setIfInBounds_toArray, List.set_cons_zero, List.set_cons_succ])
                   refine wpAnyF_done (by kernel_rfl) ?_ _
                   refine NoPanic.normal ?_
                   go_wp2_with fail
                   have gC : GX [w.heap.size] v4 ((v4.setCell ⟨w.heap.size, 3, none⟩ (.slice A8 (k + 1) c8)).setCell ⟨w.heap.size, 4, none⟩ (.slice A14 (k + 1) c14)) := ((GX.refl _ _).setCell _ _ (fun _ => by simp)).setCell _ _ (fun _ => by simp)
                   have hzE := gC.size
                   exact ⟨⟨k + 1, .slice A8 (k + 1) c8, .slice A14 (k + 1) c14, rows ++ [(lA, zs lst, lc)], by omega, by go_num, hide (by rw [List.length_append, HRL.out]; rfl), hide (by rw [List.map_append, HRC.out, HTK.out, List.map_append]; simp only [List.map_cons, List.map_nil, HLST.out]), set_obj (set_obj hXC 3 _) 4 _, by rw [List.map_append]; exact own_gx hO1 gC (fun q hq => by have := (hO1.lt q hq).1; simp; omega), by rw [List.replicate_succ', List.map_append]; exact own_gx hO2 gC (fun q hq => by have := (hO2.lt q hq).1; simp; omega), hRw.gx gC (fun q hq => .inl (by simp at hq; omega)), hF1, hF2, hAp, hm.gx gC (fun q hq => hmx.new (by simp at hq; omega)), (hGc.setCell _ _ (fun h => by simp at h)).setCell _ _ (fun h => by simp at h), by omega⟩, by simp [intOf]; omega⟩
                 exact AllReadyF.nil
               exact AllReadyF.nil
             exact AllReadyF.nil
           exact AllReadyF.nil
         refine AllReadyF.cons rfl ?_ ?_
         · intro K' hK
           rw [if_pos (by rfl)]
           go_simp
           have hbY := below_alloc (Below.refl v1.heap.size v1) (Nat.le_refl _) (.cells #[.int .i64 (-1)] 2)
           have hL13 : BlkAt (v1.alloc (.cells #[.int .i64 (-1)] 2)) v1.heap.size #[.int .i64 (-1)] 2 := heap_alloc_new _ _
           obtain ⟨b13, hb13⟩ : ∃ v, v1.heap.size = v := ⟨_, rfl⟩
           rw [hb13] at hL13 ⊢
           obtain ⟨v2, hvY⟩ : ∃ v, (v1.alloc (.cells #[.int .i64 (-1)] 2)) = v := ⟨_, rfl⟩
           rw [hvY] at hbY hL13 ⊢
           clear hvY hb13
           replace hXC := hXC.ext hbY
           replace hO1 := own_ext hO1 hbY
           replace hO2 := own_ext hO2 hbY
           replace hRw := hRw.gx ((GX.refl [] _).below hbY (Nat.le_refl _)) (fun s hs => by cases hs)
           replace hm := hm.ext hbY
           replace hGc := hGc.below hbY hGc.size
           have hzY2 := hbY.size
           replace hL7 := hL7.ext hbY
           clear hS1
           have hS1 := And.intro (obj_at hXC 3 _ rfl) (obj_at hXC 4 _ rfl)
           refine hK.out _ _ trivial (fun _ => hS1) (fun _ => ?_)
           clear hK K'
           (try simp only [Act.put, List.getElem_toArray, List.getElem_cons_zero, List.getElem_cons_succ, List.setIfInBounds_toArray, List.set_cons_zero, List.set_cons_succ])
           refine wpAnyF_ready (rs := [8]) (by kernel_rfl) (by simp) ?_
           refine AllReadyF.cons rfl ?_ ?_
           · intro K' hK
             refine step_appN _ rfl (.tmp 71) (.tmp 73) 114 rfl wc.heap.size 53 tj _ 1 24 und114 ih53 iz53 is53 ib53 rfl (by decide) canV k (rows.map cellL) rfl hO1 (some ⟨b7, 0, none⟩) 1 1 [.slice lA (zs lst).length lc] rfl (rd_blk hL7) (by simp [Value.oneCell']) (by unfold maxLen; omega) (by omega) (by omega) ?_
             intro A8 c8 v3 hown8 hgr far8
             have hzY3 := hgr.size
             have hXD : BlkAt v3 w.heap.size #[.pointer (some ⟨B, 0, none⟩), .slice (some ⟨yb, yo, none⟩) crows.length yc, .slice D qs.length dc, canV, paidV] 116 := (hgr.block w.heap.size (obj_lt hXC) (fun e => own_kind hO1 e.symm hXC (by decide) rfl)).trans hXC
             have hL13n : BlkAt v3 b13 #[.int .i64 (-1)] 2 := (hgr.block b13 (obj_lt hL13) (fun e => own_kind hO1 e.symm hL13 (by decide) rfl)).trans hL13
             have hAp8 := Apart.grown (W := v2) (W' := v3) hAp hO2 far8
             replace hO2 := own_other hO2 hgr hAp.symm
             have hF1n := hF1.to hRw far8
             replace hRw := hRw.grown hgr hF1
             replace hm := hm.row hgr (fun q e => hmx.new (by have := (hO1.lt q e).1; omega))
             replace hGc := hGc.grown hgr (fun q e hlt => by have := (hO1.lt q e).1; omega)
             clear hXC hL7 hO1 hF1 hAp hL13
             have hXC := hXD
             have hO1 := hown8
             have hF1 := hF1n
             have hAp := hAp8
             clear hXD hown8 hF1n hAp8 hgr far8
             have hL13 := hL13n
             clear hL13n
             clear hS1
             have hS1 := And.intro (obj_at hXC 3 _ rfl) (obj_at hXC 4 _ rfl)
             refine hK.out _ _ trivial (fun _ => hS1) (fun _ => ?_)
             clear hK K'
             (try simp only [Act.put, List.getElem_toArray, List.getElem_cons_zero, List.getElem_cons_succ, List.setIfInBounds_toArray, List.set_cons_zero, List.set_cons_succ])
             refine wpAnyF_ready (rs := [14]) (by kernel_rfl) (by simp) ?_
             refine AllReadyF.cons rfl ?_ ?_
             · intro K' hK
               refine step_appN _ rfl (.tmp 78) (.tmp 79) 53 rfl wc.heap.size 2 ti _ 1 8 und53 ih2 iz2 is2 ib2 rfl (by decide) paidV k ((List.replicate k (-1 : Int)).map (Value.int .i64)) rfl hO2 (some ⟨b13, 0, none⟩) 1 1 [.int .i64 (-1)] rfl (rd_blk hL13) (by simp [Value.oneCell']) (by unfold maxLen; omega) (by omega) (by omega) ?_
               intro A14 c14 v4 hown14 hgr far14
               have hzY4 := hgr.size
               have hXD : BlkAt v4 w.heap.size #[.pointer (some ⟨B, 0, none⟩), .slice (some ⟨yb, yo, none⟩) crows.length yc, .slice D qs.length dc, canV, paidV] 116 := (hgr.block w.heap.size (obj_lt hXC) (fun e => own_kind hO2 e.symm hXC (by decide) rfl)).trans hXC
               have hAp14 := (Apart.grown (W := v3) (W' := v4) hAp.symm hO1 far14).symm
               replace hO1 := own_other hO1 hgr hAp
               have hF2n := hF2.to hRw far14
               replace hRw := hRw.grown hgr hF2
               replace hm := hm.row hgr (fun q e => hmx.new (by have := (hO2.lt q e).1; omega))
               replace hGc := hGc.grown hgr (fun q e hlt => by have := (hO2.lt q e).1; omega)
               clear hXC hL13 hO2 hF2 hAp
               have hXC := hXD
               have hO2 := hown14
               have hF2 := hF2n
               have hAp := hAp14
               clear hXD hown14 hF2n hAp14 hgr far14
               clear hS1
               have hS1 := And.intro (obj_at hXC 3 _ rfl) (obj_at hXC 4 _ rfl)
               have f3 := obj_fz hXC 3
               have f4 := obj_fz hXC 4
               have xl := obj_lt hXC
               obtain ⟨s3, s4⟩ := id hS1
               refine hK.out _ _ trivial (fun _ => hS1) (fun _ => ?_)
               clear hK K'
               (try simp only [Act.put, List.getElem_toArray, List.getElem_cons_zero, List.getElem_cons_succ, List.setIfInBounds_toArray, List.set_cons_zero, List.set_cons_succ])
               refine wpAnyF_take0 (i := 15) (v := ?_) rfl rfl (by kernel_rfl) (by kernel_rfl) (by kernel_rfl) (fun _ _ _ h => h) (Or.inl ⟨by rfl, ?_⟩) hS0 (fun _ => hS1) ?_
               rotate_left
               · (intro ww hSw; (try dsimp only at hSw); go_simp; try with_reducible rfl)
               (try simp only [Act.put, List.getElem_toArray, List.getElem_cons_zero, List.getElem_cons_succ, List.setIfInBounds_toArray, List.set_cons_zero, List.set_cons_succ])
               refine wpAnyF_take0 (i := 16) (v := ?_) rfl rfl (by kernel_rfl) (by kernel_rfl) (by kernel_rfl) (fun _ _ _ h => h) (Or.inl ⟨by rfl, ?_⟩) hS0 (fun _ => hS1) ?_
               rotate_left
               · (intro ww hSw; (try dsimp only at hSw); go_simp; try with_reducible rfl)
               (try simp only [Act.put, List.getElem_toArray, List.getElem_cons_zero, List.getElem_cons_succ, List.setIfInBounds_toArray, List.set_cons_zero, List.set_cons_succ])
               refine wpAnyF_ready (rs := [17]) (by kernel_rfl) (by simp) ?_
               refine AllReadyF.cons rfl ?_ ?_
               · intro K' hK
                 rw [if_pos (by rfl)]
                 go_simp
                 refine hK.out _ _ (trivial) (fun h => nomatch (show false = true from h)) (fun _ => ?_)
                 clear hK K' hS0
                 have hS0 := trivial
                 (try simp only [Act.put, List.getElem_toArray, List.getElem_cons_zero, List.getElem_cons_succ, List.setIfInBounds_toArray, List.set_cons_zero, List.set_cons_succ])
                 refine wpAnyF_take0 (i := 18) (v := ?_) rfl rfl (by kernel_rfl) (by kernel_rfl) (by kernel_rfl) (fun _ _ _ h => h) (Or.inl ⟨by rfl, ?_⟩) hS0 (fun h => nomatch (show false = true from h)) ?_
                 rotate_left
                 · (intro ww hSw; (try dsimp only at hSw); go_simp; try with_reducible rfl)
                 (try simp only [Act.put, List.getElem_toArray, List.getElem_cons_zero, List.getElem_cons_succ, List.setIfInBounds_toArray, List.set_cons_zero, List.set_cons_succ])
                 refine wpAnyF_take0 (i := 19) (v := ?_) rfl rfl (by kernel_rfl) (by kernel_rfl) (by kernel_rfl) (fun _ _ _ h => h) (Or.inl ⟨by rfl, ?_⟩) hS0 (fun h => nomatch (show false = true from h)) ?_
                 rotate_left
                 · (intro ww hSw; (try dsimp only at hSw); go_simp; try with_reducible rfl)
                 (try simp only [Act.put, List.getElem_toArray, List.getElem_cons_zero, List.getElem_cons_succ, List.setIfInBounds_toArray, List.set_cons_zero, List.set_cons_succ])
                 refine wpAnyF_ready (rs := [20]) (by kernel_rfl) (by simp) ?_
                 refine AllReadyF.cons rfl ?_ ?_
                 · intro K' hK
                   rw [if_pos (by rfl)]
                   go_simp
                   refine hK.out _ _ (trivial) (fun h => nomatch (show false = true from h)) (fun _ => ?_)
                   clear hK K' hS0
                   have hS0 := trivial
                   (try simp only [Act.put, List.getElem_toArray, List.getElem_cons_zero, List.getElem_cons_succ, List.setIfInBounds_toArray, List.set_cons_zero, List.set_cons_succ])
                   refine wpAnyF_done (by kernel_rfl) ?_ _
                   refine NoPanic.normal ?_
                   go_wp2_with fail
                   have gC : GX [w.heap.size] v4 ((v4.setCell ⟨w.heap.size, 3, none⟩ (.slice A8 (k + 1) c8)).setCell ⟨w.heap.size, 4, none⟩ (.slice A14 (k + 1) c14)) := ((GX.refl _ _).setCell _ _ (fun _ => by simp)).setCell _ _ (fun _ => by simp)
                   have hzE := gC.size
                   exact ⟨⟨k + 1, .slice A8 (k + 1) c8, .slice A14 (k + 1) c14, rows ++ [(lA, zs lst, lc)], by omega, by go_num, hide (by rw [List.length_append, HRL.out]; rfl), hide (by rw [List.map_append, HRC.out, HTK.out, List.map_append]; simp only [List.map_cons, List.map_nil, HLST.out]), set_obj (set_obj hXC 3 _) 4 _, by rw [List.map_append]; exact own_gx hO1 gC (fun q hq => by have := (hO1.lt q hq).1; simp; omega), by rw [List.replicate_succ', List.map_append]; exact own_gx hO2 gC (fun q hq => by have := (hO2.lt q hq).1; simp; omega), hRw.gx gC (fun q hq => .inl (by simp at hq; omega)), hF1, hF2, hAp, hm.gx gC (fun q hq => hmx.new (by simp at hq; omega)), (hGc.setCell _ _ (fun h => by simp at h)).setCell _ _ (fun h => by simp at h), by omega⟩, by simp [intOf]; omega⟩
                 exact AllReadyF.nil
               exact AllReadyF.nil
             exact AllReadyF.nil
           exact AllReadyF.nil
         exact AllReadyF.nil
       refine AllReadyF.cons rfl ?_ ?_
       · intro K' hK
         rw [if_pos (by rfl)]
         go_simp
         have hbY := below_alloc (Below.refl v0.heap.size v0) (Nat.le_refl _) (.cells #[.int .i64 (-1)] 2)
         have hL13 : BlkAt (v0.alloc (.cells #[.int .i64 (-1)] 2)) v0.heap.size #[.int .i64 (-1)] 2 := heap_alloc_new _ _
         obtain ⟨b13, hb13⟩ : ∃ v, v0.heap.size = v := ⟨_, rfl⟩
         rw [hb13] at hL13 ⊢
         obtain ⟨v1, hvY⟩ : ∃ v, (v0.alloc (.cells #[.int .i64 (-1)] 2)) = v := ⟨_, rfl⟩
         rw [hvY] at hbY hL13 ⊢
         clear hvY hb13
         replace hXC := hXC.ext hbY
         replace hO1 := own_ext hO1 hbY
         replace hO2 := own_ext hO2 hbY
         replace hRw := hRw.gx ((GX.refl [] _).below hbY (Nat.le_refl _)) (fun s hs => by cases hs)
         replace hm := hm.ext hbY
         replace hGc := hGc.below hbY hGc.size
         have hzY1 := hbY.size
         clear hS1
         have hS1 := And.intro (obj_at hXC 3 _ rfl) (obj_at hXC 4 _ rfl)
         refine hK.out _ _ trivial (fun _ => hS1) (fun _ => ?_)
         clear hK K'
         (try simp only [Act.put, List.getElem_toArray, List.getElem_cons_zero, List.getElem_cons_succ, List.setIfInBounds_toArray, List.set_cons_zero, List.set_cons_succ])
         refine wpAnyF_ready (rs := [7]) (by kernel_rfl) (by simp) ?_
         refine AllReadyF.cons rfl ?_ ?_
         · intro K' hK
           rw [if_pos (by rfl)]
           go_simp
           have hbY := below_alloc (Below.refl v1.heap.size v1) (Nat.le_refl _) (.cells #[.slice lA (zs lst).length lc] 53)
           have hL7 : BlkAt (v1.alloc (.cells #[.slice lA (zs lst).length lc] 53)) v1.heap.size #[.slice lA (zs lst).length lc] 53 := heap_alloc_new _ _
           obtain ⟨b7, hb7⟩ : ∃ v, v1.heap.size = v := ⟨_, rfl⟩
           rw [hb7] at hL7 ⊢
           obtain ⟨v2, hvY⟩ : ∃ v, (v1.alloc (.cells #[.slice lA (zs lst).length lc] 53)) = v := ⟨_, rfl⟩
           rw [hvY] at hbY hL7 ⊢
           clear hvY hb7
           replace hXC := hXC.ext hbY
           replace hO1 := own_ext hO1 hbY
           replace hO2 := own_ext hO2 hbY
           replace hRw := hRw.gx ((GX.refl [] _).below hbY (Nat.le_refl _)) (fun s hs => by cases hs)
           replace hm := hm.ext hbY
           replace hGc := hGc.below hbY hGc.size
           have hzY2 := hbY.size
           replace hL13 := hL13.ext hbY
           clear hS1
           have hS1 := And.intro (obj_at hXC 3 _ rfl) (obj_at hXC 4 _ rfl)
           refine hK.out _ _ trivial (fun _ => hS1) (fun _ => ?_)
           clear hK K'
           (try simp only [Act.put, List.getElem_toArray, List.getElem_cons_zero, List.getElem_cons_succ, List.setIfInBounds_toArray, List.set_cons_zero, List.set_cons_succ])
           refine wpAnyF_ready (rs := [8]) (by kernel_rfl) (by simp) ?_
           refine AllReadyF.cons rfl ?_ ?_
           · intro K' hK
             refine step_appN _ rfl (.tmp 71) (.tmp 73) 114 rfl wc.heap.size 53 tj _ 1 24 und114 ih53 iz53 is53 ib53 rfl (by decide) canV k (rows.map cellL) rfl hO1 (some ⟨b7, 0, none⟩) 1 1 [.slice lA (zs lst).length lc] rfl (rd_blk hL7) (by simp [Value.oneCell']) (by unfold maxLen; omega) (by omega) (by omega) ?_
             intro A8 c8 v3 hown8 hgr far8
             have hzY3 := hgr.size
             have hXD : BlkAt v3 w.heap.size #[.pointer (some ⟨B, 0, none⟩), .slice (some ⟨yb, yo, none⟩) crows.length yc, .slice D qs.length dc, canV, paidV] 116 := (hgr.block w.heap.size (obj_lt hXC) (fun e => own_kind hO1 e.symm hXC (by decide) rfl)).trans hXC
             have hL13n : BlkAt v3 b13 #[.int .i64 (-1)] 2 := (hgr.block b13 (obj_lt hL13) (fun e => own_kind hO1 e.symm hL13 (by decide) rfl)).trans hL13
             have hAp8 := Apart.grown (W := v2) (W' := v3) hAp hO2 far8
             replace hO2 := own_other hO2 hgr hAp.symm
             have hF1n := hF1.to hRw far8
             replace hRw := hRw.grown hgr hF1
             replace hm := hm.row hgr (fun q e => hmx.new (by have := (hO1.lt q e).1; omega))
             replace hGc := hGc.grown hgr (fun q e hlt => by have := (hO1.lt q e).1; omega)
             clear hXC hL7 hO1 hF1 hAp hL13
             have hXC := hXD
             have hO1 := hown8
             have hF1 := hF1n
             have hAp := hAp8
             clear hXD hown8 hF1n hAp8 hgr far8
             have hL13 := hL13n
             clear hL13n
             clear hS1
             have hS1 := And.intro (obj_at hXC 3 _ rfl) (obj_at hXC 4 _ rfl)
             refine hK.out _ _ trivial (fun _ => hS1) (fun _ => ?_)
             clear hK K'
             (try simp only [Act.put, List.getElem_toArray, List.getElem_cons_zero, List.getElem_cons_succ, List.setIfInBounds_toArray, List.set_cons_zero, List.set_cons_succ])
             refine wpAnyF_ready (rs := [14]) (by kernel_rfl) (by simp) ?_
             refine AllReadyF.cons rfl ?_ ?_
             · intro K' hK
               refine step_appN _ rfl (.tmp 78) (.tmp 79) 53 rfl wc.heap.size 2 ti _ 1 8 und53 ih2 iz2 is2 ib2 rfl (by decide) paidV k ((List.replicate k (-1 : Int)).map (Value.int .i64)) rfl hO2 (some ⟨b13, 0, none⟩) 1 1 [.int .i64 (-1)] rfl (rd_blk hL13) (by simp [Value.oneCell']) (by unfold maxLen; omega) (by omega) (by omega) ?_
               intro A14 c14 v4 hown14 hgr far14
               have hzY4 := hgr.size
               have hXD : BlkAt v4 w.heap.size #[.pointer (some ⟨B, 0, none⟩), .slice (some ⟨yb, yo, none⟩) crows.length yc, .slice D qs.length dc, canV, paidV] 116 := (hgr.block w.heap.size (obj_lt hXC) (fun e => own_kind hO2 e.symm hXC (by decide) rfl)).trans hXC
               have hAp14 := (Apart.grown (W := v3) (W' := v4) hAp.symm hO1 far14).symm
               replace hO1 := own_other hO1 hgr hAp
               have hF2n := hF2.to hRw far14
               replace hRw := hRw.grown hgr hF2
               replace hm := hm.row hgr (fun q e => hmx.new (by have := (hO2.lt q e).1; omega))
               replace hGc := hGc.grown hgr (fun q e hlt => by have := (hO2.lt q e).1; omega)
               clear hXC hL13 hO2 hF2 hAp
               have hXC := hXD
               have hO2 := hown14
               have hF2 := hF2n
               have hAp := hAp14
               clear hXD hown14 hF2n hAp14 hgr far14
               clear hS1
               have hS1 := And.intro (obj_at hXC 3 _ rfl) (obj_at hXC 4 _ rfl)
               have f3 := obj_fz hXC 3
               have f4 := obj_fz hXC 4
               have xl := obj_lt hXC
               obtain ⟨s3, s4⟩ := id hS1
               refine hK.out _ _ trivial (fun _ => hS1) (fun _ => ?_)
               clear hK K'
               (try simp only [Act.put, List.getElem_toArray, List.getElem_cons_zero, List.getElem_cons_succ, List.setIfInBounds_toArray, List.set_cons_zero, List.set_cons_succ])
               refine wpAnyF_take0 (i := 15) (v := ?_) rfl rfl (by kernel_rfl) (by kernel_rfl) (by kernel_rfl) (fun _ _ _ h => h) (Or.inl ⟨by rfl, ?_⟩) hS0 (fun _ => hS1) ?_
               rotate_left
               · (intro ww hSw; (try dsimp only at hSw); go_simp; try with_reducible rfl)
               (try simp only [Act.put, List.getElem_toArray, List.getElem_cons_zero, List.getElem_cons_succ, List.setIfInBounds_toArray, List.set_cons_zero, List.set_cons_succ])
               refine wpAnyF_take0 (i := 16) (v := ?_) rfl rfl (by kernel_rfl) (by kernel_rfl) (by kernel_rfl) (fun _ _ _ h => h) (Or.inl ⟨by rfl, ?_⟩) hS0 (fun _ => hS1) ?_
               rotate_left
               · (intro ww hSw; (try dsimp only at hSw); go_simp; try with_reducible rfl)
               (try simp only [Act.put, List.getElem_toArray, List.getElem_cons_zero, List.getElem_cons_succ, List.setIfInBounds_toArray, List.set_cons_zero, List.set_cons_succ])
               refine wpAnyF_ready (rs := [17]) (by kernel_rfl) (by simp) ?_
               refine AllReadyF.cons rfl ?_ ?_
               · intro K' hK
                 rw [if_pos (by rfl)]
                 go_simp
                 refine hK.out _ _ (trivial) (fun h => nomatch (show false = true from h)) (fun _ => ?_)
                 clear hK K' hS0
                 have hS0 := trivial
                 (try simp only [Act.put, List.getElem_toArray, List.getElem_cons_zero, List.getElem_cons_succ, List.setIfInBounds_toArray, List.set_cons_zero, List.set_cons_succ])
                 refine wpAnyF_take0 (i := 18) (v := ?_) rfl rfl (by kernel_rfl) (by kernel_rfl) (by kernel_rfl) (fun _ _ _ h => h) (Or.inl ⟨by rfl, ?_⟩) hS0 (fun h => nomatch (show false = true from h)) ?_
                 rotate_left
                 · (intro ww hSw; (try dsimp only at hSw); go_simp; try with_reducible rfl)
                 (try simp only [Act.put, List.getElem_toArray, List.getElem_cons_zero, List.getElem_cons_succ, List.setIfInBounds_toArray, List.set_cons_zero, List.set_cons_succ])
                 refine wpAnyF_take0 (i := 19) (v := ?_) rfl rfl (by kernel_rfl) (by kernel_rfl) (by kernel_rfl) (fun _ _ _ h => h) (Or.inl ⟨by rfl, ?_⟩) hS0 (fun h => nomatch (show false = true from h)) ?_
                 rotate_left
                 · (intro ww hSw; (try dsimp only at hSw); go_simp; try with_reducible rfl)
                 (try simp only [Act.put, List.getElem_toArray, List.getElem_cons_zero, List.getElem_cons_succ, List.setIfInBounds_toArray, List.set_cons_zero, List.set_cons_succ])
                 refine wpAnyF_ready (rs := [20]) (by kernel_rfl) (by simp) ?_
                 refine AllReadyF.cons rfl ?_ ?_
                 · intro K' hK
                   rw [if_pos (by rfl)]
                   go_simp
                   refine hK.out _ _ (trivial) (fun h => nomatch (show false = true from h)) (fun _ => ?_)
                   clear hK K' hS0
                   have hS0 := trivial
                   (try simp only [Act.put, List.getElem_toArray, List.getElem_cons_zero, List.getElem_cons_succ, List.setIfInBounds_toArray, List.set_cons_zero, List.set_cons_succ])
                   refine wpAnyF_done (by kernel_rfl) ?_ _
                   refine NoPanic.normal ?_
                   go_wp2_with fail
                   have gC : GX [w.heap.size] v4 ((v4.setCell ⟨w.heap.size, 3, none⟩ (.slice A8 (k + 1) c8)).setCell ⟨w.heap.size, 4, none⟩ (.slice A14 (k + 1) c14)) := ((GX.refl _ _).setCell _ _ (fun _ => by simp)).setCell _ _ (fun _ => by simp)
                   have hzE := gC.size
                   exact ⟨⟨k + 1, .slice A8 (k + 1) c8, .slice A14 (k + 1) c14, rows ++ [(lA, zs lst, lc)], by omega, by go_num, hide (by rw [List.length_append, HRL.out]; rfl), hide (by rw [List.map_append, HRC.out, HTK.out, List.map_append]; simp only [List.map_cons, List.map_nil, HLST.out]), set_obj (set_obj hXC 3 _) 4 _, by rw [List.map_append]; exact own_gx hO1 gC (fun q hq => by have := (hO1.lt q hq).1; simp; omega), by rw [List.replicate_succ', List.map_append]; exact own_gx hO2 gC (fun q hq => by have := (hO2.lt q hq).1; simp; omega), hRw.gx gC (fun q hq => .inl (by simp at hq; omega)), hF1, hF2, hAp, hm.gx gC (fun q hq => hmx.new (by simp at hq; omega)), (hGc.setCell _ _ (fun h => by simp at h)).setCell _ _ (fun h => by simp at h), by omega⟩, by simp [intOf]; omega⟩
                 exact AllReadyF.nil
               exact AllReadyF.nil
             exact AllReadyF.nil
           exact AllReadyF.nil
         exact AllReadyF.nil
       exact AllReadyF.nil
  · have hki : ¬ ((k : Int) < (crows.length : Int)) := by omega
    have hke : k = crows.length := by omega
    have hcan : (rows.map fun r => r.2.1) = canL L rest K qs Ts := by
     rw [HRC.out, hke, ← HTL.out, List.take_length]
     rfl
    have HCAN := hide hcan
    clear hcan HRC hki hlk
    subst hke
    obtain ⟨Ac, cc, rfl⟩ := own_form hO1
    obtain ⟨Ap, pc, rfl⟩ := own_form hO2
    have hrl2 : rows.length = crows.length := HRL.out
    have HLS := hide (own_cells53 hO1 hR)
    go_wp2
    rcases Nat.eq_zero_or_pos crows.length with h0 | h0
    · have h0I : ¬ ((0 : Int) < (crows.length : Int)) := by omega
      have HC0 : Hid (CntAt wo w.heap.size (.pointer (some ⟨B, 0, none⟩)) (.slice Y crows.length yc) (.slice D qs.length dc) (canL L rest K qs Ts) (Tt.payAll (canL L rest K qs Ts) (canL L rest K qs Ts).length)) := hide (by
       have hc0 : canL L rest K qs Ts = [] := List.eq_nil_of_length_eq_zero (by rw [canL_len, HTL.out]; exact h0)
       have hp0 : Tt.payAll (canL L rest K qs Ts) (canL L rest K qs Ts).length = [] := by rw [hc0]; rfl
       rw [hp0]
       refine ⟨Ac, rows, cc, Ap, pc, ?_, HLS.out.1, fun j x h => (by cases h), HCAN.out⟩
       rw [hrl2, show (Value.slice Ap ([] : List Int).length pc) = .slice Ap crows.length pc by rw [h0]; rfl]
       exact hX)
      clear h0
      go_loopw [88] (fun iv wr => iv = .int .i64 0 ∧ wr = wo) (fun _ _ => 0)
      case atStart => exact ⟨rfl, rfl⟩
      case round =>
       obtain ⟨rfl, rfl⟩ := hrel
       go_wp2
       go_ret
       exact ⟨w.heap.size, rfl, hG, Nat.le_refl _, hm, HC0.out⟩
    · obtain ⟨Pb, rfl, hP0, hPb, hPlt⟩ := own_p64 hO2 h0
      have hlen : (canL L rest K qs Ts).length = crows.length := by rw [canL_len, HTL.out]
      have HLEN := hide hlen
      have HP0 : Hid (P64 wo Pb 0 (Tt.payAll (canL L rest K qs Ts) 0)) := hide (by rw [Tt.payAll, hlen]; exact hP0)
      have hpl : ∀ j, j ≤ crows.length → (Tt.payAll (canL L rest K qs Ts) j).length = crows.length := fun j hj => by
       rw [← hlen]
       exact (Tt.payAll_spec (can := canL L rest K qs Ts) canL_pos j (by rw [hlen]; exact hj)).1.len
      have HPL := hide hpl
      have HPAY := hide (fun j (hj : j ≤ crows.length) => Tt.payAll_spec (can := canL L rest K qs Ts) canL_pos j (by rw [hlen]; exact hj))
      have hflat : ((rows.map fun r => r.2.1).flatten).length < 1000000 := by
       have h1 := flatten_le (canL L rest K qs Ts) Ts.length (fun x hx => (canL_row hx).1)
       rw [HCAN.out]
       rw [hlen, HTL.out] at h1
       have h2 := Nat.mul_le_mul hl hl
       omega
      have hnum : ∀ r, r ∈ rows → ∀ x, x ∈ r.2.1 → 0 ≤ x ∧ x ≤ 1000000000 := fun r hr x hx => by
       have h1 : r.2.1 ∈ canL L rest K qs Ts := by rw [← HCAN.out]; exact List.mem_map.2 ⟨r, hr, rfl⟩
       have h2 := (canL_row h1).2 x hx
       have h3 := Tt.cnt_small (L := L) (rest := rest) (ps := K.zip (Tt.fulls L K.length)) (la := -1) (s := 0) hL6 (by rw [List.length_zip]; omega)
       rw [cnt_codes] at h3
       omega
      have hF0 : ∀ Ms, wo.heap.size ≤ Ms → FarC w.heap.size Ac rows Pb Ms := fun Ms hMs => by
       have hXl := obj_lt hX
       refine ⟨⟨by simp; omega, by omega⟩, fun b o e => ?_, fun r hr b o e => ?_⟩
       · subst e
         have h1 := (hO1.lt b rfl).2
         have h2 : b ≠ Pb := fun e => hAp b rfl Pb rfl e
         simp; omega
       · have h1 := (hR.b r hr b o e).2
         have h2 := hF2 r hr b o e Pb rfl
         simp; omega
      have HF := hide hF0
      have HFL := hide hflat
      have HNU := hide hnum
      have HC0 : Hid (CountAt wo w.heap.size (.pointer (some ⟨B, 0, none⟩)) (.slice Y crows.length yc) (.slice D qs.length dc) Ac rows cc Pb 0 (Tt.payAll (canL L rest K qs Ts) 0) pc) := hide ⟨by
       rw [HPL.out 0 (Nat.zero_le _), hrl2]
       exact hX, HLS.out.1, HP0.out⟩
      have hrl3 : rows.length ≤ 6 := by omega
      have hmm := @run_makeMap Try.prog
      obtain ⟨cn, hcn⟩ : ∃ v, canL L rest K qs Ts = v := ⟨_, rfl⟩
      rw [hcn] at HC0 HPAY HPL HLEN HCAN
      have HCN := hide hcn
      clear hP0 hlen HP0 hpl hflat hnum hF0 hX hO1 hO2 hR hF1 hF2 hAp HLS hcn
      go_loopw [88] (fun iv wr => ∃ j : Nat, j ≤ crows.length ∧ iv = .int .i64 (j : Nat) ∧ CountAt wr w.heap.size (.pointer (some ⟨B, 0, none⟩)) (.slice Y crows.length yc) (.slice D qs.length dc) Ac rows cc Pb 0 (Tt.payAll cn j) pc ∧ Mx wr B M L rest A K c S (Tt.fulls L K.length) d (fun x => x = stV 0 (-1) 0) ∧ GX [M] w wr ∧ wo.heap.size ≤ wr.heap.size) (fun iv _ => crows.length - (intOf iv).toNat)
      case atStart => exact ⟨0, Nat.zero_le _, rfl, HC0.out, hm, hG, Nat.le_refl _⟩
      case round =>
       clear hm hG
       obtain ⟨j, hj, rfl, hC, hm, hG, hzw⟩ := hrel
       have hzr := hG.size
       by_cases hjl : j < crows.length
       · have hji : (j : Int) < (crows.length : Int) := by omega
         obtain ⟨hp1, hp2, _⟩ := HPAY.out j (by omega)
         have hpre : Tt.PayPre cn (crows.length + 1) j [] (Tt.payAll cn j) := ⟨by rw [HLEN.out]; exact hjl, by
          have h1 := Tt.left_le (Tt.payAll cn j) []
          rw [HPL.out j (by omega)] at h1
          omega, hp1, .inl (hp2 j (Nat.le_refl _)), List.nodup_nil, fun x hx => by cases hx⟩
         have hFar := HF.out wr.heap.size hzw
         have hPC : ∀ w', CountAt w' w.heap.size (.pointer (some ⟨B, 0, none⟩)) (.slice Y crows.length yc) (.slice D qs.length dc) Ac rows cc Pb 0 (Tt.payAll cn j) pc → SeenAt w' wr.heap.size [] → Calls Try.prog 97 #[.pointer (some ⟨w.heap.size, 0, none⟩), .int .i64 (j : Nat), .map (some wr.heap.size)] w' (PaidP w' Pb 0 wr.heap.size rows.length (Tt.payF cn (crows.length + 1) j [] (Tt.payAll cn j))) := fun w' h1 h2 => by
          have h := pay_any w.heap.size (.pointer (some ⟨B, 0, none⟩)) (.slice Y crows.length yc) (.slice D qs.length dc) Ac rows cc Pb 0 pc wr.heap.size hFar HNU.out HFL.out (by omega) (crows.length + 1) j [] (Tt.payAll cn j) w' (by rw [HCAN.out]; exact hpre) h1 h2
          rw [HCAN.out] at h
          exact h
         have HPC := hide hPC
         have hpn : (Tt.payF cn (crows.length + 1) j [] (Tt.payAll cn j)).2.2 = Tt.payAll cn (j + 1) := by rw [Tt.payAll, HLEN.out]
         have HPN := hide hpn
         have HFAR := hide hFar
         have hba := below_alloc (Below.refl wr.heap.size wr) (Nat.le_refl _) (.map #[] 0)
         clear hp1 hp2 hpre hFar hPC hpn
         generalize Tt.payF cn (crows.length + 1) j [] (Tt.payAll cn j) = R at *
         go_wp2_with (go_at_call 97; refine (HPC.out _ (hC.gx ((GX.refl _ _).alloc _) HFAR.out (hC.paid.ext hba) rfl) (seen_made wr)).mono ?_; rintro e w2 ⟨rfl, hg2, hP2, hl2, hS2⟩; have hz2 := hg2.size; rw [World.size_alloc] at hz2)
         have hgA : GX [Pb, wr.heap.size] wr w2 := ((GX.refl _ wr).alloc (.map #[] 0)).trans hg2
         rw [HPN.out] at hP2 hl2
         exact ⟨⟨j + 1, by omega, by go_num, hC.gx hgA HFAR.out hP2 (hl2.trans (by rw [HPL.out j (by omega)]; omega)), hm.gx hgA (fun M' hM' => hmx.new (by simp at hM'; omega)), hG.back hgA (fun x hx hlt => by simp at hx; omega), by omega⟩, by simp [intOf]; omega⟩
       · have hji : ¬ ((j : Int) < (crows.length : Int)) := by omega
         have hje : j = crows.length := by omega
         have hC2 : CntAt wr w.heap.size (.pointer (some ⟨B, 0, none⟩)) (.slice Y crows.length yc) (.slice D qs.length dc) cn (Tt.payAll cn cn.length) := by
          rw [show Tt.payAll cn cn.length = Tt.payAll cn j by rw [HLEN.out, hje]]
          exact ⟨Ac, rows, cc, some ⟨Pb, 0, none⟩, pc, hC.c, hC.can, hC.paid.i64, HCAN.out⟩
         have HC2 := hide hC2
         clear hje hC2
         go_wp2
         go_ret
         exact ⟨w.heap.size, rfl, hG, Nat.le_refl _, hm, by rw [HCN.out]; exact HC2.out⟩
end Go.Proofs.Ytgjfejpibielaaa
