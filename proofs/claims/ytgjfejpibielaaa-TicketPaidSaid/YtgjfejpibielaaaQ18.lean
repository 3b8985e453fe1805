/- Proved here: how many codes fit, and how many of them were sold; the kind of a torn ticket; codes that fit by their index, a part of the proofs about the ticket laws. Conditions: those that each theorem names, no others. -/
import Derived.Test.YtgjfejpibielaaaQ17
import Derived.WalkKit
import Derived.WalkSpells
import Derived.WalkLawsBesides
import Derived.Below
import Derived.Deep.QuietTactic
import Derived.BigQuiet
import Derived.Deep.Light
set_option linter.unusedSimpArgs false
set_option linter.unusedVariables false
namespace Go.Proofs.Ytgjfejpibielaaa
open Go.RowKit Go.Maps Go.Shelf
attribute [local go_sem] Oper.semAt_some World.cell?_setCell_far
theorem below_gx {S : List Nat} {n : Nat} {w X Y : World} (h : Below n w X) (g : GX S X Y) (hs : ∀ s, s ∈ S → n ≤ s) (hn : n ≤ X.heap.size) : Below n w Y :=
 ⟨g.1.trans h.1, g.2.trans h.2, g.3.trans h.3, Nat.le_trans h.size g.size, fun k hk => (g.block k (by omega) (fun e => by have := hs k e; omega)).trans (h.block k hk)⟩
def nr (rs : List (Int × Int)) : List (Nat × Nat) := rs.map fun r => (r.1.toNat, r.2.toNat)
theorem zr_toN (qs : List (Nat × Nat)) : nr (zr qs) = qs := by
 unfold nr zr
 rw [List.map_map]
 conv => rhs; rw [← List.map_id qs]
 apply List.map_congr_left
 intro q _
 simp
theorem okSold_lt {N : Nat} : ∀ {qs : List (Nat × Nat)} {nx : Nat}, Tt.okSold N nx qs = true → ∀ r, r ∈ qs → r.1 < N ∧ r.2 < N
 | q :: qs, nx, h, r, hr => by
   unfold Tt.okSold at h
   simp only [Bool.and_eq_true, decide_eq_true_eq] at h
   rcases List.mem_cons.1 hr with rfl | hr
   · omega
   · exact okSold_lt h.2 r hr
theorem idxL_bd {L rest : Nat} {K T1 T2 : List Nat} (h1 : OkM L rest K T1) (h2 : OkM L rest K T2) {qs : List (Nat × Nat)} (hq : ∀ r, r ∈ qs → r.1 < Tt.cnt L rest (K.zip T1) (-1) 0 ∧ r.2 < Tt.cnt L rest (K.zip T1) (-1) 0) : ∀ p, p ∈ idxL L rest K T1 T2 qs → 0 ≤ p.1 ∧ p.1 ≤ p.2 ∧ p.2 ≤ 1679616 := fun p hp => by
 unfold idxL at hp
 obtain ⟨hp, hle⟩ := List.mem_filter.1 hp
 obtain ⟨r, hr, rfl⟩ := List.mem_map.1 hp
 simp only [decide_eq_true_eq] at hle
 have hz1 : (K.zip T1).length = K.length := by rw [List.length_zip, h1.2.2.2.2.1]; omega
 have hz2 : (K.zip T2).length = K.length := by rw [List.length_zip, h2.2.2.2.2.1]; omega
 have hc := Tt.codeA_len L rest (K.zip T1) (-1) 0 r.2 (hq r hr).2
 rw [hz1] at hc
 have hb := Tt.bef_le L rest (K.zip T2) (-1) 0 _ (by rw [hz2]; exact hc.1) hc.2
 have hs : Tt.cnt L rest (K.zip T2) (-1) 0 ≤ 1679616 := Tt.cnt_small h2.2.1 (by rw [hz2]; exact h2.2.2.2.1)
 unfold idxOf at hle ⊢
 simp only at hle ⊢
 refine ⟨by omega, hle, ?_⟩
 split <;> omega
theorem sum_bd : ∀ (ps : List (Int × Int)), (∀ p, p ∈ ps → 0 ≤ p.1 ∧ p.1 ≤ p.2 ∧ p.2 ≤ 1679616) → 0 ≤ (ps.map fun (p : Int × Int) => p.2 - p.1 + 1).sum ∧ (ps.map fun (p : Int × Int) => p.2 - p.1 + 1).sum ≤ ps.length * 1679617
 | [], _ => by simp
 | p :: ps, h => by
   have h1 := h p (by simp)
   have h2 := sum_bd ps (fun q hq => h q (by simp [hq]))
   simp only [List.map_cons, List.sum_cons, List.length_cons]
   push_cast
   omega
set_option maxRecDepth 100000 in
set_option maxHeartbeats 4000000 in
theorem Fits_ok (L rest : Nat) (A : Option Addr) (K : List Nat) (c : Nat) (Y : Option Addr) (T : List Nat) (yc : Nat) (D : Option Addr) (rs : List (Int × Int)) (dc : Nat) (w : World) (hd : OkD L rest K) (hA : I64 w A (zs K)) (hlT : T.length = K.length) (htT : ∀ t, t ∈ T → 1 ≤ t ∧ t < 2 ^ L) (hY : I64 w Y (zs T)) (hD : Rng w D rs) (hsd : chkSold ((Tt.cnt L rest (K.zip (Tt.fulls L K.length)) (-1) 0) : Nat) rs = 0) : Calls Try.prog 26 #[.agg #[.int .i64 (L : Nat), .int .i64 (K.length : Nat), .slice A K.length c, .int .i64 (rest : Nat)], .slice Y T.length yc, .slice D rs.length dc] w (Gives w (.tuple #[.int .i64 ((Tt.cnt L rest (K.zip T) (-1) 0) : Nat), .int .i64 (((idxL L rest K (Tt.fulls L K.length) T (nr rs)).map fun (p : Int × Int) => p.2 - p.1 + 1).sum), .int .i64 0])) := by
 have hn8 := hd.2.2.2.1
 have hL6 := hd.2.1
 have HLT := hide hlT
 have HTT := hide htT
 clear hlT htT
 have HOKT : OkM L rest K T := hd.torn HLT.out (fun t ht => by have := HTT.out t ht; have := two_pow L hd.2.1; omega)
 have h10 : rs.length ≤ 10 := by
  unfold chkSold at hsd
  split at hsd
  · cases hsd
  · omega
 obtain ⟨qs, rfl, hqs⟩ := soldE_ok (Tt.cnt L rest (K.zip (Tt.fulls L K.length)) (-1) 0) rs 0 (by unfold chkSold at hsd; rw [if_neg (by omega)] at hsd; exact hsd)
 rw [zr_len] at h10 ⊢
 rw [zr_toN]
 have hqb := okSold_lt hqs
 have HCS := hide (fun (B M : Nat) (S : Option Addr) (d : Nat) (w' : World) (h : Mx w' B M L rest A K c S (Tt.fulls L K.length) d (fun x => x = stV 0 (-1) 0)) (hD : Rng w' D (zr qs)) => by
  have h2 := checkSold_any B M L rest A K c S (Tt.fulls L K.length) d D (zr qs) dc w' h hD
  rw [hsd, zr_len] at h2
  exact h2)
 clear hsd hqs
 obtain ⟨ps, hps⟩ : ∃ v, idxL L rest K (Tt.fulls L K.length) T qs = v := ⟨_, rfl⟩
 have hpl : ps.length ≤ 10 := by rw [← hps]; exact Nat.le_trans (idxL_len _ _ _ _ _ _) h10
 have hpb : ∀ p, p ∈ ps → 0 ≤ p.1 ∧ p.1 ≤ p.2 ∧ p.2 ≤ 1679616 := by rw [← hps]; exact idxL_bd hd.full HOKT hqb
 have HPS := hide hps
 have HPB := hide hpb
 rw [hps]
 obtain ⟨NT, hNT⟩ : ∃ v, (Tt.cnt L rest (K.zip T) (-1) 0) = v := ⟨_, rfl⟩
 have HNT := hide hNT
 rw [hNT]
 clear hps hpb hNT
 go_enter Try.func26, Try.ntmps26
 go_upto_region 1 with fail
 obtain ⟨wa, hwa, hW, hX⟩ := boxed w #[.int .i64 (L : Nat), .int .i64 (K.length : Nat), .slice A K.length c, .int .i64 (rest : Nat)] 24
 rw [hwa]
 clear hwa
 replace hA := hA.ext hW
 have q0 := obj_at hX 0 _ rfl
 have q1 := obj_at hX 1 _ rfl
 have q2 := obj_at hX 2 _ rfl
 have q3 := obj_at hX 3 _ rfl
 have ql := obj_lt hX
 have hWs := hW.size
 go_wp2_with (first
 | (go_at_call 66; refine (opened_ok L rest A K c Y T yc _ hd hA HLT.out HTT.out (hY.ext hW)).mono ?_; rintro e u1 ⟨B1, N1, S1, d1, B2, N2, S2, d2, rfl, hb1, hN10, hN20, h1, h2, hx12, hx21⟩; have hz1 := hb1.size; have hB1 : Below w.heap.size w u1 := below_step hW hb1 hWs)
 | (go_at_call 67; refine (HCS.out B1 N1 S1 d1 _ h1 (((hD.ext hW).ext hb1))).mono ?_; rintro e u2 ⟨rfl, hb2⟩; replace hb2 := ex_below hb2; have hz2 := hb2.size; replace h1 := h1.ext hb2; replace h2 := h2.ext hb2; have hB2 := below_step hB1 hb2 (by omega); have hD2 : Rng u2 D (zr qs) := Rd.ext (Rd.ext (Rd.ext hD hW) hb1) hb2)
 | (go_at_call 68; refine (indexes_any L rest A K c B1 N1 S1 (Tt.fulls L K.length) d1 (fun x => x = stV 0 (-1) 0) B2 N2 S2 T d2 (fun x => x = stV 0 (-1) 0) hx12 hx21 D qs dc _ h1 h2 hD2 (fun h0 b o e => ⟨Rng.notMap hD2 (by rw [zr_len]; exact h0) h1.km b o e, Rng.notMap hD2 (by rw [zr_len]; exact h0) h2.km b o e⟩) hqb (by omega)).mono ?_; rintro e u3 ⟨v, rfl, hO, hG, h13, h23⟩; rw [HPS.out] at hO; obtain ⟨A', c', rfl⟩ := own_form hO; have hB3 := below_gx hB2 hG (fun s hs => by simp at hs; omega) (by omega); have hz3 := hG.size))
 have hR3 : Rng u3 A' ps := rd_own hO (by decide)
 go_loopw [13, 37] (fun nx i wr => ∃ k : Nat, k ≤ ps.length ∧ i = .int .i64 (k : Nat) ∧ nx = .int .i64 (((ps.take k).map fun (p : Int × Int) => p.2 - p.1 + 1).sum) ∧ Below u3.heap.size u3 wr) (fun _ i _ => ps.length - (intOf i).toNat)
 case atStart => exact ⟨0, Nat.zero_le _, rfl, rfl, Below.refl _ _⟩
 case round =>
  obtain ⟨k, hk, rfl, rfl, hb⟩ := hrel
  have hzr := hb.size
  have hBr := below_step hB3 hb (by omega)
  have hsb := sum_bd (ps.take k) (fun p hp => HPB.out p (List.mem_of_mem_take hp))
  have htl : (ps.take k).length ≤ 10 := by rw [List.length_take]; omega
  by_cases hlt : k < ps.length
  · have hki : (k : Int) < (ps.length : Int) := by omega
    have hrr := hR3.ext hb
    obtain ⟨rb, ro, rfl, hrb⟩ := Rng.form hrr (by omega)
    obtain ⟨_, d0, dd1⟩ := Rng.at hrr hlt
    have hpk := HPB.out _ (List.getElem_mem hlt)
    have htk := take_snoc ps k hlt
    have hst : ((ps.take (k + 1)).map fun (p : Int × Int) => p.2 - p.1 + 1).sum = ((ps.take k).map fun (p : Int × Int) => p.2 - p.1 + 1).sum + (ps[k].2 - ps[k].1 + 1) := by rw [htk, List.map_append, List.sum_append]; simp
    have HST := hide hst
    clear htk hst
    generalize ps[k] = p at *
    obtain ⟨lo, hi⟩ := p
    simp only at d0 dd1 HST hpk
    obtain ⟨s0, hs0⟩ : ∃ v, ((ps.take k).map fun (p : Int × Int) => p.2 - p.1 + 1).sum = v := ⟨_, rfl⟩
    rw [hs0] at HST hsb ⊢
    clear hs0
    have hs0b : 0 ≤ s0 ∧ s0 ≤ 16796170 := by constructor <;> omega
    have hba : Below wr.heap.size wr (wr.alloc (.cells #[.int .i64 lo, .int .i64 hi] 74)) := below_alloc (Below.refl _ _) (Nat.le_refl _) _
    go_wp2
    exact ⟨⟨k + 1, by omega, by go_num, by rw [HST.out], below_step hb hba hzr⟩, by simp [intOf]; omega⟩
  · have hki : ¬ ((k : Int) < (ps.length : Int)) := by omega
    have hkn : k = ps.length := by omega
    have h2r := h23.ext hb
    rw [hkn, List.take_length]
    clear hkn hsb htl
    go_wp2_with (go_at_call 58; refine (many_any B2 N2 L rest A K c S2 T d2 _ h2r.at_ h2r.km).mono ?_; rintro e u5 ⟨rfl, hb5⟩; replace hb5 := ex_below hb5; rw [HNT.out])
    go_ret3
    exact gives_of rfl (below_step hBr hb5 (by omega))
end Go.Proofs.Ytgjfejpibielaaa
namespace Go.Proofs.Ytgjfejpibielaaa
open Go.RowKit Go.Maps Go.Shelf
attribute [local go_sem] Oper.semAt_some World.cell?_setCell_far
def kindV (a b e : Int) : Value := if e ≠ 0 then .tuple #[.int .i64 0, .int .i64 e] else if b = 0 then .tuple #[.int .i64 0, .int .i64 0] else if b < a then .tuple #[.int .i64 1, .int .i64 0] else .tuple #[.int .i64 2, .int .i64 0]
set_option maxRecDepth 100000 in
set_option maxHeartbeats 1000000 in
theorem Kind_of (x0 x1 x2 x3 y z : Value) (a b e : Int) (w : World) (H : ∀ w', Below w.heap.size w w' → Calls Try.prog 26 #[.agg #[x0, x1, x2, x3], y, z] w' (Gives w' (.tuple #[.int .i64 a, .int .i64 b, .int .i64 e]))) : Calls Try.prog 28 #[.agg #[x0, x1, x2, x3], y, z] w (Gives w (kindV a b e)) := by
 unfold kindV
 by_cases he : e = 0
 · rw [if_neg (by simpa using he)]
   have hen : (e != 0) = false := by simp [he]
   subst he
   by_cases hb : b = 0
   · rw [if_pos hb]
     have hbn : (b == 0) = true := by simp [hb]
     go_enter Try.func28, Try.ntmps28
     go_upto_region 1 with fail
     obtain ⟨wa, hwa, hW, hX⟩ := boxed w #[x0, x1, x2, x3] 24
     rw [hwa]
     clear hwa
     have q0 := obj_at hX 0 _ rfl
     have q1 := obj_at hX 1 _ rfl
     have q2 := obj_at hX 2 _ rfl
     have q3 := obj_at hX 3 _ rfl
     have ql := obj_lt hX
     have hWs := hW.size
     go_wp2_with (go_at_call 26; refine (H _ hW).mono ?_; rintro e1 u1 ⟨rfl, hb1⟩; replace hb1 := ex_below hb1; have hB1 : Below w.heap.size w u1 := below_step hW hb1 hWs)
     go_ret2
     exact gives_of rfl hB1
   · rw [if_neg hb]
     have hbn : (b == 0) = false := by simp [hb]
     by_cases hl : b < a
     · rw [if_pos hl]
       go_enter Try.func28, Try.ntmps28
       go_upto_region 1 with fail
       obtain ⟨wa, hwa, hW, hX⟩ := boxed w #[x0, x1, x2, x3] 24
       rw [hwa]
       clear hwa
       have q0 := obj_at hX 0 _ rfl
       have q1 := obj_at hX 1 _ rfl
       have q2 := obj_at hX 2 _ rfl
       have q3 := obj_at hX 3 _ rfl
       have ql := obj_lt hX
       have hWs := hW.size
       go_wp2_with (go_at_call 26; refine (H _ hW).mono ?_; rintro e1 u1 ⟨rfl, hb1⟩; replace hb1 := ex_below hb1; have hB1 : Below w.heap.size w u1 := below_step hW hb1 hWs)
       go_ret2
       exact gives_of rfl hB1
     · rw [if_neg hl]
       go_enter Try.func28, Try.ntmps28
       go_upto_region 1 with fail
       obtain ⟨wa, hwa, hW, hX⟩ := boxed w #[x0, x1, x2, x3] 24
       rw [hwa]
       clear hwa
       have q0 := obj_at hX 0 _ rfl
       have q1 := obj_at hX 1 _ rfl
       have q2 := obj_at hX 2 _ rfl
       have q3 := obj_at hX 3 _ rfl
       have ql := obj_lt hX
       have hWs := hW.size
       go_wp2_with (go_at_call 26; refine (H _ hW).mono ?_; rintro e1 u1 ⟨rfl, hb1⟩; replace hb1 := ex_below hb1; have hB1 : Below w.heap.size w u1 := below_step hW hb1 hWs)
       go_ret2
       exact gives_of rfl hB1
 · rw [if_pos he]
   have hen : (e != 0) = true := by simp [he]
   go_enter Try.func28, Try.ntmps28
   go_upto_region 1 with fail
   obtain ⟨wa, hwa, hW, hX⟩ := boxed w #[x0, x1, x2, x3] 24
   rw [hwa]
   clear hwa
   have q0 := obj_at hX 0 _ rfl
   have q1 := obj_at hX 1 _ rfl
   have q2 := obj_at hX 2 _ rfl
   have q3 := obj_at hX 3 _ rfl
   have ql := obj_lt hX
   have hWs := hW.size
   go_wp2_with (go_at_call 26; refine (H _ hW).mono ?_; rintro e1 u1 ⟨rfl, hb1⟩; replace hb1 := ex_below hb1; have hB1 : Below w.heap.size w u1 := below_step hW hb1 hWs)
   go_ret2
   exact gives_of rfl hB1
/-- the number of a code that fits, by its index -/
def findV (L rest : Nat) (K T : List Nat) (x : Int) : Value :=
 if x < 0 ∨ ((Tt.cnt L rest (K.zip T) (-1) 0) : Nat) ≤ x then .tuple #[.int .i64 0, .int .i64 3] else .tuple #[.int .i64 (Tt.befA L rest (K.zip (Tt.fulls L K.length)) (-1) 0 (Tt.codeA L rest (K.zip T) (-1) 0 x.toNat) : Nat), .int .i64 0]
set_option maxRecDepth 100000 in
set_option maxHeartbeats 4000000 in
theorem Find_ok (L rest : Nat) (A : Option Addr) (K : List Nat) (c : Nat) (Y : Option Addr) (T : List Nat) (yc : Nat) (x : Int) (w : World) (hd : OkD L rest K) (hA : I64 w A (zs K)) (hlT : T.length = K.length) (htT : ∀ t, t ∈ T → 1 ≤ t ∧ t < 2 ^ L) (hY : I64 w Y (zs T)) : Calls Try.prog 30 #[.agg #[.int .i64 (L : Nat), .int .i64 (K.length : Nat), .slice A K.length c, .int .i64 (rest : Nat)], .slice Y T.length yc, .int .i64 x] w (Gives w (findV L rest K T x)) := by
 have hL6 := hd.2.1
 have HLT := hide hlT
 have HTT := hide htT
 clear hlT htT
 have HOKT : OkM L rest K T := hd.torn HLT.out (fun t ht => by have := HTT.out t ht; have := two_pow L hd.2.1; omega)
 obtain ⟨NT, hNT⟩ : ∃ v, (Tt.cnt L rest (K.zip T) (-1) 0) = v := ⟨_, rfl⟩
 have HNT := hide hNT
 unfold findV
 rw [hNT]
 clear hNT
 by_cases h0 : x < 0
 · rw [if_pos (Or.inl h0)]
   go_enter Try.func30, Try.ntmps30
   go_upto_region 1 with fail
   obtain ⟨wa, hwa, hW, hX⟩ := boxed w #[.int .i64 (L : Nat), .int .i64 (K.length : Nat), .slice A K.length c, .int .i64 (rest : Nat)] 24
   rw [hwa]
   clear hwa
   replace hA := hA.ext hW
   have q0 := obj_at hX 0 _ rfl
   have q1 := obj_at hX 1 _ rfl
   have q2 := obj_at hX 2 _ rfl
   have q3 := obj_at hX 3 _ rfl
   have ql := obj_lt hX
   have hWs := hW.size
   go_wp2_with (go_at_call 66; refine (opened_ok L rest A K c Y T yc _ hd hA HLT.out HTT.out (hY.ext hW)).mono ?_; rintro e u1 ⟨B1, N1, S1, d1, B2, N2, S2, d2, rfl, hb1, hN10, hN20, h1, h2, hx12, hx21⟩; have hz1 := hb1.size; have hB1 : Below w.heap.size w u1 := below_step hW hb1 hWs)
   go_ret2
   exact gives_of rfl hB1
 · have h1' : ¬ x < 0 := h0
   by_cases h2' : (NT : Int) ≤ x
   · rw [if_pos (Or.inr h2')]
     go_enter Try.func30, Try.ntmps30
     go_upto_region 1 with fail
     obtain ⟨wa, hwa, hW, hX⟩ := boxed w #[.int .i64 (L : Nat), .int .i64 (K.length : Nat), .slice A K.length c, .int .i64 (rest : Nat)] 24
     rw [hwa]
     clear hwa
     replace hA := hA.ext hW
     have q0 := obj_at hX 0 _ rfl
     have q1 := obj_at hX 1 _ rfl
     have q2 := obj_at hX 2 _ rfl
     have q3 := obj_at hX 3 _ rfl
     have ql := obj_lt hX
     have hWs := hW.size
     go_wp2_with (first
 | (go_at_call 66; refine (opened_ok L rest A K c Y T yc _ hd hA HLT.out HTT.out (hY.ext hW)).mono ?_; rintro e u1 ⟨B1, N1, S1, d1, B2, N2, S2, d2, rfl, hb1, hN10, hN20, h1, h2, hx12, hx21⟩; have hz1 := hb1.size; have hB1 : Below w.heap.size w u1 := below_step hW hb1 hWs)
 | (go_at_call 58; refine (many_any B2 N2 L rest A K c S2 T d2 _ h2.at_ h2.km).mono ?_; rintro e u2 ⟨rfl, hb2⟩; replace hb2 := ex_below hb2; rw [HNT.out]))
     go_ret2
     exact gives_of rfl (below_step hB1 hb2 (by omega))
   · rw [if_neg (by omega)]
     obtain ⟨i, rfl⟩ : ∃ i : Nat, x = (i : Nat) := ⟨x.toNat, by omega⟩
     rw [Int.toNat_natCast]
     have hiN : i < (Tt.cnt L rest (K.zip T) (-1) 0) := by rw [HNT.out]; omega
     have HI := hide hiN
     have hcl := Tt.codeA_len L rest (K.zip T) (-1) 0 i hiN
     rw [show (K.zip T).length = K.length by rw [List.length_zip, HLT.out]; omega] at hcl
     have HCL := hide hcl
     obtain ⟨ws, hws⟩ : ∃ v, Tt.codeA L rest (K.zip T) (-1) 0 i = v := ⟨_, rfl⟩
     have HWS := hide hws
     rw [hws] at HCL ⊢
     clear hiN hcl hws h0 h1'
     go_enter Try.func30, Try.ntmps30
     go_upto_region 1 with fail
     obtain ⟨wa, hwa, hW, hX⟩ := boxed w #[.int .i64 (L : Nat), .int .i64 (K.length : Nat), .slice A K.length c, .int .i64 (rest : Nat)] 24
     rw [hwa]
     clear hwa
     replace hA := hA.ext hW
     have q0 := obj_at hX 0 _ rfl
     have q1 := obj_at hX 1 _ rfl
     have q2 := obj_at hX 2 _ rfl
     have q3 := obj_at hX 3 _ rfl
     have ql := obj_lt hX
     have hWs := hW.size
     go_wp2_with (first
 | (go_at_call 66; refine (opened_ok L rest A K c Y T yc _ hd hA HLT.out HTT.out (hY.ext hW)).mono ?_; rintro e u1 ⟨B1, N1, S1, d1, B2, N2, S2, d2, rfl, hb1, hN10, hN20, h1, h2, hx12, hx21⟩; have hz1 := hb1.size; have hB1 : Below w.heap.size w u1 := below_step hW hb1 hWs)
 | (go_at_call 58; refine (many_any B2 N2 L rest A K c S2 T d2 _ h2.at_ h2.km).mono ?_; rintro e u2 ⟨rfl, hb2⟩; replace hb2 := ex_below hb2; have hz2 := hb2.size; replace h1 := h1.ext hb2; replace h2 := h2.ext hb2; have hB2 := below_step hB1 hb2 (by omega); rw [HNT.out])
 | (go_at_call 60; refine (code_any B2 N2 L rest A K c S2 T d2 _ i _ h2.at_ h2.ok h2.ne h2.km HI.out).mono ?_; rintro e u3 ⟨rfl, hg3, hk3⟩; have hz3 := hg3.size; replace h1 := h1.far hg3 hx12; have hB3 := below_far hB2 hg3 (by omega) (by omega); rw [HWS.out])
 | (go_at_call 64; refine (before_any B1 N1 L rest A K c S1 (Tt.fulls L K.length) d1 _ ws _ h1.at_ h1.ok h1.ne h1.km HCL.out.1 HCL.out.2).mono ?_; rintro e u4 ⟨rfl, hg4, hk4⟩; have hB4 := below_far hB3 hg4 (by omega) (by omega)))
     go_ret2
     exact gives_of rfl hB4
end Go.Proofs.Ytgjfejpibielaaa
