/- Proved here: how many codes that were sold fit some claims, a part of the proofs about the ticket laws. Conditions: those that each theorem names, no others. -/
import Derived.Test.YtgjfejpibielaaaQ27
import Derived.WalkKit
import Derived.WalkSpells
import Derived.WalkLawsBesides
import Derived.Below
import Derived.Deep.QuietTactic
import Derived.BigQuiet
import Derived.Deep.Light
set_option linter.unusedSimpArgs false
set_option linter.unusedVariables false
namespace Go.Proofs.Ytgjfejpibielaaa
open Go.RowKit Go.Maps Go.Shelf
attribute [local go_sem] Oper.semAt_some World.cell?_setCell_far
/-- a list while a loop turns it -/
def mixL (q z : List Nat) (k : Nat) : List Nat := q.take k ++ z.drop k
theorem mixL_zero (q z : List Nat) : mixL q z 0 = z := by simp [mixL]
theorem mixL_all (q z : List Nat) (h : q.length = z.length) : mixL q z z.length = q := by simp [mixL, ← h]
theorem mixL_at (q z : List Nat) (k : Nat) (h : q.length = z.length) (hk : k < z.length) : (mixL q z k)[k]? = some z[k] := by
 unfold mixL
 rw [List.getElem?_append_right (by simp; omega), List.length_take, Nat.min_eq_left (by omega), Nat.sub_self, List.getElem?_drop, Nat.add_zero, List.getElem?_eq_getElem hk]
theorem mixL_step (q z : List Nat) (k : Nat) (h : q.length = z.length) (hk : k < z.length) : (mixL q z k).set k (q[k]'(by omega)) = mixL q z (k + 1) := by
 unfold mixL
 apply List.ext_getElem
 · simp; omega
 · intro i h1 h2
   rw [List.getElem_set]
   by_cases e : k = i
   · subst e; rw [if_pos rfl, List.getElem_append_left (by simp; omega), List.getElem_take]
   · rw [if_neg e]
     by_cases e2 : i < k
     · rw [List.getElem_append_left (by simp; omega), List.getElem_append_left (by simp; omega), List.getElem_take, List.getElem_take]
     · rw [List.getElem_append_right (by simp; omega), List.getElem_append_right (by simp; omega)]
       simp only [List.getElem_drop, List.length_take]
       congr 1
       omega
theorem mcs_get (m : List Nat) (k x : Nat) (h : m[k]? = some x) : (mcs m)[k]? = some (.int .i64 (x : Nat)) := by
 obtain ⟨hl, he⟩ := List.getElem?_eq_some_iff.1 h
 rw [← he]
 exact mcs_at m k hl
/-- the claims of a set -/
def claimsOf (Ts : List (List Nat)) (s : List Nat) : List (List Nat) := s.map fun x => Ts.getD x []
/-- the letters that all claims of a set of sets have -/
def bothL (L n : Nat) (Cs : List (List Nat)) (b : Nat) : Nat → List Nat
 | 0 => Tt.fulls L n
 | i + 1 => if b.testBit i then List.zipWith (fun x y => x &&& y) (bothL L n Cs b i) (Cs.getD i []) else bothL L n Cs b i
theorem bothL_len {L n : Nat} {Cs : List (List Nat)} (h : ∀ T, T ∈ Cs → T.length = n) (b i : Nat) (hi : i ≤ Cs.length) : (bothL L n Cs b i).length = n := by
 induction i with
 | zero => simp [bothL, Tt.fulls]
 | succ i ih =>
   rw [bothL]
   split
   · rw [List.length_zipWith, ih (by omega), List.getD_eq_getElem?_getD, List.getElem?_eq_getElem (by omega)]
     have := h _ (List.getElem_mem (show i < Cs.length by omega))
     simp [this]
   · exact ih (by omega)
theorem bothL_lt {L n : Nat} (hL : L ≤ 6) {Cs : List (List Nat)} (b i : Nat) : ∀ t, t ∈ bothL L n Cs b i → t < 64 := by
 induction i with
 | zero =>
   intro t ht
   have := List.eq_of_mem_replicate ht
   have := two_pow L hL
   omega
 | succ i ih =>
   rw [bothL]
   split
   · intro t ht
     obtain ⟨j, hj, rfl⟩ := List.getElem_of_mem ht
     rw [List.getElem_zipWith]
     exact Nat.lt_of_le_of_lt Nat.and_le_left (ih _ (List.getElem_mem _))
   · exact ih
/-- how many codes that were sold fit one of some claims, by inclusion and exclusion -/
def uniF (L rest : Nat) (K : List Nat) (qs : List (Nat × Nat)) (Cs : List (List Nat)) (b : Nat) : Int := Tt.sgnB b Cs.length * ((canN L rest K (bothL L K.length Cs b Cs.length) qs).length : Nat)
def uniS (L rest : Nat) (K : List Nat) (qs : List (Nat × Nat)) (Cs : List (List Nat)) (b : Nat) : Int := ((List.range' 1 (b - 1)).map (uniF L rest K qs Cs)).sum
theorem uniS_one (L rest : Nat) (K : List Nat) (qs : List (Nat × Nat)) (Cs : List (List Nat)) : uniS L rest K qs Cs 1 = 0 := rfl
theorem uniS_succ (L rest : Nat) (K : List Nat) (qs : List (Nat × Nat)) (Cs : List (List Nat)) (b : Nat) (h : 1 ≤ b) : uniS L rest K qs Cs (b + 1) = uniS L rest K qs Cs b + uniF L rest K qs Cs b := by
 unfold uniS
 rw [show b + 1 - 1 = (b - 1) + 1 by omega, List.range'_1_concat, List.map_append, List.sum_append, show 1 + (b - 1) = b by omega]
 simp
theorem sgnB_cases (b k : Nat) : Tt.sgnB b k = 1 ∨ Tt.sgnB b k = -1 := by
 induction k with
 | zero => exact .inr rfl
 | succ k ih => rw [Tt.sgnB]; split <;> omega
theorem canN_le (L rest : Nat) (K T : List Nat) (qs : List (Nat × Nat)) : (canN L rest K T qs).length ≤ (Tt.codes L rest K).length := by
 unfold canN
 exact Nat.le_trans (List.length_filter_le _ _) (by simp)
theorem uniF_bd {L rest : Nat} {K : List Nat} {qs : List (Nat × Nat)} {Cs : List (List Nat)} (h : (Tt.codes L rest K).length ≤ 1679616) (b : Nat) : -1679616 ≤ uniF L rest K qs Cs b ∧ uniF L rest K qs Cs b ≤ 1679616 := by
 have h1 := canN_le L rest K (bothL L K.length Cs b Cs.length) qs
 unfold uniF
 rcases sgnB_cases b Cs.length with e | e <;> rw [e] <;> omega
theorem uniS_bd {L rest : Nat} {K : List Nat} {qs : List (Nat × Nat)} {Cs : List (List Nat)} (h : (Tt.codes L rest K).length ≤ 1679616) (b : Nat) (hb : 1 ≤ b) : -1679616 * (b : Int) ≤ uniS L rest K qs Cs b ∧ uniS L rest K qs Cs b ≤ 1679616 * (b : Int) := by
 induction b with
 | zero => omega
 | succ b ih =>
   rcases Nat.eq_zero_or_pos b with h0 | h0
   · subst h0; rw [uniS_one]; omega
   · have h1 := ih h0
     have h2 := uniF_bd (qs := qs) (Cs := Cs) h b
     rw [uniS_succ _ _ _ _ _ _ h0]
     push_cast
     omega
def sumJ (ps : List (Int × Int)) (j : Nat) : Int := ((ps.take j).map fun (p : Int × Int) => p.2 - p.1 + 1).sum
theorem sumJ_succ (ps : List (Int × Int)) (j : Nat) (h : j < ps.length) : sumJ ps (j + 1) = sumJ ps j + (ps[j].2 - ps[j].1 + 1) := by
 unfold sumJ
 rw [take_snoc ps j h, List.map_append, List.sum_append]
 simp
theorem sum_len (f : Int × Int → List Nat) : ∀ (ps : List (Int × Int)), (∀ p, p ∈ ps → ((f p).length : Int) = p.2 - p.1 + 1) → (ps.map fun (p : Int × Int) => p.2 - p.1 + 1).sum = ((ps.flatMap f).length : Nat)
 | [], _ => rfl
 | p :: ps, h => by
   have h1 := h p (by simp)
   have h2 := sum_len f ps (fun q hq => h q (by simp [hq]))
   rw [List.map_cons, List.sum_cons, h2, List.flatMap_cons, List.length_append]
   push_cast
   omega
theorem sum_can {L rest : Nat} {K T : List Nat} (hT : T.length = K.length) {qs : List (Nat × Nat)} (hq : Tt.okSold (Tt.codes L rest K).length 0 qs = true) : ((idxL L rest K (Tt.fulls L K.length) T qs).map fun (p : Int × Int) => p.2 - p.1 + 1).sum = ((canN L rest K T qs).length : Nat) := by
 rw [← raw_eq hT hq]
 unfold rawL
 refine sum_len _ _ (fun p hp => ?_)
 have := idxL_lt hT hq p hp
 unfold spanI
 rw [List.length_map, List.length_range']
 omega
theorem bAnd : ∀ a, a < 64 → ∀ b, b < 64 → bits BinOp.and .i64 ((a : Nat) : Int) ((b : Nat) : Int) = ((a &&& b : Nat) : Int) := by decide +kernel
/-- what the union comes to: the machine's map may have turned -/
def UniP (w : World) (B M : Nat) (L rest : Nat) (A : Option Addr) (K : List Nat) (c : Nat) (S : Option Addr) (T : List Nat) (d : Nat) (v : Int) (e : Ending) (w' : World) : Prop := e = .returned (.int .i64 v) ∧ GX [M] w w' ∧ Mx w' B M L rest A K c S T d (fun x => x = stV 0 (-1) 0)
set_option maxRecDepth 100000 in
set_option maxHeartbeats 8000000 in
theorem union_any (L rest : Nat) (A : Option Addr) (K : List Nat) (c B M : Nat) (S : Option Addr) (d : Nat) (Y : Option Addr) (crows : List LRow) (yc : Nat) (Ts : List (List Nat)) (D : Option Addr) (qs : List (Nat × Nat)) (dc : Nat) (C : Nat) (can : List (List Int)) (p : List Int) (Sa : Option Addr) (s : List Nat) (sc : Nat) (w : World)
 (hmx : Mx w B M L rest A K c S (Tt.fulls L K.length) d (fun x => x = stV 0 (-1) 0)) (hC0 : CntAt w C (.pointer (some ⟨B, 0, none⟩)) (.slice Y crows.length yc) (.slice D qs.length dc) can p) (hY : Lst w Y crows) (hTs : (crows.map fun r => r.2.1) = Ts.map zs) (hT : ∀ T, T ∈ Ts → T.length = K.length ∧ ∀ t, t ∈ T → 1 ≤ t ∧ t < 2 ^ L) (hl : crows.length ≤ 6)
 (hD : Rng w D (zr qs)) (hq : Tt.okSold (Tt.codes L rest K).length 0 qs = true) (hq10 : qs.length ≤ 10) (hS : I64 w Sa (zs s)) (hs6 : s.length ≤ 6) (hsl : ∀ x, x ∈ s → x < crows.length) :
 Calls Try.prog 76 #[.pointer (some ⟨C, 0, none⟩), .slice Sa s.length sc] w (UniP w B M L rest A K c S (Tt.fulls L K.length) d (uniS L rest K qs (claimsOf Ts s) (2 ^ s.length))) := by
 have hn8 := hmx.ok.2.2.2.1
 have hn2 := hmx.ok.2.2.1
 have hL6 := hmx.ok.2.1
 have hok := hmx.ok
 have hlt := hmx.lts
 obtain ⟨Ac, rows, cc, Ap, pc, hX, _, _, _⟩ := hC0
 have hTl : Ts.length = crows.length := by have := congrArg List.length hTs; simpa using this.symm
 have HTL := hide hTl
 have HTS := hide hTs
 have HT := hide hT
 have HQ := hide hq
 have HKM := hide hmx.km
 have HSL := hide hsl
 have HQS := hide (okSold_lt hq)
 have hpos : Hid (∀ r, r ∈ crows → 0 < r.2.1.length) := hide (fun r hr => by
  have h1 : r.2.1 ∈ Ts.map zs := by rw [← hTs]; exact List.mem_map.2 ⟨r, hr, rfl⟩
  obtain ⟨T, hTm, he⟩ := List.mem_map.1 h1
  rw [← he, zs_len, (hT T hTm).1]
  omega)
 have hcn : (Tt.codes L rest K).length ≤ 1679616 := by
  have h3 := Tt.cnt_small (L := L) (rest := rest) (ps := K.zip (Tt.fulls L K.length)) (la := -1) (s := 0) hL6 (by rw [List.length_zip]; omega)
  rwa [cnt_codes] at h3
 have HCN := hide hcn
 have hCl : (claimsOf Ts s).length = s.length := List.length_map ..
 have hCm : ∀ T, T ∈ claimsOf Ts s → T.length = K.length := fun T hT2 => by
  obtain ⟨x, hx, rfl⟩ := List.mem_map.1 hT2
  have := hsl x hx
  rw [List.getD_eq_getElem?_getD, List.getElem?_eq_getElem (by omega)]
  exact (hT _ (List.getElem_mem (by omega))).1
 have HCL := hide hCl
 have HCM := hide hCm
 obtain ⟨Cs, hCs⟩ : ∃ v, claimsOf Ts s = v := ⟨_, rfl⟩
 have HCS := hide hCs
 rw [hCs] at HCL HCM
 have hp2 := two_pow s.length hs6
 obtain ⟨g2, hg2⟩ : ∃ v, 2 ^ s.length = v := ⟨_, rfl⟩
 have HG2 := hide hg2
 rw [hg2] at hp2
 have hw2 : wrap64 ((2 : Int) ^ s.length) = (g2 : Int) := by
  have e : ((2 : Int) ^ s.length) = ((2 ^ s.length : Nat) : Int) := (by push_cast; rfl)
  unfold wrap64
  rw [e, hg2]
  omega
 have hpL := two_pow L hL6
 obtain ⟨gL, hgL⟩ : ∃ v, 2 ^ L = v := ⟨_, rfl⟩
 have HGL := hide hgL
 rw [hgL] at hpL
 have hwL : wrap64 ((2 : Int) ^ L) = (gL : Int) := by
  have e : ((2 : Int) ^ L) = ((2 ^ L : Nat) : Int) := (by push_cast; rfl)
  unfold wrap64
  rw [e, hgL]
  omega
 have HW2 := hide hw2
 have HWL := hide hwL
 clear hTl hTs hT hq hsl hcn hCl hCm hCs hg2 hgL hw2 hwL
 go_enter Try.func76, Try.ntmps76
 go_wp2
 go_loopw [5, 6] (fun sv bv wr => ∃ b : Nat, 1 ≤ b ∧ b ≤ g2 ∧ bv = .int .i64 (b : Nat) ∧ sv = .int .i64 (uniS L rest K qs Cs b) ∧ Mx wr B M L rest A K c S (Tt.fulls L K.length) d (fun x => x = stV 0 (-1) 0) ∧ GX [M] w wr) (fun _ bv _ => g2 - (intOf bv).toNat)
 case atStart => exact ⟨1, Nat.le_refl _, hp2.1, rfl, by rw [uniS_one], hmx, GX.refl _ _⟩
 case round =>
  obtain ⟨b, hb1, hb2, rfl, rfl, hm, hG⟩ := hrel
  obtain ⟨wo, rfl⟩ : ∃ wo : World, wo = wr := ⟨_, rfl⟩
  have hzo := hG.size
  have hXo := hX.gx hG (by simp; exact fun e => hmx.km.notBlk hX e.symm)
  have c0 := obj_at hXo 0 _ rfl
  have xl := obj_lt hXo
  have m1 := obj_at hm.at_.1 1 _ rfl
  have ml := obj_lt hm.at_.1
  have hsb := uniS_bd (qs := qs) (Cs := Cs) HCN.out b hb1
  by_cases hbg : b < g2
  · have hbI : (b : Int) < (g2 : Int) := by omega
    have HUS := hide (uniS_succ L rest K qs Cs b hb1)
    have hFb : uniF L rest K qs Cs b = Tt.sgnB b Cs.length * ((canN L rest K (bothL L K.length Cs b Cs.length) qs).length : Nat) := rfl
    have HFB := hide hFb
    obtain ⟨S0, hS0⟩ : ∃ v, uniS L rest K qs Cs b = v := ⟨_, rfl⟩
    rw [hS0] at hsb HUS ⊢
    have hmk := make_zeros K.length (by omega)
    rw [mcs_zero] at hmk
    have hYw := hY.gx1 HKM.out hpos.out hG
    have hSw : I64 wo Sa (zs s) := by
     rcases Nat.eq_zero_or_pos s.length with h0 | h0
     · intro j x hj
       have : s = [] := List.eq_nil_of_length_eq_zero h0
       subst this
       cases hj
     · exact hS.gx hG (fun q o e => by have := hS.notMap (by rw [zs_len]; exact h0) HKM.out q o e; simp; exact this)
    have hw2 := HW2.out
    clear hS0 hFb
    go_wp2
    clear hw2
    obtain ⟨bb, hbb⟩ : ∃ v, wo.heap.size = v := ⟨_, rfl⟩
    have hba : Below wo.heap.size wo (wo.alloc (.cells (mcs (List.replicate K.length 0)) 3)) := below_alloc (Below.refl _ _) (Nat.le_refl _) _
    have hB0 : BlkAt (wo.alloc (.cells (mcs (List.replicate K.length 0)) 3)) wo.heap.size (mcs (mixL (Tt.fulls L K.length) (List.replicate K.length 0) 0)) 3 := by rw [mixL_zero]; exact heap_alloc_new _ _
    rw [hbb] at hB0 ⊢
    go_loopw [34] (fun iv wr => ∃ j : Nat, j ≤ K.length ∧ iv = .int .i64 (j : Nat) ∧ BlkAt wr bb (mcs (mixL (Tt.fulls L K.length) (List.replicate K.length 0) j)) 3 ∧ Below wo.heap.size wo wr) (fun iv _ => K.length - (intOf iv).toNat)
    case atStart => exact ⟨0, Nat.zero_le _, rfl, hB0, hba⟩
    case round =>
     clear hB0 hba m1 ml c0 xl
     obtain ⟨j, hj, rfl, hBB, hb⟩ := hrel
     have hzr := hb.size
     have hXr := hXo.ext hb
     have hmr := hm.ext hb
     have c0 := obj_at hXr 0 _ rfl
     have xl := obj_lt hXr
     have m0 := obj_at hmr.at_.1 0 _ rfl
     have m1 := obj_at hmr.at_.1 1 _ rfl
     have m2 := obj_at hmr.at_.1 2 _ rfl
     have m3 := obj_at hmr.at_.1 3 _ rfl
     have ml := obj_lt hmr.at_.1
     by_cases hjl : j < K.length
     · have hji : (j : Int) < (K.length : Int) := by omega
       have i0 := obj_at hBB j _ (mcs_get _ j 0 (by rw [mixL_at _ _ j (by simp [Tt.fulls]) (by simpa using hjl)]; simp))
       have if0 := obj_fz hBB j
       have il := obj_lt hBB
       have hg1 : IntKind.i64.wrap ((gL : Int) - 1) = ((gL - 1 : Nat) : Int) := by rw [IntKind.wrap_i64]; omega
       have HST := hide (mixL_step (Tt.fulls L K.length) (List.replicate K.length 0) j (by simp [Tt.fulls]) (by simpa using hjl))
       have hfl : (Tt.fulls L K.length)[j]'(by simp [Tt.fulls]; exact hjl) = gL - 1 := by rw [← HGL.out]; simp [Tt.fulls]
       have HFL := hide hfl
       have hwL := HWL.out
       clear hfl
       go_wp2
       clear hwL
       have hB2 : BlkAt (wr.setCell ⟨bb, j, none⟩ (.int .i64 ((gL - 1 : Nat) : Int))) bb (mcs (mixL (Tt.fulls L K.length) (List.replicate K.length 0) (j + 1))) 3 := by
        rw [← HST.out, HFL.out, ← mcs_set]
        exact set_obj hBB j _
       exact ⟨⟨j + 1, by omega, by go_num, hB2, Below.setCell hb (by simp; omega) _⟩, by simp [intOf]; omega⟩
     · have hji : ¬ ((j : Int) < (K.length : Int)) := by omega
       obtain rfl : j = K.length := by omega
       have hB1 : BlkAt wr bb (mcs (bothL L K.length Cs b 0)) 3 := by
        have h := mixL_all (Tt.fulls L K.length) (List.replicate K.length 0) (by simp [Tt.fulls])
        rw [List.length_replicate] at h
        rw [h] at hBB
        exact hBB
       clear hBB hj hjl
       go_wp2
       go_loopw [9, 53] (fun gv iv wr => ∃ i : Nat, i ≤ s.length ∧ iv = .int .i64 (i : Nat) ∧ gv = .int .i64 (Tt.sgnB b i) ∧ BlkAt wr bb (mcs (bothL L K.length Cs b i)) 3 ∧ Below wo.heap.size wo wr) (fun _ iv _ => s.length - (intOf iv).toNat)
       case atStart => exact ⟨0, Nat.zero_le _, rfl, rfl, hB1, hb⟩
       case round =>
        clear hB1 hb hXr hmr c0 xl m0 m1 m2 m3 ml hzr hji
        obtain ⟨i, hi, rfl, rfl, hBB, hb⟩ := hrel
        obtain ⟨wp, rfl⟩ : ∃ wp : World, wp = wr := ⟨_, rfl⟩
        have hzp := hb.size
        by_cases his : i < s.length
        · have hii : (i : Int) < (s.length : Int) := by omega
          have hSr := hSw.ext hb
          obtain ⟨sb0, so0, hse, hsb0⟩ := hSr.form (by rw [zs_len]; omega)
          subst hse
          have hcs := hSr.at (k := i) (by rw [zs_len]; exact his)
          rw [zs_at s i his] at hcs
          have hnl := HSL.out _ (List.getElem_mem his)
          have hCi : Cs.getD i [] = Ts.getD s[i] [] := by
           rw [← HCS.out]
           unfold claimsOf
           rw [List.getD_eq_getElem?_getD, List.getElem?_map, List.getElem?_eq_getElem his]
           rfl
          obtain ⟨n, hn⟩ : ∃ v, s[i] = v := ⟨_, rfl⟩
          rw [hn] at hcs hnl hCi
          have hnT : n < Ts.length := by rw [HTL.out]; exact hnl
          have hTe : crows[n].2.1 = zs Ts[n] := by
           have h := congrArg (fun l => l[n]?) HTS.out
           simp only [List.getElem?_map, List.getElem?_eq_getElem hnl, List.getElem?_eq_getElem hnT, Option.map_some] at h
           exact Option.some.inj h
          rw [List.getD_eq_getElem?_getD (l := Ts), List.getElem?_eq_getElem hnT] at hCi
          dsimp only [Option.getD_some] at hCi
          have hTn := (HT.out _ (List.getElem_mem hnT)).1
          have hTb := (HT.out _ (List.getElem_mem hnT)).2
          obtain ⟨T, hTT⟩ : ∃ v, Ts[n] = v := ⟨_, rfl⟩
          rw [hTT] at hTe hTn hTb hCi
          obtain ⟨yb, yo, hye, hyb, hyc⟩ := hYw.1.2 (by omega)
          have hcy := hyc n (cellL crows[n]) (by rw [List.getElem?_map, List.getElem?_eq_getElem hnl]; rfl)
          have hYI := hYw.2 _ (List.getElem_mem hnl)
          obtain ⟨⟨yA, yT, yC⟩, hrr⟩ : ∃ v, crows[n] = v := ⟨_, rfl⟩
          rw [hrr] at hcy hTe hYI
          dsimp only at hTe hYI
          subst hTe
          unfold cellL at hcy
          dsimp only at hcy
          rw [zs_len, hTn] at hcy
          have hgL : gL ≤ 64 := hpL.2
          have hT64 : Hid (∀ t, t ∈ T → t < 64) := hide (fun t ht => by have := hTb t ht; have := HGL.out; omega)
          have hbt := bBit b (by omega) i (by omega)
          have hsc := sgnB_cases b i
          have HB1 := hide (show bothL L K.length Cs b (i + 1) = if b.testBit i then List.zipWith (fun x y => x &&& y) (bothL L K.length Cs b i) (Cs.getD i []) else bothL L K.length Cs b i from rfl)
          have HG1 := hide (show Tt.sgnB b (i + 1) = if b.testBit i then -(Tt.sgnB b i) else Tt.sgnB b i from rfl)
          have HBL := hide (bothL_len (L := L) HCM.out b i (by rw [HCL.out]; exact hi))
          have HB64 := hide (bothL_lt (n := K.length) hL6 (Cs := Cs) b i)
          rw [hCi] at HB1
          have HTN := hide hTn
          clear hn hTT hrr hyc hCi hTb hSr hTn
          generalize bothL L K.length Cs b i = old at *
          generalize Tt.sgnB b i = sg at *
          cases htb : b.testBit i with
          | false =>
            rw [htb] at hbt HB1 HG1
            have HB2 : Hid (bothL L K.length Cs b (i + 1) = old) := hide HB1.out
            have HG2' : Hid (Tt.sgnB b (i + 1) = sg) := hide HG1.out
            simp only [Bool.false_eq_true, if_false] at hbt
            clear htb HB1 HG1
            go_wp2
            exact ⟨⟨i + 1, by omega, by go_num, by rw [HG2'.out], by rw [HB2.out]; exact hBB, hb⟩, by simp [intOf]; omega⟩
          | true =>
            rw [htb] at hbt HB1 HG1
            have HB2 : Hid (bothL L K.length Cs b (i + 1) = List.zipWith (fun x y => x &&& y) old T) := hide HB1.out
            have HG2' : Hid (Tt.sgnB b (i + 1) = -sg) := hide HG1.out
            simp only [if_true] at hbt
            have hsw : IntKind.i64.wrap (-sg) = -sg := by rw [IntKind.wrap_i64]; omega
            clear htb HB1 HG1
            go_wp2
            obtain ⟨new, hnw⟩ : ∃ v, List.zipWith (fun x y => x &&& y) old T = v := ⟨_, rfl⟩
            have HNL : Hid (new.length = old.length) := hide (by rw [← hnw, List.length_zipWith, HBL.out, HTN.out]; omega)
            have HNW := hide hnw
            rw [hnw] at HB2
            clear hnw hcs
            go_loopw [67] (fun iv wr => ∃ j : Nat, j ≤ K.length ∧ iv = .int .i64 (j : Nat) ∧ BlkAt wr bb (mcs (mixL new old j)) 3 ∧ Below wo.heap.size wo wr) (fun iv _ => K.length - (intOf iv).toNat)
            case atStart => exact ⟨0, Nat.zero_le _, rfl, by rw [mixL_zero]; exact hBB, hb⟩
            case round =>
             clear hBB hb
             obtain ⟨j, hj, rfl, hBB, hb⟩ := hrel
             have hzr := hb.size
             by_cases hjl : j < K.length
             · have hji : (j : Int) < (K.length : Int) := by omega
               have hjo : j < old.length := by rw [HBL.out]; exact hjl
               have hjT : j < T.length := by rw [HTN.out]; exact hjl
               have hjn : j < new.length := by rw [HNL.out]; exact hjo
               have i0 := obj_at hBB j _ (mcs_get _ j _ (mixL_at new old j HNL.out hjo))
               have if0 := obj_fz hBB j
               have il := obj_lt hBB
               have hXr := hXo.ext hb
               have c1 := obj_at hXr 1 _ rfl
               have xl := obj_lt hXr
               have hIr := hYI.ext hb
               obtain ⟨tb, tof, rfl, htb⟩ := hIr.form (by rw [zs_len]; omega)
               have ht0 := hIr.at (k := j) (by rw [zs_len]; exact hjT)
               rw [zs_at T j hjT] at ht0
               have hyr := (hb.cell (p := ⟨yb, yo + n, none⟩) hyb).trans hcy
               have hybr : yb < wr.heap.size := by omega
               have hand := bAnd old[j] (HB64.out _ (List.getElem_mem hjo)) T[j] (hT64.out _ (List.getElem_mem hjT))
               have hne : new[j] = old[j] &&& T[j] := by
                have h : (List.zipWith (fun x y => x &&& y) old T)[j]? = some (old[j] &&& T[j]) := by
                 rw [List.getElem?_zipWith, List.getElem?_eq_getElem hjo, List.getElem?_eq_getElem hjT]
                rw [HNW.out, List.getElem?_eq_getElem hjn] at h
                exact Option.some.inj h
               have HST := hide (mixL_step new old j HNL.out hjo)
               rw [← hne] at hand
               have HST2 : Hid ((mixL new old j).set j new[j] = mixL new old (j + 1)) := HST
               obtain ⟨z, hz⟩ : ∃ v, new[j] = v := ⟨_, rfl⟩
               rw [hz] at hand HST2
               generalize old[j] = ov at *
               generalize T[j] = tv at *
               clear hz HST hne hjn hjT hjo
               go_upto_region 20 with fail
               refine wp_region_grow_tail 15 (by kernel_rfl) (by kernel_rfl) ?_
               simp only [List.take_succ_cons, List.take_zero, List.drop_succ_cons, List.drop_zero]
               repeat (go_big_quiet_step (fail))
               refine wpQuiet_nil ?_
               intro w7 hb7
               replace hb7 := ex_below hb7
               have hB7 := hBB.ext hb7
               have hz7 := hb7.size
               have i7 := (hb7.cell (p := ⟨bb, j, none⟩) il).trans i0
               have if7 := obj_fz hB7 j
               have il7 := obj_lt hB7
               go_wp2
               have hB8 : BlkAt (w7.setCell ⟨bb, j, none⟩ (.int .i64 (z : Nat))) bb (mcs (mixL new old (j + 1))) 3 := by
                rw [← HST2.out, ← mcs_set]
                exact set_obj hB7 j _
               exact ⟨⟨j + 1, by omega, by go_num, hB8, Below.setCell (below_step hb hb7 hzr) (by simp; omega) _⟩, by simp [intOf]; omega⟩
             · have hji : ¬ ((j : Int) < (K.length : Int)) := by omega
               obtain rfl : j = K.length := by omega
               have hBn : BlkAt wr bb (mcs new) 3 := by
                have h := mixL_all new old HNL.out
                rw [HBL.out] at h
                rw [h] at hBB
                exact hBB
               clear hBB
               go_wp2
               exact ⟨⟨i + 1, by omega, by go_num, by rw [HG2'.out], by rw [HB2.out]; exact hBn, hb⟩, by simp [intOf]; omega⟩
        · have hii : ¬ ((i : Int) < (s.length : Int)) := by omega
          obtain rfl : i = Cs.length := by rw [HCL.out]; omega
          have hTn := bothL_len (L := L) HCM.out b Cs.length (Nat.le_refl _)
          have hT64 := bothL_lt (n := K.length) hL6 (Cs := Cs) b Cs.length
          have hsc := sgnB_cases b Cs.length
          obtain ⟨T, hTT⟩ : ∃ v, bothL L K.length Cs b Cs.length = v := ⟨_, rfl⟩
          have HFB2 := HFB.out
          rw [hTT] at hTn hT64 hBB HFB2
          obtain ⟨sg, hsg⟩ : ∃ v, Tt.sgnB b Cs.length = v := ⟨_, rfl⟩
          rw [hsg] at hsc HFB2 ⊢
          have HFB3 := hide HFB2
          have hokT : OkM L rest K T := ⟨hok.1, hok.2.1, hok.2.2.1, hok.2.2.2.1, hTn, hok.2.2.2.2.2.1, hT64, hok.2.2.2.2.2.2.2⟩
          have hTI : I64 wp (some ⟨bb, 0, none⟩) (zs T) := by
           intro j x hj
           unfold zs at hj
           rw [List.getElem?_map] at hj
           cases hx : T[j]? with
           | none => rw [hx] at hj; cases hj
           | some y =>
             rw [hx] at hj; cases hj
             exact ⟨bb, 0, rfl, obj_lt hBB, Nat.le_of_lt (obj_lt hBB), by rw [Nat.zero_add]; exact obj_at hBB j _ (mcs_get T j y hx)⟩
          have hnew : ∀ w', I64 w' A (zs K) → I64 w' (some ⟨bb, 0, none⟩) (zs T) → Calls Try.prog 73 #[.agg #[.int .i64 (L : Nat), .int .i64 (K.length : Nat), .slice A K.length c, .int .i64 (rest : Nat)], .slice (some ⟨bb, 0, none⟩) K.length K.length] w' (NewAt w' L rest A K c T) := fun w' h1 h2 => by
           have h := new_torn L rest A K c (some ⟨bb, 0, none⟩) T K.length w' hokT h1 h2
           rw [hTn] at h
           exact h
          have HNEW := hide hnew
          have HOKT := hide hokT
          have HSUM := hide (sum_can (L := L) (rest := rest) (K := K) hTn HQ.out)
          have HPS := hide (idxL_lt (L := L) (rest := rest) (K := K) hTn HQ.out)
          have hmp := hm.ext hb
          have hXp := hXo.ext hb
          have m0 := obj_at hmp.at_.1 0 _ rfl
          have m1 := obj_at hmp.at_.1 1 _ rfl
          have m2 := obj_at hmp.at_.1 2 _ rfl
          have m3 := obj_at hmp.at_.1 3 _ rfl
          have ml := obj_lt hmp.at_.1
          have c0 := obj_at hXp 0 _ rfl
          have xl := obj_lt hXp
          have hGp := hG.below hb hzo
          have hzp2 := hGp.size
          clear hTT hsg hTn hT64 hokT hnew HFB2 HFB hSw hYw
          go_upto_region 24 with (first
 | (go_at_call 73; refine (HNEW.out _ hmp.at_.2.1 hTI).mono ?_; intro e w1 hnw; obtain ⟨B2, M2, S2, d2, rfl, hb1, hB2, hM2, hm2⟩ := hnw.mx HOKT.out; clear hnw; have hz1 := hb1.size; have hx12 := hmp.new hM2; have hltm := hmp.lts; have hm1 := hmp.ext hb1; have hx21 := FarM.of hm2 hm1.km (by omega); have hX1 := hXp.ext hb1; have hG1 := hGp.below hb1 hzp2; have hD1 : Rng w1 D (zr qs) := hD.gx1 HKM.out hG1))
          have hbd := below_drew (Below.refl w1.heap.size w1)
          refine wp_region_noPanic ?_
          refine wp_region_held_drew (S := fun w' => w'.cell? ⟨C, 0, none⟩ = some (.pointer (some ⟨B, 0, none⟩)) ∧ w'.cell? ⟨C, 2, none⟩ = some (.slice D qs.length dc)) (by kernel_rfl) ?_ (fun hHeld => ?_)
          · (try dsimp only)
            (exact ⟨obj_at (hX1.ext hbd) 0 _ rfl, obj_at (hX1.ext hbd) 2 _ rfl⟩)
          refine wpAnyH_take (i := 0) (v := ?_) rfl (by kernel_rfl) (by kernel_rfl) (by kernel_rfl) (fun _ _ _ h => h) (Or.inl ⟨by rfl, ?_⟩) hHeld ?_
          rotate_left
          · (intro ww hSw; (try dsimp only at hSw); go_simp; try with_reducible rfl)
          (try simp only [Act.put, List.getElem_toArray, List.getElem_cons_zero, List.getElem_cons_succ, List.setIfInBounds_toArray, List.set_cons_zero, List.set_cons_succ])
          refine wpAnyH_take (i := 1) (v := ?_) rfl (by kernel_rfl) (by kernel_rfl) (by kernel_rfl) (fun _ _ _ h => h) (Or.inl ⟨by rfl, ?_⟩) hHeld ?_
          rotate_left
          · (intro ww hSw; (try dsimp only at hSw); go_simp; try with_reducible rfl)
          (try simp only [Act.put, List.getElem_toArray, List.getElem_cons_zero, List.getElem_cons_succ, List.setIfInBounds_toArray, List.set_cons_zero, List.set_cons_succ])
          refine wpAnyH_take (i := 2) (v := ?_) rfl (by kernel_rfl) (by kernel_rfl) (by kernel_rfl) (fun _ _ _ h => h) (Or.inl ⟨by rfl, ?_⟩) hHeld ?_
          rotate_left
          · (intro ww hSw; (try dsimp only at hSw); go_simp; try with_reducible rfl)
          (try simp only [Act.put, List.getElem_toArray, List.getElem_cons_zero, List.getElem_cons_succ, List.setIfInBounds_toArray, List.set_cons_zero, List.set_cons_succ])
          refine wpAnyH_take (i := 3) (v := ?_) rfl (by kernel_rfl) (by kernel_rfl) (by kernel_rfl) (fun _ _ _ h => h) (Or.inl ⟨by rfl, ?_⟩) hHeld ?_
          rotate_left
          · (intro ww hSw; (try dsimp only at hSw); go_simp; try with_reducible rfl)
          (try simp only [Act.put, List.getElem_toArray, List.getElem_cons_zero, List.getElem_cons_succ, List.setIfInBounds_toArray, List.set_cons_zero, List.set_cons_succ])
          refine wpAnyH_take (i := 4) (v := ?_) rfl (by kernel_rfl) (by kernel_rfl) (by kernel_rfl) (fun _ _ _ h => h) (Or.inl ⟨by rfl, ?_⟩) hHeld ?_
          rotate_left
          · (intro ww hSw; (try dsimp only at hSw); go_simp; try with_reducible rfl)
          (try simp only [Act.put, List.getElem_toArray, List.getElem_cons_zero, List.getElem_cons_succ, List.setIfInBounds_toArray, List.set_cons_zero, List.set_cons_succ])
          refine wpAnyH_take (i := 5) (v := ?_) rfl (by kernel_rfl) (by kernel_rfl) (by kernel_rfl) (fun _ _ _ h => h) (Or.inl ⟨by rfl, ?_⟩) hHeld ?_
          rotate_left
          · (intro ww hSw; (try dsimp only at hSw); go_simp; try with_reducible rfl)
          (try simp only [Act.put, List.getElem_toArray, List.getElem_cons_zero, List.getElem_cons_succ, List.setIfInBounds_toArray, List.set_cons_zero, List.set_cons_succ])
          refine wpAnyH_take (i := 6) (v := ?_) rfl (by kernel_rfl) (by kernel_rfl) (by kernel_rfl) (fun _ _ _ h => h) (Or.inl ⟨by rfl, ?_⟩) hHeld ?_
          rotate_left
          · (intro ww hSw; (try dsimp only at hSw); go_simp; try with_reducible rfl)
          (try simp only [Act.put, List.getElem_toArray, List.getElem_cons_zero, List.getElem_cons_succ, List.setIfInBounds_toArray, List.set_cons_zero, List.set_cons_succ])
          refine wpAnyH_take (i := 7) (v := ?_) rfl (by kernel_rfl) (by kernel_rfl) (by kernel_rfl) (fun _ _ _ h => h) (Or.inl ⟨by rfl, ?_⟩) hHeld ?_
          rotate_left
          · (intro ww hSw; (try dsimp only at hSw); go_simp; try with_reducible rfl)
          (try simp only [Act.put, List.getElem_toArray, List.getElem_cons_zero, List.getElem_cons_succ, List.setIfInBounds_toArray, List.set_cons_zero, List.set_cons_succ])
          refine wpAnyH_take (i := 8) (v := ?_) rfl (by kernel_rfl) (by kernel_rfl) (by kernel_rfl) (fun _ _ _ h => h) (Or.inl ⟨by rfl, ?_⟩) hHeld ?_
          rotate_left
          · (intro ww hSw; (try dsimp only at hSw); go_simp; try with_reducible rfl)
          (try simp only [Act.put, List.getElem_toArray, List.getElem_cons_zero, List.getElem_cons_succ, List.setIfInBounds_toArray, List.set_cons_zero, List.set_cons_succ])
          refine wpAnyH_take (i := 11) (v := ?_) rfl (by kernel_rfl) (by kernel_rfl) (by kernel_rfl) (fun _ _ _ h => h) (Or.inl ⟨by rfl, ?_⟩) hHeld ?_
          rotate_left
          · (intro ww hSw; (try dsimp only at hSw); go_simp; try with_reducible rfl)
          (try simp only [Act.put, List.getElem_toArray, List.getElem_cons_zero, List.getElem_cons_succ, List.setIfInBounds_toArray, List.set_cons_zero, List.set_cons_succ])
          refine wpAnyH_ready (rs := [9]) (by kernel_rfl) (by simp) ?_
          refine AllReadyH.cons rfl ?_ ?_
          · intro K' hK
            rw [if_pos (by rfl)]
            go_simp
            go_at_call 68
            refine (indexes_any L rest A K c B M S (Tt.fulls L K.length) d (fun x => x = stV 0 (-1) 0) B2 M2 S2 T d2 (fun x => x = stV 0 (-1) 0) hx12 hx21 D qs dc _ (hm1.ext hbd) (hm2.ext hbd) (hD1.ext hbd) (fun h0 q o e => ⟨Rng.notMap hD1 (by rw [zr_len]; exact h0) hm1.km q o e, Rng.notMap hD1 (by rw [zr_len]; exact h0) hm2.km q o e⟩) (by rw [cnt_codes]; exact HQS.out) (by omega)).mono ?_
            rintro e w2 ⟨rv, rfl, hOr, hG2, hm1', hm2'⟩
            obtain ⟨rA, rC, rfl⟩ := own_form hOr
            have hz2 := hG2.size
            have hX2 := (hX1.ext hbd).gx hG2 (by simp; exact ⟨fun e => hm1.km.notBlk hX1 e.symm, fun e => hm2.km.notBlk hX1 e.symm⟩)
            go_wp2_with fail
            refine hK.out _ _ ⟨obj_at hX2 0 _ rfl, obj_at hX2 2 _ rfl⟩ (fun hHeld2 => ?_)
            clear hK K' hHeld
            have hHeld := hHeld2
            clear hHeld2
            (try simp only [Act.put, List.getElem_toArray, List.getElem_cons_zero, List.getElem_cons_succ, List.setIfInBounds_toArray, List.set_cons_zero, List.set_cons_succ])
            refine wpAnyH_take (i := 10) (v := ?_) rfl (by kernel_rfl) (by kernel_rfl) (by kernel_rfl) (fun _ _ _ h => h) (Or.inl ⟨by rfl, ?_⟩) hHeld ?_
            rotate_left
            · (intro ww hSw; (try dsimp only at hSw); go_simp; try with_reducible rfl)
            (try simp only [Act.put, List.getElem_toArray, List.getElem_cons_zero, List.getElem_cons_succ, List.setIfInBounds_toArray, List.set_cons_zero, List.set_cons_succ])
            refine wpAnyH_done (by kernel_rfl) ?_ _
            refine NoPanic.normal ?_
            go_wp2_with fail
            have hRr : Rng w2 rA (idxL L rest K (Tt.fulls L K.length) T qs) := rd_own hOr (by decide)
            have hpsl := Nat.le_trans (idxL_len L rest K (Tt.fulls L K.length) T qs) hq10
            obtain ⟨ps, hps⟩ : ∃ v, idxL L rest K (Tt.fulls L K.length) T qs = v := ⟨_, rfl⟩
            have HSUM2 := HSUM.out
            have HPS2 := HPS.out
            rw [hps] at hRr hpsl HSUM2 HPS2 ⊢
            have HSM := hide HSUM2
            have HPB : Hid (∀ p, p ∈ ps → 0 ≤ p.1 ∧ p.1 ≤ p.2 ∧ p.2 ≤ 1679616) := hide (fun p hp => by
             have h1 := HPS2 p hp
             have h2 := Tt.cnt_small (L := L) (rest := rest) (ps := K.zip T) (la := -1) (s := 0) hL6 (by rw [List.length_zip]; omega)
             omega)
            have hG3 : GX [M] w w2 := (hG1.below hbd hG1.size).back hG2 (fun x hx hlt => by simp at hx ⊢; omega)
            have hz3 := hG3.size
            clear hps HSUM HSUM2 HPS HPS2 hOr
            go_loopw [5, 108] (fun sv iv wr => ∃ (j : Nat) (v : Int), j ≤ ps.length ∧ iv = .int .i64 (j : Nat) ∧ sv = .int .i64 v ∧ Hid (v = S0 + sg * sumJ ps j) ∧ Below w2.heap.size w2 wr) (fun _ iv _ => ps.length - (intOf iv).toNat)
            case atStart => exact ⟨0, S0, Nat.zero_le _, rfl, rfl, hide (by show S0 = S0 + sg * 0; rw [Int.mul_zero, Int.add_zero]), Below.refl _ _⟩
            case round =>
             obtain ⟨j, v, hj, rfl, rfl, HV, hb⟩ := hrel
             have hzr := hb.size
             have hsj := sum_bd (ps.take j) (fun p hp => HPB.out p (List.mem_of_mem_take hp))
             have htl : (ps.take j).length ≤ 10 := by rw [List.length_take]; omega
             have hvb : -130000000 ≤ v ∧ v ≤ 130000000 := by
              have h1 := HV.out
              unfold sumJ at h1
              rcases hsc with e | e <;> rw [e] at h1 <;> omega
             by_cases hjl : j < ps.length
             · have hji : (j : Int) < (ps.length : Int) := by omega
               have hrr := hRr.ext hb
               obtain ⟨rb, ro, rfl, hrb⟩ := Rng.form hrr (by omega)
               obtain ⟨_, d0, dd1⟩ := Rng.at hrr hjl
               have hpk := HPB.out _ (List.getElem_mem hjl)
               have HSJ := hide (sumJ_succ ps j hjl)
               generalize ps[j] = p at *
               obtain ⟨lo, hi⟩ := p
               simp only at d0 dd1 HSJ hpk
               obtain ⟨σ, hσ⟩ : ∃ v, sg * (hi - lo + 1) = v := ⟨_, rfl⟩
               have hσb : -1679617 ≤ σ ∧ σ ≤ 1679617 := by rcases hsc with e | e <;> rw [e] at hσ <;> omega
               have HSG := hide hσ
               have HV2 : Hid (v + σ = S0 + sg * sumJ ps (j + 1)) := hide (by rw [HSJ.out, Int.mul_add, HV.out, HSG.out]; omega)
               have hba : Below wr.heap.size wr (wr.alloc (.cells #[.int .i64 lo, .int .i64 hi] 74)) := below_alloc (Below.refl _ _) (Nat.le_refl _) _
               clear hsj htl HSJ
               go_wp2
               exact ⟨⟨j + 1, v + σ, by omega, by go_num, rfl, HV2, below_step hb hba hzr⟩, by simp [intOf]; omega⟩
             · have hji : ¬ ((j : Int) < (ps.length : Int)) := by omega
               obtain rfl : j = ps.length := by omega
               have HV3 : Hid (v = uniS L rest K qs Cs (b + 1)) := hide (by
                have h1 := HV.out
                unfold sumJ at h1
                rw [List.take_length, HSM.out] at h1
                rw [HUS.out, HFB3.out, h1])
               clear hsj htl
               go_wp2
               exact ⟨⟨b + 1, by omega, by omega, by go_num, by rw [← HV3.out], hm1'.ext hb, hG3.below hb hG3.size⟩, by simp [intOf]; omega⟩
          exact AllReadyH.nil
  · have hbI : ¬ ((b : Int) < (g2 : Int)) := by omega
    have hbe : b = g2 := by omega
    have HV : Hid (uniS L rest K qs Cs b = uniS L rest K qs Cs (2 ^ s.length)) := hide (by rw [HG2.out, hbe])
    have hw2 := HW2.out
    clear hbe
    go_wp2
    go_ret
    exact ⟨by rw [HV.out, HCS.out]; rfl, hG, hm⟩
end Go.Proofs.Ytgjfejpibielaaa
