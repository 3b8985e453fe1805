/- Proved here: the letters that codes that fit have; the least of several, a part of the proofs about the ticket laws. Conditions: those that each theorem names, no others. -/
import Derived.Laws.CopyOwn
import Derived.Lib.SliceRun
import Derived.Test.YtgjfejpibielaaaQ19
import Derived.WalkKit
import Derived.WalkSpells
import Derived.WalkLawsBesides
import Derived.Below
import Derived.Deep.QuietTactic
import Derived.BigQuiet
import Derived.Deep.Light
import Derived.Test.YtgjfejpibielaaaQ05
set_option linter.unusedSimpArgs false
set_option linter.unusedVariables false
namespace Go.Proofs.Ytgjfejpibielaaa
open Go.RowKit Go.Maps Go.Shelf
attribute [local go_sem] Oper.semAt_some World.cell?_setCell_far
section
variable {P : Program} {C : World → Prop}
/-- a region that draws its order, whose last operations, in one order, follow quiet ones -/
theorem wp_region_quiet_tail {id : Nat} {Q : Exit → Act → World → Prop} {a : Act} {w : World} {l : List Oper} (n : Nat) (hm : P.follows .mixedOrders = true) (hB : Region.lexTailB .any l.toArray n = true) (hC : C { w with drawn := w.drawn + 1 })
 (h : wpQuiet P l.toArray C (fun a' => ∀ w', C w' → wpList P l.toArray Q (l.drop n) a' w') (l.take n) a) : (Code.region id l.toArray true).wp P Q a w := by
 simp only [Region.lexTailB, Bool.and_eq_true, decide_eq_true_eq] at hB
 obtain ⟨⟨⟨⟨hsel, hn⟩, hs⟩, hc⟩, hlex⟩ := hB
 have hn' : n < l.length := by simpa using hn
 have htl : (l.take n).length = n := by simp; omega
 have hdl : (l.drop n).length = l.toArray.size - n := by simp
 have inv0 : HeadInv .any l.toArray n (Array.replicate l.toArray.size false) :=
  ⟨by simp, fun j oj _ hl => (by rw [getD_replicate_false] at hl; cases hl), fun t _ ht => getD_in (by simpa using ht) (getD_replicate_false _ _)⟩
 have H := wpAnyLQ_lex (md := .any) (C := C) (g := l.toArray.size - n) hsel hs hc hn (l.take n) 0 _ a (fun j hj => by
  have hj' : j < n := by rw [htl] at hj; exact hj
  simp [hj']) (by simpa using htl) inv0 (by rw [htl]; exact hlex) h
 refine wp_region_any hm ?_
 have := wpAny_of_headQ (C := C) (Q' := Q) (g := l.toArray.size - n) (fun listed a' w' hw hL => by
  have := wpAny_of_seq (md := .any) (Q' := Q) (l.drop n) n listed a' w' (fun j => by simp [List.getElem?_drop]) (by rw [hdl]; exact hL.1) (hL.2 w' hw)
  rwa [hdl] at this) _ _ _ _ hC H
 rw [htl, show n + (l.toArray.size - n) = l.toArray.size by omega] at this
 exact this
theorem wp_region_grow_tail {id : Nat} {Q : Exit → Act → World → Prop} {a : Act} {w : World} {l : List Oper} (n : Nat) (hm : P.follows .mixedOrders = true) (hB : Region.lexTailB .any l.toArray n = true)
 (h : wpQuiet P l.toArray (fun w' => ∃ g, w' = w.grow g) (fun a' => ∀ w', (∃ g, w' = w.grow g) → wpList P l.toArray Q (l.drop n) a' w') (l.take n) a) : (Code.region id l.toArray true).wp P Q a w :=
 wp_region_quiet_tail (C := fun w' => ∃ g, w' = w.grow g) n hm hB ⟨⟨#[], w.drawn + 1⟩, by simp [World.grow]⟩ h
end
/-- the letters that codes that fit have -/
def surB (L rest : Nat) (K T : List Nat) (p c : Nat) : Bool := (T.getD p 0).testBit c && decide (0 < Tt.cnt L rest (K.zip (T.set p (2 ^ c))) (-1) 0)
def surN (L rest : Nat) (K T : List Nat) (p c : Nat) : Nat := (List.range c).foldl (fun a x => if surB L rest K T p x then a ||| 2 ^ x else a) 0
def outV (L rest : Nat) (K T : List Nat) (p c q : Nat) : Nat := if q < p then surN L rest K T q L else if q = p then surN L rest K T p c else 0
def outL (L rest : Nat) (K T : List Nat) (p c : Nat) : List Nat := (List.range K.length).map (outV L rest K T p c)
def outCs (L rest : Nat) (K T : List Nat) (p c : Nat) : Array Value := ((zs (outL L rest K T p c)).map (Value.int .i64)).toArray
def sureL (L rest : Nat) (K T : List Nat) : List Nat := (List.range K.length).map fun q => surN L rest K T q L
theorem surN_succ (L rest : Nat) (K T : List Nat) (p c : Nat) : surN L rest K T p (c + 1) = if surB L rest K T p c then surN L rest K T p c ||| 2 ^ c else surN L rest K T p c := by
 unfold surN
 rw [List.range_succ, List.foldl_append]
 rfl
theorem surN_lt (L rest : Nat) (K T : List Nat) (p c : Nat) (hc : c ≤ 6) : surN L rest K T p c < 64 := by
 induction c with
 | zero => show 0 < 64; omega
 | succ c ih =>
   rw [surN_succ]
   have h1 := ih (by omega)
   split
   · have h2 : 2 ^ c < 2 ^ 6 := Nat.pow_lt_pow_right (by omega) (by omega)
     exact Nat.or_lt_two_pow (n := 6) h1 h2
   · exact h1
theorem outL_zero (L rest : Nat) (K T : List Nat) : outL L rest K T 0 0 = List.replicate K.length 0 := by
 have e : (List.range K.length).map (outV L rest K T 0 0) = (List.range K.length).map (fun _ => 0) := List.map_congr_left (fun q _ => by
  unfold outV
  rw [if_neg (by omega)]
  split <;> rfl)
 unfold outL
 rw [e, List.map_const', List.length_range]
theorem outL_next (L rest : Nat) (K T : List Nat) (p : Nat) : outL L rest K T p L = outL L rest K T (p + 1) 0 := by
 unfold outL
 apply List.map_congr_left
 intro q _
 unfold outV
 by_cases h : q < p
 · rw [if_pos h, if_pos (by omega)]
 · by_cases h2 : q = p
   · subst h2; rw [if_neg h, if_pos rfl, if_pos (by omega)]
   · rw [if_neg h, if_neg h2, if_neg (by omega)]
     split <;> rfl
theorem outL_end (L rest : Nat) (K T : List Nat) : outL L rest K T K.length 0 = sureL L rest K T := by
 unfold outL sureL
 apply List.map_congr_left
 intro q hq
 unfold outV
 rw [if_pos (List.mem_range.1 hq)]
theorem outL_same (L rest : Nat) (K T : List Nat) (p c : Nat) (h : surB L rest K T p c = false) : outL L rest K T p (c + 1) = outL L rest K T p c := by
 unfold outL
 apply List.map_congr_left
 intro q _
 unfold outV
 rw [surN_succ, h]
 rfl
theorem outL_set (L rest : Nat) (K T : List Nat) (p c : Nat) (h : surB L rest K T p c = true) : outL L rest K T p (c + 1) = (outL L rest K T p c).set p (surN L rest K T p c ||| 2 ^ c) := by
 unfold outL
 apply List.ext_getElem
 · simp
 · intro q h1 h2
   rw [List.getElem_set]
   simp only [List.getElem_map, List.getElem_range]
   unfold outV
   rw [surN_succ, h]
   by_cases hq : q < p
   · rw [if_pos hq, if_neg (by omega), if_pos hq]
   · by_cases h3 : q = p
     · subst h3
       rw [if_neg hq, if_pos rfl, if_pos rfl, if_pos rfl]
     · rw [if_neg hq, if_neg h3, if_neg (by omega), if_neg hq, if_neg h3]
theorem outCs_set (L rest : Nat) (K T : List Nat) (p c : Nat) (h : surB L rest K T p c = true) : (outCs L rest K T p c).setIfInBounds p (.int .i64 ((surN L rest K T p c ||| 2 ^ c : Nat) : Int)) = outCs L rest K T p (c + 1) := by
 unfold outCs
 rw [outL_set L rest K T p c h]
 simp [zs, List.map_set]
theorem outCs_at (L rest : Nat) (K T : List Nat) (p c : Nat) (hp : p < K.length) : (outCs L rest K T p c)[p]? = some (.int .i64 (surN L rest K T p c : Nat)) := by
 unfold outCs zs outL outV
 simp [hp]
theorem bOr : ∀ a, a < 64 → ∀ c, c < 6 → bits BinOp.or .i64 ((a : Nat) : Int) ((2 ^ c : Nat) : Int) = ((a ||| 2 ^ c : Nat) : Int) := by decide +kernel
theorem pow_wraps : ∀ c, c < 6 → wrap64 ((2 : Int) ^ c) = ((2 ^ c : Nat) : Int) ∧ IntKind.i64.wrap ((2 : Int) ^ c) = ((2 ^ c : Nat) : Int) := by decide +kernel
theorem setCell_self {w : World} {b : Nat} {cs : Array Value} {t : TypeId} (h : BlkAt w b cs t) {k : Nat} {v : Value} (hk : cs[k]? = some v) : w.setCell ⟨b, k, none⟩ v = w := by
 have hb := obj_lt h
 have he : w.heap[b]? = some (.cells cs t (0, 0)) := h
 have : (w.setCell ⟨b, k, none⟩ v).heap = w.heap := by
  apply Array.ext_getElem?
  intro i
  by_cases hi : i = b
  · subst hi
    have h2 := set_obj he k v
    rw [h2, he]
    congr 2
    apply Array.ext_getElem?
    intro j
    rw [Array.getElem?_setIfInBounds]
    split
    · rename_i hj
      subst hj
      split
      · exact hk.symm
      · rename_i hlt
        rw [Array.getElem?_eq_none (by omega)] at hk
        cases hk
    · rfl
  · exact Below.heap_setCell _ _ _ _ hi
 cases w
 simp only [World.setCell] at this ⊢
 rw [this]
theorem setCells_self {w : World} {b n : Nat} {cs : Array Value} {t : TypeId} (h : BlkAt w b cs t) (v : Value) : ∀ (m o : Nat), (∀ j, j < m → cs[o + j]? = some v) → w.setCells b o (List.replicate m v) = w
 | 0, o, _ => rfl
 | m + 1, o, hv => by
   rw [List.replicate_succ]
   show (w.setCell ⟨b, o, none⟩ v).setCells b (o + 1) (List.replicate m v) = w
   rw [setCell_self h (show cs[o]? = some v from hv 0 (by omega))]
   exact setCells_self (n := n) h v m (o + 1) (fun j hj => by have := hv (j + 1) (by omega); rwa [show o + 1 + j = o + (j + 1) by omega])
theorem zero3 (w : World) : (zeroValue 3).run Try.prog w = .ok (.int .i64 0) w := by kernel_rfl
theorem clear_zeros {w : World} {b n : Nat} (h : BlkAt w b (List.replicate n (Value.int .i64 0)).toArray 3) (hn : 0 < n) : ∀ ty, (Builtin.clear_ #[22] ty #[.slice (some ⟨b, 0, none⟩) n n]).run Try.prog w = .ok (.tuple #[]) w := fun ty => by
 have hat : ∀ j, j < n → ((List.replicate n (Value.int .i64 0)).toArray)[0 + j]? = some (.int .i64 0) := fun j hj => by simp [hj]
 have := Lib.run_clear_slice (P := Try.prog) w 22 3 ty (.int .i64 0) und22' zero3 rfl rfl b 0 n n hn (fun j hj => by rw [obj_at h (0 + j) _ (hat j hj)]; rfl) (fun j hj => obj_fz h _)
 rw [this, setCells_self (n := n) h _ n 0 hat]
/-- what Sure comes to -/
def SureAt (w : World) (L rest : Nat) (K T : List Nat) (e : Ending) (w' : World) : Prop :=
 ((Tt.cnt L rest (K.zip T) (-1) 0) = 0 ∧ e = .returned (.tuple #[.slice none 0 0, .int .i64 21]) ∧ RowKit.Below w.heap.size w w') ∨
 ((Tt.cnt L rest (K.zip T) (-1) 0) ≠ 0 ∧ ∃ R, e = .returned (.tuple #[.slice (some ⟨R, 0, none⟩) K.length K.length, .int .i64 0]) ∧ RowKit.Below w.heap.size w w' ∧ I64 w' (some ⟨R, 0, none⟩) (zs (sureL L rest K T)))
set_option maxRecDepth 100000 in
set_option maxHeartbeats 4000000 in
theorem Sure_ok (L rest : Nat) (A : Option Addr) (K : List Nat) (c : Nat) (Y : Option Addr) (T : List Nat) (yc : Nat) (w : World) (hd : OkD L rest K) (hA : I64 w A (zs K)) (hlT : T.length = K.length) (htT : ∀ t, t ∈ T → 1 ≤ t ∧ t < 2 ^ L) (hY : I64 w Y (zs T)) : Calls Try.prog 32 #[.agg #[.int .i64 (L : Nat), .int .i64 (K.length : Nat), .slice A K.length c, .int .i64 (rest : Nat)], .slice Y T.length yc] w (SureAt w L rest K T) := by
 have hn8 := hd.2.2.2.1
 have hn2 := hd.2.2.1
 have hL6 := hd.2.1
 have hL2 := hd.1
 have HLT := hide hlT
 have HTT := hide htT
 clear hlT htT
 have HOKT : OkM L rest K T := hd.torn HLT.out (fun t ht => by have := HTT.out t ht; have := two_pow L hd.2.1; omega)
 obtain ⟨NT, hNT⟩ : ∃ v, (Tt.cnt L rest (K.zip T) (-1) 0) = v := ⟨_, rfl⟩
 have HNT := hide hNT
 have hmk := make_zeros K.length (by omega)
 have hmk2 := make_zeros T.length (by rw [HLT.out]; omega)
 by_cases hz : NT = 0
 · have hz0 : (Tt.cnt L rest (K.zip T) (-1) 0) = 0 := by rw [hNT, hz]
   rw [hz] at HNT
   clear hNT hz
   go_enter Try.func32, Try.ntmps32
   go_upto_region 1 with fail
   obtain ⟨wa, hwa, hW, hX⟩ := boxed w #[.int .i64 (L : Nat), .int .i64 (K.length : Nat), .slice A K.length c, .int .i64 (rest : Nat)] 24
   rw [hwa]
   clear hwa
   replace hA := hA.ext hW
   have q0 := obj_at hX 0 _ rfl
   have q1 := obj_at hX 1 _ rfl
   have q2 := obj_at hX 2 _ rfl
   have q3 := obj_at hX 3 _ rfl
   have ql := obj_lt hX
   have hWs := hW.size
   go_wp2_with (first
 | (go_at_call 66; refine (opened_ok L rest A K c Y T yc _ hd hA HLT.out HTT.out (hY.ext hW)).mono ?_; rintro e u1 ⟨B1, N1, S1, d1, B2, N2, S2, d2, rfl, hb1, hN10, hN20, h1, h2, hx12, hx21⟩; have hz1 := hb1.size; have hB1 : Below w.heap.size w u1 := below_step hW hb1 hWs)
 | (go_at_call 58; refine (many_any B2 N2 L rest A K c S2 T d2 _ h2.at_ h2.km).mono ?_; rintro e u2 ⟨rfl, hb2⟩; replace hb2 := ex_below hb2; rw [HNT.out]))
   go_ret2
   exact .inl ⟨hz0, rfl, below_step hB1 hb2 (by omega)⟩
 · have hz0 : (Tt.cnt L rest (K.zip T) (-1) 0) ≠ 0 := by rw [hNT]; exact hz
   have hzI : (((NT : Nat) : Int) == 0) = false := by simp; omega
   have HZ0 := hide hz0
   clear hNT hz hz0
   go_enter Try.func32, Try.ntmps32
   go_upto_region 1 with fail
   obtain ⟨wa, hwa, hW, hX⟩ := boxed w #[.int .i64 (L : Nat), .int .i64 (K.length : Nat), .slice A K.length c, .int .i64 (rest : Nat)] 24
   rw [hwa]
   clear hwa
   replace hA := hA.ext hW
   have q0 := obj_at hX 0 _ rfl
   have q1 := obj_at hX 1 _ rfl
   have q2 := obj_at hX 2 _ rfl
   have q3 := obj_at hX 3 _ rfl
   have ql := obj_lt hX
   have hWs := hW.size
   go_upto_region 7 with (first
 | (go_at_call 66; refine (opened_ok L rest A K c Y T yc _ hd hA HLT.out HTT.out (hY.ext hW)).mono ?_; rintro e u1 ⟨B1, N1, S1, d1, B2, N2, S2, d2, rfl, hb1, hN10, hN20, h1, h2, hx12, hx21⟩; have hz1 := hb1.size; have hB1 : Below w.heap.size w u1 := below_step hW hb1 hWs; have hX1 := hX.ext hb1; clear q0 q1 q2 q3; have q0 := obj_at hX1 0 _ rfl; have q1 := obj_at hX1 1 _ rfl; have q2 := obj_at hX1 2 _ rfl; have q3 := obj_at hX1 3 _ rfl; have hA1 := hA.ext hb1)
 | (go_at_call 58; refine (many_any B2 N2 L rest A K c S2 T d2 _ h2.at_ h2.km).mono ?_; rintro e u2 ⟨rfl, hb2⟩; replace hb2 := ex_below hb2; rw [HNT.out]; have hz2 := hb2.size; have hB2 := below_step hB1 hb2 (by omega); have hX2 := hX1.ext hb2; clear q0 q1 q2 q3; have q0 := obj_at hX2 0 _ rfl; have q1 := obj_at hX2 1 _ rfl; have q2 := obj_at hX2 2 _ rfl; have q3 := obj_at hX2 3 _ rfl; have hA2 := hA1.ext hb2))
   have hbz : BlkAt (u2.alloc (.cells (Array.replicate K.length (.int .i64 0)) 3)) u2.heap.size (List.replicate K.length (Value.int .i64 0)).toArray 3 := repl_new' _ _
   have hclr := clear_zeros hbz (by omega)
   have hbA : Below u2.heap.size u2 (u2.alloc (.cells (Array.replicate K.length (.int .i64 0)) 3)) := below_alloc (Below.refl _ _) (Nat.le_refl _) _
   have hBz := below_step hB2 hbA (by omega)
   have hX3 := hX2.ext hbA
   have hA3 := hA2.ext hbA
   have hY3 := (((hY.ext hW).ext hb1).ext hb2).ext hbA
   have hsz3 : u2.heap.size < (u2.alloc (.cells (Array.replicate K.length (.int .i64 0)) 3)).heap.size := by simp
   have hAB := hA2.blk (by rw [zs_len]; omega)
   have hYB := (((hY.ext hW).ext hb1).ext hb2).blk (by rw [zs_len, HLT.out]; omega)
   have hXl := obj_lt hX2
   obtain ⟨Ro, hRo⟩ : ∃ v, u2.heap.size = v := ⟨_, rfl⟩
   obtain ⟨Wz, hWz⟩ : ∃ v, (u2.alloc (.cells (Array.replicate K.length (.int .i64 0)) 3)) = v := ⟨_, rfl⟩
   rw [hWz] at hbz hclr hBz hX3 hA3 hY3 hsz3 ⊢
   rw [hRo] at hbz hclr hsz3 hAB hYB hXl ⊢
   have hwRo : w.heap.size ≤ Ro := by omega
   have HAB : Hid (∀ b o, A = some ⟨b, o, none⟩ → b ∉ [Ro]) := hide (fun b o e => by have := hAB b o e; simp; omega)
   have HYB : Hid (∀ b o, Y = some ⟨b, o, none⟩ → b ∉ [Ro]) := hide (fun b o e => by have := hYB b o e; simp; omega)
   clear hWz hRo hbA hX hX1 hX2 hA hA1 hA2 hY hb1 hb2 q0 q1 q2 q3 hAB hYB h1 h2
   go_wp2
   clear hclr hmk
   have hbz2 : BlkAt Wz Ro (outCs L rest K T 0 0) 3 := by
    unfold outCs
    rw [outL_zero]
    simpa [zs] using hbz
   clear hbz
   go_loopw [35] (fun i wr => ∃ p : Nat, p ≤ T.length ∧ i = .int .i64 (p : Nat) ∧ BlkAt wr Ro (outCs L rest K T p 0) 3 ∧ GX [Ro] Wz wr) (fun i _ => T.length - (intOf i).toNat)
   case atStart => exact ⟨0, Nat.zero_le _, rfl, hbz2, GX.refl _ _⟩
   case round =>
    obtain ⟨p, hp, rfl, hbo, hG⟩ := hrel
    have hzr := hG.size
    have hXr := hX3.gx hG (by simp; omega)
    have hYr := hY3.gx hG HYB.out
    have hBr := below_gx hBz hG (fun s h => by simp only [List.mem_singleton] at h; omega) hBz.size
    have q0 := obj_at hXr 0 _ rfl
    have ql := obj_lt hXr
    by_cases hlt : p < T.length
    · have hpi : (p : Int) < (T.length : Int) := by omega
      have hpK : p < K.length := by rw [← HLT.out]; exact hlt
      obtain ⟨yb, yo, rfl, hyb⟩ := hYr.form (by rw [zs_len]; omega)
      have ht := hYr.at0 hlt yb yo rfl
      have htp := HTT.out _ (List.getElem_mem hlt)
      have hgD : T.getD p 0 = T[p] := by simp [List.getD_eq_getElem?_getD, hlt]
      have HGD := hide hgD
      have ht64 : T[p] < 64 := by have := two_pow L hL6; omega
      clear hgD
      generalize T[p] = tp at *
      go_wp2
      obtain ⟨wo, hwo⟩ : ∃ v, wr = v := ⟨_, rfl⟩
      rw [hwo] at hzr hXr hYr hBr hbo hG q0 ql hyb ht ⊢
      clear hwo
      go_loopw [42] (fun i wr => ∃ cx : Nat, cx ≤ L ∧ i = .int .i64 (cx : Nat) ∧ BlkAt wr Ro (outCs L rest K T p cx) 3 ∧ GX [Ro] wo wr) (fun i _ => L - (intOf i).toNat)
      case atStart => exact ⟨0, Nat.zero_le _, rfl, hbo, GX.refl _ _⟩
      case round =>
       obtain ⟨cx, hcx, rfl, hbi, hH⟩ := hrel
       clear q0 ht
       have hzi := hH.size
       have hXi := hXr.gx hH (by simp; omega)
       have hYi := hYr.gx hH (fun b o e => HYB.out b o e)
       have hBi := below_gx hBr hH (fun s h => by simp only [List.mem_singleton] at h; omega) hBr.size
       have q0 := obj_at hXi 0 _ rfl
       have q1 := obj_at hXi 1 _ rfl
       have q2 := obj_at hXi 2 _ rfl
       have q3 := obj_at hXi 3 _ rfl
       have ql2 := obj_lt hXi
       have hbl := obj_lt hbi
       by_cases hcl : cx < L
       · have hci : (cx : Int) < (L : Int) := by omega
         have hbit := bBit tp ht64 cx (by omega)
         cases hbt : tp.testBit cx with
         | false =>
           rw [hbt] at hbit
           simp only [Bool.false_eq_true, if_false] at hbit
           have hsb : surB L rest K T p cx = false := by unfold surB; rw [HGD.out, hbt]; rfl
           have HSM := hide (congrArg (fun l => ((zs l).map (Value.int .i64)).toArray) (outL_same L rest K T p cx hsb))
           clear hsb hbt
           go_wp2
           exact ⟨⟨cx + 1, by omega, by go_num, by unfold outCs; rw [HSM.out]; exact hbi, hH⟩, by simp [intOf]; omega⟩
         | true =>
           rw [hbt] at hbit
           simp only [if_true] at hbit
           have h2c : 1 ≤ 2 ^ cx ∧ 2 ^ cx < 64 := ⟨Nat.one_le_two_pow, by have := Nat.pow_lt_pow_right (show 1 < 2 by omega) (show cx < 6 by omega); omega⟩
           have hokT : OkM L rest K (T.set p (2 ^ cx)) := hd.torn (by rw [List.length_set]; exact HLT.out) (fun t ht => by
            rcases List.mem_or_eq_of_mem_set ht with h | h
            · have := HOKT.2.2.2.2.2.2.1 t h; omega
            · omega)
           have HNEW := hide (fun (S : Option Addr) (w' : World) (hA : I64 w' A (zs K)) (hS : I64 w' S (zs (T.set p (2 ^ cx)))) => by
            have h := new_torn L rest A K c S (T.set p (2 ^ cx)) T.length w' hokT hA hS
            rw [List.length_set] at h
            exact h)
           have hAi := ((hA3.gx hG HAB.out).gx hH HAB.out)
           have hsN := surN_lt L rest K T p cx (by omega)
           have hsuc : ∀ b, decide (0 < Tt.cnt L rest (K.zip (T.set p (2 ^ cx))) (-1) 0) = b → surB L rest K T p cx = b := fun b hb => by unfold surB; rw [HGD.out, hbt, hb]; rfl
           have HSUC := hide hsuc
           have HSETZ : Hid ((zs T).set p (((2 ^ cx : Nat)) : Int) = zs (T.set p (2 ^ cx))) := hide (by simp [zs, List.map_set])
           have hs1 := (pow_wraps cx (by omega)).1
           have hor := bOr (surN L rest K T p cx) hsN cx (by omega)
           have HOR := hide hor
           have hoat := outCs_at L rest K T p cx hpK
           have HOST := hide (fun h => outCs_set L rest K T p cx h)
           have HOSM := hide (fun h => outL_same L rest K T p cx h)
           have hTC : p < (T.set p (2 ^ cx)).length := by rw [List.length_set]; exact hlt
           obtain ⟨CN, hCN⟩ : ∃ v, Tt.cnt L rest (K.zip (T.set p (2 ^ cx))) (-1) 0 = v := ⟨_, rfl⟩
           have HCN := hide hCN
           rw [hCN] at HSUC
           have hs2 := (pow_wraps cx (by omega)).2
           have HOK2 := hide hokT
           have HS1 := hide hs1
           have HS2 := hide hs2
           clear hs1 hs2
           clear hsuc hbt hor hCN hokT hTC
           generalize (2 ^ cx : Nat) = g at *
           go_upto_region 16 with fail
           have hbv : Below wr.heap.size wr (wr.alloc (.cells (Array.replicate T.length (.int .i64 0)) 3)) := below_alloc (Below.refl _ _) (Nat.le_refl _) _
           have HRW := hide (repl_new' wr T.length)
           have hsrc : ∀ j u, ((zs T).map (Value.int .i64))[j]? = some u → (wr.alloc (.cells (Array.replicate T.length (.int .i64 0)) 3)).cell? ((⟨yb, yo, none⟩ : Addr).add j) = some u := fun j u hu => by
            rw [List.getElem?_map] at hu
            cases hj : (zs T)[j]? with
            | none => rw [hj] at hu; cases hu
            | some x =>
              rw [hj] at hu
              obtain rfl := Option.some.inj hu
              rw [add_none]
              obtain ⟨hj1, hj2⟩ := List.getElem?_eq_some_iff.1 hj
              rw [← hj2]
              exact (hYi.ext hbv).at hj1
           have HSR := hide hsrc
           have HLN : Hid (((zs T).map (Value.int .i64)).length = Nat.min T.length T.length) := hide (by rw [List.length_map, zs_len]; show _ = min T.length T.length; omega)
           have HFI : Hid (0 + ((zs T).map (Value.int .i64)).length ≤ (List.replicate T.length (Value.int .i64 0)).length) := hide (by rw [List.length_map, zs_len, List.length_replicate]; omega)
           have HON : Hid (∀ u ∈ (zs T).map (Value.int .i64), u.oneCell' = true) := hide (fun u hu => by obtain ⟨x, _, rfl⟩ := List.mem_map.1 hu; rfl)
           have HSP : Hid (splice (List.replicate T.length (Value.int .i64 0)) 0 ((zs T).map (Value.int .i64)) = (zs T).map (Value.int .i64)) := hide (by
            unfold splice
            rw [List.take_zero, List.nil_append, List.drop_eq_nil_of_le (by rw [List.length_map, zs_len, List.length_replicate]; omega), List.append_nil])
           have hpz : p < (zs T).length := by rw [zs_len]; exact hlt
           have HPZ := hide (show (((zs T).map (Value.int .i64)).toArray)[p]? = some (.int .i64 ((zs T)[p]'hpz)) by simp [hpz])
           have HSZ2 : Hid ((((zs T).map (Value.int .i64)).toArray).setIfInBounds p (.int .i64 (g : Nat)) = ((zs (T.set p g)).map (Value.int .i64)).toArray) := hide (by rw [← HSETZ.out]; simp [List.map_set])
           clear hsrc HSETZ
           go_upto_region 17 with (with_reducible refine wpList_copy_splice rfl _ _ 22 22 rfl 3 und22' siz3' (some ⟨wr.heap.size, 0, none⟩) (some ⟨yb, yo, none⟩) T.length T.length T.length yc rfl rfl wr.heap.size 0 (List.replicate T.length (.int .i64 0)) 3 HRW.out ((zs T).map (Value.int .i64)) HLN.out (fun _ => ⟨rfl, _, rfl, HSR.out⟩) HFI.out HON.out wr.heap.size wr hbv (Nat.le_refl _) ?_; intro w3 HG3 hB3)
           rw [HSP.out] at HG3
           have hw3 := HG3.out
           have hRw3 : BlkAt w3 wr.heap.size (((zs T).map (Value.int .i64)).toArray) 3 := hw3
           have r0 := obj_at hRw3 p _ HPZ.out
           have rf := obj_fz hRw3 p
           have rl := obj_lt hRw3
           have hz3 := hB3.size
           have hXv := hXi.ext hB3
           have hAv := hAi.ext hB3
           have hbv2 := hbi.ext hB3
           have hBv := below_step hBi hB3 (by omega)
           obtain ⟨Rw, hRw⟩ : ∃ v, wr.heap.size = v := ⟨_, rfl⟩
           rw [hRw] at hRw3 r0 rf rl hz3 hzi ql2 hbl ⊢
           have hset : GX [Rw] w3 (w3.setCell ⟨Rw, p, none⟩ (.int .i64 (g : Nat))) := (GX.refl _ _).setCell _ _ (fun _ => by simp)
           have hRs : BlkAt (w3.setCell ⟨Rw, p, none⟩ (.int .i64 (g : Nat))) Rw (((zs (T.set p g)).map (Value.int .i64)).toArray) 3 := by
            have h := set_obj hRw3 p (.int .i64 (g : Nat))
            rw [HSZ2.out] at h
            exact h
           have hAB2 := hAi.blk (by rw [zs_len]; omega)
           rw [hRw] at hAB2
           have hXs := hXv.gx hset (by simp; omega)
           have hAs := hAv.gx hset (fun b o e => by have := hAB2 b o e; simp; omega)
           have hbs := hbv2.gx hset (by simp; omega)
           have hBs := below_gx hBv hset (fun s h => by simp only [List.mem_singleton] at h; omega) hBv.size
           have hIs : I64 (w3.setCell ⟨Rw, p, none⟩ (.int .i64 (g : Nat))) (some ⟨Rw, 0, none⟩) (zs (T.set p g)) := i64_block hRs
           have hH3 : GX [Ro] wo (w3.setCell ⟨Rw, p, none⟩ (.int .i64 (g : Nat))) := (hH.below hB3 (by rw [hRw]; exact hzi)).setCell _ _ (fun h => by simp at h; omega)
           have hs1 := HS1.out
           go_upto_region 18 with fail
           clear hs1
           obtain ⟨w4, hw4⟩ : ∃ v, (w3.setCell ⟨Rw, p, none⟩ (.int .i64 (g : Nat))) = v := ⟨_, rfl⟩
           have hsz4 : (w3.setCell ⟨Rw, p, none⟩ (.int .i64 (g : Nat))).heap.size = w3.heap.size := size_setCell _ _ _
           rw [hw4] at hset hRs hXs hAs hbs hBs hIs hH3 hsz4 ⊢
           clear hw4 hXv hAv hbv2 hBv q0 q1 q2 q3 r0 rf hw3 HG3 hRw3
           have q0 := obj_at hXs 0 _ rfl
           have q1 := obj_at hXs 1 _ rfl
           have q2 := obj_at hXs 2 _ rfl
           have q3 := obj_at hXs 3 _ rfl
           have qx := obj_lt hXs
           by_cases hc0 : 0 < CN
           · have hcI : (0 : Int) < (CN : Int) := by omega
             have hSB := HSUC.out true (by simpa using hc0)
             have HSB := hide hSB
             clear hSB hc0
             go_upto_region 19 with (first
 | (go_at_call 73; refine (HNEW.out (some ⟨Rw, 0, none⟩) _ hAs hIs).mono ?_; intro e w5 hn; obtain ⟨B3, M3, S3, d3, rfl, hb5, hB30, hM30, hm3⟩ := hn.mx HOK2.out; clear hn; have hz5 := hb5.size)
 | (go_at_call 58; refine (many_any B3 M3 L rest A K c S3 (T.set p g) d3 _ hm3.at_ hm3.km).mono ?_; rintro e w6 ⟨rfl, hb6⟩; replace hb6 := ex_below hb6; have hz6 := hb6.size; rw [HCN.out]))
             have hb46 : Below w4.heap.size w4 w6 := below_step hb5 hb6 hz5
             have hbo6 := hbs.ext hb46
             have o0 := obj_at hbo6 p _ hoat
             have ofz := obj_fz hbo6 p
             have ol := obj_lt hbo6
             generalize hsn : surN L rest K T p cx = sn at *
             have HSN := hide hsn
             have hor2 := HOR.out
             clear hsn
             have hs2 := HS2.out
             refine wp_region_grow_tail 8 (by kernel_rfl) (by kernel_rfl) ?_
             simp only [List.take_succ_cons, List.take_zero, List.drop_succ_cons, List.drop_zero]
             repeat (go_big_quiet_step (fail))
             refine wpQuiet_nil ?_
             clear hs2
             intro w7 hb7
             replace hb7 := ex_below hb7
             have hbo7 := hbo6.ext hb7
             have hz7 := hb7.size
             have o7 := obj_at hbo7 p _ hoat
             have of7 := obj_fz hbo7 p
             have ol7 := obj_lt hbo7
             go_wp2
             have hstep : BlkAt (w7.setCell ⟨Ro, p, none⟩ (.int .i64 ((sn ||| g : Nat) : Int))) Ro (outCs L rest K T p (cx + 1)) 3 := by
              have h := set_obj hbo7 p (.int .i64 ((sn ||| g : Nat) : Int))
              have h2 := HOST.out HSB.out
              rw [h2] at h
              exact h
             exact ⟨⟨cx + 1, by omega, by go_num, hstep, (hH3.below (below_step hb46 hb7 hb46.size) hH3.size).setCell _ _ (fun _ => by simp)⟩, by simp [intOf]; omega⟩
           · have hcI : ¬ ((0 : Int) < (CN : Int)) := by omega
             have hSB := HSUC.out false (by simpa using hc0)
             have HSM := hide (congrArg (fun l => ((zs l).map (Value.int .i64)).toArray) (HOSM.out hSB))
             clear hSB hc0
             go_wp2_with (first
 | (go_at_call 73; refine (HNEW.out (some ⟨Rw, 0, none⟩) _ hAs hIs).mono ?_; intro e w5 hn; obtain ⟨B3, M3, S3, d3, rfl, hb5, hB30, hM30, hm3⟩ := hn.mx HOK2.out; clear hn; have hz5 := hb5.size)
 | (go_at_call 58; refine (many_any B3 M3 L rest A K c S3 (T.set p g) d3 _ hm3.at_ hm3.km).mono ?_; rintro e w6 ⟨rfl, hb6⟩; replace hb6 := ex_below hb6; have hz6 := hb6.size; rw [HCN.out]))
             have hb46 : Below w4.heap.size w4 w6 := below_step hb5 hb6 hz5
             have hbo6 := hbs.ext hb46
             exact ⟨⟨cx + 1, by omega, by go_num, by unfold outCs; rw [HSM.out]; exact hbo6, hH3.below hb46 hH3.size⟩, by simp [intOf]; omega⟩
       · have hci : ¬ ((cx : Int) < (L : Int)) := by omega
         have hcn : cx = L := by omega
         have hbn : BlkAt wr Ro (outCs L rest K T (p + 1) 0) 3 := by
          have h := hbi
          rw [hcn] at h
          unfold outCs at h ⊢
          rw [← outL_next]
          exact h
         clear hcn
         go_wp2
         exact ⟨⟨p + 1, by omega, by go_num, hbn, hG.trans hH⟩, by simp [intOf]; omega⟩
    · have hpi : ¬ ((p : Int) < (T.length : Int)) := by omega
      have hpn : p = K.length := by rw [← HLT.out]; omega
      have hIr : I64 wr (some ⟨Ro, 0, none⟩) (zs (sureL L rest K T)) := by
       have h := hbo
       rw [hpn] at h
       unfold outCs at h
       rw [outL_end] at h
       exact i64_block h
      clear hpn
      go_wp2
      go_ret2
      exact .inr ⟨HZ0.out, Ro, rfl, hBr, hIr⟩
end Go.Proofs.Ytgjfejpibielaaa
namespace Go.Proofs.Ytgjfejpibielaaa
open Go.RowKit Go.Maps Go.Shelf
attribute [local go_sem] Oper.semAt_some World.cell?_setCell_far
theorem own_made (w : World) (cs : Array Value) (e : TypeId) (sz n : Nat) (hs : cs.size = n * sz) (hn : n ≤ maxLen) (base : Nat) (hb : base ≤ w.heap.size) : (w.alloc (.cells cs e)).ownsRow base e sz (.slice (some ⟨w.heap.size, 0, none⟩) n n) n cs.toList :=
 ⟨by rw [Array.length_toList]; exact hs, .inr ⟨w.heap.size, n, cs, rfl, hb, heap_alloc_new w _, Nat.le_refl _, hn, hs, List.take_of_length_le (by rw [Array.length_toList]; omega)⟩⟩
set_option maxRecDepth 100000 in
set_option maxHeartbeats 1000000 in
theorem less_any (x1 x2 y1 y2 : Nat) (w : World) : Calls Try.prog 91 #[.agg #[.int .i64 (x1 : Nat), .int .i64 (x2 : Nat)], .agg #[.int .i64 (y1 : Nat), .int .i64 (y2 : Nat)]] w (Gives w (.bool (decide (x2 < y2)))) := by
 go_enter Try.func91, Try.ntmps91
 go_wp2
 go_ret
 exact gives_of rfl (by (repeat (first | exact Below.refl _ _ | assumption | refine below_drewN ?_ _ | refine below_drew ?_ | refine below_gr ?_ ?_ _ | refine below_alloc ?_ ?_ _ | refine Below.setCell ?_ ?_ _ | refine below_step ?_ (by assumption) ?_ | omega | (simp only [zz] at *; omega))))
set_option maxRecDepth 100000 in
set_option maxHeartbeats 1000000 in
theorem least_any (A : Option Addr) (ps : List (Nat × Nat)) (c : Nat) (w : World) (hA : Rng w A (zr ps)) (hl : ps.length ≤ 1000) : Calls Try.prog 90 #[.slice A ps.length c, .func (.func 91) #[] #[]] w (Gives w (.int .i64 (Tt.leastI ps : Nat))) := by
 have hzl : (zr ps).length = ps.length := zr_len ps
 have HZL := hide hzl
 have HI := hide (show Tt.leastI ps = Tt.leastS ps ps.length from rfl)
 rw [HI.out]
 obtain ⟨R, hR⟩ : ∃ v, Tt.leastS ps ps.length = v := ⟨_, rfl⟩
 have HR := hide hR
 rw [hR]
 clear hR hzl
 go_enter Try.func90, Try.ntmps90
 go_wp2
 go_loopw [5, 10] (fun a i wr => ∃ k : Nat, k ≤ ps.length ∧ i = .int .i64 (k : Nat) ∧ a = .int .i64 (Tt.leastS ps k : Nat) ∧ Below w.heap.size w wr) (fun _ i _ => ps.length - (intOf i).toNat)
 case atStart => exact ⟨0, Nat.zero_le _, rfl, rfl, Below.refl _ _⟩
 case round =>
  obtain ⟨k, hk, rfl, rfl, hb⟩ := hrel
  have hzr := hb.size
  by_cases hlt : k < ps.length
  · have hki : (k : Int) < (ps.length : Int) := by omega
    have hrr : Rng wr A (zr ps) := Rd.ext hA hb
    obtain ⟨rb, ro, rfl, hrb⟩ := hrr.form (by rw [HZL.out]; omega)
    have hj := Tt.leastS_lt ps (by omega) k hk
    have hst := Tt.leastS_succ ps k
    obtain ⟨_, d0, d1⟩ := hrr.at (k := k) (by rw [HZL.out]; exact hlt)
    obtain ⟨_, e0, e1⟩ := hrr.at (k := Tt.leastS ps k) (by rw [HZL.out]; exact hj)
    have hze : (zr ps)[k]'(by rw [HZL.out]; exact hlt) = (((ps.getD k (0, 0)).1 : Int), ((ps.getD k (0, 0)).2 : Int)) := by unfold zr; simp [List.getD_eq_getElem?_getD, hlt]
    have hzf : (zr ps)[Tt.leastS ps k]'(by rw [HZL.out]; exact hj) = (((ps.getD (Tt.leastS ps k) (0, 0)).1 : Int), ((ps.getD (Tt.leastS ps k) (0, 0)).2 : Int)) := by unfold zr; simp [List.getD_eq_getElem?_getD, hj]
    rw [hze] at d0 d1
    rw [hzf] at e0 e1
    have HST := hide hst
    clear hze hzf hst
    generalize ps.getD k (0, 0) = x at *
    obtain ⟨x1, x2⟩ := x
    generalize hjj : Tt.leastS ps k = j at *
    generalize ps.getD j (0, 0) = y at *
    obtain ⟨y1, y2⟩ := y
    simp only at d0 d1 e0 e1 HST
    have hji : (j : Int) < (ps.length : Int) := by omega
    have hba : Below wr.heap.size wr (wr.alloc (.cells #[.int .i64 (x1 : Nat), .int .i64 (x2 : Nat)] 133)) := below_alloc (Below.refl _ _) (Nat.le_refl _) _
    have hX := heap_alloc_new wr (.cells #[.int .i64 (x1 : Nat), .int .i64 (x2 : Nat)] 133)
    go_upto_region 5 with fail
    obtain ⟨wb, hwb⟩ : ∃ v, (wr.alloc (.cells #[.int .i64 (x1 : Nat), .int .i64 (x2 : Nat)] 133)) = v := ⟨_, rfl⟩
    rw [hwb] at hba hX ⊢
    clear hwb
    replace hX : BlkAt wb wr.heap.size #[.int .i64 (x1 : Nat), .int .i64 (x2 : Nat)] 133 := hX
    have q0 := obj_at hX 0 _ rfl
    have q1 := obj_at hX 1 _ rfl
    have ql := obj_lt hX
    replace e0 := (hba.cell (p := ⟨rb, ro + j * 2, none⟩) hrb).trans e0
    replace e1 := (hba.cell (p := ⟨rb, ro + j * 2 + 1, none⟩) hrb).trans e1
    have hrb2 : rb < wb.heap.size := by have := hba.size; omega
    have hbw := below_step hb hba hzr
    clear d0 d1 hjj
    refine wp_region_grow (by kernel_rfl) (by kernel_rfl) ?_
    repeat (go_big_quiet_step ((go_at_call 91; exact Gives.quiet (less_any x1 x2 y1 y2 _))))
    refine wpQuiet_nil ?_
    intro w2 hb2
    replace hb2 := ex_below hb2
    by_cases hl : x2 < y2
    · have hlI : (x2 : Int) < (y2 : Int) := by omega
      rw [if_pos hl] at HST
      go_wp2
      exact ⟨⟨k + 1, by omega, by go_num, by rw [HST.out], below_step hbw hb2 hbw.size⟩, by simp [intOf]; omega⟩
    · have hlI : ¬ ((x2 : Int) < (y2 : Int)) := by omega
      rw [if_neg hl] at HST
      go_wp2
      exact ⟨⟨k + 1, by omega, by go_num, by rw [HST.out], below_step hbw hb2 hbw.size⟩, by simp [intOf]; omega⟩
  · have hki : ¬ ((k : Int) < (ps.length : Int)) := by omega
    have hkn : k = ps.length := by omega
    have hRR : ((Tt.leastS ps k : Nat) : Int) = (R : Nat) := by rw [hkn, HR.out]
    have HRR := hide hRR
    clear hRR hkn
    go_wp2
    go_ret
    exact gives_of (v_int HRR.out) hb
end Go.Proofs.Ytgjfejpibielaaa
