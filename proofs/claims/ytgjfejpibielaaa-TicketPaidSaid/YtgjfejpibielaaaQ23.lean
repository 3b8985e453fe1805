/- Proved here: Near; by which claim a number is held; the numbers that a claim has met; a counter in memory; paying a claim; the numbers that a claim can be paid for, a part of the proofs about the ticket laws. Conditions: those that each theorem names, no others. -/
import Derived.Test.YtgjfejpibielaaaQ22
import Derived.WalkKit
import Derived.WalkSpells
import Derived.WalkLawsBesides
import Derived.Below
import Derived.Deep.QuietTactic
import Derived.BigQuiet
import Derived.Deep.Light
import Derived.Test.YtgjfejpibielaaaQ05
set_option linter.unusedSimpArgs false
set_option linter.unusedVariables false
namespace Go.Proofs.Ytgjfejpibielaaa
open Go.RowKit Go.Maps Go.Shelf
attribute [local go_sem] Oper.semAt_some World.cell?_setCell_far
/-- in how many letters the nearest code differs, and that code, or the error -/
def nearV (L rest : Nat) (K : List Nat) (s : ByteArray) : Value :=
 if isW L K.length s = false then .tuple #[.int .i64 0, .string ⟨#[]⟩, .int .i64 8] else if (Tt.cnt L rest (K.zip (Tt.fulls L K.length)) (-1) 0) = 0 then .tuple #[.int .i64 0, .string ⟨#[]⟩, .int .i64 5]
 else .tuple #[.int .i64 ((Tt.bestA L rest (K.zip (Tt.fulls L K.length)) (-1) 0 (lw s)).2 : Nat), .string (strW (Tt.nearA L rest (K.zip (Tt.fulls L K.length)) (-1) 0 (lw s))), .int .i64 0]
set_option maxRecDepth 100000 in
set_option maxHeartbeats 4000000 in
theorem Near_ok (L rest : Nat) (A : Option Addr) (K : List Nat) (c : Nat) (s : ByteArray) (w : World) (hd : OkD L rest K) (hA : I64 w A (zs K)) : Calls Try.prog 35 #[.agg #[.int .i64 (L : Nat), .int .i64 (K.length : Nat), .slice A K.length c, .int .i64 (rest : Nat)], .string s] w (Gives w (nearV L rest K s)) := by
 have hn8 := hd.2.2.2.1
 have hn2 := hd.2.2.1
 have hL6 := hd.2.1
 have HIW := hide (fun w' (h : I64 w' A (zs K)) => isWord_any L rest A K c s w' hd h)
 unfold nearV
 cases hw : isW L K.length s with
 | false =>
   rw [hw] at HIW
   rw [if_pos rfl]
   clear hw
   go_enter Try.func35, Try.ntmps35
   go_upto_region 1 with fail
   obtain ⟨wa, hwa, hW, hX⟩ := boxed w #[.int .i64 (L : Nat), .int .i64 (K.length : Nat), .slice A K.length c, .int .i64 (rest : Nat)] 24
   rw [hwa]
   clear hwa
   replace hA := hA.ext hW
   have q0 := obj_at hX 0 _ rfl
   have q1 := obj_at hX 1 _ rfl
   have q2 := obj_at hX 2 _ rfl
   have q3 := obj_at hX 3 _ rfl
   have ql := obj_lt hX
   have hWs := hW.size
   go_wp2_with (first
 | (go_at_call 57; refine (open_ok L rest A K c _ hd hA).mono ?_; rintro e u1 ⟨B, M, S, d, rfl, hb1, hB0, hM0, hm⟩; have hz1 := hb1.size; have hB1 : Below w.heap.size w u1 := below_step hW hb1 hWs; have hX1 := hX.ext hb1; clear q0 q1 q2 q3; have q0 := obj_at hX1 0 _ rfl; have q1 := obj_at hX1 1 _ rfl; have q2 := obj_at hX1 2 _ rfl; have q3 := obj_at hX1 3 _ rfl; have hA1 := hA.ext hb1)
 | (go_at_call 61; refine (HIW.out _ hA1).mono ?_; rintro e u2 ⟨rfl, hb2⟩; replace hb2 := ex_below hb2; have hz2 := hb2.size; replace hm := hm.ext hb2; have hB2 := below_step hB1 hb2 (by omega)))
   go_ret3
   exact gives_of rfl hB2
 | true =>
   rw [hw] at HIW
   rw [if_neg (by simp)]
   obtain ⟨hs, hwl, hwL⟩ := isW_lw hw
   generalize lw s = ws at *
   subst hs
   clear hw
   have HWL := hide hwl
   have HLT := hide hwL
   clear hwl hwL
   obtain ⟨N, hN⟩ : ∃ v, (Tt.cnt L rest (K.zip (Tt.fulls L K.length)) (-1) 0) = v := ⟨_, rfl⟩
   have HNF := hide hN
   rw [hN]
   clear hN
   by_cases h0 : N = 0
   · rw [if_pos h0]
     have h00 : ((N : Int) == 0) = true := by simp [h0]
     have h01 : (N : Int) = 0 := by omega
     go_enter Try.func35, Try.ntmps35
     go_upto_region 1 with fail
     obtain ⟨wa, hwa, hW, hX⟩ := boxed w #[.int .i64 (L : Nat), .int .i64 (K.length : Nat), .slice A K.length c, .int .i64 (rest : Nat)] 24
     rw [hwa]
     clear hwa
     replace hA := hA.ext hW
     have q0 := obj_at hX 0 _ rfl
     have q1 := obj_at hX 1 _ rfl
     have q2 := obj_at hX 2 _ rfl
     have q3 := obj_at hX 3 _ rfl
     have ql := obj_lt hX
     have hWs := hW.size
     go_wp2_with (first
 | (go_at_call 57; refine (open_ok L rest A K c _ hd hA).mono ?_; rintro e u1 ⟨B, M, S, d, rfl, hb1, hB0, hM0, hm⟩; have hz1 := hb1.size; have hB1 : Below w.heap.size w u1 := below_step hW hb1 hWs; have hX1 := hX.ext hb1; clear q0 q1 q2 q3; have q0 := obj_at hX1 0 _ rfl; have q1 := obj_at hX1 1 _ rfl; have q2 := obj_at hX1 2 _ rfl; have q3 := obj_at hX1 3 _ rfl; have hA1 := hA.ext hb1)
 | (go_at_call 61; refine (HIW.out _ hA1).mono ?_; rintro e u2 ⟨rfl, hb2⟩; replace hb2 := ex_below hb2; have hz2 := hb2.size; replace hm := hm.ext hb2; have hB2 := below_step hB1 hb2 (by omega))
 | (go_at_call 58; refine (many_any B M L rest A K c S (Tt.fulls L K.length) d _ hm.at_ hm.km).mono ?_; rintro e u3 ⟨rfl, hb3⟩; replace hb3 := ex_below hb3; have hz3 := hb3.size; replace hm := hm.ext hb3; have hB3 := below_step hB2 hb3 (by omega); rw [HNF.out]))
     go_ret3
     exact gives_of rfl hB3
   · rw [if_neg h0]
     have h00 : ((N : Int) == 0) = false := by simp [h0]
     have h01 : ¬ (N : Int) = 0 := by omega
     go_enter Try.func35, Try.ntmps35
     go_upto_region 1 with fail
     obtain ⟨wa, hwa, hW, hX⟩ := boxed w #[.int .i64 (L : Nat), .int .i64 (K.length : Nat), .slice A K.length c, .int .i64 (rest : Nat)] 24
     rw [hwa]
     clear hwa
     replace hA := hA.ext hW
     have q0 := obj_at hX 0 _ rfl
     have q1 := obj_at hX 1 _ rfl
     have q2 := obj_at hX 2 _ rfl
     have q3 := obj_at hX 3 _ rfl
     have ql := obj_lt hX
     have hWs := hW.size
     go_wp2_with (first
 | (go_at_call 57; refine (open_ok L rest A K c _ hd hA).mono ?_; rintro e u1 ⟨B, M, S, d, rfl, hb1, hB0, hM0, hm⟩; have hz1 := hb1.size; have hB1 : Below w.heap.size w u1 := below_step hW hb1 hWs; have hX1 := hX.ext hb1; clear q0 q1 q2 q3; have q0 := obj_at hX1 0 _ rfl; have q1 := obj_at hX1 1 _ rfl; have q2 := obj_at hX1 2 _ rfl; have q3 := obj_at hX1 3 _ rfl; have hA1 := hA.ext hb1)
 | (go_at_call 61; refine (HIW.out _ hA1).mono ?_; rintro e u2 ⟨rfl, hb2⟩; replace hb2 := ex_below hb2; have hz2 := hb2.size; replace hm := hm.ext hb2; have hB2 := below_step hB1 hb2 (by omega))
 | (go_at_call 58; refine (many_any B M L rest A K c S (Tt.fulls L K.length) d _ hm.at_ hm.km).mono ?_; rintro e u3 ⟨rfl, hb3⟩; replace hb3 := ex_below hb3; have hz3 := hb3.size; replace hm := hm.ext hb3; have hB3 := below_step hB2 hb3 (by omega); rw [HNF.out])
 | (go_at_call 74; refine (nearest_any B M L rest A K c S (Tt.fulls L K.length) d _ ws _ hm HWL.out HLT.out).mono ?_; rintro e u4 ⟨rfl, hg4, hk4⟩))
     go_ret3
     exact gives_of rfl (below_far hB3 hg4 (by omega) (by omega))
end Go.Proofs.Ytgjfejpibielaaa
namespace Go.Proofs.Ytgjfejpibielaaa
open Go.RowKit Go.Maps Go.Shelf
attribute [local go_sem] Oper.semAt_some World.cell?_setCell_far
/-- by which claim a number is held, or -1 -/
def holderI (p : List Int) (x : Int) : Int := match Tt.holder p x with
 | some h => (h : Nat)
 | none => -1
set_option maxRecDepth 100000 in
set_option maxHeartbeats 1000000 in
theorem holder_any (C : Nat) (v0 v1 v2 v3 : Value) (A : Option Addr) (p : List Int) (pc : Nat) (x : Int) (w : World) (hC : BlkAt w C #[v0, v1, v2, v3, .slice A p.length pc] 116) (hA : I64 w A p) (hp : p.length ≤ 1000000) :
 Calls Try.prog 93 #[.pointer (some ⟨C, 0, none⟩), .int .i64 x] w (Gives w (.int .i64 (holderI p x))) := by
 obtain ⟨R, hR⟩ : ∃ v, holderI p x = v := ⟨_, rfl⟩
 have HR := hide hR
 rw [hR]
 clear hR
 have hq := obj_at hC 4 _ rfl
 have hl := obj_lt hC
 go_enter Try.func93, Try.ntmps93
 go_wp2
 go_loopw [12] (fun i wr => ∃ k : Nat, k ≤ p.length ∧ i = .int .i64 (k : Nat) ∧ Hid (∀ j, (h : j < p.length) → j < k → p[j] ≠ x) ∧ wr = w) (fun i _ => p.length - (intOf i).toNat)
 case atStart => exact ⟨0, Nat.zero_le _, rfl, hide (fun j h hj => by omega), rfl⟩
 case round =>
  obtain ⟨k, hk, rfl, HN, rfl⟩ := hrel
  by_cases hlt : k < p.length
  · have hki : (k : Int) < (p.length : Int) := by omega
    obtain ⟨b, o, rfl, hb⟩ := hA.form (by omega)
    have hat := hA.at hlt
    by_cases hx : p[k] = x
    · have hRk : R = (k : Nat) := by
       rw [← HR.out]
       unfold holderI
       rw [show Tt.holder p x = some k from List.findIdx?_eq_some_iff_getElem.2 ⟨hlt, by simpa using hx, fun j hj => by simpa using HN.out j (by omega) hj⟩]
      generalize p[k] = y at *
      have hyI : (y == x) = true := by simpa using hx
      have HRK := hide hRk
      clear hRk
      go_wp2
      go_ret
      exact gives_of (by rw [HRK.out]; rfl) (Below.refl _ _)
    · have HNX : Hid (∀ j, (h : j < p.length) → j < k + 1 → p[j] ≠ x) := hide (fun j h hj => by
       by_cases e : j = k
       · subst e; exact hx
       · exact HN.out j h (by omega))
      generalize p[k] = y at *
      have hyI : (y == x) = false := by simpa using hx
      go_wp2
      exact ⟨⟨k + 1, by omega, by go_num, HNX, trivial⟩, by simp [intOf]; omega⟩
  · have hki : ¬ ((k : Int) < (p.length : Int)) := by omega
    have hRm : R = -1 := by
     rw [← HR.out]
     unfold holderI
     rw [show Tt.holder p x = none from List.findIdx?_eq_none_iff.2 (fun y hy => by
      obtain ⟨j, hj, rfl⟩ := List.getElem_of_mem hy
      simpa using HN.out j hj (by omega))]
    have HRM := hide hRm
    clear hRm
    go_wp2
    go_ret
    exact gives_of (by rw [HRM.out]; rfl) (Below.refl _ _)
end Go.Proofs.Ytgjfejpibielaaa
namespace Go.Proofs.Ytgjfejpibielaaa
open Go.RowKit Go.Maps Go.Shelf
attribute [local go_sem] Oper.semAt_some World.cell?_setCell_far
theorem und148 : Try.prog.underlying 148 = some (.map 2 3) := by kernel_rfl
theorem lawI : Keyed Try.prog 2 := int_keyed Try.underlying2
theorem wfI_wide {n : Int} (h : -1 ≤ n ∧ n ≤ 1000000000) : wfI n := WalkArith.wf_i64 (by omega)
theorem keyI {n : Int} (h : wfI n) : ∃ kl, keyOf Try.prog 2 (.int .i64 n) = some kl := by
 unfold wfI at h
 simp [keyOf, mapKey, Try.underlying2, h]
theorem KMap.mono {k : TypeId} {b : Nat} {good g2 : Value → Value → Prop} {must : Value → Prop} {w : World} (h : KMap k b good must w) (hg : ∀ x y, good x y → g2 x y) : KMap k b g2 must w := by
 obtain ⟨l, h, hl, hu⟩ := h
 exact ⟨l, h, fun x hx => by obtain ⟨key, v, h1, h2, h3⟩ := hl x hx; exact ⟨key, v, h1, h2, hg _ _ h3⟩, hu⟩
/-- a map that holds 1 under each number of a list, and nothing else -/
def goodN (seen : List Int) (k v : Value) : Prop := ∃ x, k = .int .i64 x ∧ v = .int .i64 1 ∧ x ∈ seen
def SeenAt (w : World) (b : Nat) (seen : List Int) : Prop := KMap 2 b (goodN seen) (fun k => ∃ x, x ∈ seen ∧ k = .int .i64 x) w
theorem seen_made (w : World) : SeenAt (w.alloc (.map #[] 0)) w.heap.size [] := (KMap.made w 2 (goodN [])).weaken (fun x h => by obtain ⟨y, hy, _⟩ := h; cases hy)
theorem seen_look {w : World} {b : Nat} {seen : List Int} (h : SeenAt w b seen) {x : Int} (hx : -1 ≤ x ∧ x ≤ 1000000000) : ∀ w' : World, w'.heap[b]? = w.heap[b]? → (Instr.lookup 148 (.map (some b)) (.int .i64 x) false).run Try.prog w' = .ok (.int .i64 (if x ∈ seen then 1 else 0)) w' := by
 obtain ⟨kl, hkl⟩ := keyI (wfI_wide hx)
 rcases KMap.look1 h lawI und148 zero3 hkl with ⟨v, ⟨y, h1, h2, h3⟩, hr⟩ | ⟨hn, hr⟩
 · have hy : x = y := by injection h1
   subst hy
   rw [if_pos h3]
   rw [h2] at hr
   exact hr
 · rw [if_neg (fun hm => hn ⟨x, hm, rfl⟩)]
   exact hr
theorem seen_put {w : World} {b : Nat} {seen : List Int} (h : SeenAt w b seen) {x : Int} (hx : -1 ≤ x ∧ x ≤ 1000000000) (hl : seen.length < 1000000) : ∃ w', (Instr.mapUpdate 148 (.map (some b)) (.int .i64 x) (.int .i64 1)).run Try.prog w = .ok () w' ∧ SeenAt w' b (x :: seen) ∧ w.grownBy w' (some b) := by
 obtain ⟨kl, hkl⟩ := keyI (wfI_wide hx)
 have hfin : Finite 2 (goodN (x :: seen)) := finite_of ((x :: seen).map fun y => .int .i64 y) (by simp; omega) (by
  rintro key v ⟨y, rfl, _, hy⟩
  exact List.mem_map.2 ⟨y, hy, rfl⟩)
 have h2 : KMap 2 b (goodN (x :: seen)) (fun k => ∃ x, x ∈ seen ∧ k = .int .i64 x) w := KMap.mono h (fun k v hg => by
  obtain ⟨y, h1, h2, h3⟩ := hg
  exact ⟨y, h1, h2, List.mem_cons_of_mem _ h3⟩)
 obtain ⟨w', h1, h3, h4⟩ := h2.put lawI und148 hfin hkl (⟨x, rfl, rfl, List.mem_cons_self ..⟩ : goodN (x :: seen) (.int .i64 x) (.int .i64 1))
 refine ⟨w', h1, h3.weaken (fun k hk => ?_), h4⟩
 obtain ⟨y, hy, rfl⟩ := hk
 rcases List.mem_cons.1 hy with rfl | hy
 · exact .inr rfl
 · exact .inl ⟨y, hy, rfl⟩
end Go.Proofs.Ytgjfejpibielaaa
namespace Go.Proofs.Ytgjfejpibielaaa
open Go.RowKit Go.Maps Go.Shelf
attribute [local go_sem] Oper.semAt_some World.cell?_setCell_far
/-- a row of numbers of the call's own, that may be written -/
def P64 (w : World) (Pb Po : Nat) (p : List Int) : Prop := ∃ cs, BlkAt w Pb cs 2 ∧ ∀ j y, p[j]? = some y → cs[Po + j]? = some (.int .i64 y)
theorem P64.i64 {w : World} {Pb Po : Nat} {p : List Int} (h : P64 w Pb Po p) : I64 w (some ⟨Pb, Po, none⟩) p := fun j x hj => by
 obtain ⟨cs, hb, hc⟩ := h
 exact ⟨Pb, Po, rfl, obj_lt hb, Nat.le_of_lt (obj_lt hb), obj_at hb _ _ (hc j x hj)⟩
theorem P64.lt {w : World} {Pb Po : Nat} {p : List Int} (h : P64 w Pb Po p) : Pb < w.heap.size := by obtain ⟨cs, hb, hc⟩ := h; exact obj_lt hb
theorem P64.fz {w : World} {Pb Po : Nat} {p : List Int} (h : P64 w Pb Po p) (k : Nat) : w.frozen? ⟨Pb, k, none⟩ = false := by obtain ⟨cs, hb, hc⟩ := h; exact obj_fz hb k
theorem P64.at {w : World} {Pb Po : Nat} {p : List Int} (h : P64 w Pb Po p) {k : Nat} (hk : k < p.length) : w.cell? ⟨Pb, Po + k, none⟩ = some (.int .i64 p[k]) := h.i64.at hk
theorem P64.set {w : World} {Pb Po : Nat} {p : List Int} (h : P64 w Pb Po p) {k : Nat} (hk : k < p.length) (y : Int) : P64 (w.setCell ⟨Pb, Po + k, none⟩ (.int .i64 y)) Pb Po (p.set k y) := by
 obtain ⟨cs, hb, hc⟩ := h
 refine ⟨_, set_obj hb (Po + k) _, fun j x hj => ?_⟩
 have hjl : j < p.length := by
  have := (List.getElem?_eq_some_iff.1 hj).1
  rwa [List.length_set] at this
 have hcl := (Array.getElem?_eq_some_iff.1 (hc k p[k] (by simp [hk]))).1
 rw [Array.getElem?_setIfInBounds]
 by_cases e : j = k
 · subst e
   rw [if_pos rfl, if_pos hcl]
   rw [List.getElem?_set_self hjl] at hj
   rw [Option.some.inj hj]
 · rw [if_neg (by omega)]
   rw [List.getElem?_set_ne (fun e2 => e e2.symm)] at hj
   exact hc j x hj
theorem P64.ext {w w' : World} {Pb Po : Nat} {p : List Int} (h : P64 w Pb Po p) (hb : Below w.heap.size w w') : P64 w' Pb Po p := by
 obtain ⟨cs, h1, hc⟩ := h
 exact ⟨cs, h1.ext hb, hc⟩
theorem P64.gx {S : List Nat} {w w' : World} {Pb Po : Nat} {p : List Int} (h : P64 w Pb Po p) (g : GX S w w') (hr : Pb ∉ S) : P64 w' Pb Po p := by
 obtain ⟨cs, h1, hc⟩ := h
 exact ⟨cs, h1.gx g hr, hc⟩
/-- a counter in memory: whom the numbers can pay, and whom they pay -/
structure CountAt (w : World) (C : Nat) (v0 v1 v2 : Value) (Ac : Option Addr) (rows : List LRow) (cc Pb Po : Nat) (p : List Int) (pc : Nat) : Prop where
 c : BlkAt w C #[v0, v1, v2, .slice Ac rows.length cc, .slice (some ⟨Pb, Po, none⟩) p.length pc] 116
 can : Lst w Ac rows
 paid : P64 w Pb Po p
/-- what may not turn while a claim is paid -/
def FarC (C : Nat) (Ac : Option Addr) (rows : List LRow) (Pb Ms : Nat) : Prop :=
 (C ∉ [Pb, Ms] ∧ Pb ≠ Ms) ∧ (∀ b o, Ac = some ⟨b, o, none⟩ → b ∉ [Pb, Ms]) ∧ ∀ r, r ∈ rows → ∀ b o, r.1 = some ⟨b, o, none⟩ → b ∉ [Pb, Ms]
theorem CountAt.gx {w w' : World} {C : Nat} {v0 v1 v2 : Value} {Ac : Option Addr} {rows : List LRow} {cc Pb Po : Nat} {p q : List Int} {pc Ms : Nat} (h : CountAt w C v0 v1 v2 Ac rows cc Pb Po p pc) (g : GX [Pb, Ms] w w') (hf : FarC C Ac rows Pb Ms) (hq : P64 w' Pb Po q) (hl : q.length = p.length) : CountAt w' C v0 v1 v2 Ac rows cc Pb Po q pc :=
 ⟨by rw [hl]; exact h.c.gx g hf.1.1, ⟨Rd.gx h.can.1 g hf.2.1, fun r hr => (h.can.2 r hr).gx g (hf.2.2 r hr)⟩, hq⟩
end Go.Proofs.Ytgjfejpibielaaa
namespace Go.Proofs.Ytgjfejpibielaaa
open Go.RowKit Go.Maps Go.Shelf
attribute [local go_sem] Oper.semAt_some World.cell?_setCell_far
/-- what paying comes to -/
def PaidP (w : World) (Pb Po Ms n : Nat) (R : Bool × List Int × List Int) (e : Ending) (w' : World) : Prop :=
 e = .returned (.bool R.1) ∧ GX [Pb, Ms] w w' ∧ P64 w' Pb Po R.2.2 ∧ R.2.2.length = n ∧ SeenAt w' Ms R.2.1
set_option maxRecDepth 100000 in
set_option maxHeartbeats 2000000 in
theorem pay_step (C : Nat) (v0 v1 v2 : Value) (Ac : Option Addr) (rows : List LRow) (cc Pb Po pc Ms : Nat) (hf : FarC C Ac rows Pb Ms) (hb : ∀ r, r ∈ rows → ∀ x, x ∈ r.2.1 → 0 ≤ x ∧ x ≤ 1000000000) (hsz : (rows.map fun r => r.2.1).flatten.length < 1000000) (hrl : rows.length ≤ 100000) (f : Nat)
 (ih : ∀ n seen p w, Tt.PayPre (rows.map fun r => r.2.1) f n seen p → CountAt w C v0 v1 v2 Ac rows cc Pb Po p pc → SeenAt w Ms seen → Calls Try.prog 97 #[.pointer (some ⟨C, 0, none⟩), .int .i64 (n : Nat), .map (some Ms)] w (PaidP w Pb Po Ms rows.length (Tt.payF (rows.map fun r => r.2.1) f n seen p))) :
 ∀ n seen p w, Tt.PayPre (rows.map fun r => r.2.1) (f + 1) n seen p → CountAt w C v0 v1 v2 Ac rows cc Pb Po p pc → SeenAt w Ms seen → Calls Try.prog 97 #[.pointer (some ⟨C, 0, none⟩), .int .i64 (n : Nat), .map (some Ms)] w (PaidP w Pb Po Ms rows.length (Tt.payF (rows.map fun r => r.2.1) (f + 1) n seen p)) := by
 have hpos : ∀ n, ∀ x, x ∈ (rows.map fun r => r.2.1).getD n [] → x ≠ -1 := fun n x hx => by
  rw [List.getD_eq_getElem?_getD, List.getElem?_map] at hx
  cases hc : rows[n]? with
  | none => rw [hc] at hx; cases hx
  | some r => rw [hc] at hx; have := hb r (List.mem_of_getElem? hc) x hx; omega
 intro n seen p w hq hC hS
 obtain ⟨R, hR⟩ : ∃ v, Tt.payF (rows.map fun r => r.2.1) (f + 1) n seen p = v := ⟨_, rfl⟩
 rw [hR]
 have hnr : n < rows.length := by simpa using hq.lt
 have hpl : p.length = rows.length := by simpa using hq.pay.len
 have hgd : (rows.map fun r => r.2.1).getD n [] = (rows[n]).2.1 := by
  rw [List.getD_eq_getElem?_getD, List.getElem?_map, List.getElem?_eq_getElem hnr]
  rfl
 rw [Tt.payF, hgd] at hR
 have hrm := List.getElem_mem hnr
 obtain ⟨ab, ao, hae, hab, hac⟩ := hC.can.1.2 (by omega)
 subst hae
 have hrow := hac n (cellL rows[n]) (by rw [List.getElem?_map, List.getElem?_eq_getElem hnr]; rfl)
 have hrI := hC.can.2 _ hrm
 have hrF := hf.2.2 _ hrm
 have hbx := hide (hb _ hrm)
 have HGD := hide hgd
 have HPL := hide hpl
 have HR := hide hR
 have hxl : (rows[n]).2.1.length < 1000000 := by
  have h1 : (rows[n]).2.1 ∈ (rows.map fun r => r.2.1) := List.mem_map.2 ⟨_, hrm, rfl⟩
  have h2 := (List.sublist_flatten_of_mem h1).length_le
  omega
 obtain ⟨rw_, hrw⟩ : ∃ v, rows[n] = v := ⟨_, rfl⟩
 rw [hrw] at hrow hrI hrF hbx HGD HR hrm hxl
 clear hrw
 obtain ⟨rA, rx, rc⟩ := rw_
 unfold cellL at hrow
 dsimp only at hrow hrI hrF hbx HGD HR hxl
 have c3 := obj_at hC.c 3 _ rfl
 have cl := obj_lt hC.c
 have hnI : (n : Int) < (rows.length : Int) := by omega
 clear hR hgd hpl hac
 go_enter Try.func97, Try.ntmps97
 go_wp2
 go_loopw [18] (fun i wr => ∃ (k : Nat) (sn : List Int), k ≤ rx.length ∧ i = .int .i64 (k : Nat) ∧ Hid (Tt.payS (Tt.payF (rows.map fun r => r.2.1) f) n (rx.drop k) sn p = R) ∧ Tt.PayPre (rows.map fun r => r.2.1) (f + 1) n sn p ∧ CountAt wr C v0 v1 v2 (some ⟨ab, ao, none⟩) rows cc Pb Po p pc ∧ SeenAt wr Ms sn ∧ GX [Pb, Ms] w wr) (fun i _ => rx.length - (intOf i).toNat)
 case atStart => exact ⟨0, seen, Nat.zero_le _, rfl, HR, hq, hC, hS, GX.refl _ _⟩
 case round =>
  obtain ⟨k, sn, hk, rfl, HS, hq2, hC2, hS2, hG⟩ := hrel
  by_cases hlt : k < rx.length
  · have hki : (k : Int) < (rx.length : Int) := by omega
    have hxm := List.getElem_mem hlt
    have hrI2 := hC2.can.2 _ hrm
    dsimp only at hrI2
    obtain ⟨b1, o1, rfl, hb1⟩ := hrI2.form (by omega)
    have hcx := hrI2.at hlt
    have hxb := hbx.out _ hxm
    have hlk := seen_look hS2 (x := rx[k]) (by omega) wr rfl
    have hps := HS.out
    rw [List.drop_eq_getElem_cons hlt, Tt.payS] at hps
    obtain ⟨x, hx⟩ : ∃ v, rx[k] = v := ⟨_, rfl⟩
    rw [hx] at hxm hcx hxb hlk hps
    clear hx hrI2 HS
    by_cases hs : x ∈ sn
    · rw [if_pos hs] at hlk hps
      have HPS := hide hps
      have HQ2 := hide hq2
      have HC2 := hide hC2
      have HS2 := hide hS2
      clear hps hs hq2 hC2 hS2 hq hC hS ih hf hb hsz hrF hrI hrow
      go_wp2
      exact ⟨⟨k + 1, sn, by omega, by go_num, HPS, HQ2.out, HC2.out, HS2.out, hG⟩, by simp [intOf]; omega⟩
    · rw [if_neg hs] at hlk hps
      have hsl : sn.length < 1000000 := by
       have := Tt.nodup_le hq2.nd hq2.sub
       omega
      obtain ⟨w2, hput, hS3, hg2⟩ := seen_put hS2 (x := x) (by omega) hsl
      have hz2 := hg2.size
      have g2 : GX [Pb, Ms] wr w2 := (GX.refl _ _).grown hg2 (fun r e _ => by rw [← Option.some.inj e]; simp)
      have hG2 : GX [Pb, Ms] w w2 := hG.trans g2
      have hpc : P64 w2 Pb Po p := by
       obtain ⟨cs, hb1, hc1⟩ := hC2.paid
       exact ⟨cs, (hg2.block Pb (obj_lt hb1) (fun e => hf.1.2 (Option.some.inj e))).trans hb1, hc1⟩
      have hC3 := hC2.gx g2 hf hpc rfl
      have hxg : x ∈ (rows.map fun r => r.2.1).getD n [] := by rw [HGD.out]; exact hxm
      have hx1 : x ≠ -1 := by omega
      have hnp : n < p.length := by rw [HPL.out]; exact hnr
      have hnpI : (n : Int) < (p.length : Int) := by omega
      have hp6 : p.length ≤ 100000 := by rw [HPL.out]; exact hrl
      cases hh : Tt.holder p x with
      | none =>
        rw [hh] at hps
        have HPS := hide hps
        have HH : Hid (holderI p x = -1) := hide (by unfold holderI; rw [hh])
        have HF := hide hf
        have HS3 := hide hS3
        clear hps hs hq2 hC2 hS2 hq hC hS ih hb hsz hrF hrI hrow hh hS3 hpc hG hg2
        go_wp2_with (go_at_call 93; refine (holder_any C v0 v1 v2 _ (some ⟨Pb, Po, none⟩) p pc x _ hC3.c hC3.paid.i64 (by rw [HPL.out]; omega)).mono ?_; rintro e w3 ⟨rfl, hb3⟩; replace hb3 := ex_below hb3; rw [HH.out]; have hz3 := hb3.size; have hC4 := hC3.gx ((GX.refl _ _).below hb3 (Nat.le_refl _)) hf (hC3.paid.ext hb3) rfl; have hS4 : SeenAt w3 Ms (x :: sn) := KMap.below HS3.out hb3; have hG4 : GX [Pb, Ms] w w3 := hG2.below hb3 hG2.size; have d4 := obj_at hC4.c 4 _ rfl; have dl := obj_lt hC4.c; have dp := hC4.paid.at hnp; have df := hC4.paid.fz (Po + n); have dpl := hC4.paid.lt)
        go_ret
        exact ⟨by rw [← HPS.out]; rfl, hG4.setCell _ _ (fun _ => by simp), by rw [← HPS.out]; exact hC4.paid.set hnp x, by rw [← HPS.out, List.length_set]; exact HPL.out, by rw [← HPS.out]; exact KMap.gx hS4 ((GX.refl [Pb] _).setCell _ _ (fun _ => by simp)) (by simp; exact fun e => HF.out.1.2 e.symm)⟩
      | some h =>
        have hgl := (Tt.holder_some hh).2
        have hin := hq2.inner hxg hs hx1 hh
        have HPO := hide hpos
        have hrl6 : rows.length ≤ 100000 := hrl
        have HNX := hide (fun s q => hq2.next HPO.out hxg hs hh (s := s) (q := q))
        have HIH := hide (fun w' => ih h (x :: sn) p w' hin)
        have HH : Hid (holderI p x = (h : Nat)) := hide (by unfold holderI; rw [hh])
        rw [hh] at hps
        dsimp only at hps
        obtain ⟨rb, hrb⟩ : ∃ v, Tt.payF (rows.map fun r => r.2.1) f h (x :: sn) p = v := ⟨_, rfl⟩
        rw [hrb] at hps
        obtain ⟨b, s, q⟩ := rb
        have HE := hide hrb
        have HF := hide hf
        have HS3 := hide hS3
        have HNR := hide hnr
        have hh0 : ¬ ((h : Int) < 0) := by omega
        have hnR : (n : Int) < (rows.length : Int) := by omega
        cases b with
        | true =>
          dsimp only at hps
          have HPS := hide hps
          clear hps hs hq2 hC2 hS2 hq hC hS ih hb hsz hrF hrI hrow hh hS3 hpc hG hg2 hrb hin hgl HNX HPO hpos hf hnr
          go_wp2_with (first
 | (go_at_call 93; refine (holder_any C v0 v1 v2 _ (some ⟨Pb, Po, none⟩) p pc x _ hC3.c hC3.paid.i64 (by rw [HPL.out]; omega)).mono ?_; rintro e w3 ⟨rfl, hb3⟩; replace hb3 := ex_below hb3; rw [HH.out]; have hz3 := hb3.size; have hC4 := hC3.gx ((GX.refl _ _).below hb3 (Nat.le_refl _)) HF.out (hC3.paid.ext hb3) rfl; have hS4 : SeenAt w3 Ms (x :: sn) := KMap.below HS3.out hb3; have hG4 : GX [Pb, Ms] w w3 := hG2.below hb3 hG2.size)
 | (go_at_call 97; refine (HIH.out _ hC4 hS4).mono ?_; rintro e w4 ⟨rfl, hg4, hP4, hl4, hS5⟩; rw [HE.out] at hP4 hl4 hS5 ⊢; dsimp only at hP4 hl4 hS5 ⊢; have hz4 := hg4.size; have hC5 := hC4.gx hg4 HF.out hP4 (hl4.trans HPL.out.symm); have hG5 : GX [Pb, Ms] w w4 := hG4.trans hg4; have d4 := obj_at hC5.c 4 _ rfl; rw [hl4] at d4; have dl := obj_lt hC5.c; have dp := hP4.at (k := n) (by rw [hl4]; exact HNR.out); have df := hP4.fz (Po + n); have dpl := hP4.lt))
          go_ret
          exact ⟨by rw [← HPS.out]; rfl, hG5.setCell _ _ (fun _ => by simp), by rw [← HPS.out]; exact hP4.set (by rw [hl4]; exact HNR.out) x, by rw [← HPS.out, List.length_set]; exact hl4, by rw [← HPS.out]; exact KMap.gx hS5 ((GX.refl [Pb] _).setCell _ _ (fun _ => by simp)) (by simp; exact fun e => HF.out.1.2 e.symm)⟩
        | false =>
          dsimp only at hps
          have HPS := hide hps
          obtain ⟨hqp, hpre⟩ := HNX.out s q hrb
          have HQP := hide hqp
          have HPRE := hide hpre
          clear hps hs hq2 hC2 hS2 hq hC hS ih hb hsz hrF hrI hrow hh hS3 hpc hG hg2 hrb hin hgl HNX HPO hpos hf hnr hqp hpre
          go_wp2_with (first
 | (go_at_call 93; refine (holder_any C v0 v1 v2 _ (some ⟨Pb, Po, none⟩) p pc x _ hC3.c hC3.paid.i64 (by rw [HPL.out]; omega)).mono ?_; rintro e w3 ⟨rfl, hb3⟩; replace hb3 := ex_below hb3; rw [HH.out]; have hz3 := hb3.size; have hC4 := hC3.gx ((GX.refl _ _).below hb3 (Nat.le_refl _)) HF.out (hC3.paid.ext hb3) rfl; have hS4 : SeenAt w3 Ms (x :: sn) := KMap.below HS3.out hb3; have hG4 : GX [Pb, Ms] w w3 := hG2.below hb3 hG2.size)
 | (go_at_call 97; refine (HIH.out _ hC4 hS4).mono ?_; rintro e w4 ⟨rfl, hg4, hP4, hl4, hS5⟩; rw [HE.out] at hP4 hl4 hS5 ⊢; dsimp only at hP4 hl4 hS5 ⊢; have hz4 := hg4.size; have hC5 := hC4.gx hg4 HF.out hP4 (hl4.trans HPL.out.symm); have hG5 : GX [Pb, Ms] w w4 := hG4.trans hg4; have d4 := obj_at hC5.c 4 _ rfl; rw [hl4] at d4; have dl := obj_lt hC5.c; have dp := hP4.at (k := n) (by rw [hl4]; exact HNR.out); have df := hP4.fz (Po + n); have dpl := hP4.lt))
          exact ⟨⟨k + 1, s, by omega, by go_num, by have h := HPS.out; rw [HQP.out] at h; exact h, HPRE.out, by have h := hC5; rw [HQP.out] at h; exact h, hS5, hG5⟩, by simp [intOf]; omega⟩
  · have hki : ¬ ((k : Int) < (rx.length : Int)) := by omega
    have hRe : R = (false, sn, p) := by
     have h := HS.out
     rw [List.drop_eq_nil_of_le (by omega)] at h
     simpa [Tt.payS] using h.symm
    have HRE := hide hRe
    have HP := hide HPL.out
    clear hRe HS
    go_wp2
    go_ret
    exact ⟨by rw [HRE.out]; rfl, hG, by rw [HRE.out]; exact hC2.paid, by rw [HRE.out]; exact HP.out, by rw [HRE.out]; exact hS2⟩
theorem pay_any (C : Nat) (v0 v1 v2 : Value) (Ac : Option Addr) (rows : List LRow) (cc Pb Po pc Ms : Nat) (hf : FarC C Ac rows Pb Ms) (hb : ∀ r, r ∈ rows → ∀ x, x ∈ r.2.1 → 0 ≤ x ∧ x ≤ 1000000000) (hsz : (rows.map fun r => r.2.1).flatten.length < 1000000) (hrl : rows.length ≤ 100000) (f : Nat) :
 ∀ n seen p w, Tt.PayPre (rows.map fun r => r.2.1) f n seen p → CountAt w C v0 v1 v2 Ac rows cc Pb Po p pc → SeenAt w Ms seen → Calls Try.prog 97 #[.pointer (some ⟨C, 0, none⟩), .int .i64 (n : Nat), .map (some Ms)] w (PaidP w Pb Po Ms rows.length (Tt.payF (rows.map fun r => r.2.1) f n seen p)) := by
 induction f with
 | zero => intro n seen p w hq; exact absurd hq.left (Nat.not_lt_zero _)
 | succ f ih => exact pay_step C v0 v1 v2 Ac rows cc Pb Po pc Ms hf hb hsz hrl f ih
end Go.Proofs.Ytgjfejpibielaaa
namespace Go.Proofs.Ytgjfejpibielaaa
open Go.RowKit Go.Maps Go.Shelf
/-- whether the code of a number fits -/
def fitN (L rest : Nat) (K T : List Nat) (i : Nat) : Bool := (((Tt.codes L rest K)[i]?).map (Tt.fitsW T)).getD false
/-- the numbers of the codes that fit -/
def fitL (L rest : Nat) (K T : List Nat) : List Nat := (List.range (Tt.codes L rest K).length).filter (fitN L rest K T)
/-- those of them that were sold -/
def canN (L rest : Nat) (K T : List Nat) (qs : List (Nat × Nat)) : List Nat := (List.range (Tt.codes L rest K).length).filter fun i => Tt.soldB qs i && fitN L rest K T i
/-- the number of a code that fits, by its index -/
def numI (L rest : Nat) (K T : List Nat) (x : Nat) : Nat := Tt.befA L rest (K.zip (Tt.fulls L K.length)) (-1) 0 (Tt.codeA L rest (K.zip T) (-1) 0 x)
theorem cnt_codes (L rest : Nat) (K : List Nat) : Tt.cnt L rest (K.zip (Tt.fulls L K.length)) (-1) 0 = (Tt.codes L rest K).length := (Tt.gen_length L rest _ _ _).symm
theorem codes_fit (L rest : Nat) (K T : List Nat) : (Tt.codes L rest K).filter (Tt.fitsW T) = (fitL L rest K T).map fun i => ((Tt.codes L rest K)[i]?).getD [] := by
 unfold fitL fitN
 generalize Tt.codes L rest K = l
 generalize Tt.fitsW T = f
 have key : ∀ (l : List (List Nat)) (d : List (List Nat)), l.filter f = ((List.range' d.length l.length).filter fun i => (((d ++ l)[i]?).map f).getD false).map fun i => ((d ++ l)[i]?).getD [] := by
  intro l
  induction l with
  | nil => intro d; simp
  | cons a l ih =>
    intro d
    have h := ih (d ++ [a])
    rw [List.append_assoc, List.singleton_append, List.length_append] at h
    rw [List.length_cons, List.range'_succ, List.filter_cons, List.filter_cons, h]
    have e : (d ++ a :: l)[d.length]? = some a := by simp
    rw [e]
    simp only [Option.map_some, Option.getD_some]
    by_cases hf : f a = true
    · rw [if_pos hf, if_pos hf, List.map_cons, e]
      rfl
    · rw [if_neg hf, if_neg hf]
      rfl
 have := key l []
 simpa [List.range_eq_range'] using this
theorem fitL_len {L rest : Nat} {K T : List Nat} (hT : T.length = K.length) : (fitL L rest K T).length = Tt.cnt L rest (K.zip T) (-1) 0 := by
 rw [← Tt.gen_length, Tt.gen_fit L rest K T hT, codes_fit, List.length_map]
theorem num_at {L rest : Nat} {K T : List Nat} (hT : T.length = K.length) {x : Nat} (hx : x < Tt.cnt L rest (K.zip T) (-1) 0) : (fitL L rest K T)[x]? = some (numI L rest K T x) := by
 have hl : x < (fitL L rest K T).length := by rw [fitL_len hT]; exact hx
 rw [List.getElem?_eq_getElem hl]
 congr 1
 have hm := List.getElem_mem hl
 obtain ⟨j, hj⟩ : ∃ v, (fitL L rest K T)[x] = v := ⟨_, rfl⟩
 rw [hj] at hm ⊢
 have hjn : j < (Tt.codes L rest K).length := by
  unfold fitL at hm
  exact List.mem_range.1 (List.mem_filter.1 hm).1
 have hg : x < (Tt.gen L rest (K.zip T) (-1) 0).length := by rw [Tt.gen_length]; exact hx
 have h1 := Tt.codeA_at L rest (K.zip T) (-1) 0 x hg
 have h2 : (Tt.gen L rest (K.zip T) (-1) 0)[x]? = some (Tt.codes L rest K)[j] := by
  rw [Tt.gen_fit L rest K T hT, codes_fit, List.getElem?_map, List.getElem?_eq_getElem hl, hj]
  simp [List.getElem?_eq_getElem hjn]
 rw [List.getElem?_eq_getElem hg, h1] at h2
 unfold numI
 rw [Option.some.inj h2, Tt.bef_full L rest K j hjn]
theorem fit_count {L rest : Nat} {K T : List Nat} {i : Nat} (hi : i ≤ (Tt.codes L rest K).length) : ((Tt.codes L rest K).take i).countP (Tt.fitsW T) = (List.range i).countP (fitN L rest K T) := Tt.take_count _ _ i hi
theorem idx_eq {L rest : Nat} {K T : List Nat} (hT : T.length = K.length) {lo hi : Nat} (h1 : lo ≤ hi) (h2 : hi < (Tt.codes L rest K).length) :
 idxOf L rest K (Tt.fulls L K.length) T (lo, hi) = ((((List.range lo).countP (fitN L rest K T) : Nat) : Int), (((List.range (hi + 1)).countP (fitN L rest K T) : Nat) : Int) - 1) := by
 have code : ∀ i, i < (Tt.codes L rest K).length → ∀ h : i < (Tt.codes L rest K).length, Tt.codeA L rest (K.zip (Tt.fulls L K.length)) (-1) 0 i = (Tt.codes L rest K)[i] := fun i hi h => (Tt.codeA_at L rest _ (-1) 0 i h).symm
 unfold idxOf
 simp only
 rw [code lo (by omega) (by omega), code hi h2 h2, Tt.bef_at L rest K T hT lo (by omega), Tt.bef_at L rest K T hT hi h2, fit_count (by omega), fit_count (by omega), List.range_succ, List.countP_append]
 have e : fitN L rest K T hi = Tt.fitsW T (Tt.codes L rest K)[hi] := by unfold fitN; rw [List.getElem?_eq_getElem h2]; rfl
 cases hf : Tt.fitsW T (Tt.codes L rest K)[hi] with
 | true => rw [hf] at e; simp [List.countP_cons, e]
 | false => rw [hf] at e; simp [List.countP_cons, e]
theorem okSold_all {N : Nat} : ∀ {qs : List (Nat × Nat)} {nx : Nat}, Tt.okSold N nx qs = true → ∀ r, r ∈ qs → r.1 ≤ r.2 ∧ r.2 < N
 | q :: qs, nx, h, r, hr => by
   unfold Tt.okSold at h
   simp only [Bool.and_eq_true, decide_eq_true_eq] at h
   rcases List.mem_cons.1 hr with rfl | hr
   · omega
   · exact okSold_all h.2 r hr
/-- the numbers that a claim can be paid for, as they are found -/
def spanI (L rest : Nat) (K T : List Nat) (p : Int × Int) : List Nat := (List.range' p.1.toNat (p.2 + 1 - p.1).toNat).map (numI L rest K T)
def rawL (L rest : Nat) (K T : List Nat) (qs : List (Nat × Nat)) : List Nat := (idxL L rest K (Tt.fulls L K.length) T qs).flatMap (spanI L rest K T)
theorem fitL_split (L rest : Nat) (K T : List Nat) {n : Nat} (hn : n ≤ (Tt.codes L rest K).length) : (List.range n).countP (fitN L rest K T) ≤ (fitL L rest K T).length := by
 unfold fitL
 rw [← List.countP_eq_length_filter]
 exact List.Sublist.countP_le (List.range_sublist.2 hn)
theorem span_eq {L rest : Nat} {K T : List Nat} (hT : T.length = K.length) {lo hi : Nat} (h1 : lo ≤ hi) (h2 : hi < (Tt.codes L rest K).length) : spanI L rest K T (idxOf L rest K (Tt.fulls L K.length) T (lo, hi)) = Tt.span (fitN L rest K T) lo hi := by
 have hs := Tt.span_len (fitN L rest K T) lo hi h1
 rw [idx_eq hT h1 h2]
 unfold spanI
 simp only
 rw [Int.toNat_natCast, show (((((List.range (hi + 1)).countP (fitN L rest K T) : Nat) : Int) - 1 + 1 - ((List.range lo).countP (fitN L rest K T) : Nat))).toNat = (Tt.span (fitN L rest K T) lo hi).length by omega]
 apply List.ext_getElem
 · simp
 · intro i hi1 hi2
   rw [List.getElem_map, List.getElem_range', Nat.one_mul]
   have h3 := Tt.nums_slice (fitN L rest K T) (Tt.codes L rest K).length lo hi h1 h2 i hi2
   have h5 := fitL_split L rest K T (n := hi + 1) h2
   have h4 := num_at (L := L) (rest := rest) (K := K) hT (x := (List.range lo).countP (fitN L rest K T) + i) (by rw [← fitL_len hT]; omega)
   unfold fitL at h4
   rw [h3] at h4
   exact (Option.some.inj h4).symm
theorem flat_filter {α β : Type} (l : List α) (q : α → Bool) (f : α → List β) (h : ∀ a, a ∈ l → q a = false → f a = []) : (l.filter q).flatMap f = l.flatMap f := by
 induction l with
 | nil => rfl
 | cons a l ih =>
   have ih := ih (fun b hb => h b (by simp [hb]))
   rw [List.filter_cons, List.flatMap_cons]
   split
   · rw [List.flatMap_cons, ih]
   · rename_i hq
     rw [h a (by simp) (by simpa using hq), ih]
     rfl
theorem raw_eq {L rest : Nat} {K T : List Nat} (hT : T.length = K.length) {qs : List (Nat × Nat)} (hq : Tt.okSold (Tt.codes L rest K).length 0 qs = true) : rawL L rest K T qs = canN L rest K T qs := by
 unfold rawL idxL canN
 rw [flat_filter _ _ _ (fun p _ hp => by
  unfold spanI
  simp only [decide_eq_false_iff_not] at hp
  rw [show (p.2 + 1 - p.1).toNat = 0 by omega]
  rfl), ← Tt.sold_list _ _ qs hq, List.flatMap_map]
 have key : ∀ l : List (Nat × Nat), (∀ r, r ∈ l → r.1 ≤ r.2 ∧ r.2 < (Tt.codes L rest K).length) → (l.flatMap fun a => spanI L rest K T (idxOf L rest K (Tt.fulls L K.length) T a)) = l.flatMap fun r => Tt.span (fitN L rest K T) r.1 r.2 := by
  intro l hl
  induction l with
  | nil => rfl
  | cons r l ih =>
    rw [List.flatMap_cons, List.flatMap_cons, ih (fun q hq => hl q (by simp [hq]))]
    congr 1
    have := hl r (by simp)
    exact span_eq (lo := r.1) (hi := r.2) hT this.1 this.2
 exact key qs (okSold_all hq)
theorem idxL_lt {L rest : Nat} {K T : List Nat} (hT : T.length = K.length) {qs : List (Nat × Nat)} (hq : Tt.okSold (Tt.codes L rest K).length 0 qs = true) : ∀ p, p ∈ idxL L rest K (Tt.fulls L K.length) T qs → 0 ≤ p.1 ∧ p.1 ≤ p.2 ∧ p.2 < (Tt.cnt L rest (K.zip T) (-1) 0 : Nat) := fun p hp => by
 unfold idxL at hp
 obtain ⟨hp, hle⟩ := List.mem_filter.1 hp
 obtain ⟨r, hr, rfl⟩ := List.mem_map.1 hp
 have hr := okSold_all hq r hr
 have he := idx_eq (L := L) (rest := rest) (K := K) hT (lo := r.1) (hi := r.2) hr.1 hr.2
 rw [show (r.1, r.2) = r from rfl] at he
 rw [he] at hle ⊢
 simp only [decide_eq_true_eq] at hle ⊢
 have h5 := fitL_split L rest K T (n := r.2 + 1) hr.2
 rw [fitL_len hT] at h5
 omega
end Go.Proofs.Ytgjfejpibielaaa
