/- Proved here: numbers that wait; a set of claims with the least bound, a part of the proofs about the ticket laws. Conditions: those that each theorem names, no others. -/
import Derived.Test.YtgjfejpibielaaaQ06
import Derived.Test.YtgjfejpibielaaaQ26
import Derived.WalkKit
import Derived.WalkSpells
import Derived.WalkLawsBesides
import Derived.Below
import Derived.Deep.QuietTactic
import Derived.BigQuiet
import Derived.Deep.Light
set_option linter.unusedSimpArgs false
set_option linter.unusedVariables false
namespace Go.Proofs.Ytgjfejpibielaaa
open Go.RowKit Go.Maps Go.Shelf
attribute [local go_sem] Oper.semAt_some World.cell?_setCell_far
theorem info3k : (Try.prog.info? 3).map (fun i => (i.zero, i.size, i.bytes)) = some (some (.int .i64 0), 1, 8) := by kernel_rfl
theorem und22k : Try.prog.underlying 22 = some (.slice 3) := by kernel_rfl
/-- the block in which a slice lies -/
def qB (v : Value) : Option Nat := match v with
 | .slice (some a) _ _ => some a.block
 | _ => none
/-- numbers that wait: a slice that may begin inside its block -/
def QAt (w : World) (base : Nat) (v : Value) (q : List Nat) : Prop :=
 (q = [] ∧ ∃ A, v = .slice A 0 0 ∧ ∀ a, A = some a → base ≤ a.block) ∨ ∃ g o cap cur, v = .slice (some ⟨g, o, none⟩) q.length cap ∧ base ≤ g ∧ BlkAt w g cur 3 ∧ cur.size = o + cap ∧ q.length ≤ cap ∧ 0 < cap ∧ ∀ (j : Nat) (x : Nat), q[j]? = some x → cur[o + j]? = some (.int .i64 (x : Nat))
theorem QAt.nil (w : World) (base : Nat) : QAt w base (.slice none 0 0) [] := .inl ⟨rfl, none, rfl, fun a h => by cases h⟩
theorem QAt.lt {w : World} {base : Nat} {v : Value} {q : List Nat} (h : QAt w base v q) : ∀ b, qB v = some b → base ≤ b := fun b hb => by
 rcases h with ⟨_, A, rfl, hA⟩ | ⟨g, o, cap, cur, rfl, h1, _⟩
 · cases A with
   | none => cases hb
   | some a => cases hb; exact hA a rfl
 · cases hb; exact h1
theorem QAt.form {w : World} {base : Nat} {v : Value} {q : List Nat} (h : QAt w base v q) : ∃ A c, v = .slice A q.length c := by
 rcases h with ⟨rfl, A, rfl, _⟩ | ⟨g, o, cap, cur, rfl, _⟩
 · exact ⟨A, 0, rfl⟩
 · exact ⟨_, cap, rfl⟩
theorem QAt.gx {S : List Nat} {w w' : World} {base : Nat} {v : Value} {q : List Nat} (h : QAt w base v q) (g : GX S w w') (hs : ∀ b, qB v = some b → b ∉ S) : QAt w' base v q := by
 rcases h with h | ⟨b, o, cap, cur, rfl, h1, h2, h3⟩
 · exact .inl h
 · exact .inr ⟨b, o, cap, cur, rfl, h1, h2.gx g (hs b rfl), h3⟩
theorem QAt.ext {w w' : World} {base : Nat} {v : Value} {q : List Nat} (h : QAt w base v q) (hb : Below w.heap.size w w') : QAt w' base v q := h.gx ((GX.refl [] w).below hb (Nat.le_refl _)) (fun b _ hb => by cases hb)
/-- the first one, and the others -/
theorem QAt.head {w : World} {base : Nat} {v : Value} {n : Nat} {q : List Nat} (h : QAt w base v (n :: q)) : ∃ g o cap, v = .slice (some ⟨g, o, none⟩) (q.length + 1) cap ∧ g < w.heap.size ∧ w.cell? ⟨g, o, none⟩ = some (.int .i64 (n : Nat)) ∧ q.length + 1 ≤ cap ∧ ∀ A, A = (if cap - 1 = 0 then some ⟨g, o, none⟩ else some ⟨g, o + 1, none⟩ : Option Addr) → QAt w base (.slice A q.length (cap - 1)) q := by
 rcases h with ⟨h, _⟩ | ⟨g, o, cap, cur, rfl, h1, h2, h3, h4, h5, h6⟩
 · cases h
 · refine ⟨g, o, cap, rfl, obj_lt h2, obj_at h2 o _ (by have := h6 0 n rfl; rwa [Nat.add_zero] at this), by simpa using h4, ?_⟩
   rintro A rfl
   simp only [List.length_cons] at h4
   by_cases hc : cap - 1 = 0
   · rw [if_pos hc]
     have : q = [] := List.eq_nil_of_length_eq_zero (by omega)
     subst this
     exact .inl ⟨rfl, _, by rw [hc]; rfl, fun a ha => by cases ha; exact h1⟩
   · rw [if_neg hc]
     exact .inr ⟨g, o + 1, cap - 1, cur, rfl, h1, h2, by omega, by omega, by omega, fun j x hj => by
      have := h6 (j + 1) x (by simpa using hj)
      rwa [show o + (j + 1) = o + 1 + j by omega] at this⟩
theorem q_app (w : World) (base : Nat) (v : Value) (q : List Nat) (h : QAt w base v q) (x : Nat) (A : Option Addr) (c : Nat) (hr : Rd w 1 A 1 [.int .i64 (x : Nat)]) (hq : q.length ≤ 1000) (hbase : base ≤ w.heap.size) (ty : TypeId) :
 ∃ v' w', (Builtin.append_ #[22, 22] ty #[v, .slice A 1 c]).run Try.prog w = .ok v' w' ∧ QAt w' base v' (q ++ [x]) ∧ w.grownBy w' (qB v) := by
 obtain ⟨ti, ih, iz, is, ib⟩ := info_parts info3k
 have h1 : ∀ u ∈ [Value.int .i64 (x : Nat)], u.oneCell' = true := by simp [Value.oneCell']
 obtain ⟨b2, o2, rfl, hb2, hc2⟩ := hr.2 (by omega)
 have grow : ∀ (A0 : Option Addr) (cap : Nat) (olds : List Value), Rd w 1 A0 q.length olds → cap < q.length + 1 → cap ≤ 1000 → olds = (zs q).map (Value.int .i64) → ∃ v' w', (Builtin.append_ #[22, 22] ty #[.slice A0 q.length cap, .slice (some ⟨b2, o2, none⟩) 1 c]).run Try.prog w = .ok v' w' ∧ QAt w' base v' (q ++ [x]) ∧ w.grownBy w' none := by
  intro A0 cap olds ho hcap hc1 hold
  have hf : (Builtin.firstCells ti.size q.length (.slice A0 q.length cap)).run Try.prog w.drew = .ok olds.toArray w.drew := by
   rw [is]
   exact rd_first (w := w.drew) (c := cap) ⟨ho.1, fun h0 => by
    obtain ⟨b, o, e, hb, hc⟩ := ho.2 h0
    exact ⟨b, o, e, hb, hc⟩⟩
  have hrun := run_append_grow_src (P := Try.prog) (w := w) 22 22 ty 3 ti (.int .i64 0) und22k ih iz A0 q.length cap olds hf (.slice (some ⟨b2, o2, none⟩) 1 c) 1 [.int .i64 (x : Nat)] (by rw [is]; exact rd_src und22k hr h1) hcap (by omega) (growslice_fits (by omega) (by rw [ib]; omega))
  have hge := grownCap_ge w (q.length + 1) cap 3
  refine ⟨_, _, hrun, .inr ⟨w.heap.size, 0, grownCap w (q.length + 1) cap 3, _, by simp, hbase, heap_alloc_new w.drew _, ?_, by simp; omega, by omega, fun j y hj => ?_⟩, ⟨rfl, rfl, rfl, by simp, fun k hk _ => heap_alloc_old w.drew _ hk⟩⟩
  · rw [Array.size_append, size_zeroCells, hold]
    simp [zs_len, Value.cells]
    omega
  · rw [Nat.zero_add, hold]
    have hjl : j < (q ++ [x]).length := (List.getElem?_eq_some_iff.1 hj).1
    rw [Array.getElem?_append_left (by simp [zs_len] at hjl ⊢; omega)]
    have e : (zs q).map (Value.int .i64) ++ [Value.int .i64 (x : Nat)] = (zs (q ++ [x])).map (Value.int .i64) := by rw [zs_snoc, List.map_append]; rfl
    have hj2 : ((zs (q ++ [x])).map (Value.int .i64))[j]? = some (.int .i64 (y : Nat)) := by
     unfold zs
     rw [List.getElem?_map, List.getElem?_map, hj]
     rfl
    rw [← e] at hj2
    simpa using hj2
 rcases h with ⟨rfl, A0, rfl, hA0⟩ | ⟨g, o, cap, cur, rfl, h2, h3, h4, h5, h6, h7⟩
 · obtain ⟨v', w', e1, e2, e3⟩ := grow A0 0 [] ⟨rfl, fun h => absurd h (by simp)⟩ (by simp) (by omega) rfl
   exact ⟨v', w', e1, e2, grown_none e3⟩
 · by_cases hroom : q.length + 1 ≤ cap
   · have hf := run_firstCells_some (P := Try.prog) w ti.size 1 ⟨b2, o2, none⟩ 1 c [.int .i64 (x : Nat)] (by rw [is]; rfl) (fun j u hj => by rw [add_none]; exact hc2 j u hj)
     have hst := run_storeCells_at Try.prog g (o + q.length) 3 [.int .i64 (x : Nat)] 0 cur w h3 (by simp; omega) h1
     simp only [Nat.add_zero] at hst
     obtain ⟨nc, hnc⟩ : ∃ v, (cur.toList.take (o + q.length) ++ [Value.int .i64 (x : Nat)] ++ cur.toList.drop (o + q.length + [Value.int .i64 (x : Nat)].length)).toArray = v := ⟨_, rfl⟩
     rw [hnc] at hst
     refine ⟨.slice (some ⟨g, o, none⟩) (q.length + 1) cap, w.setRow g nc, ?_, .inr ⟨g, o, cap, nc, by simp, h2, setRow_heap w g cur nc 3 _ h3, ?_, by simp; omega, h6, fun j y hj => ?_⟩, ⟨rfl, rfl, rfl, by simp, fun k _ hk => setRow_other w g k _ (fun e => hk (by simp [qB, e]))⟩⟩
     · rw [is] at hf
       simp [Builtin.append_, run_underlying und22k, sizeOf, typeInfo, ih, is, Builtin.lenOf, hroom, hf, Addr.add_lit, hst]
     · rw [← hnc]; simp; omega
     · have hl : cur.toList.length = cur.size := Array.length_toList
       have hjl : j < (q ++ [x]).length := (List.getElem?_eq_some_iff.1 hj).1
       simp only [List.length_append, List.length_cons, List.length_nil] at hjl
       rw [← hnc, List.getElem?_toArray]
       by_cases e : j < q.length
       · rw [List.append_assoc, List.getElem?_append_left (by rw [List.length_take, hl]; omega), List.getElem?_take_of_lt (by omega)]
         rw [List.getElem?_append_left e] at hj
         have := h7 j y hj
         simpa using this
       · have hjq : j = q.length := by omega
         subst hjq
         have hxy : x = y := by simpa using hj
         subst hxy
         rw [List.append_assoc, List.getElem?_append_right (by rw [List.length_take, hl]; omega), List.length_take, hl, show o + q.length - min (o + q.length) cur.size = 0 by omega]
         rfl
   · obtain ⟨v', w', e1, e2, e3⟩ := grow (some ⟨g, o, none⟩) cap ((zs q).map (Value.int .i64)) ⟨by simp [zs_len], fun _ => ⟨g, o, rfl, obj_lt h3, fun j u hj => by
      unfold zs at hj
      rw [List.getElem?_map, List.getElem?_map] at hj
      cases hx : q[j]? with
      | none => rw [hx] at hj; cases hj
      | some y => rw [hx] at hj; cases hj; exact obj_at h3 _ _ (h7 j y hx)⟩⟩ (by omega) (by omega) rfl
     exact ⟨v', w', e1, e2, grown_none e3⟩
end Go.Proofs.Ytgjfejpibielaaa
namespace Go.Proofs.Ytgjfejpibielaaa
open Go.RowKit Go.Maps Go.Shelf
attribute [local go_sem] Oper.semAt_some World.cell?_setCell_far
theorem wpList_q (w : World) {ops : Array Oper} {rest : List Oper} {o : Oper} {a : Act} {Q : Exit → Act → World → Prop} (hgd : o.guard = none) (s x : Operand)
 (ho : o.op = .call { callee := .builtin .append, args := #[s, x], argTypes := #[22, 22] }) (base : Nat) (v : Value) (q : List Nat) (hs : a.eval s = v) (hQ : QAt w base v q) (y : Nat) (A : Option Addr) (c : Nat) (hx : a.eval x = .slice A 1 c) (hr : Rd w 1 A 1 [.int .i64 (y : Nat)]) (hq : q.length ≤ 1000) (hbase : base ≤ w.heap.size)
 (h : ∀ A' c' w', QAt w' base (.slice A' (q.length + 1) c') (q ++ [y]) → w.grownBy w' (qB v) → wpList Try.prog ops Q rest (a.put o.dst (.slice A' (q.length + 1) c')) w') : wpList Try.prog ops Q (o :: rest) a w := by
 refine wpList_plain hgd fun K hK => ?_
 obtain ⟨v', w', hrun, h2, h3⟩ := q_app w base v q hQ y A c hr hq hbase o.type
 obtain ⟨A', c', rfl⟩ := h2.form
 rw [List.length_append] at h2 hrun
 unfold Oper.wp execOp
 simp only [ho, resolve, invoke, builtin, Sem.run_bind, Sem.run_pure, Result.andThen_ok, List.map_toArray, List.map_cons, List.map_nil, hs, hx, hrun]
 exact hK _ _ (h A' c' w' h2 h3)
/-- the cells of marks -/
def mcs (m : List Nat) : Array Value := ((zs m).map (Value.int .i64)).toArray
theorem mcs_at (m : List Nat) (k : Nat) (h : k < m.length) : (mcs m)[k]? = some (.int .i64 (m[k] : Nat)) := by
 unfold mcs zs
 simp [h]
theorem mcs_set (m : List Nat) (k v : Nat) : (mcs m).setIfInBounds k (.int .i64 (v : Nat)) = mcs (m.set k v) := by
 unfold mcs zs
 rw [List.setIfInBounds_toArray, List.map_set, List.map_set]
theorem mcs_zero (n : Nat) : (List.replicate n (Value.int .i64 0)).toArray = mcs (List.replicate n 0) := by unfold mcs zs; simp
def isZ (v : Value) : Bool := match v with
 | .int _ n => decide (n = 0)
 | _ => false
def zerosV (o : Option Obj) : Nat := match o with
 | some (.cells cs _ _) => cs.toList.countP isZ
 | _ => 0
def lenV (v : Value) : Nat := match v with
 | .slice _ n _ => n
 | _ => 0
theorem zerosV_mcs {w : World} {b : Nat} {m : List Nat} {t : TypeId} (h : BlkAt w b (mcs m) t) : zerosV w.heap[b]? = Tt.zeros m := by
 rw [show w.heap[b]? = _ from h]
 unfold zerosV mcs zs Tt.zeros
 simp only [List.map_map, List.countP_map]
 congr 1
 funext y
 simp [isZ]
/-- the marks and those that wait, while the claims are gone through that are not paid -/
def mkK (p : List Int) (k : Nat) : List Nat := Tt.mk0 (p.take k) ++ List.replicate (p.length - k) 0
def unpK (p : List Int) (k : Nat) : List Nat := (List.range k).filter fun c => decide (Tt.gp p c < 0)
theorem mkK_len (p : List Int) (k : Nat) (h : k ≤ p.length) : (mkK p k).length = p.length := by unfold mkK Tt.mk0; simp; omega
theorem mkK_zero (p : List Int) : mkK p 0 = List.replicate p.length 0 := by simp [mkK, Tt.mk0]
theorem mkK_all (p : List Int) : mkK p p.length = Tt.mk0 p := by simp [mkK]
theorem mkK_succ (p : List Int) (k : Nat) (h : k < p.length) : mkK p (k + 1) = if p[k] < 0 then (mkK p k).set k 1 else mkK p k := by
 unfold mkK Tt.mk0
 rw [List.take_succ_eq_append_getElem h, List.map_append, show p.length - k = (p.length - (k + 1)) + 1 by omega, List.replicate_succ, List.append_assoc]
 split
 · rename_i hp
   rw [List.set_append_right _ _ (by simp; omega)]
   simp [hp, show k - min k p.length = 0 by omega]
 · rename_i hp
   simp [hp]
theorem gp_at (p : List Int) (k : Nat) (h : k < p.length) : Tt.gp p k = p[k] := by unfold Tt.gp; rw [List.getD_eq_getElem?_getD, List.getElem?_eq_getElem h]; rfl
theorem unpK_succ (p : List Int) (k : Nat) (h : k < p.length) : unpK p (k + 1) = if p[k] < 0 then unpK p k ++ [k] else unpK p k := by
 unfold unpK
 rw [List.range_succ, List.filter_append, ← gp_at p k h]
 by_cases hp : Tt.gp p k < 0
 · rw [if_pos hp]; simp [hp]
 · rw [if_neg hp]; simp [hp]
theorem unpK_len (p : List Int) (k : Nat) : (unpK p k).length ≤ k := by unfold unpK; exact Nat.le_trans (List.length_filter_le _ _) (by simp)
def outK (m : List Nat) (k : Nat) : List Nat := (List.range k).filter fun c => decide (m.getD c 0 = 1)
theorem outK_succ (m : List Nat) (k : Nat) (h : k < m.length) : outK m (k + 1) = if m[k] = 1 then outK m k ++ [k] else outK m k := by
 unfold outK
 have e : m.getD k 0 = m[k] := by rw [List.getD_eq_getElem?_getD, List.getElem?_eq_getElem h]; rfl
 rw [List.range_succ, List.filter_append, ← e]
 by_cases hp : m.getD k 0 = 1
 · rw [if_pos hp]; simp only [List.filter_cons, List.filter_nil, hp, decide_true, if_true]
 · rw [if_neg hp]; simp only [List.filter_cons, List.filter_nil, hp, decide_false, Bool.false_eq_true, if_false, List.append_nil]
theorem outK_len (m : List Nat) (k : Nat) : (outK m k).length ≤ k := by unfold outK; exact Nat.le_trans (List.length_filter_le _ _) (by simp)
/-- the claims that are reached from those that are not paid, in order -/
def ShortP (w : World) (can : List (List Int)) (p : List Int) (e : Ending) (w' : World) : Prop :=
 ∃ (m : List Nat) (A : Option Addr) (c : Nat), e = .returned (.slice A (Tt.outM m).length c) ∧ Below w.heap.size w w' ∧ I64 w' A (zs (Tt.outM m)) ∧ m.length = p.length ∧ Tt.Reach can p p.length (Tt.outM m)
set_option maxRecDepth 100000 in
set_option maxHeartbeats 8000000 in
theorem short_any (C : Nat) (v0 v2 : Value) (Y : Option Addr) (yc : Nat) (can : List (List Int)) (p : List Int) (w : World) (hC0 : CntAt w C v0 (.slice Y p.length yc) v2 can p) (hp : Tt.Pay can p) (hl : p.length ≤ 6)
 (hb : ∀ r, r ∈ can → r.length ≤ 1000 ∧ ∀ x, x ∈ r → 0 ≤ x ∧ x ≤ 1000000000) :
 Calls Try.prog 78 #[.pointer (some ⟨C, 0, none⟩)] w (ShortP w can p) := by
 obtain ⟨ti, ih, iz, is, ib⟩ := info_parts info3k
 obtain ⟨Ac, rows, cc, Ap, pc, hC, hcan, hpI, hrc⟩ := hC0
 have hrl : rows.length = can.length := by rw [← hrc, List.length_map]
 have hlen := hp.len
 have hgood : ∀ x, x ∈ p → -1 ≤ x ∧ x ≤ 1000000000 := fun x hx => by
  obtain ⟨j, hj, rfl⟩ := List.getElem_of_mem hx
  have e := gp_at p j hj
  rcases hp.mem j with h | h
  · rw [e] at h; omega
  · rw [e] at h
    rw [List.getD_eq_getElem?_getD] at h
    cases hc : can[j]? with
    | none => rw [hc] at h; cases h
    | some r => rw [hc] at h; have := (hb r (List.mem_of_getElem? hc)).2 _ h; omega
 have HRC := hide hrc
 have HRL := hide hrl
 have HLEN := hide hlen
 have HP := hide hp
 have HB := hide hb
 have HGOOD := hide hgood
 have q1 := obj_at hC 1 _ rfl
 have q4 := obj_at hC 4 _ rfl
 have ql := obj_lt hC
 have hmk := make_zeros p.length (by omega)
 rw [mcs_zero] at hmk
 clear hrc hrl hlen hp hb hgood
 go_enter Try.func78, Try.ntmps78
 go_wp2
 have hba : Below w.heap.size w (w.alloc (.cells (mcs (List.replicate p.length 0)) 3)) := below_alloc (Below.refl _ _) (Nat.le_refl _) _
 have hI0 : BlkAt (w.alloc (.cells (mcs (List.replicate p.length 0)) 3)) w.heap.size (mcs (mkK p 0)) 3 := by rw [mkK_zero]; exact heap_alloc_new _ _
 go_loopw [4, 28] (fun v iv wr => ∃ (k : Nat) (A : Option Addr) (c : Nat), k ≤ p.length ∧ iv = .int .i64 (k : Nat) ∧ v = .slice A (unpK p k).length c ∧ QAt wr (w.heap.size + 1) (.slice A (unpK p k).length c) (unpK p k) ∧ BlkAt wr w.heap.size (mcs (mkK p k)) 3 ∧ Below w.heap.size w wr ∧ w.heap.size + 1 ≤ wr.heap.size) (fun _ iv _ => p.length - (intOf iv).toNat)
 case atStart => exact ⟨0, none, 0, Nat.zero_le _, rfl, rfl, QAt.nil _ _, hI0, hba, by simp⟩
 case round =>
  clear hI0 hba
  obtain ⟨k, A, c, hk, rfl, rfl, hQ, hI, hb, hzr⟩ := hrel
  obtain ⟨wo, rfl⟩ : ∃ wo : World, wo = wr := ⟨_, rfl⟩
  by_cases hkl : k < p.length
  · have hki : (k : Int) < (p.length : Int) := by omega
    have hpr := hpI.ext hb
    obtain ⟨pb, po, rfl, hpb⟩ := hpr.form (by omega)
    have hpx := hpr.at hkl
    have HMS := hide (mkK_succ p k hkl)
    have HUS := hide (unpK_succ p k hkl)
    have hul := unpK_len p k
    have hml := mkK_len p k hk
    have i0 := obj_at hI k _ (mcs_at (mkK p k) k (by omega))
    have if0 := obj_fz hI k
    have il := obj_lt hI
    generalize p[k] = x at *
    by_cases hx : x < 0
    · have HM2 : Hid (mkK p (k + 1) = (mkK p k).set k 1) := hide (by rw [HMS.out, if_pos hx])
      have HU2 : Hid (unpK p (k + 1) = unpK p k ++ [k]) := hide (by rw [HUS.out, if_pos hx])
      have hQs : QAt (wo.setCell ⟨w.heap.size, k, none⟩ (.int .i64 1)) (w.heap.size + 1) (.slice A (unpK p k).length c) (unpK p k) := hQ.gx ((GX.refl [w.heap.size] _).setCell _ _ (fun _ => by simp)) (fun b h => by have := hQ.lt b h; simp; omega)
      have HQs := hide hQs
      clear hQs HMS HUS
      go_wp2_with (first
 | (at_builtin; refine wpList_q _ rfl (.tmp 38) (.tmp 40) rfl (w.heap.size + 1) (.slice A (unpK p k).length c) (unpK p k) rfl (HQs.out.ext (below_alloc (Below.refl _ _) (Nat.le_refl _) _)) k (some ⟨wo.heap.size, 0, none⟩) 1 rfl (by have h := rd_new1 (wo.setCell ⟨w.heap.size, k, none⟩ (.int .i64 1)) (.int .i64 (k : Nat)) 3; rw [size_setCell] at h; exact h) (by omega) (by simp; omega) ?_; intro A7 c7 v7 hQ7 hgr7))
      have hI7 : BlkAt v7 w.heap.size (mcs (mkK p (k + 1))) 3 := by
       rw [HM2.out, ← mcs_set]
       exact (hgr7.block w.heap.size (by simp; omega) (fun e => by have := hQ.lt _ e.symm; omega)).trans ((BlkAt.ext (set_obj hI k (.int .i64 1)) (below_alloc (Below.refl _ _) (Nat.le_refl _) _)))
      have hbs : Below w.heap.size w v7 := gb_below (below_alloc (Below.setCell hb (by simp) _) (by simp; omega) _) hgr7 (by simp; omega) (fun r e => by have := hQ.lt r e; omega)
      exact ⟨⟨k + 1, A7, c7, by omega, by go_num, by rw [HU2.out, List.length_append]; rfl, by rw [HU2.out, List.length_append]; exact hQ7, hI7, hbs, by have := hgr7.size; simp at this; omega⟩, by simp [intOf]; omega⟩
    · have HM2 : Hid (mkK p (k + 1) = mkK p k) := hide (by rw [HMS.out, if_neg hx])
      have HU2 : Hid (unpK p (k + 1) = unpK p k) := hide (by rw [HUS.out, if_neg hx])
      clear HMS HUS
      go_wp2
      exact ⟨⟨k + 1, A, c, by omega, by go_num, by rw [HU2.out], by rw [HU2.out]; exact hQ, by rw [HM2.out]; exact hI, hb, hzr⟩, by simp [intOf]; omega⟩
  · have hki : ¬ ((k : Int) < (p.length : Int)) := by omega
    obtain rfl : k = p.length := by omega
    have hI2 : BlkAt wo w.heap.size (mcs (Tt.mk0 p)) 3 := by rw [← mkK_all]; exact hI
    have HINV := hide (Tt.inv_start (can := can) (p := p) (fun x hx => (HGOOD.out x hx).1))
    have HM0 : Hid (2 * Tt.zeros (Tt.mk0 p) + (Tt.unp p).length ≤ 3 * p.length) := hide (by
     have h1 : Tt.zeros (Tt.mk0 p) ≤ (Tt.mk0 p).length := List.countP_le_length
     have h2 : (Tt.mk0 p).length = p.length := by unfold Tt.mk0; simp
     have h3 := unpK_len p p.length
     have h4 : (unpK p p.length) = Tt.unp p := rfl
     rw [h4] at h3
     omega)
    rw [show Tt.unp p = unpK p p.length from rfl] at HINV HM0
    obtain ⟨q0, hq0⟩ : ∃ v, unpK p p.length = v := ⟨_, rfl⟩
    rw [hq0] at hQ HINV HM0 ⊢
    clear hq0 hI hk hkl
    generalize Tt.mk0 p = m0 at *
    go_wp2
    clear hki
    go_loopw [4] (fun v wr => ∃ (m q : List Nat) (A : Option Addr) (c : Nat), v = .slice A q.length c ∧ QAt wr (w.heap.size + 1) (.slice A q.length c) q ∧ Hid (Tt.Inv can p m q) ∧ BlkAt wr w.heap.size (mcs m) 3 ∧ Below w.heap.size w wr ∧ w.heap.size + 1 ≤ wr.heap.size ∧ Hid (2 * Tt.zeros m + q.length ≤ 3 * p.length)) (fun v wr => 2 * zerosV wr.heap[w.heap.size]? + lenV v)
    case atStart => exact ⟨m0, q0, A, c, rfl, hQ, HINV, hI2, hb, hzr, HM0⟩
    case round =>
     clear hQ hI2 hb hzr HINV HM0
     obtain ⟨m, q, A, c, rfl, hQ, HI, hI, hb, hzr, HM⟩ := hrel
     obtain ⟨wp, rfl⟩ : ∃ wp : World, wp = wr := ⟨_, rfl⟩
     cases q with
     | nil =>
       simp only [List.length_nil]
       have hml := HI.out.len
       have HRE := hide HI.out.reach
       have hbt := HI.out.bit
       have HBT := hide hbt
       clear hbt hQ
       go_wp2
       go_loopw [12, 85] (fun v iv wr => ∃ (k : Nat) (A1 : Option Addr) (n1 c1 : Nat), k ≤ p.length ∧ iv = .int .i64 (k : Nat) ∧ v = .slice A1 n1 c1 ∧ Hid (n1 = (outK m k).length) ∧ wr.ownsRow wp.heap.size 3 1 (.slice A1 n1 c1) n1 ((zs (outK m k)).map (Value.int .i64)) ∧ Below wp.heap.size wp wr) (fun _ iv _ => p.length - (intOf iv).toNat)
       case atStart => exact ⟨0, none, 0, 0, Nat.zero_le _, rfl, rfl, rfl, World.ownsRow_nil _ _ _ _, Below.refl _ _⟩
       case round =>
        obtain ⟨k, A1, n1, c1, hk, rfl, rfl, HN, hO, hb2⟩ := hrel
        have hIr := hI.ext hb2
        have hz2 := hb2.size
        by_cases hkl : k < p.length
        · have hki : (k : Int) < (p.length : Int) := by omega
          have hkm : k < m.length := by omega
          have i0 := obj_at hIr k _ (mcs_at m k hkm)
          have il := obj_lt hIr
          have HOS := hide (outK_succ m k hkm)
          have hol := outK_len m k
          rw [← HN.out] at hol
          have hyb := HBT.out m[k] (List.getElem_mem hkm)
          generalize m[k] = y at *
          by_cases hy : y = 1
          · have hyI : ((y : Int) == 1) = true := by simp; omega
            have HO2 : Hid (outK m (k + 1) = outK m k ++ [k]) := hide (by rw [HOS.out, if_pos hy])
            clear hy hyb HOS
            go_wp2_with (first
 | (at_builtin; refine wpList_app _ rfl (.tmp 92) (.tmp 94) 22 rfl (wp.heap.size) 3 ti _ 1 8 und22k ih iz is ib rfl (by decide) ((.slice A1 n1 c1)) (n1) (_) rfl (hO.alloc _) (some ⟨wr.heap.size, 0, none⟩) (1) (1) ([.int .i64 (k : Nat)]) rfl (rd_new1 _ _ _) (by simp [Value.oneCell']) (by unfold maxLen; omega) (by omega) (by (first | omega | (simp only [zz]; omega) | (simp only [zz] at *; omega) | (simp; done) | (simp; omega))) ?_; intro A7 c7 u7 hown7 hgr7))
            exact ⟨⟨k + 1, A7, n1 + 1, c7, by omega, by go_num, rfl, hide (by rw [HO2.out, List.length_append, ← HN.out]; rfl), by rw [HO2.out, zs_snoc, List.map_append]; exact hown7, gb_below (below_alloc hb2 hz2 _) hgr7 (by simp; omega) (fun r e => (hO.lt r e).1)⟩, by simp [intOf]; omega⟩
          · have hyI : ((y : Int) == 1) = false := by simp; omega
            have HO2 : Hid (outK m (k + 1) = outK m k) := hide (by rw [HOS.out, if_neg hy])
            clear hy hyb HOS
            go_wp2
            exact ⟨⟨k + 1, A1, n1, c1, by omega, by go_num, rfl, hide (by rw [HO2.out]; exact HN.out), by rw [HO2.out]; exact hO, hb2⟩, by simp [intOf]; omega⟩
        · have hki : ¬ ((k : Int) < (p.length : Int)) := by omega
          have hke : k = m.length := by omega
          have hout : outK m k = Tt.outM m := by rw [hke]; rfl
          rw [hout] at hO HN
          have HN' := HN
          have HOUT := hide hout
          have hI64 := own_i64 hO
          have hml2 := hide hml
          clear hke hout HN
          go_wp2
          go_ret
          unfold ShortP
          exact ⟨m, A1, c1, by rw [← HN'.out]; rfl, below_step hb hb2 (by omega), hI64, hml2.out, HRE.out⟩
     | cons n q =>
       obtain ⟨g, o, cap, hve, hg, hcn, hcap, hQt⟩ := hQ.head
       injection hve with hA _ hc
       subst hA hc
       have hnm : n < m.length := (HI.out.wait n (by simp)).lt
       have hml := HI.out.len
       have hnr : n < rows.length := by rw [HRL.out, ← HLEN.out, ← hml]; exact hnm
       have hnI : (n : Int) < (rows.length : Int) := by omega
       have hzM := zerosV_mcs hI
       have HNX := hide (HI.out.next HP.out (fun n x hx => by
        rw [List.getD_eq_getElem?_getD] at hx
        cases hc : can[n]? with
        | none => rw [hc] at hx; cases hx
        | some r => rw [hc] at hx; have := (HB.out r (List.mem_of_getElem? hc)).2 x hx; omega))
       obtain ⟨At, hAt⟩ : ∃ v, (if c = 1 then some ⟨g, o, none⟩ else some ⟨g, o + 1, none⟩ : Option Addr) = v := ⟨_, rfl⟩
       have hQ2 := hQt At (by rw [← hAt]; by_cases h : c = 1 <;> simp [h]; omega)
       have HATT := hide hAt
       simp only [List.length_cons]
       have hCp := hC.ext hb
       have c3 := obj_at hCp 3 _ rfl
       have cl := obj_lt hCp
       have hcp := hcan.ext hb
       obtain ⟨cb, co, hce, hcb, hcc⟩ := hcp.1.2 (by omega)
       subst hce
       have hcn3 := hcc n (cellL rows[n]) (by rw [List.getElem?_map, List.getElem?_eq_getElem hnr]; rfl)
       have hrI := hcan.2 _ (List.getElem_mem hnr)
       have hrc : can.getD n [] = (rows[n]).2.1 := by
        rw [← HRC.out, List.getD_eq_getElem?_getD, List.getElem?_map, List.getElem?_eq_getElem hnr]
        rfl
       have hrB := HB.out (rows[n]).2.1 (by rw [← HRC.out]; exact List.mem_map.2 ⟨_, List.getElem_mem hnr, rfl⟩)
       rw [hrc] at HNX
       obtain ⟨⟨rA, rx, rc⟩, hrr⟩ : ∃ v, rows[n] = v := ⟨_, rfl⟩
       rw [hrr] at hcn3 hrI HNX hrB
       unfold cellL at hcn3
       dsimp only at hcn3 hrI HNX hrB
       clear hrr hrc hcc hQt
       obtain ⟨hrx1, hrxB⟩ := hrB
       have HRXB := hide hrxB
       have HROW := hide (fun k (hk : k ≤ rx.length) => Tt.rowM_inv (n := n) HP.out (m := m) (q := q) HI.out.len HI.out.bit (fun c hc => HI.out.wait c (by simp [hc])) (rx.take k) (fun x hx => by have := HRXB.out x (List.mem_of_mem_take hx); omega))
       have hMM := HM.out
       simp only [List.length_cons] at hMM
       have hpq : 3 * p.length ≤ 18 := by omega
       clear hrxB
       go_wp2
       go_loopw [4, 59] (fun v iv wr => ∃ (k : Nat) (m1 q1 : List Nat) (A1 : Option Addr) (c1 : Nat), k ≤ rx.length ∧ iv = .int .i64 (k : Nat) ∧ v = .slice A1 q1.length c1 ∧ Hid (Tt.rowM p (m, q) (rx.take k) = (m1, q1)) ∧ QAt wr (w.heap.size + 1) (.slice A1 q1.length c1) q1 ∧ BlkAt wr w.heap.size (mcs m1) 3 ∧ Below w.heap.size w wr ∧ w.heap.size + 1 ≤ wr.heap.size) (fun _ iv _ => rx.length - (intOf iv).toNat)
       case atStart => exact ⟨0, m, q, At, c - 1, Nat.zero_le _, rfl, rfl, hide rfl, hQ2, hI, hb, hzr⟩
       case round =>
        clear hQ hQ2 hI hcn hg hnI hcp hCp c3 cl hcn3 hcb
        obtain ⟨k, m1, q1, A1, c1, hk, rfl, rfl, HR, hQ1, hI1, hb1, hz1⟩ := hrel
        have hrow := HROW.out k hk
        rw [HR.out] at hrow
        have hm1l := hrow.len
        have hme := hrow.meas
        dsimp only at hm1l hme
        by_cases hkl : k < rx.length
        · have hki : (k : Int) < (rx.length : Int) := by omega
          have hIr := hrI.ext hb1
          obtain ⟨rb, ro, rfl, hrb⟩ := hIr.form (by omega)
          have hcx := hIr.at hkl
          have hCr := hC.ext hb1
          have hpr := hpI.ext hb1
          have HSN : Hid (Tt.rowM p (m, q) (rx.take (k + 1)) = Tt.stepM p (m1, q1) rx[k]) := hide (by rw [take_snoc _ _ hkl, Tt.rowM_snoc, HR.out])
          obtain ⟨x, hx⟩ : ∃ v, rx[k] = v := ⟨_, rfl⟩
          rw [hx] at hcx HSN
          clear hx hrow
          cases hh : Tt.holder p x with
          | none =>
            have HH : Hid (holderI p x = -1) := hide (by unfold holderI; rw [hh])
            have HS2 : Hid (Tt.rowM p (m, q) (rx.take (k + 1)) = (m1, q1)) := hide (by rw [HSN.out]; unfold Tt.stepM; rw [hh])
            clear hh HSN
            go_wp2_with (go_at_call 93; refine (holder_any C v0 (.slice Y p.length yc) v2 (.slice (some ⟨cb, co, none⟩) rows.length cc) Ap p pc x _ hCr hpr (by omega)).mono ?_; rintro e w2 ⟨rfl, hb2⟩; replace hb2 := ex_below hb2; have hz2 := hb2.size; rw [HH.out]; have hI2 := hI1.ext hb2)
            exact ⟨⟨k + 1, m1, q1, A1, c1, by omega, by go_num, rfl, HS2, hQ1.ext hb2, hI2, below_step hb1 hb2 (by omega), by omega⟩, by simp [intOf]; omega⟩
          | some h =>
            have hhl := (Tt.holder_some hh).2
            have hhm : h < m1.length := by omega
            have HH : Hid (holderI p x = (h : Nat)) := hide (by unfold holderI; rw [hh])
            have hgd : m1.getD h 1 = m1[h] := by rw [List.getD_eq_getElem?_getD, List.getElem?_eq_getElem hhm]; rfl
            have hat := mcs_at m1 h hhm
            have hhI : (0 : Int) ≤ (h : Int) := by omega
            have hhp : (h : Int) < (p.length : Int) := by omega
            by_cases hz : m1[h] = 0
            · have HS2 : Hid (Tt.rowM p (m, q) (rx.take (k + 1)) = (m1.set h 1, q1 ++ [h])) := hide (by rw [HSN.out]; unfold Tt.stepM; rw [hh]; dsimp only; rw [if_pos (by rw [hgd]; exact hz)])
              rw [hz] at hat
              have HAT := hide hat
              clear hh HSN hgd hz hat
              go_wp2_with (first
 | (go_at_call 93; refine (holder_any C v0 (.slice Y p.length yc) v2 (.slice (some ⟨cb, co, none⟩) rows.length cc) Ap p pc x _ hCr hpr (by omega)).mono ?_; rintro e w2 ⟨rfl, hb2⟩; replace hb2 := ex_below hb2; have hz2 := hb2.size; rw [HH.out]; have hI2 := hI1.ext hb2; have i0 := obj_at hI2 h _ HAT.out; have if0 := obj_fz hI2 h; have il := obj_lt hI2; have HQs := hide ((hQ1.ext hb2).gx ((GX.refl [w.heap.size] w2).setCell ⟨w.heap.size, h, none⟩ (.int .i64 1) (fun _ => by simp)) (fun b hb => by have := hQ1.lt b hb; simp; omega)))
 | (at_builtin; refine wpList_q _ rfl (.tmp 78) (.tmp 80) rfl (w.heap.size + 1) (.slice A1 q1.length c1) (q1) rfl (HQs.out.ext (below_alloc (Below.refl _ _) (Nat.le_refl _) _)) h (some ⟨w2.heap.size, 0, none⟩) 1 rfl (by have h := rd_new1 (w2.setCell ⟨w.heap.size, h, none⟩ (.int .i64 1)) (.int .i64 (h : Nat)) 3; rw [size_setCell] at h; exact h) (by omega) (by simp; omega) ?_; intro A7 c7 v7 hQ7 hgr7))
              have hI7 : BlkAt v7 w.heap.size (mcs (m1.set h 1)) 3 := by
               rw [← mcs_set]
               exact (hgr7.block w.heap.size (by simp; omega) (fun e => by have := hQ1.lt _ e.symm; omega)).trans ((BlkAt.ext (set_obj hI2 h (.int .i64 1)) (below_alloc (Below.refl _ _) (Nat.le_refl _) _)))
              have hbs : Below w.heap.size w v7 := gb_below (below_alloc (Below.setCell (below_step hb1 hb2 (by omega)) (by simp) _) (by simp; omega) _) hgr7 (by simp; omega) (fun r e => by have := hQ1.lt r e; omega)
              exact ⟨⟨k + 1, m1.set h 1, q1 ++ [h], A7, c7, by omega, by go_num, by rw [List.length_append]; rfl, HS2, by rw [List.length_append]; exact hQ7, hI7, hbs, by have := hgr7.size; simp at this; omega⟩, by simp [intOf]; omega⟩
            · have HS2 : Hid (Tt.rowM p (m, q) (rx.take (k + 1)) = (m1, q1)) := hide (by rw [HSN.out]; unfold Tt.stepM; rw [hh]; dsimp only; rw [if_neg (by rw [hgd]; exact hz)])
              obtain ⟨y, hy⟩ : ∃ v, m1[h] = v := ⟨_, rfl⟩
              rw [hy] at hat hz
              have hyI : ((y : Int) == 0) = false := by simp; omega
              have HAT := hide hat
              clear hh HSN hgd hy hat
              go_wp2_with (go_at_call 93; refine (holder_any C v0 (.slice Y p.length yc) v2 (.slice (some ⟨cb, co, none⟩) rows.length cc) Ap p pc x _ hCr hpr (by omega)).mono ?_; rintro e w2 ⟨rfl, hb2⟩; replace hb2 := ex_below hb2; have hz2 := hb2.size; rw [HH.out]; have hI2 := hI1.ext hb2; have i0 := obj_at hI2 h _ HAT.out; have if0 := obj_fz hI2 h; have il := obj_lt hI2)
              exact ⟨⟨k + 1, m1, q1, A1, c1, by omega, by go_num, rfl, HS2, hQ1.ext hb2, hI2, below_step hb1 hb2 (by omega), by omega⟩, by simp [intOf]; omega⟩
        · have hki : ¬ ((k : Int) < (rx.length : Int)) := by omega
          have hke : k = rx.length := by omega
          have hall := HR.out
          rw [hke, List.take_length] at hall
          have hnx := HNX.out
          rw [hall] at hnx
          dsimp only at hnx
          obtain ⟨hnx1, hnx2⟩ := hnx
          have hz1' := zerosV_mcs hI1
          have HNX1 := hide hnx1
          simp only [List.length_cons] at hnx2
          clear hke hall hnx1 hrow
          go_wp2
          exact ⟨⟨m1, q1, A1, c1, rfl, hQ1, HNX1, hI1, hb1, hz1, hide (by omega)⟩, by rw [hz1', hzM]; simp only [lenV, List.length_cons]; omega⟩
end Go.Proofs.Ytgjfejpibielaaa
