/- Proved here: how wrong a word is at least, from a state on, a part of the proofs about the ticket laws. Conditions: those that each theorem names, no others. -/
import Derived.Test.YtgjfejpibielaaaQ20
import Derived.WalkKit
import Derived.WalkSpells
import Derived.WalkLawsBesides
import Derived.Below
import Derived.Deep.QuietTactic
import Derived.BigQuiet
import Derived.Deep.Light
set_option linter.unusedSimpArgs false
set_option linter.unusedVariables false
namespace Go.Proofs.Ytgjfejpibielaaa
open Go.RowKit Go.Maps Go.Shelf
attribute [local go_sem] Oper.semAt_some World.cell?_setCell_far
theorem infoW : (Try.prog.info? 133).map (fun i => (i.zero, i.size, i.bytes)) = some (some (.agg #[.int .i64 0, .int .i64 0]), 2, 16) := by kernel_rfl
theorem und134 : Try.prog.underlying 134 = some (.slice 133) := by kernel_rfl
/-- an entry tells how wrong a word is at least from there on -/
def goodW (L rest : Nat) (K T ws : List Nat) (key v : Value) : Prop := ∃ (p : Nat) (la : Int) (s : Nat), p ≤ 8 ∧ (-1 ≤ la ∧ la ≤ 5) ∧ s ≤ 5 ∧ key = stV p la s ∧ v = .int .i64 ((Tt.bestA L rest ((K.zip T).drop p) la s (ws.drop p)).2 : Nat)
theorem finW (L rest : Nat) (K T ws : List Nat) : Finite 91 (goodW L rest K T ws) := by
 refine finite_of ((List.range 9).flatMap fun p => (List.range 7).flatMap fun (l : Nat) => (List.range 6).map fun s => stV p ((l : Int) - 1) s) (by decide +kernel) ?_
 rintro key v ⟨p, la, s, hp, hla, hs, rfl, rfl⟩
 refine List.mem_flatMap.2 ⟨p, List.mem_range.2 (by omega), List.mem_flatMap.2 ⟨(la + 1).toNat, List.mem_range.2 (by omega), List.mem_map.2 ⟨s, List.mem_range.2 (by omega), ?_⟩⟩⟩
 rw [show (((la + 1).toNat : Nat) : Int) - 1 = la by omega]
theorem und130 : Try.prog.underlying 130 = some (.map 91 3) := by kernel_rfl
/-- what the closure sees -/
structure NrE (w : World) (B M : Nat) (L rest : Nat) (A : Option Addr) (K : List Nat) (c : Nat) (S : Option Addr) (T : List Nat) (d : Nat) (must : Value → Prop) (ws : List Nat) (w00 : World) (Wm p1 p2 p3 p4 : Nat) : Prop where
 b1 : BlkAt w p1 #[.pointer (some ⟨B, 0, none⟩)] 83
 b2 : BlkAt w p2 #[.map (some Wm)] 130
 b3 : BlkAt w p3 #[.func (.func 89) #[] #[.pointer (some ⟨p1, 0, none⟩), .pointer (some ⟨p2, 0, none⟩), .pointer (some ⟨p3, 0, none⟩), .pointer (some ⟨p4, 0, none⟩)]] 131
 b4 : BlkAt w p4 #[.string (strW ws)] 9
 mx : Mx w B M L rest A K c S T d must
 wm : (KMap 91 Wm (goodW L rest K T ws) (fun _ => False)) w
 fm : FarM B M A S Wm
 mw : MachAt w00 B M L rest A K c S T d
 old : ∀ b, b < w00.heap.size → b ≠ M → w.heap[b]? = w00.heap[b]?
 sz : w00.heap.size ≤ w.heap.size
 nw : w00.heap.size ≤ Wm
 l1 : w00.heap.size ≤ p1
 l2 : w00.heap.size ≤ p2
 l3 : w00.heap.size ≤ p3
 l4 : w00.heap.size ≤ p4
theorem NrE.nm {w : World} {B M : Nat} {L rest : Nat} {A : Option Addr} {K : List Nat} {c : Nat} {S : Option Addr} {T : List Nat} {d : Nat} {must : Value → Prop} {ws : List Nat} {w00 : World} {Wm p1 p2 p3 p4 : Nat} (h : NrE w B M L rest A K c S T d must ws w00 Wm p1 p2 p3 p4) : (p1 ∉ [M, Wm] ∧ p2 ∉ [M, Wm]) ∧ (p3 ∉ [M, Wm] ∧ p4 ∉ [M, Wm]) ∧ M ≠ Wm := by
 have e1 := h.mx.km.notBlk h.b1
 have e2 := h.mx.km.notBlk h.b2
 have e3 := h.mx.km.notBlk h.b3
 have e4 := h.mx.km.notBlk h.b4
 have f1 := h.wm.notBlk h.b1
 have f2 := h.wm.notBlk h.b2
 have f3 := h.wm.notBlk h.b3
 have f4 := h.wm.notBlk h.b4
 refine ⟨⟨?_, ?_⟩, ⟨?_, ?_⟩, h.fm.2.1⟩ <;> simp only [List.mem_cons, List.not_mem_nil, or_false, not_or]
 · exact ⟨e1.symm, f1.symm⟩
 · exact ⟨e2.symm, f2.symm⟩
 · exact ⟨e3.symm, f3.symm⟩
 · exact ⟨e4.symm, f4.symm⟩
theorem NrE.gx {w w' : World} {B M : Nat} {L rest : Nat} {A : Option Addr} {K : List Nat} {c : Nat} {S : Option Addr} {T : List Nat} {d : Nat} {must : Value → Prop} {ws : List Nat} {w00 : World} {Wm p1 p2 p3 p4 : Nat} (h : NrE w B M L rest A K c S T d must ws w00 Wm p1 p2 p3 p4) (g : GX [M, Wm] w w') (k1 : (KMap 91 M (goodF L rest K T) must) w') (k2 : (KMap 91 Wm (goodW L rest K T ws) (fun _ => False)) w') : NrE w' B M L rest A K c S T d must ws w00 Wm p1 p2 p3 p4 := by
 have hn := h.nm
 have hA : ∀ b o, A = some ⟨b, o, none⟩ → b ∉ [M, Wm] := fun b o e => by
  have q1 := h.mx.ne.2.1 b o e
  have q2 := h.fm.2.2.1 b o e
  simp [q1, q2]
 have hS : ∀ b o, S = some ⟨b, o, none⟩ → b ∉ [M, Wm] := fun b o e => by
  have q1 := h.mx.ne.2.2 b o e
  have q2 := h.fm.2.2.2 b o e
  simp [q1, q2]
 have hB : B ∉ [M, Wm] := by
  have q1 := h.mx.ne.1
  have q2 := h.fm.1
  simp [q1, q2]
 exact { b1 := h.b1.gx g hn.1.1, b2 := h.b2.gx g hn.1.2, b3 := h.b3.gx g hn.2.1.1, b4 := h.b4.gx g hn.2.1.2, mx := ⟨h.mx.at_.gx g hB hA hS, h.mx.ok, h.mx.ne, k1⟩, wm := k2, fm := h.fm, mw := h.mw, old := fun b hb hm => (g.block b (Nat.lt_of_lt_of_le hb h.sz) (by have := h.nw; simp; omega)).trans (h.old b hb hm), sz := Nat.le_trans h.sz g.size, nw := h.nw, l1 := h.l1, l2 := h.l2, l3 := h.l3, l4 := h.l4 }
theorem NrE.ext {w w' : World} {B M : Nat} {L rest : Nat} {A : Option Addr} {K : List Nat} {c : Nat} {S : Option Addr} {T : List Nat} {d : Nat} {must : Value → Prop} {ws : List Nat} {w00 : World} {Wm p1 p2 p3 p4 : Nat} (h : NrE w B M L rest A K c S T d must ws w00 Wm p1 p2 p3 p4) (hb : Below w.heap.size w w') : NrE w' B M L rest A K c S T d must ws w00 Wm p1 p2 p3 p4 :=
 h.gx ((GX.refl _ w).below hb (Nat.le_refl _)) (h.mx.km.below hb) (h.wm.below hb)
/-- what the closure comes to -/
def GivesB (w : World) (L rest M Wm : Nat) (K T ws : List Nat) (must : Value → Prop) (b : Nat × Nat) (e : Ending) (w' : World) : Prop :=
 e = .returned (.agg #[.int .i64 (b.1 : Nat), .int .i64 (b.2 : Nat)]) ∧ GX [M, Wm] w w' ∧ (KMap 91 M (goodF L rest K T) must) w' ∧ (KMap 91 Wm (goodW L rest K T ws) (fun _ => False)) w'
theorem own_kind {w : World} {B g : Nat} {e : TypeId} {sz n : Nat} {v : Value} {xs : List Value} (h : w.ownsRow B e sz v n xs) (hv : v.ownBlock = some g) {b : Nat} {cs : Array Value} {t : TypeId} (hb : BlkAt w b cs t) (ht : t ≠ e) : g ≠ b := fun e1 => by
 rcases h.2 with ⟨rfl, _⟩ | ⟨g', cap, cur, rfl, _, hgg, _⟩
 · simp [Value.ownBlock] at hv
 · simp [Value.ownBlock] at hv
   subst hv
   rw [e1, show w.heap[b]? = _ from hb] at hgg
   injection hgg with hgg
   injection hgg with _ h2
   exact ht h2
theorem keeps_row {N : Nat} {X Y : World} {B : Nat} {e : TypeId} {sz n : Nat} {v : Value} {xs : List Value} (h : X.ownsRow B e sz v n xs) (hg : X.grownBy Y v.ownBlock) : KeepsFrom N X Y :=
 ⟨hg.size, fun k o _ hk ho => (hg.block k (Array.getElem?_eq_some_iff.1 hk).1 (fun e1 => by
  rcases h.2 with ⟨rfl, _⟩ | ⟨g', cap, cur, rfl, _, hgg, _⟩
  · simp [Value.ownBlock] at e1
  · simp [Value.ownBlock] at e1
    subst e1
    rw [hk] at hgg
    injection hgg with hgg
    subst hgg
    cases ho)).trans hk⟩
theorem own_cells {N : Nat} {X Y : World} {row : Option Nat} {B : Nat} {e : TypeId} {sz n : Nat} {v : Value} {xs : List Value} (h : X.ownsRow B e sz v n xs) (hg : X.grownBy Y row) (hr : ∀ r, row = some r → N ≤ r ∧ ∃ o : Obj, X.heap[r]? = some o ∧ o.isCells = false) : Y.ownsRow B e sz v n xs := by
 refine h.kept hg ?_
 cases hv : v.ownBlock with
 | none => exact .inl rfl
 | some g => exact .inr (fun e1 => by
    obtain ⟨_, o, ho, hc⟩ := hr g e1.symm
    rcases h.2 with ⟨rfl, _⟩ | ⟨g', cap, cur, rfl, _, hgg, _⟩
    · simp [Value.ownBlock] at hv
    · simp [Value.ownBlock] at hv
      subst hv
      rw [ho] at hgg
      injection hgg with hgg
      subst hgg
      cases hc)
theorem own_gx {S : List Nat} {X Y : World} {B : Nat} {e : TypeId} {sz n : Nat} {v : Value} {xs : List Value} (h : X.ownsRow B e sz v n xs) (g : GX S X Y) (hr : ∀ k, v.ownBlock = some k → k ∉ S) : Y.ownsRow B e sz v n xs := by
 refine ⟨h.1, ?_⟩
 rcases h.2 with hn | ⟨k, cap, cur, rfl, hb, hgg, rest⟩
 · exact .inl hn
 · exact .inr ⟨k, cap, cur, rfl, hb, (g.block k (Array.getElem?_eq_some_iff.1 hgg).1 (hr k rfl)).trans hgg, rest⟩
theorem Kq.row {n M B1 B2 : Nat} {X Y : World} {row : Option Nat} (hg : X.grownBy Y row) (hr : ∀ r, row = some r → n ≤ r ∧ r ≠ B1 ∧ r ≠ B2) (hn : n ≤ X.heap.size) (h1 : B1 < X.heap.size) (h2 : B2 < X.heap.size) : Kq n M B1 B2 X Y :=
 ⟨fun b hb _ => hg.block b (by omega) (fun e => by have := hr b e.symm; omega), hg.block B1 h1 (fun e => (hr B1 e.symm).2.1 rfl), hg.block B2 h2 (fun e => (hr B2 e.symm).2.2 rfl), hg.size⟩
@[go_sem] theorem field133 (a b : Int) (w : World) : (Instr.field 133 (.agg #[.int .i64 a, .int .i64 b]) 1).run Try.prog w = .ok (.int .i64 b) w := by kernel_rfl
def entsL (en : Nat → Option (Nat × Nat)) (L : Nat) (pre : List Nat) : List (Nat × Nat) := (0, 100) :: pre.filterMap fun x => en (x % L)
theorem entsL_snoc (en : Nat → Option (Nat × Nat)) (L : Nat) (pre : List Nat) (x : Nat) : entsL en L (pre ++ [x]) = entsL en L pre ++ (match en (x % L) with | some y => [y] | none => []) := by
 unfold entsL
 rw [List.filterMap_append, List.cons_append]
 congr 2
 simp only [List.filterMap_cons, List.filterMap_nil]
 cases en (x % L) <;> rfl
theorem entsL_len (en : Nat → Option (Nat × Nat)) (L : Nat) (pre : List Nat) : (entsL en L pre).length ≤ pre.length + 1 := by
 unfold entsL
 rw [List.length_cons]
 have := List.length_filterMap_le (fun x => en (x % L)) pre
 omega
theorem zr_app (a b : List (Nat × Nat)) : zr (a ++ b) = zr a ++ zr b := List.map_append
set_option maxRecDepth 100000 in
set_option maxHeartbeats 4000000 in
theorem best_step (B M : Nat) (L rest : Nat) (A : Option Addr) (K : List Nat) (c : Nat) (S : Option Addr) (T : List Nat) (d : Nat) (must : Value → Prop) (ws : List Nat) (w00 : World) (Wm p1 p2 p3 p4 : Nat) (hwl : ws.length = K.length) (hwL : ∀ x, x ∈ ws → x < L) (p : Nat) (la : Int) (s : Nat) (w : World) (hE : NrE w B M L rest A K c S T d must ws w00 Wm p1 p2 p3 p4) (hp : p < K.length) (hla : -1 ≤ la ∧ la ≤ 5) (hs : s < L)
 (ih : ∀ (x s' : Nat) (w' : World), x < L → s' < L → p + 1 < K.length → NrE w' B M L rest A K c S T d must ws w00 Wm p1 p2 p3 p4 → Calls Try.prog 89 #[.agg #[.int .i64 ((p + 1 : Nat) : Int), .int .i64 (x : Nat), .int .i64 (s' : Nat)], .pointer (some ⟨p1, 0, none⟩), .pointer (some ⟨p2, 0, none⟩), .pointer (some ⟨p3, 0, none⟩), .pointer (some ⟨p4, 0, none⟩)] w' (GivesB w' L rest M Wm K T ws must (Tt.bestA L rest ((K.zip T).drop (p + 1)) (x : Nat) s' (ws.drop (p + 1))))) :
 Calls Try.prog 89 #[.agg #[.int .i64 (p : Nat), .int .i64 la, .int .i64 (s : Nat)], .pointer (some ⟨p1, 0, none⟩), .pointer (some ⟨p2, 0, none⟩), .pointer (some ⟨p3, 0, none⟩), .pointer (some ⟨p4, 0, none⟩)] w (GivesB w L rest M Wm K T ws must (Tt.bestA L rest ((K.zip T).drop p) la s (ws.drop p))) := by
 have hok := hE.mx.ok
 obtain ⟨hL2, hL6, hn2, hn8, htl, hkL, htL, hrL⟩ := id hok
 obtain ⟨ti, ih', iz, is, ib⟩ := info_parts infoW
 have HTL := hide htl
 have htp : p < T.length := by omega
 have hwp : p < ws.length := by omega
 have HWL := hide hwl
 have HLT := hide hwL
 have hwL' := hwL _ (List.getElem_mem hwp)
 have hws8 := hide (show (strW ws).size = ws.length from strW_size ws)
 have hby := strW_at (fun x hx => by have := hwL x hx; omega) p hwp
 have HBY := hide hby
 have hzd := Tt.zip_drop hp htp
 have hbl := Tt.best_lets L rest (K[p], T[p]) ((K.zip T).drop (p + 1)) la s (ws.drop p)
 rw [← hzd] at hbl
 have hdw : ws.drop p = ws[p] :: ws.drop (p + 1) := List.drop_eq_getElem_cons hwp
 have HEN : Hid (∀ c, Tt.entry L rest (K[p], T[p]) ((K.zip T).drop (p + 1)) s (ws.drop p) c = if Tt.cnt L rest ((K.zip T).drop (p + 1)) (c : Nat) ((s + K[p] * c) % L) ≠ 0 then some (c, (Tt.bestA L rest ((K.zip T).drop (p + 1)) (c : Nat) ((s + K[p] * c) % L) (ws.drop (p + 1))).2 + if c = ws[p] then 0 else 1) else none) := hide (fun c => by unfold Tt.entry; rw [hdw]; rfl)
 have HBL := hide hbl
 obtain ⟨bb, hbb⟩ : ∃ v, (Tt.bestA L rest ((K.zip T).drop p) la s (ws.drop p)) = v := ⟨_, rfl⟩
 rw [hbb] at HBL ⊢
 have hB100 : bb.2 ≤ 100 := by rw [← hbb]; exact Tt.best_le _ _ _ _ _ _
 clear htl hwl hwL hby hzd hbl hdw hbb
 refine (callsIn_wide (n := 8)).1 ?_
 have h18 : 1 ≤ 8 := by omega
 refine callsIn_of_wp_marks Try.func89 rfl trivial ?_ rfl
 simp only [Try.ntmps89, List.size_toArray, List.length_cons, List.length_nil, Nat.reduceAdd, Nat.reduceSub, Array.replicate_succ, Array.replicate_zero, List.push_toArray, List.append_toArray, List.nil_append, List.cons_append]
 refine wpIn_wide.2 ?_
 have e1 := obj_at hE.b1 0 _ rfl
 go_upto_region 2 with fail
 have hBq : Below w.heap.size w ((((w.alloc (.cells #[.int .i64 (p : Nat), .int .i64 la, .int .i64 (s : Nat)] 91)).alloc (.cells #[.int .i64 0, .int .i64 0] 133)).alloc (.cells #[.int .i64 0, .int .i64 100] 133)).alloc (.cells #[.slice (some ⟨w.heap.size + 1 + 1, 0, none⟩) 1 1] 134)) := by (repeat (first | exact Below.refl _ _ | assumption | (refine below_gr ?_ (by (first | omega | (simp only [zz] at *; omega))) _) | (refine below_alloc ?_ (by (first | omega | (simp only [zz] at *; omega))) _) | (refine Below.setCell ?_ (by (first | omega | (simp only [zz] at *; omega))) _) | refine below_drewN ?_ _ | refine below_drew ?_ | (refine below_step ?_ (by assumption) (by (first | omega | (simp only [zz] at *; omega))))))
 have q5 : BlkAt ((((w.alloc (.cells #[.int .i64 (p : Nat), .int .i64 la, .int .i64 (s : Nat)] 91)).alloc (.cells #[.int .i64 0, .int .i64 0] 133)).alloc (.cells #[.int .i64 0, .int .i64 100] 133)).alloc (.cells #[.slice (some ⟨w.heap.size + 1 + 1, 0, none⟩) 1 1] 134)) w.heap.size #[.int .i64 (p : Nat), .int .i64 la, .int .i64 (s : Nat)] 91 := (Below.heap_alloc _ _ _ (by simp; omega)).trans ((Below.heap_alloc _ _ _ (by simp; omega)).trans (heap_a _ _ _))
 have q6 : BlkAt ((((w.alloc (.cells #[.int .i64 (p : Nat), .int .i64 la, .int .i64 (s : Nat)] 91)).alloc (.cells #[.int .i64 0, .int .i64 0] 133)).alloc (.cells #[.int .i64 0, .int .i64 100] 133)).alloc (.cells #[.slice (some ⟨w.heap.size + 1 + 1, 0, none⟩) 1 1] 134)) (w.heap.size + 1) #[.int .i64 0, .int .i64 0] 133 := (Below.heap_alloc _ _ _ (by simp)).trans ((Below.heap_alloc _ _ _ (by simp)).trans (heap_b _ _ _))
 have q7 : BlkAt ((((w.alloc (.cells #[.int .i64 (p : Nat), .int .i64 la, .int .i64 (s : Nat)] 91)).alloc (.cells #[.int .i64 0, .int .i64 0] 133)).alloc (.cells #[.int .i64 0, .int .i64 100] 133)).alloc (.cells #[.slice (some ⟨w.heap.size + 1 + 1, 0, none⟩) 1 1] 134)) (w.heap.size + 1 + 1 + 1) #[.slice (some ⟨w.heap.size + 1 + 1, 0, none⟩) 1 1] 134 := by
  have h := heap_alloc_new (((w.alloc (.cells #[.int .i64 (p : Nat), .int .i64 la, .int .i64 (s : Nat)] 91)).alloc (.cells #[.int .i64 0, .int .i64 0] 133)).alloc (.cells #[.int .i64 0, .int .i64 100] 133)) (.cells #[.slice (some ⟨w.heap.size + 1 + 1, 0, none⟩) 1 1] 134)
  rwa [World.size_alloc, World.size_alloc, World.size_alloc] at h
 have qO : ((((w.alloc (.cells #[.int .i64 (p : Nat), .int .i64 la, .int .i64 (s : Nat)] 91)).alloc (.cells #[.int .i64 0, .int .i64 0] 133)).alloc (.cells #[.int .i64 0, .int .i64 100] 133)).alloc (.cells #[.slice (some ⟨w.heap.size + 1 + 1, 0, none⟩) 1 1] 134)).ownsRow (w.heap.size + 1 + 1) 133 2 (.slice (some ⟨w.heap.size + 1 + 1, 0, none⟩) 1 1) 1 [.int .i64 0, .int .i64 100] := by
  have h := own_made ((w.alloc (.cells #[.int .i64 (p : Nat), .int .i64 la, .int .i64 (s : Nat)] 91)).alloc (.cells #[.int .i64 0, .int .i64 0] 133)) #[.int .i64 0, .int .i64 100] 133 2 1 rfl (by unfold maxLen; omega) (w.heap.size + 1 + 1) (by simp)
  rw [World.size_alloc, World.size_alloc] at h
  exact h.alloc _
 have hEq := hE.ext hBq
 have hszq : ((((w.alloc (.cells #[.int .i64 (p : Nat), .int .i64 la, .int .i64 (s : Nat)] 91)).alloc (.cells #[.int .i64 0, .int .i64 0] 133)).alloc (.cells #[.int .i64 0, .int .i64 100] 133)).alloc (.cells #[.slice (some ⟨w.heap.size + 1 + 1, 0, none⟩) 1 1] 134)).heap.size ≤ w.heap.size + 1 + 1 + 1 + 1 := by simp
 obtain ⟨b5, hb5⟩ : ∃ v, w.heap.size = v := ⟨_, rfl⟩
 obtain ⟨b6, hb6⟩ : ∃ v, w.heap.size + 1 = v := ⟨_, rfl⟩
 obtain ⟨r0, hr0⟩ : ∃ v, w.heap.size + 1 + 1 = v := ⟨_, rfl⟩
 obtain ⟨b7, hb7⟩ : ∃ v, w.heap.size + 1 + 1 + 1 = v := ⟨_, rfl⟩
 have hbs : w.heap.size ≤ b5 ∧ b6 = b5 + 1 ∧ r0 = b6 + 1 ∧ b7 = r0 + 1 := by omega
 obtain ⟨wq, hwq⟩ : ∃ v, ((((w.alloc (.cells #[.int .i64 (p : Nat), .int .i64 la, .int .i64 (s : Nat)] 91)).alloc (.cells #[.int .i64 0, .int .i64 0] 133)).alloc (.cells #[.int .i64 0, .int .i64 100] 133)).alloc (.cells #[.slice (some ⟨w.heap.size + 1 + 1, 0, none⟩) 1 1] 134)) = v := ⟨_, rfl⟩
 rw [hwq] at hBq q5 q6 q7 qO hEq hszq ⊢
 have hWq7 : wq.heap.size ≤ b7 + 1 := by omega
 rw [hb7] at q7 ⊢
 rw [hr0] at q7 qO ⊢
 rw [hb6] at q6 ⊢
 rw [hb5] at q5 ⊢
 clear hwq hb5 hb6 hr0 hb7 e1
 obtain ⟨hs5, hs6, hs7, hs8⟩ := hbs
 replace hs6 : b5 < b6 := by omega
 replace hs7 : b6 < r0 := by omega
 have hs9 : b7 ≤ r0 + 1 := by omega
 replace hs8 : r0 < b7 := by omega
 have d0 := obj_at q5 0 _ rfl
 have d1 := obj_at q5 1 _ rfl
 have d2 := obj_at q5 2 _ rfl
 have e1 := obj_at hEq.b1 0 _ rfl
 have l5 := obj_lt q5
 have l7 := obj_lt q7
 have lp1 := obj_lt hEq.b1
 go_wp2_with (go_at_call 82; refine (steps_in _ (some ⟨B, 0, none⟩) p la s).mono ?_; rintro e w8 ⟨rfl, rfl⟩)
 have hb0 : Below wq.heap.size wq ((wq.alloc (.cells #[.pointer (some ⟨B, 0, none⟩)] 83)).alloc (.cells (stC p la s) 91)) := by (repeat (first | exact Below.refl _ _ | assumption | (refine below_gr ?_ (by (first | omega | (simp only [zz] at *; omega))) _) | (refine below_alloc ?_ (by (first | omega | (simp only [zz] at *; omega))) _) | (refine Below.setCell ?_ (by (first | omega | (simp only [zz] at *; omega))) _) | refine below_drewN ?_ _ | refine below_drew ?_ | (refine below_step ?_ (by assumption) (by (first | omega | (simp only [zz] at *; omega))))))
 have hBmm : BlkAt ((wq.alloc (.cells #[.pointer (some ⟨B, 0, none⟩)] 83)).alloc (.cells (stC p la s) 91)) wq.heap.size #[.pointer (some ⟨B, 0, none⟩)] 83 := heap_a _ _ _
 have hBss : BlkAt ((wq.alloc (.cells #[.pointer (some ⟨B, 0, none⟩)] 83)).alloc (.cells (stC p la s) 91)) (wq.heap.size + 1) (stC p la s) 91 := heap_b _ _ _
 have hsz : ((wq.alloc (.cells #[.pointer (some ⟨B, 0, none⟩)] 83)).alloc (.cells (stC p la s) 91)).heap.size = wq.heap.size + 1 + 1 := by simp
 obtain ⟨W0, hW0⟩ : ∃ v, ((wq.alloc (.cells #[.pointer (some ⟨B, 0, none⟩)] 83)).alloc (.cells (stC p la s) 91)) = v := ⟨_, rfl⟩
 rw [hW0] at hb0 hBmm hBss hsz ⊢
 have hE0 := hEq.ext hb0
 have hB0 := below_step hBq hb0 hBq.size
 have q50 := q5.ext hb0
 have q60 := q6.ext hb0
 have q70 := q7.ext hb0
 have qO0 := own_ext qO hb0
 have hqw := hBq.size
 obtain ⟨Wb, hWb⟩ : ∃ v, wq.heap.size = v := ⟨_, rfl⟩
 rw [hWb] at hBmm hBss hsz l5 l7 lp1 hWq7 ⊢
 have hnm := hE0.nm
 have h5m := hE0.mx.km.notBlk q50
 have h5w := hE0.wm.notBlk q50
 have h7m := hE0.mx.km.notBlk q70
 have h7w := hE0.wm.notBlk q70
 have hml := hE.mx.lts.2
 have hwl := hE.wm.lt
 have hHE := hide hE0
 have hM0 : M < w.heap.size := hml
 have HST := steps_stops 7 (by omega) Wb (Wb + 1) B M L rest A K c S T d p la s w00 hE.mw hok hE.mx.ne hp hla hs htp W0 hBmm hBss hE0.sz hE0.old
 obtain ⟨f, hf⟩ : ∃ f : Nat → Nat, f = fun c => Tt.cnt L rest ((K.zip T).drop (p + 1)) (c : Nat) ((s + K[p] * c) % L) := ⟨_, rfl⟩
 obtain ⟨gb, hgb⟩ : ∃ g : Nat → Nat, g = fun c => (Tt.bestA L rest ((K.zip T).drop (p + 1)) (c : Nat) ((s + K[p] * c) % L) (ws.drop (p + 1))).2 := ⟨_, rfl⟩
 have HIH : Hid (∀ (x : Nat) (w' : World), MachAt w' B M L rest A K c S T d → (KMap 91 M (goodF L rest K T) must) w' → Calls Try.prog 83 #[.pointer (some ⟨B, 0, none⟩), .agg #[.int .i64 ((p + 1 : Nat) : Int), .int .i64 ((x % L : Nat) : Int), .int .i64 (((s + K[p] * (x % L)) % L : Nat) : Int)]] w' (GivesM w' M (KMap 91 M (goodF L rest K T) must) (.int .i64 (f (x % L) : Nat)))) := hide (fun x w' h1 h2 => by
  have hL0 : 0 < L := by omega
  have hxl := Nat.mod_lt x hL0
  rw [hf]
  exact from_any B M L rest A K c S T d must (p + 1) ((x % L : Nat) : Int) ((s + K[p] * (x % L)) % L) w' h1 hok hE.mx.ne h2 (by omega) (by omega) (Nat.mod_lt _ hL0))
 have HBE : Hid (∀ (x : Nat) (w' : World), p + 1 < K.length → NrE w' B M L rest A K c S T d must ws w00 Wm p1 p2 p3 p4 → ∃ c1, Calls Try.prog 89 #[.agg #[.int .i64 ((p + 1 : Nat) : Int), .int .i64 ((x % L : Nat) : Int), .int .i64 (((s + K[p] * (x % L)) % L : Nat) : Int)], .pointer (some ⟨p1, 0, none⟩), .pointer (some ⟨p2, 0, none⟩), .pointer (some ⟨p3, 0, none⟩), .pointer (some ⟨p4, 0, none⟩)] w' (GivesB w' L rest M Wm K T ws must (c1, gb (x % L)))) := hide (fun x w' h1 h2 => by
  have hL0 : 0 < L := by omega
  rw [hgb]
  exact ⟨_, ih (x % L) ((s + K[p] * (x % L)) % L) w' (Nat.mod_lt x hL0) (Nat.mod_lt _ hL0) h1 h2⟩)
 have HG0 : Hid (¬ p + 1 < K.length → ∀ c, gb c = 0) := hide (fun h c => by
  rw [hgb]
  simp only
  rw [List.drop_eq_nil_of_le (by rw [List.length_zip]; omega)]
  rfl)
 have hg100 : ∀ c, gb c ≤ 100 := fun c => by rw [hgb]; exact Tt.best_le _ _ _ _ _ _
 have HGW : Hid (∀ x v, goodW L rest K T ws (stV (p + 1) ((x % L : Nat) : Int) ((s + K[p] * (x % L)) % L)) v → v = .int .i64 (gb (x % L) : Nat)) := hide (fun x v hv => by
  obtain ⟨q, lb, t, _, _, _, he, rfl⟩ := hv
  obtain ⟨rfl, rfl, rfl⟩ := stV_inj he
  rw [hgb])
 have HGP : Hid (∀ x, goodW L rest K T ws (stV (p + 1) ((x % L : Nat) : Int) ((s + K[p] * (x % L)) % L)) (.int .i64 (gb (x % L) : Nat))) := hide (fun x => by
  have hL0 : 0 < L := by omega
  have h1 := Nat.mod_lt x hL0
  have h2 := Nat.mod_lt (s + K[p] * (x % L)) hL0
  exact ⟨p + 1, ((x % L : Nat) : Int), (s + K[p] * (x % L)) % L, by omega, by omega, by omega, rfl, by rw [hgb]⟩)
 have HKY : Hid (∀ x, ∃ kl, keyOf Try.prog 91 (stV (p + 1) ((x % L : Nat) : Int) ((s + K[p] * (x % L)) % L)) = some kl) := hide (fun x => by
  have hL0 : 0 < L := by omega
  have h1 := Nat.mod_lt x hL0
  have h2 := Nat.mod_lt (s + K[p] * (x % L)) hL0
  exact keyS_of (by omega) (by omega) (by omega))
 have HEN2 : Hid (∀ c, Tt.entry L rest (K[p], T[p]) ((K.zip T).drop (p + 1)) s (ws.drop p) c = if f c ≠ 0 then some (c, gb c + if c = ws[p] then 0 else 1) else none) := hide (fun c => by rw [HEN.out, hf, hgb])
 have HENC : Hid (∀ x, encS L K[p] p s x = #[.int .i64 ((x % L : Nat) : Int), .agg #[.int .i64 ((p + 1 : Nat) : Int), .int .i64 ((x % L : Nat) : Int), .int .i64 (((s + K[p] * (x % L)) % L : Nat) : Int)]]) := hide (fun x => rfl)
 obtain ⟨en, hen⟩ : ∃ en : Nat → Option (Nat × Nat), en = Tt.entry L rest (K[p], T[p]) ((K.zip T).drop (p + 1)) s (ws.drop p) := ⟨_, rfl⟩
 have HMOD : Hid (((letters L T[p] la).filterMap fun x => en (x % L)) = (letters L T[p] la).filterMap en) := hide (Tt.fmap_congr _ (fun x hx => by rw [Nat.mod_eq_of_lt (letters_lt hx)]))
 have HBB : Hid (bb = ((letters L T[p] la).filterMap en).foldl Tt.lessP (0, 100)) := hide (by rw [HBL.out, hen]; rfl)
 rw [← hen] at HEN2
 have HENT := hide (fun c => HEN2.out c)
 clear hf hgb hen HEN HEN2 HBL ih hW0 hb0 hBq q5 q6 q7 qO hEq d0 d1 d2 e1
 have HWP := hide (show ws[p] < L from hwL')
 generalize K[p] = kp at *
 generalize T[p] = tp at *
 have hI0 : (∃ v, BlkAt W0 b7 #[v] 134 ∧ W0.ownsRow r0 133 2 v (entsL en L []).length (rngC (zr (entsL en L [])))) := ⟨_, q70, by simpa [entsL, zr, rngC] using qO0⟩
 refine (wpIn_wide (n := 8)).1 ?_
 refine wpIn_rangeFunc_ownH rfl h18 (gf := 94) (lb := #[.pointer (some ⟨Wb, 0, none⟩), .pointer (some ⟨Wb + 1, 0, none⟩)]) rfl trivial (enters_of Try.func94 (by kernel_rfl) rfl)
  HST (fun h k => h.trans k) (kq_put (by have := hE0.sz; omega) (by omega) (by omega)) (Below.refl _ _) (fun _ => rfl)
  (fun pre2 W' => (∃ v, BlkAt W' b7 #[v] 134 ∧ W'.ownsRow r0 133 2 v (entsL en L pre2).length (rngC (zr (entsL en L pre2)))) ∧ GX [M, Wm, b7, r0] W0 W' ∧ (KMap 91 M (goodF L rest K T) must) W' ∧ (KMap 91 Wm (goodW L rest K T ws) (fun _ => False)) W')
  (fun _ _ _ => False)
  ?ownI ?ownX ⟨hI0, GX.refl _ _, hE0.mx.km, hE0.wm⟩
  (fun x a' W' => ∃ Bx, Wb ≤ Bx ∧ BlkAt W' Bx #[.int .i64 ((p + 1 : Nat) : Int), .int .i64 ((x % L : Nat) : Int), .int .i64 (((s + kp * (x % L)) % L : Nat) : Int)] 91 ∧ a' = { tmps := #[.agg #[.int .i64 (p : Nat), .int .i64 la, .int .i64 (s : Nat)], .pointer (some ⟨p1, 0, none⟩), .pointer (some ⟨p2, 0, none⟩), .pointer (some ⟨p3, 0, none⟩), .pointer (some ⟨p4, 0, none⟩), .pointer (some ⟨b5, 0, none⟩), .pointer (some ⟨b6, 0, none⟩), .pointer (some ⟨b7, 0, none⟩), .int .i64 ((x % L : Nat) : Int), .pointer (some ⟨Bx, 0, none⟩), undef, undef, .agg #[.int .i64 0, .int .i64 100], .slice (some ⟨r0, 0, none⟩) 1 1, .pointer (some ⟨B, 0, none⟩), .agg #[.int .i64 (p : Nat), .int .i64 la, .int .i64 (s : Nat)], .func (.func 94) #[] #[.pointer (some ⟨Wb, 0, none⟩), .pointer (some ⟨Wb + 1, 0, none⟩)], .int .i64 ((x % L : Nat) : Int), .agg #[.int .i64 ((p + 1 : Nat) : Int), .int .i64 ((x % L : Nat) : Int), .int .i64 (((s + kp * (x % L)) % L : Nat) : Int)], undef, undef, undef, undef, undef, undef, undef, undef, undef, undef, undef, undef, undef, undef, undef, undef, undef, undef, undef, undef, undef, undef, undef, undef, undef, undef, undef, undef, undef, undef, undef, undef, undef, undef, undef, undef, undef, undef, undef, undef, undef, undef, undef, undef, undef, undef, undef, undef, undef, undef], defers := [] })
  ?ownA ?assign ?body ?done ?stop
 case ownI =>
  rintro s X Y row ⟨⟨v, h1, h2⟩, h3, h4, h5⟩ hg hr
  exact ⟨⟨v, cells_one h1 hg hr, own_cells h2 hg hr⟩, h3.grown hg (fun r e hlt => by have := (hr r e).1; omega), h4.kept hg (fun e => by have := (hr M e.symm).1; omega), h5.kept hg (fun e => by have := (hr Wm e.symm).1; omega)⟩
 case ownX => intro cd s X Y row h; exact h.elim
 case ownA =>
  rintro x a' s X Y row ⟨Bx, h2, h3, h4⟩ hg hr
  exact ⟨Bx, h2, cells_one h3 hg hr, h4⟩
 case assign =>
  rintro l pre2 x W' K' ⟨⟨v, hv7, hvO⟩, g', kc, kw⟩ hK
  rw [HENC.out]
  have hz := g'.size
  generalize hxl : x % L = cx at *
  generalize (s + kp * cx) % L = sv at *
  generalize ((p + 1 : Nat) : Int) = pp at *
  gi_wp2
  have hba : Below W'.heap.size W' (W'.alloc (.cells #[.int .i64 pp, .int .i64 (cx : Nat), .int .i64 (sv : Nat)] 91)) := below_alloc (Below.refl _ _) (Nat.le_refl _) _
  exact hK _ _ ((KeepsOthers.alloc _ _).from _) (Kq.below hba (by have := hE0.sz; omega) (by omega) (by omega)) ⟨⟨v, hv7.ext hba, own_ext hvO hba⟩, g'.below hba hz, kc.below hba, kw.below hba⟩ ⟨W'.heap.size, by omega, World.alloc_heap_new W' _, rfl⟩
 case body =>
  rintro l pre2 x a' W' hll ⟨r, hr⟩ ⟨⟨v, hv7, hvO⟩, g', kc, kw⟩ ⟨Bx, hBx, bX, rfl⟩ hlen
  obtain ⟨A9, c9, rfl⟩ := own_form hvO
  have hz := g'.size
  have gw : GX [M, Wm] w W' := ((GX.refl [M, Wm] w).below hB0 (Nat.le_refl _)).back g' (fun y hy hlt => by simp at hy ⊢; omega)
  have hEw := hE.gx gw kc kw
  have HI := hide (HIH.out x W' hEw.mx.at_ kc)
  have q5w := q50.gx g' (by simp; omega)
  have q7w := hv7
  have hbm' := hBmm.gx g' (by simp; omega)
  have hbs' := hBss.gx g' (by simp; omega)
  have hxm : Bx ∉ [M, Wm] := by simp; omega
  have hsn := entsL_snoc en L pre2 x
  have hel := entsL_len en L pre2
  have hfx := HENT.out (x % L)
  have hgx := hg100 (x % L)
  have HBx := hide (fun w' h1 h2 => HBE.out x w' h1 h2)
  have HG0x := hide (fun h => HG0.out h (x % L))
  have HGWx := hide (fun v h => HGW.out x v h)
  have HGPx := hide (HGP.out x)
  obtain ⟨kl, hkl⟩ := HKY.out x
  have hcx : x % L < L := Nat.mod_lt _ (by omega)
  generalize hxl : x % L = cx at *
  generalize hsv : (s + kp * cx) % L = sv at *
  have hgv : ∀ g, (Value.slice A9 (entsL en L pre2).length c9).ownBlock = some g → g ≠ Wb ∧ g ≠ Wb + 1 ∧ g ≠ b7 ∧ r0 ≤ g ∧ g < W'.heap.size := fun g hg => ⟨own_kind hvO hg hbm' (by decide), own_kind hvO hg hbs' (by decide), own_kind hvO hg hv7 (by decide), (hvO.lt g hg).1, (hvO.lt g hg).2⟩
  have x0 := obj_at bX 0 _ rfl
  have x1 := obj_at bX 1 _ rfl
  have x2 := obj_at bX 2 _ rfl
  have m1w := obj_at hEw.b1 0 _ rfl
  have hxw := obj_lt bX
  have hm1w := obj_lt hEw.b1
  obtain ⟨fc, hfc⟩ : ∃ v, f cx = v := ⟨_, rfl⟩
  obtain ⟨gc, hgc⟩ : ∃ v, gb cx = v := ⟨_, rfl⟩
  rw [hfc, hgc] at hfx
  rw [hgc] at hgx HBx HG0x HGWx HGPx
  rw [hfc] at HI
  have HSN := hide hsn
  have HFX := hide hfx
  clear hsn hfx hfc hgc hsv hxl
  obtain ⟨n9, hn9⟩ : ∃ v, (entsL en L pre2).length = v := ⟨_, rfl⟩
  have HN9 := hide hn9
  rw [hn9] at hvO hv7 q7w hel hgv
  clear hn9
  by_cases hf0 : fc = 0
  · have hfI : ((fc : Int) == 0) = true := by simp [hf0]
    have hfJ : (fc : Int) = 0 := by omega
    rw [hf0] at HI HFX
    clear hfI hfJ hf0
    gi_wp2_with (refine ⟨trivial, ?_⟩; gi_at_call 83; refine (calls_round HI.out).mono ?_; rintro e W2 ⟨rfl, hg2, hk3⟩; have hz2 := hg2.size; have gC : GX [M, Wm] W' W2 := (GX.refl _ _).grown hg2 (fun r e _ => by rw [← Option.some.inj e]; simp); have hE2 := hEw.gx gC hk3 (hEw.wm.kept hg2 (fun e => hnm.2.2 (Option.some.inj e).symm)); have bX2 := bX.gx gC hxm; have m1 := obj_at hE2.b1 0 _ rfl; have m2 := obj_at hE2.b2 0 _ rfl; have x0' := obj_at bX2 0 _ rfl; have x1' := obj_at bX2 1 _ rfl; have x2' := obj_at bX2 2 _ rfl; have hmw2 := obj_lt hE2.b2; have hxw2 := obj_lt bX2)
    have hen0 : entsL en L (pre2 ++ [x]) = entsL en L pre2 := by rw [HSN.out, HFX.out]; simp
    refine ⟨keeps_gx gC (fun y hy => by simp at hy; omega), Kq.of_gx gC (by have := hEw.sz; omega) (fun y hy hlt => by simp at hy; have := hEw.nw; omega) (by omega) (by omega) (by simp; omega) (by simp; omega), ?_, g'.trans (gC.mono (fun y hy _ => by simp at hy ⊢; omega)), hk3, hE2.wm⟩
    rw [hen0, HN9.out]
    exact ⟨_, q7w.gx gC (by simp; omega), own_gx hvO gC (fun g hg => by have := hgv g hg; simp; omega)⟩
  · have hfI : ((fc : Int) == 0) = false := by simp; omega
    have hfx2 : en cx = some (cx, gc + if cx = ws[p] then 0 else 1) := by rw [HFX.out, if_pos hf0]
    have HF2 := hide hfx2
    clear HFX hfx2 hf0
    gi_upto_region 6 with (refine ⟨trivial, ?_⟩; gi_at_call 83; refine (calls_round HI.out).mono ?_; rintro e W2 ⟨rfl, hg2, hk3⟩; have hz2 := hg2.size; have gC : GX [M, Wm] W' W2 := (GX.refl _ _).grown hg2 (fun r e _ => by rw [← Option.some.inj e]; simp); have hE2 := hEw.gx gC hk3 (hEw.wm.kept hg2 (fun e => hnm.2.2 (Option.some.inj e).symm)); have bX2 := bX.gx gC hxm; have m1 := obj_at hE2.b1 0 _ rfl; have m2 := obj_at hE2.b2 0 _ rfl; have x0' := obj_at bX2 0 _ rfl; have x1' := obj_at bX2 1 _ rfl; have x2' := obj_at bX2 2 _ rfl; have hmw2 := obj_lt hE2.b2; have hxw2 := obj_lt bX2)
    have hl2 := hE2.wm.look2 lawS und130 zero3 hkl
    unfold stV stC at hl2
    have hpl : ∀ q : Nat, ((q + 1 : Nat) : Int) = (q : Int) + 1 := fun q => rfl
    have HPL := hide hpl
    clear hpl
    rcases hl2 with ⟨v, ⟨hgv2, _⟩, hrun⟩ | ⟨_, hrun⟩
    · obtain rfl := HGWx.out v hgv2
      have hr5 := hrun W2 rfl
      simp only [HPL.out] at hr5
      clear hrun hgv2
      gi_upto_region 7 with fail
      refine grow_round (by kernel_rfl) (by kernel_rfl) (by kernel_rfl) ?_
      repeat (go_big_quiet_step (fail))
      refine wpQuiet_nil ?_
      intro W3 hb3
      replace hb3 := ex_below hb3
      have hz3 := hb3.size
      replace gC := gC.below hb3 gC.size
      have hE3 := hE2.ext hb3
      gi_upto_region 10 with fail
      have q5c := q5w.gx gC (by simp; omega)
      have q7c := q7w.gx gC (by simp; omega)
      have hbm6 := hbm'.gx gC (by simp; omega)
      have hbs6 := hbs'.gx gC (by simp; omega)
      have hOc := own_gx hvO gC (fun g hg => by have := hgv g hg; simp; omega)
      have c4 := obj_at hE3.b4 0 _ rfl
      have c5 := obj_at q5c 0 _ rfl
      have c7 := obj_at q7c 0 _ rfl
      have cf7 := obj_fz q7c 0
      have cl4 := obj_lt hE3.b4
      have cl5 := obj_lt q5c
      have cl7 := obj_lt q7c
      have hzC := gC.size
      have hby := HBY.out
      have hpS : p < (strW ws).size := by rw [hws8.out]; exact hwp
      have hpSI : (p : Int) < (((strW ws).size : Nat) : Int) := by omega
      have hcw6 := HWP.out
      generalize hwpv : ws[p] = wpv at *
      have hbw := u8_letter2 wpv (by omega)
      have hin := HN9.out
      by_cases hcw : cx = wpv
      · have hcI : (((cx : Nat) : Int) != ((wpv : Nat) : Int)) = false := by simp [hcw]
        have hcJ : ((cx : Nat) : Int) = ((wpv : Nat) : Int) := by omega
        have HSX : Hid (entsL en L (pre2 ++ [x]) = entsL en L pre2 ++ [(cx, gc + 0)]) := hide (by rw [HSN.out, HF2.out]; simp [hcw])
        clear hcw hcJ hin
        gi_wp2_with (refine wpListIn_append_own _ rfl (.tmp 58) (.tmp 62) 134 rfl r0 133 ti _ 2 16 und134 ih' iz is ib rfl (by decide) _ n9 _ rfl (hOc.alloc _) ⟨W3.heap.size, 0, none⟩ 1 1 [.int .i64 (cx : Nat), .int .i64 (gc : Int)] rfl rfl (cells_new _ [.int .i64 (cx : Nat), .int .i64 (gc : Int)] _ _ rfl) (by simp [Value.oneCell']) (by unfold maxLen; omega) (by omega) (by simp; omega) ?_; intro v6 w6 hown6 hgr6 hif6; obtain ⟨A6, c6, rfl⟩ := own_form hown6; clear hif6; have hz6 := hgr6.size; simp only [World.size_alloc] at hz6; have hst7 : BlkAt w6 b7 #[.slice A9 n9 c9] 134 := (hgr6.block b7 (by simp; omega) (fun e => (hgv b7 e.symm).2.2.1 rfl)).trans ((Below.heap_alloc _ _ _ (by omega)).trans q7c); have t7 := obj_at hst7 0 _ rfl; have tf7 := obj_fz hst7 0; have tl7 := obj_lt hst7)
        have hrow : ∀ r, (Value.slice A9 n9 c9).ownBlock = some r → r ≠ Wb ∧ r ≠ Wb + 1 ∧ r ≠ b7 ∧ r0 ≤ r ∧ r < W'.heap.size := hgv
        have hba6 := below_alloc (Below.refl W3.heap.size W3) (Nat.le_refl _) (.cells #[.int .i64 (cx : Nat), .int .i64 (gc : Int)] 133)
        have hsz6 : (W3.alloc (.cells #[.int .i64 (cx : Nat), .int .i64 (gc : Int)] 133)).heap.size = W3.heap.size + 1 := by simp
        have hK1 : KeepsFrom W0.heap.size W' W3 := keeps_gx gC (fun y hy => by simp at hy; omega)
        have hK2 : KeepsFrom W0.heap.size W3 w6 := KeepsFrom.trans ((KeepsOthers.alloc _ _).from _) (keeps_row (hOc.alloc _) hgr6)
        have hQ1 : Kq w00.heap.size M Wb (Wb + 1) W' W3 := Kq.of_gx gC (by have := hEw.sz; omega) (fun y hy hlt => by simp at hy; have := hEw.nw; omega) (by omega) (by omega) (by simp; omega) (by simp; omega)
        have hQ2 : Kq w00.heap.size M Wb (Wb + 1) W3 w6 := (Kq.below hba6 (by have := hE3.sz; omega) (by omega) (by omega)).trans (Kq.row hgr6 (fun r e => by have := hrow r e; have := hE.sz; omega) (by rw [hsz6]; have := hE3.sz; omega) (by omega) (by omega))
        have hG6 : GX [M, Wm, b7, r0] W0 w6 := ((g'.trans (gC.mono (fun y hy _ => by simp at hy ⊢; omega))).alloc _).grown hgr6 (fun r e hlt => by have := hrow r e; simp; omega)
        have hkm6 : (KMap 91 M (goodF L rest K T) must) w6 := (hE3.mx.km.below hba6).kept hgr6 (fun e => by have := hrow M e.symm; omega)
        have hkw6 : (KMap 91 Wm (goodW L rest K T ws) (fun _ => False)) w6 := (hE3.wm.below hba6).kept hgr6 (fun e => by have := hrow Wm e.symm; omega)
        refine ⟨by first | exact hK1.trans (hK2.trans ((KeepsOthers.setCell _ _ _).from _)) | (rw [show Wb + 1 + 1 = W0.heap.size by omega]; exact hK1.trans (hK2.trans ((KeepsOthers.setCell _ _ _).from _))), hQ1.trans (hQ2.trans (Kq.setCell _ (by show w00.heap.size ≤ b7; have := hE.sz; omega) (by show Wb ≠ b7; omega) (by show Wb + 1 ≠ b7; omega) _)), ?_, hG6.setCell _ _ (fun _ => by simp), hkm6.setCell _ (by show M ≠ b7; omega) _, hkw6.setCell _ (by show Wm ≠ b7; omega) _⟩
        rw [HSX.out, List.length_append, HN9.out, zr_app, rngC_app]
        refine ⟨.slice A6 (n9 + 1) c6, set_obj hst7 0 _, ?_⟩
        have hfin := ownsRow_setCell_other (a := ⟨b7, 0, none⟩) hown6 (fun e => own_kind hown6 e hst7 (by decide) rfl) (.slice A6 (n9 + 1) c6)
        simpa [zr, rngC] using hfin
      · have hcI : (((cx : Nat) : Int) != ((wpv : Nat) : Int)) = true := by simp; omega
        have hcJ : ¬ (((cx : Nat) : Int) = ((wpv : Nat) : Int)) := by omega
        have HSX : Hid (entsL en L (pre2 ++ [x]) = entsL en L pre2 ++ [(cx, gc + 1)]) := hide (by rw [HSN.out, HF2.out]; simp [hcw])
        clear hcw hin
        gi_wp2_with (refine wpListIn_append_own _ rfl (.tmp 58) (.tmp 62) 134 rfl r0 133 ti _ 2 16 und134 ih' iz is ib rfl (by decide) _ n9 _ rfl (hOc.alloc _) ⟨W3.heap.size, 0, none⟩ 1 1 [.int .i64 (cx : Nat), .int .i64 ((gc : Int) + 1)] rfl rfl (cells_new _ [.int .i64 (cx : Nat), .int .i64 ((gc : Int) + 1)] _ _ rfl) (by simp [Value.oneCell']) (by unfold maxLen; omega) (by omega) (by simp; omega) ?_; intro v6 w6 hown6 hgr6 hif6; obtain ⟨A6, c6, rfl⟩ := own_form hown6; clear hif6; have hz6 := hgr6.size; simp only [World.size_alloc] at hz6; have hst7 : BlkAt w6 b7 #[.slice A9 n9 c9] 134 := (hgr6.block b7 (by simp; omega) (fun e => (hgv b7 e.symm).2.2.1 rfl)).trans ((Below.heap_alloc _ _ _ (by omega)).trans q7c); have t7 := obj_at hst7 0 _ rfl; have tf7 := obj_fz hst7 0; have tl7 := obj_lt hst7)
        have hrow : ∀ r, (Value.slice A9 n9 c9).ownBlock = some r → r ≠ Wb ∧ r ≠ Wb + 1 ∧ r ≠ b7 ∧ r0 ≤ r ∧ r < W'.heap.size := hgv
        have hba6 := below_alloc (Below.refl W3.heap.size W3) (Nat.le_refl _) (.cells #[.int .i64 (cx : Nat), .int .i64 ((gc : Int) + 1)] 133)
        have hsz6 : (W3.alloc (.cells #[.int .i64 (cx : Nat), .int .i64 ((gc : Int) + 1)] 133)).heap.size = W3.heap.size + 1 := by simp
        have hK1 : KeepsFrom W0.heap.size W' W3 := keeps_gx gC (fun y hy => by simp at hy; omega)
        have hK2 : KeepsFrom W0.heap.size W3 w6 := KeepsFrom.trans ((KeepsOthers.alloc _ _).from _) (keeps_row (hOc.alloc _) hgr6)
        have hQ1 : Kq w00.heap.size M Wb (Wb + 1) W' W3 := Kq.of_gx gC (by have := hEw.sz; omega) (fun y hy hlt => by simp at hy; have := hEw.nw; omega) (by omega) (by omega) (by simp; omega) (by simp; omega)
        have hQ2 : Kq w00.heap.size M Wb (Wb + 1) W3 w6 := (Kq.below hba6 (by have := hE3.sz; omega) (by omega) (by omega)).trans (Kq.row hgr6 (fun r e => by have := hrow r e; have := hE.sz; omega) (by rw [hsz6]; have := hE3.sz; omega) (by omega) (by omega))
        have hG6 : GX [M, Wm, b7, r0] W0 w6 := ((g'.trans (gC.mono (fun y hy _ => by simp at hy ⊢; omega))).alloc _).grown hgr6 (fun r e hlt => by have := hrow r e; simp; omega)
        have hkm6 : (KMap 91 M (goodF L rest K T) must) w6 := (hE3.mx.km.below hba6).kept hgr6 (fun e => by have := hrow M e.symm; omega)
        have hkw6 : (KMap 91 Wm (goodW L rest K T ws) (fun _ => False)) w6 := (hE3.wm.below hba6).kept hgr6 (fun e => by have := hrow Wm e.symm; omega)
        refine ⟨by first | exact hK1.trans (hK2.trans ((KeepsOthers.setCell _ _ _).from _)) | (rw [show Wb + 1 + 1 = W0.heap.size by omega]; exact hK1.trans (hK2.trans ((KeepsOthers.setCell _ _ _).from _))), hQ1.trans (hQ2.trans (Kq.setCell _ (by show w00.heap.size ≤ b7; have := hE.sz; omega) (by show Wb ≠ b7; omega) (by show Wb + 1 ≠ b7; omega) _)), ?_, hG6.setCell _ _ (fun _ => by simp), hkm6.setCell _ (by show M ≠ b7; omega) _, hkw6.setCell _ (by show Wm ≠ b7; omega) _⟩
        rw [HSX.out, List.length_append, HN9.out, zr_app, rngC_app]
        refine ⟨.slice A6 (n9 + 1) c6, set_obj hst7 0 _, ?_⟩
        have hfin := ownsRow_setCell_other (a := ⟨b7, 0, none⟩) hown6 (fun e => own_kind hown6 e hst7 (by decide) rfl) (.slice A6 (n9 + 1) c6)
        simpa [zr, rngC] using hfin
    · have hr5 := hrun W2 rfl
      simp only [HPL.out] at hr5
      clear hrun
      have k1 := obj_at hE2.mx.at_.1 1 _ rfl
      have hmw1 := obj_lt hE2.b1
      have kl1 := obj_lt hE2.mx.at_.1
      by_cases hpn : p + 1 < K.length
      · have hpnI : ((p + 1 : Nat) : Int) < (K.length : Int) := by omega
        have hpnJ : (p : Int) + 1 < (K.length : Int) := by omega
        have HPN := hide hpn
        clear hpn
        gi_upto_region 7 with fail
        refine grow_round (by kernel_rfl) (by kernel_rfl) (by kernel_rfl) ?_
        repeat (go_big_quiet_step (fail))
        refine wpQuiet_nil ?_
        intro W3 hb3
        replace hb3 := ex_below hb3
        have hz3 := hb3.size
        replace gC := gC.below hb3 gC.size
        have hE3 := hE2.ext hb3
        obtain ⟨c1, hB1⟩ := HBx.out W3 HPN.out hE3
        have HB1 := hide hB1
        clear hB1
        have m3 := obj_at hE3.b3 0 _ rfl
        have ml3 := obj_lt hE3.b3
        have bX3 := bX2.ext hb3
        have y0 := obj_at bX3 0 _ rfl
        have y1 := obj_at bX3 1 _ rfl
        have y2 := obj_at bX3 2 _ rfl
        have yl := obj_lt bX3
        gi_upto_region 9 with (refine ⟨trivial, ?_⟩; gi_at_call 89; refine (calls_round HB1.out).mono ?_; rintro e W4 ⟨rfl, g4, k4, w4⟩; have hz4 := g4.size; replace gC := gC.trans g4; have hE4 := hE3.gx g4 k4 w4; have bX4 := bX3.gx g4 hxm; have m2' := obj_at hE4.b2 0 _ rfl; have ml4 := obj_lt hE4.b2; have u0 := obj_at bX4 0 _ rfl; have u1 := obj_at bX4 1 _ rfl; have u2 := obj_at bX4 2 _ rfl; have ul := obj_lt bX4)
        obtain ⟨W5, hr9, hk9, hg9⟩ := hE4.wm.put lawS und130 (finW L rest K T ws) hkl HGPx.out
        unfold stV stC at hr9
        simp only [HPL.out] at hr9
        have gS : GX [M, Wm] W4 W5 := (GX.refl _ _).grown hg9 (fun r e _ => by rw [← Option.some.inj e]; simp)
        have hE5 := hE4.gx gS (hE4.mx.km.kept hg9 (fun e => hnm.2.2 (Option.some.inj e))) (hk9.weaken (fun x h => h.elim))
        replace gC := gC.trans gS
        gi_upto_region 10 with fail
        have q5c := q5w.gx gC (by simp; omega)
        have q7c := q7w.gx gC (by simp; omega)
        have hbm6 := hbm'.gx gC (by simp; omega)
        have hbs6 := hbs'.gx gC (by simp; omega)
        have hOc := own_gx hvO gC (fun g hg => by have := hgv g hg; simp; omega)
        have c4 := obj_at hE5.b4 0 _ rfl
        have c5 := obj_at q5c 0 _ rfl
        have c7 := obj_at q7c 0 _ rfl
        have cf7 := obj_fz q7c 0
        have cl4 := obj_lt hE5.b4
        have cl5 := obj_lt q5c
        have cl7 := obj_lt q7c
        have hzC := gC.size
        have hby := HBY.out
        have hpS : p < (strW ws).size := by rw [hws8.out]; exact hwp
        have hpSI : (p : Int) < (((strW ws).size : Nat) : Int) := by omega
        have hcw6 := HWP.out
        generalize hwpv : ws[p] = wpv at *
        have hbw := u8_letter2 wpv (by omega)
        have hin := HN9.out
        by_cases hcw : cx = wpv
        · have hcI : (((cx : Nat) : Int) != ((wpv : Nat) : Int)) = false := by simp [hcw]
          have hcJ : ((cx : Nat) : Int) = ((wpv : Nat) : Int) := by omega
          have HSX : Hid (entsL en L (pre2 ++ [x]) = entsL en L pre2 ++ [(cx, gc + 0)]) := hide (by rw [HSN.out, HF2.out]; simp [hcw])
          clear hcw hcJ hin
          gi_wp2_with (refine wpListIn_append_own _ rfl (.tmp 58) (.tmp 62) 134 rfl r0 133 ti _ 2 16 und134 ih' iz is ib rfl (by decide) _ n9 _ rfl (hOc.alloc _) ⟨W5.heap.size, 0, none⟩ 1 1 [.int .i64 (cx : Nat), .int .i64 (gc : Int)] rfl rfl (cells_new _ [.int .i64 (cx : Nat), .int .i64 (gc : Int)] _ _ rfl) (by simp [Value.oneCell']) (by unfold maxLen; omega) (by omega) (by simp; omega) ?_; intro v6 w6 hown6 hgr6 hif6; obtain ⟨A6, c6, rfl⟩ := own_form hown6; clear hif6; have hz6 := hgr6.size; simp only [World.size_alloc] at hz6; have hst7 : BlkAt w6 b7 #[.slice A9 n9 c9] 134 := (hgr6.block b7 (by simp; omega) (fun e => (hgv b7 e.symm).2.2.1 rfl)).trans ((Below.heap_alloc _ _ _ (by omega)).trans q7c); have t7 := obj_at hst7 0 _ rfl; have tf7 := obj_fz hst7 0; have tl7 := obj_lt hst7)
          have hrow : ∀ r, (Value.slice A9 n9 c9).ownBlock = some r → r ≠ Wb ∧ r ≠ Wb + 1 ∧ r ≠ b7 ∧ r0 ≤ r ∧ r < W'.heap.size := hgv
          have hba6 := below_alloc (Below.refl W5.heap.size W5) (Nat.le_refl _) (.cells #[.int .i64 (cx : Nat), .int .i64 (gc : Int)] 133)
          have hsz6 : (W5.alloc (.cells #[.int .i64 (cx : Nat), .int .i64 (gc : Int)] 133)).heap.size = W5.heap.size + 1 := by simp
          have hK1 : KeepsFrom W0.heap.size W' W5 := keeps_gx gC (fun y hy => by simp at hy; omega)
          have hK2 : KeepsFrom W0.heap.size W5 w6 := KeepsFrom.trans ((KeepsOthers.alloc _ _).from _) (keeps_row (hOc.alloc _) hgr6)
          have hQ1 : Kq w00.heap.size M Wb (Wb + 1) W' W5 := Kq.of_gx gC (by have := hEw.sz; omega) (fun y hy hlt => by simp at hy; have := hEw.nw; omega) (by omega) (by omega) (by simp; omega) (by simp; omega)
          have hQ2 : Kq w00.heap.size M Wb (Wb + 1) W5 w6 := (Kq.below hba6 (by have := hE5.sz; omega) (by omega) (by omega)).trans (Kq.row hgr6 (fun r e => by have := hrow r e; have := hE.sz; omega) (by rw [hsz6]; have := hE5.sz; omega) (by omega) (by omega))
          have hG6 : GX [M, Wm, b7, r0] W0 w6 := ((g'.trans (gC.mono (fun y hy _ => by simp at hy ⊢; omega))).alloc _).grown hgr6 (fun r e hlt => by have := hrow r e; simp; omega)
          have hkm6 : (KMap 91 M (goodF L rest K T) must) w6 := (hE5.mx.km.below hba6).kept hgr6 (fun e => by have := hrow M e.symm; omega)
          have hkw6 : (KMap 91 Wm (goodW L rest K T ws) (fun _ => False)) w6 := (hE5.wm.below hba6).kept hgr6 (fun e => by have := hrow Wm e.symm; omega)
          refine ⟨by first | exact hK1.trans (hK2.trans ((KeepsOthers.setCell _ _ _).from _)) | (rw [show Wb + 1 + 1 = W0.heap.size by omega]; exact hK1.trans (hK2.trans ((KeepsOthers.setCell _ _ _).from _))), hQ1.trans (hQ2.trans (Kq.setCell _ (by show w00.heap.size ≤ b7; have := hE.sz; omega) (by show Wb ≠ b7; omega) (by show Wb + 1 ≠ b7; omega) _)), ?_, hG6.setCell _ _ (fun _ => by simp), hkm6.setCell _ (by show M ≠ b7; omega) _, hkw6.setCell _ (by show Wm ≠ b7; omega) _⟩
          rw [HSX.out, List.length_append, HN9.out, zr_app, rngC_app]
          refine ⟨.slice A6 (n9 + 1) c6, set_obj hst7 0 _, ?_⟩
          have hfin := ownsRow_setCell_other (a := ⟨b7, 0, none⟩) hown6 (fun e => own_kind hown6 e hst7 (by decide) rfl) (.slice A6 (n9 + 1) c6)
          simpa [zr, rngC] using hfin
        · have hcI : (((cx : Nat) : Int) != ((wpv : Nat) : Int)) = true := by simp; omega
          have hcJ : ¬ (((cx : Nat) : Int) = ((wpv : Nat) : Int)) := by omega
          have HSX : Hid (entsL en L (pre2 ++ [x]) = entsL en L pre2 ++ [(cx, gc + 1)]) := hide (by rw [HSN.out, HF2.out]; simp [hcw])
          clear hcw hin
          gi_wp2_with (refine wpListIn_append_own _ rfl (.tmp 58) (.tmp 62) 134 rfl r0 133 ti _ 2 16 und134 ih' iz is ib rfl (by decide) _ n9 _ rfl (hOc.alloc _) ⟨W5.heap.size, 0, none⟩ 1 1 [.int .i64 (cx : Nat), .int .i64 ((gc : Int) + 1)] rfl rfl (cells_new _ [.int .i64 (cx : Nat), .int .i64 ((gc : Int) + 1)] _ _ rfl) (by simp [Value.oneCell']) (by unfold maxLen; omega) (by omega) (by simp; omega) ?_; intro v6 w6 hown6 hgr6 hif6; obtain ⟨A6, c6, rfl⟩ := own_form hown6; clear hif6; have hz6 := hgr6.size; simp only [World.size_alloc] at hz6; have hst7 : BlkAt w6 b7 #[.slice A9 n9 c9] 134 := (hgr6.block b7 (by simp; omega) (fun e => (hgv b7 e.symm).2.2.1 rfl)).trans ((Below.heap_alloc _ _ _ (by omega)).trans q7c); have t7 := obj_at hst7 0 _ rfl; have tf7 := obj_fz hst7 0; have tl7 := obj_lt hst7)
          have hrow : ∀ r, (Value.slice A9 n9 c9).ownBlock = some r → r ≠ Wb ∧ r ≠ Wb + 1 ∧ r ≠ b7 ∧ r0 ≤ r ∧ r < W'.heap.size := hgv
          have hba6 := below_alloc (Below.refl W5.heap.size W5) (Nat.le_refl _) (.cells #[.int .i64 (cx : Nat), .int .i64 ((gc : Int) + 1)] 133)
          have hsz6 : (W5.alloc (.cells #[.int .i64 (cx : Nat), .int .i64 ((gc : Int) + 1)] 133)).heap.size = W5.heap.size + 1 := by simp
          have hK1 : KeepsFrom W0.heap.size W' W5 := keeps_gx gC (fun y hy => by simp at hy; omega)
          have hK2 : KeepsFrom W0.heap.size W5 w6 := KeepsFrom.trans ((KeepsOthers.alloc _ _).from _) (keeps_row (hOc.alloc _) hgr6)
          have hQ1 : Kq w00.heap.size M Wb (Wb + 1) W' W5 := Kq.of_gx gC (by have := hEw.sz; omega) (fun y hy hlt => by simp at hy; have := hEw.nw; omega) (by omega) (by omega) (by simp; omega) (by simp; omega)
          have hQ2 : Kq w00.heap.size M Wb (Wb + 1) W5 w6 := (Kq.below hba6 (by have := hE5.sz; omega) (by omega) (by omega)).trans (Kq.row hgr6 (fun r e => by have := hrow r e; have := hE.sz; omega) (by rw [hsz6]; have := hE5.sz; omega) (by omega) (by omega))
          have hG6 : GX [M, Wm, b7, r0] W0 w6 := ((g'.trans (gC.mono (fun y hy _ => by simp at hy ⊢; omega))).alloc _).grown hgr6 (fun r e hlt => by have := hrow r e; simp; omega)
          have hkm6 : (KMap 91 M (goodF L rest K T) must) w6 := (hE5.mx.km.below hba6).kept hgr6 (fun e => by have := hrow M e.symm; omega)
          have hkw6 : (KMap 91 Wm (goodW L rest K T ws) (fun _ => False)) w6 := (hE5.wm.below hba6).kept hgr6 (fun e => by have := hrow Wm e.symm; omega)
          refine ⟨by first | exact hK1.trans (hK2.trans ((KeepsOthers.setCell _ _ _).from _)) | (rw [show Wb + 1 + 1 = W0.heap.size by omega]; exact hK1.trans (hK2.trans ((KeepsOthers.setCell _ _ _).from _))), hQ1.trans (hQ2.trans (Kq.setCell _ (by show w00.heap.size ≤ b7; have := hE.sz; omega) (by show Wb ≠ b7; omega) (by show Wb + 1 ≠ b7; omega) _)), ?_, hG6.setCell _ _ (fun _ => by simp), hkm6.setCell _ (by show M ≠ b7; omega) _, hkw6.setCell _ (by show Wm ≠ b7; omega) _⟩
          rw [HSX.out, List.length_append, HN9.out, zr_app, rngC_app]
          refine ⟨.slice A6 (n9 + 1) c6, set_obj hst7 0 _, ?_⟩
          have hfin := ownsRow_setCell_other (a := ⟨b7, 0, none⟩) hown6 (fun e => own_kind hown6 e hst7 (by decide) rfl) (.slice A6 (n9 + 1) c6)
          simpa [zr, rngC] using hfin
      · have hpnI : ¬ (((p + 1 : Nat) : Int) < (K.length : Int)) := by omega
        have hpnJ : ¬ ((p : Int) + 1 < (K.length : Int)) := by omega
        obtain rfl : gc = 0 := HG0x.out hpn
        gi_upto_region 7 with fail
        refine grow_round (by kernel_rfl) (by kernel_rfl) (by kernel_rfl) ?_
        repeat (go_big_quiet_step (fail))
        refine wpQuiet_nil ?_
        intro W3 hb3
        replace hb3 := ex_below hb3
        have hz3 := hb3.size
        replace gC := gC.below hb3 gC.size
        have hE3 := hE2.ext hb3
        gi_upto_region 10 with fail
        have q5c := q5w.gx gC (by simp; omega)
        have q7c := q7w.gx gC (by simp; omega)
        have hbm6 := hbm'.gx gC (by simp; omega)
        have hbs6 := hbs'.gx gC (by simp; omega)
        have hOc := own_gx hvO gC (fun g hg => by have := hgv g hg; simp; omega)
        have c4 := obj_at hE3.b4 0 _ rfl
        have c5 := obj_at q5c 0 _ rfl
        have c7 := obj_at q7c 0 _ rfl
        have cf7 := obj_fz q7c 0
        have cl4 := obj_lt hE3.b4
        have cl5 := obj_lt q5c
        have cl7 := obj_lt q7c
        have hzC := gC.size
        have hby := HBY.out
        have hpS : p < (strW ws).size := by rw [hws8.out]; exact hwp
        have hpSI : (p : Int) < (((strW ws).size : Nat) : Int) := by omega
        have hcw6 := HWP.out
        generalize hwpv : ws[p] = wpv at *
        have hbw := u8_letter2 wpv (by omega)
        have hin := HN9.out
        by_cases hcw : cx = wpv
        · have hcI : (((cx : Nat) : Int) != ((wpv : Nat) : Int)) = false := by simp [hcw]
          have hcJ : ((cx : Nat) : Int) = ((wpv : Nat) : Int) := by omega
          have HSX : Hid (entsL en L (pre2 ++ [x]) = entsL en L pre2 ++ [(cx, 0 + 0)]) := hide (by rw [HSN.out, HF2.out]; simp [hcw])
          clear hcw hcJ hin
          gi_wp2_with (refine wpListIn_append_own _ rfl (.tmp 58) (.tmp 62) 134 rfl r0 133 ti _ 2 16 und134 ih' iz is ib rfl (by decide) _ n9 _ rfl (hOc.alloc _) ⟨W3.heap.size, 0, none⟩ 1 1 [.int .i64 (cx : Nat), .int .i64 0] rfl rfl (cells_new _ [.int .i64 (cx : Nat), .int .i64 0] _ _ rfl) (by simp [Value.oneCell']) (by unfold maxLen; omega) (by omega) (by simp; omega) ?_; intro v6 w6 hown6 hgr6 hif6; obtain ⟨A6, c6, rfl⟩ := own_form hown6; clear hif6; have hz6 := hgr6.size; simp only [World.size_alloc] at hz6; have hst7 : BlkAt w6 b7 #[.slice A9 n9 c9] 134 := (hgr6.block b7 (by simp; omega) (fun e => (hgv b7 e.symm).2.2.1 rfl)).trans ((Below.heap_alloc _ _ _ (by omega)).trans q7c); have t7 := obj_at hst7 0 _ rfl; have tf7 := obj_fz hst7 0; have tl7 := obj_lt hst7)
          have hrow : ∀ r, (Value.slice A9 n9 c9).ownBlock = some r → r ≠ Wb ∧ r ≠ Wb + 1 ∧ r ≠ b7 ∧ r0 ≤ r ∧ r < W'.heap.size := hgv
          have hba6 := below_alloc (Below.refl W3.heap.size W3) (Nat.le_refl _) (.cells #[.int .i64 (cx : Nat), .int .i64 0] 133)
          have hsz6 : (W3.alloc (.cells #[.int .i64 (cx : Nat), .int .i64 0] 133)).heap.size = W3.heap.size + 1 := by simp
          have hK1 : KeepsFrom W0.heap.size W' W3 := keeps_gx gC (fun y hy => by simp at hy; omega)
          have hK2 : KeepsFrom W0.heap.size W3 w6 := KeepsFrom.trans ((KeepsOthers.alloc _ _).from _) (keeps_row (hOc.alloc _) hgr6)
          have hQ1 : Kq w00.heap.size M Wb (Wb + 1) W' W3 := Kq.of_gx gC (by have := hEw.sz; omega) (fun y hy hlt => by simp at hy; have := hEw.nw; omega) (by omega) (by omega) (by simp; omega) (by simp; omega)
          have hQ2 : Kq w00.heap.size M Wb (Wb + 1) W3 w6 := (Kq.below hba6 (by have := hE3.sz; omega) (by omega) (by omega)).trans (Kq.row hgr6 (fun r e => by have := hrow r e; have := hE.sz; omega) (by rw [hsz6]; have := hE3.sz; omega) (by omega) (by omega))
          have hG6 : GX [M, Wm, b7, r0] W0 w6 := ((g'.trans (gC.mono (fun y hy _ => by simp at hy ⊢; omega))).alloc _).grown hgr6 (fun r e hlt => by have := hrow r e; simp; omega)
          have hkm6 : (KMap 91 M (goodF L rest K T) must) w6 := (hE3.mx.km.below hba6).kept hgr6 (fun e => by have := hrow M e.symm; omega)
          have hkw6 : (KMap 91 Wm (goodW L rest K T ws) (fun _ => False)) w6 := (hE3.wm.below hba6).kept hgr6 (fun e => by have := hrow Wm e.symm; omega)
          refine ⟨by first | exact hK1.trans (hK2.trans ((KeepsOthers.setCell _ _ _).from _)) | (rw [show Wb + 1 + 1 = W0.heap.size by omega]; exact hK1.trans (hK2.trans ((KeepsOthers.setCell _ _ _).from _))), hQ1.trans (hQ2.trans (Kq.setCell _ (by show w00.heap.size ≤ b7; have := hE.sz; omega) (by show Wb ≠ b7; omega) (by show Wb + 1 ≠ b7; omega) _)), ?_, hG6.setCell _ _ (fun _ => by simp), hkm6.setCell _ (by show M ≠ b7; omega) _, hkw6.setCell _ (by show Wm ≠ b7; omega) _⟩
          rw [HSX.out, List.length_append, HN9.out, zr_app, rngC_app]
          refine ⟨.slice A6 (n9 + 1) c6, set_obj hst7 0 _, ?_⟩
          have hfin := ownsRow_setCell_other (a := ⟨b7, 0, none⟩) hown6 (fun e => own_kind hown6 e hst7 (by decide) rfl) (.slice A6 (n9 + 1) c6)
          simpa [zr, rngC] using hfin
        · have hcI : (((cx : Nat) : Int) != ((wpv : Nat) : Int)) = true := by simp; omega
          have hcJ : ¬ (((cx : Nat) : Int) = ((wpv : Nat) : Int)) := by omega
          have HSX : Hid (entsL en L (pre2 ++ [x]) = entsL en L pre2 ++ [(cx, 0 + 1)]) := hide (by rw [HSN.out, HF2.out]; simp [hcw])
          clear hcw hin
          gi_wp2_with (refine wpListIn_append_own _ rfl (.tmp 58) (.tmp 62) 134 rfl r0 133 ti _ 2 16 und134 ih' iz is ib rfl (by decide) _ n9 _ rfl (hOc.alloc _) ⟨W3.heap.size, 0, none⟩ 1 1 [.int .i64 (cx : Nat), .int .i64 1] rfl rfl (cells_new _ [.int .i64 (cx : Nat), .int .i64 1] _ _ rfl) (by simp [Value.oneCell']) (by unfold maxLen; omega) (by omega) (by simp; omega) ?_; intro v6 w6 hown6 hgr6 hif6; obtain ⟨A6, c6, rfl⟩ := own_form hown6; clear hif6; have hz6 := hgr6.size; simp only [World.size_alloc] at hz6; have hst7 : BlkAt w6 b7 #[.slice A9 n9 c9] 134 := (hgr6.block b7 (by simp; omega) (fun e => (hgv b7 e.symm).2.2.1 rfl)).trans ((Below.heap_alloc _ _ _ (by omega)).trans q7c); have t7 := obj_at hst7 0 _ rfl; have tf7 := obj_fz hst7 0; have tl7 := obj_lt hst7)
          have hrow : ∀ r, (Value.slice A9 n9 c9).ownBlock = some r → r ≠ Wb ∧ r ≠ Wb + 1 ∧ r ≠ b7 ∧ r0 ≤ r ∧ r < W'.heap.size := hgv
          have hba6 := below_alloc (Below.refl W3.heap.size W3) (Nat.le_refl _) (.cells #[.int .i64 (cx : Nat), .int .i64 1] 133)
          have hsz6 : (W3.alloc (.cells #[.int .i64 (cx : Nat), .int .i64 1] 133)).heap.size = W3.heap.size + 1 := by simp
          have hK1 : KeepsFrom W0.heap.size W' W3 := keeps_gx gC (fun y hy => by simp at hy; omega)
          have hK2 : KeepsFrom W0.heap.size W3 w6 := KeepsFrom.trans ((KeepsOthers.alloc _ _).from _) (keeps_row (hOc.alloc _) hgr6)
          have hQ1 : Kq w00.heap.size M Wb (Wb + 1) W' W3 := Kq.of_gx gC (by have := hEw.sz; omega) (fun y hy hlt => by simp at hy; have := hEw.nw; omega) (by omega) (by omega) (by simp; omega) (by simp; omega)
          have hQ2 : Kq w00.heap.size M Wb (Wb + 1) W3 w6 := (Kq.below hba6 (by have := hE3.sz; omega) (by omega) (by omega)).trans (Kq.row hgr6 (fun r e => by have := hrow r e; have := hE.sz; omega) (by rw [hsz6]; have := hE3.sz; omega) (by omega) (by omega))
          have hG6 : GX [M, Wm, b7, r0] W0 w6 := ((g'.trans (gC.mono (fun y hy _ => by simp at hy ⊢; omega))).alloc _).grown hgr6 (fun r e hlt => by have := hrow r e; simp; omega)
          have hkm6 : (KMap 91 M (goodF L rest K T) must) w6 := (hE3.mx.km.below hba6).kept hgr6 (fun e => by have := hrow M e.symm; omega)
          have hkw6 : (KMap 91 Wm (goodW L rest K T ws) (fun _ => False)) w6 := (hE3.wm.below hba6).kept hgr6 (fun e => by have := hrow Wm e.symm; omega)
          refine ⟨by first | exact hK1.trans (hK2.trans ((KeepsOthers.setCell _ _ _).from _)) | (rw [show Wb + 1 + 1 = W0.heap.size by omega]; exact hK1.trans (hK2.trans ((KeepsOthers.setCell _ _ _).from _))), hQ1.trans (hQ2.trans (Kq.setCell _ (by show w00.heap.size ≤ b7; have := hE.sz; omega) (by show Wb ≠ b7; omega) (by show Wb + 1 ≠ b7; omega) _)), ?_, hG6.setCell _ _ (fun _ => by simp), hkm6.setCell _ (by show M ≠ b7; omega) _, hkw6.setCell _ (by show Wm ≠ b7; omega) _⟩
          rw [HSX.out, List.length_append, HN9.out, zr_app, rngC_app]
          refine ⟨.slice A6 (n9 + 1) c6, set_obj hst7 0 _, ?_⟩
          have hfin := ownsRow_setCell_other (a := ⟨b7, 0, none⟩) hown6 (fun e => own_kind hown6 e hst7 (by decide) rfl) (.slice A6 (n9 + 1) c6)
          simpa [zr, rngC] using hfin
 case done =>
  rintro D xs W' hD rfl ⟨⟨v, hv7, hvO⟩, g', kc, kw⟩ hK
  obtain ⟨A9, c9, rfl⟩ := own_form hvO
  have hz := g'.size
  have gw : GX [M, Wm] w W' := ((GX.refl [M, Wm] w).below hB0 (Nat.le_refl _)).back g' (fun y hy hlt => by simp at hy ⊢; omega)
  have q6w := q60.gx g' (by simp; omega)
  have hRow : Rng W' A9 (zr (entsL en L (letters L tp la))) := by
   have h := rd_own hvO (by decide)
   unfold Rng
   rw [zr_len]
   exact h
  have hel := entsL_len en L (letters L tp la)
  have hll : (letters L tp la).length ≤ 6 := by
   have h1 := lettersK_len tp la L
   have h2 : (letters L tp la).length ≤ L := h1
   omega
  have hent : entsL en L (letters L tp la) = (0, 100) :: (letters L tp la).filterMap en := by unfold entsL; rw [HMOD.out]
  have hlst := Tt.leastI_at ((letters L tp la).filterMap en)
  rw [← hent, ← HBB.out] at hlst
  have hlt9 := Tt.leastS_lt (entsL en L (letters L tp la)) (by unfold entsL; simp) _ (Nat.le_refl _)
  have hlt9' : Tt.leastI (entsL en L (letters L tp la)) < (entsL en L (letters L tp la)).length := hlt9
  have HLA := hide (fun w' (h : Rng w' A9 (zr (entsL en L (letters L tp la)))) => least_any A9 (entsL en L (letters L tp la)) c9 w' h (by omega))
  obtain ⟨rb, ro, rfl, hrb⟩ := hRow.form (by rw [zr_len]; unfold entsL; simp)
  have hat := hRow.at (k := Tt.leastI (entsL en L (letters L tp la))) (by rw [zr_len]; exact hlt9')
  have hze : (zr (entsL en L (letters L tp la)))[Tt.leastI (entsL en L (letters L tp la))]'(by rw [zr_len]; exact hlt9') = ((bb.1 : Int), (bb.2 : Int)) := by
   have h2 := hlst
   rw [List.getD_eq_getElem?_getD, List.getElem?_eq_getElem hlt9'] at h2
   simp only [Option.getD_some] at h2
   unfold zr
   rw [List.getElem_map, h2]
  rw [hze] at hat
  obtain ⟨_, a0, a1⟩ := hat
  clear hze hlst hent hel hlt9
  have HRW := hide hRow
  clear hRow
  generalize hent2 : entsL en L (letters L tp la) = es at *
  generalize hjj : Tt.leastI es = j at *
  have hjI : (j : Int) < (es.length : Int) := by omega
  have c7 := obj_at hv7 0 _ rfl
  have cl7 := obj_lt hv7
  have c60 := obj_at q6w 0 _ rfl
  have c61 := obj_at q6w 1 _ rfl
  have cf6 := obj_fz q6w 0
  have cf61 := obj_fz q6w 1
  have cl6 := obj_lt q6w
  go_wp2
  refine wp_region_grow_tail 5 (by kernel_rfl) (by kernel_rfl) ?_
  simp only [List.take_succ_cons, List.take_zero, List.drop_succ_cons, List.drop_zero]
  repeat (go_big_quiet_step ((go_at_call 90; exact Gives.quiet (HLA.out _ (Rd.ext HRW.out (by (repeat (first | exact Below.refl _ _ | assumption | refine below_drewN ?_ _ | refine below_drew ?_ | refine below_gr ?_ ?_ _ | refine below_alloc ?_ ?_ _ | refine Below.setCell ?_ ?_ _ | refine below_step ?_ (by assumption) ?_ | omega | (simp only [zz] at *; omega)))))))))
  refine wpQuiet_nil ?_
  intro W3 hb3
  replace hb3 := ex_below hb3
  have q63 := q6w.ext hb3
  have t0 := obj_at q63 0 _ rfl
  have t1 := obj_at q63 1 _ rfl
  have tf0 := obj_fz q63 0
  have tf1 := obj_fz q63 1
  have tl := obj_lt q63
  go_wp2
  have hDl : D < W'.heap.size := (Array.getElem?_eq_some_iff.1 hK).1
  have hzw := hE.sz
  have hDw : W0.heap.size ≤ D := hD
  have hmk : Marks W0.heap.size [D] ((W3.setCell ⟨b6, 0, none⟩ (.int .i64 (bb.1 : Nat))).setCell ⟨b6, 1, none⟩ (.int .i64 (bb.2 : Nat))) :=
   ⟨by simp, fun E hE => by
    rw [List.mem_singleton.1 hE]
    exact ⟨hD, (Below.heap_setCell _ _ _ _ (by show D ≠ b6; omega)).trans ((Below.heap_setCell _ _ _ _ (by show D ≠ b6; omega)).trans ((hb3.block D hDl).trans hK))⟩⟩
  refine leaves_marks [D] _ hmk (fun w' hb => ?_)
  have hq := set_obj (set_obj q63 0 (.int .i64 (bb.1 : Nat))) 1 (.int .i64 (bb.2 : Nat))
  have hq' : BlkAt w' b6 #[.int .i64 (bb.1 : Nat), .int .i64 (bb.2 : Nat)] 133 := (hb.block b6 (by omega)).trans hq
  have k0 := obj_at hq' 0 (.int .i64 (bb.1 : Nat)) rfl
  have k1 := obj_at hq' 1 (.int .i64 (bb.2 : Nat)) rfl
  have hgF : GX [M, Wm] w w' := (((gw.below hb3 gw.size).setCell ⟨b6, 0, none⟩ _ (fun h => by simp at h; omega)).setCell ⟨b6, 1, none⟩ _ (fun h => by simp at h; omega)).below hb (by omega)
  exact ⟨.agg #[.int .i64 (bb.1 : Nat), .int .i64 (bb.2 : Nat)], by simp [results, Try.results89, go_sem, k0, k1], rfl, hgF, (((kc.below hb3).setCell _ (by show M ≠ b6; omega) _).setCell _ (by show M ≠ b6; omega) _).blk (hb.block M (by omega)), (((kw.below hb3).setCell _ (by show Wm ≠ b6; omega) _).setCell _ (by show Wm ≠ b6; omega) _).blk (hb.block Wm (by omega))⟩
 case stop => rintro D cd pre2 W' hD hpre h; exact h.elim
end Go.Proofs.Ytgjfejpibielaaa
