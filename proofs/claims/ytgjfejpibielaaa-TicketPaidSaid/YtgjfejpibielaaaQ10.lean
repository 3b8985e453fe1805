/- Proved here: how many go on from a state; how many go on: whole; slices, a part of the proofs about the ticket laws. Conditions: those that each theorem names, no others. -/
import Derived.Test.YtgjfejpibielaaaQ09
import Derived.WalkKit
import Derived.WalkSpells
import Derived.WalkLawsBesides
import Derived.Below
import Derived.Deep.QuietTactic
import Derived.BigQuiet
import Derived.Deep.Light
set_option linter.unusedSimpArgs false
set_option linter.unusedVariables false
namespace Go.Proofs.Ytgjfejpibielaaa
open Go.RowKit Go.Maps Go.Shelf
attribute [local go_sem] Oper.semAt_some
def waysC (g : Nat → Nat) : Array Value := #[.int .i64 (g 0 : Nat), .int .i64 (g 1 : Nat), .int .i64 (g 2 : Nat), .int .i64 (g 3 : Nat), .int .i64 (g 4 : Nat), .int .i64 (g 5 : Nat)]
theorem waysC_at (g : Nat → Nat) (c : Nat) (h : c < 6) : (waysC g)[c]? = some (.int .i64 (g c : Nat)) := by
 have : c = 0 ∨ c = 1 ∨ c = 2 ∨ c = 3 ∨ c = 4 ∨ c = 5 := by omega
 rcases this with rfl | rfl | rfl | rfl | rfl | rfl <;> rfl
theorem waysC_set (g : Nat → Nat) (c v : Nat) (h : c < 6) : (waysC g).setIfInBounds c (.int .i64 (v : Nat)) = waysC (fun i => if i = c then v else g i) := by
 have : c = 0 ∨ c = 1 ∨ c = 2 ∨ c = 3 ∨ c = 4 ∨ c = 5 := by omega
 rcases this with rfl | rfl | rfl | rfl | rfl | rfl <;> rfl
theorem waysC_idx (g : Nat → Nat) (c : Nat) (h : c < 6) (w : World) : (Instr.index 142 (.agg #[.int .i64 (g 0 : Nat), .int .i64 (g 1 : Nat), .int .i64 (g 2 : Nat), .int .i64 (g 3 : Nat), .int .i64 (g 4 : Nat), .int .i64 (g 5 : Nat)]) (.int .i64 (c : Nat))).run Try.prog w = .ok (.int .i64 (g c : Nat)) w := by
 have : c = 0 ∨ c = 1 ∨ c = 2 ∨ c = 3 ∨ c = 4 ∨ c = 5 := by omega
 rcases this with rfl | rfl | rfl | rfl | rfl | rfl <;> (show _ = _; kernel_rfl)
theorem waysC_congr {g h : Nat → Nat} (e : ∀ c, c < 6 → g c = h c) : waysC g = waysC h := by
 unfold waysC
 rw [e 0 (by omega), e 1 (by omega), e 2 (by omega), e 3 (by omega), e 4 (by omega), e 5 (by omega)]
theorem calls_round {P : Program} {l n : Nat} {f : FuncId} {args : Array Value} {w : World} {R : Ending → World → Prop} (h : Calls P f args w R) : CallsIn (Fence.wide.inRound l) n P f args w R :=
 CallsIn.inRound l (callsIn_wide.2 h)
theorem keeps_far {N M : Nat} {X Y : World} (h : X.grownBy Y (some M)) (hM : M < N) : KeepsFrom N X Y :=
 ⟨h.size, fun k o hk ho _ => (h.block k (Array.getElem?_eq_some_iff.1 ho).1 (fun e => by have := Option.some.inj e; omega)).trans ho⟩
theorem Kq.setCell {n M B1 B2 : Nat} (X : World) {a : Addr} (h0 : n ≤ a.block) (h1 : B1 ≠ a.block) (h2 : B2 ≠ a.block) (v : Value) : Kq n M B1 B2 X (X.setCell a v) :=
 ⟨fun b hb _ => Below.heap_setCell _ _ _ _ (by omega), Below.heap_setCell _ _ _ _ h1, Below.heap_setCell _ _ _ _ h2, by simp⟩
theorem KMap.setCell {k : TypeId} {b : Nat} {good : Value → Value → Prop} {must : Value → Prop} {w : World} (h : KMap k b good must w) (a : Addr) (ha : b ≠ a.block) (v : Value) : KMap k b good must (w.setCell a v) := by
 obtain ⟨l, h, hl⟩ := h
 exact ⟨l, h.setCell ha v, hl⟩
theorem grown_set {w w' : World} {row : Option Nat} (h : w.grownBy w' row) (a : Addr) (ha : w.heap.size ≤ a.block) (v : Value) : w.grownBy (w'.setCell a v) row :=
 ⟨h.1, h.2, h.3, by simpa using h.size, fun k hk hne => (Below.heap_setCell _ _ _ _ (by omega)).trans (h.block k hk hne)⟩
def psum (g : Nat → Nat) (k : Nat) : Nat := ((List.range k).map g).sum
theorem psum_step (g : Nat → Nat) (k : Nat) : psum g (k + 1) = psum g k + g k := by simp [psum, List.range_succ]
theorem psum_le (g : Nat → Nat) (m : Nat) (h : ∀ c, c < 6 → g c ≤ m) (k : Nat) (hk : k ≤ 6 := by omega) : psum g k ≤ 6 * m := by
 have key : ∀ k, k ≤ 6 → psum g k ≤ k * m := fun k => by
  induction k with
  | zero => simp [psum]
  | succ k ih => intro hk; rw [psum_step, Nat.add_mul]; have := ih (by omega); have := h k (by omega); omega
 have := key k hk
 have := Nat.mul_le_mul_right m hk
 omega
theorem grown_far {w X Y : World} {M : Nat} {row : Option Nat} (h : w.grownBy X (some M)) (hg : X.grownBy Y row) (hr : ∀ k, row = some k → w.heap.size ≤ k) : w.grownBy Y (some M) :=
 ⟨hg.1.trans h.1, hg.2.trans h.2, hg.3.trans h.3, Nat.le_trans h.size hg.size, fun i hi hne => (hg.block i (Nat.lt_of_lt_of_le hi h.size) (fun e => by have := hr i e.symm; omega)).trans (h.block i hi hne)⟩
theorem put_grown (W : World) (D : Nat) (o : Obj) : W.grownBy (W.putObj D o) (some D) := ⟨rfl, rfl, rfl, by simp, fun k _ hne => World.putObj_heap_other (fun e => hne (by rw [e]))⟩
theorem from_fin {w W : World} {M D : Nat} {good : Value → Value → Prop} {must : Value → Prop} {u v : Value} {o : Obj} (h1 : w.heap.size ≤ D) (h2 : M ≠ D) (hv : u = v) (hk : KMap 91 M good must W) (hg : w.grownBy W (some M)) : GivesM w M (KMap 91 M good must) v (.returned u) (W.putObj D o) :=
 ⟨by rw [hv], grown_far hg (put_grown W D o) (fun k e => by have := Option.some.inj e; omega), hk.kept (put_grown W D o) (fun e => h2 (Option.some.inj e))⟩
theorem cells_one {N : Nat} {X Y : World} {row : Option Nat} {B : Nat} {t : TypeId} {cs : Array Value} (hs : BlkAt X B cs t) (hg : X.grownBy Y row) (hr : ∀ r, row = some r → N ≤ r ∧ ∃ o : Obj, X.heap[r]? = some o ∧ o.isCells = false) : BlkAt Y B cs t := by
 refine (hg.block B (obj_lt hs) (fun e' => ?_)).trans hs
 obtain ⟨_, o, ho, hc⟩ := hr B e'.symm
 rw [show X.heap[B]? = _ from hs] at ho; cases ho; cases hc
theorem cells_from {β : Type} {N : Nat} (B : Nat) (t : TypeId) (cs : β → Array Value) : OwnFrom N (fun (b : β) W => BlkAt W B (cs b) t) := fun s X Y row hs hg hr => by
 refine (hg.block B (obj_lt hs) (fun e' => ?_)).trans hs
 obtain ⟨_, o, ho, hc⟩ := hr B e'.symm
 rw [show X.heap[B]? = _ from hs] at ho; cases ho; cases hc
@[go_sem] theorem eqWays (a0 a1 a2 a3 a4 a5 b0 b1 b2 b3 b4 b5 : Int) (w : World) : (Op.equalIn 10000 142 (.agg #[.int .i64 a0, .int .i64 a1, .int .i64 a2, .int .i64 a3, .int .i64 a4, .int .i64 a5]) (.agg #[.int .i64 b0, .int .i64 b1, .int .i64 b2, .int .i64 b3, .int .i64 b4, .int .i64 b5])).run Try.prog w = .ok (a0 == b0 && (a1 == b1 && (a2 == b2 && (a3 == b3 && (a4 == b4 && a5 == b5))))) w := by
 have u3 := Try.underlying2
 have a3' := Try.isAgg2
 have z3 := Try.sizeOf2
 rw [show (10000 : Nat) = 9999 + 1 from rfl, Op.equalIn]
 simp only [Sem.run_bind, run_underlying Try.underlying142, Result.andThen_ok]
 simp only [Std.Legacy.Range.forIn_eq_forIn_range', Std.Legacy.Range.size, Nat.sub_zero, Nat.add_sub_cancel, Nat.div_one, List.range'_succ, List.range'_zero, List.forIn_cons, List.forIn_nil]
 go_simp
 by_cases h1 : a0 = b0 <;> by_cases h2 : a1 = b1 <;> by_cases h3 : a2 = b2 <;> by_cases h4 : a3 = b3 <;> by_cases h5 : a4 = b4 <;> by_cases h6 : a5 = b5 <;> simp [h1, h2, h3, h4, h5, h6]
theorem zero2 (w' : World) : (zeroValue 2).run Try.prog w' = .ok (.int .i64 0) w' := by kernel_rfl
theorem und118 : Try.prog.underlying 118 = some (.map 91 2) := by kernel_rfl
set_option maxRecDepth 100000 in
set_option maxHeartbeats 4000000 in
theorem from_step (B M : Nat) (L rest : Nat) (A : Option Addr) (K : List Nat) (c : Nat) (S : Option Addr) (T : List Nat) (d : Nat) (must : Value → Prop) (p : Nat) (la : Int) (s : Nat) (w : World) (hm : MachAt w B M L rest A K c S T d) (hok : OkM L rest K T) (hne : NeM B M A S) (hk : (KMap 91 M (goodF L rest K T) must) w) (hp : p < K.length) (hla : -1 ≤ la ∧ la ≤ 5) (hs : s < L)
 (ih : ∀ (x s' : Nat) (w' : World), x < L → s' < L → MachAt w' B M L rest A K c S T d → (KMap 91 M (goodF L rest K T) must) w' → Calls Try.prog 83 #[.pointer (some ⟨B, 0, none⟩), stV (p + 1) (x : Nat) s'] w' (GivesM w' M (KMap 91 M (goodF L rest K T) must) (.int .i64 (Tt.cnt L rest ((K.zip T).drop (p + 1)) (x : Nat) s' : Nat)))) :
 Calls Try.prog 83 #[.pointer (some ⟨B, 0, none⟩), stV p la s] w (GivesM w M (KMap 91 M (goodF L rest K T) (fun x => must x ∨ x = stV p la s)) (.int .i64 (Tt.cnt L rest ((K.zip T).drop p) la s : Nat))) := by
 obtain ⟨hL2, hL6, hn2, hn8, htl, hkL, htL, hrL⟩ := id hok
 obtain ⟨kl, hkl⟩ := keyS_of (p := p) (la := la) (s := s) (by omega) hla (by omega)
 have hlook := hk.look2 lawS und118 zero2 hkl
 have hpn : ((p : Int) == (K.length : Int)) = false := by simp; omega
 have hpm : ¬ ((p : Int) = (K.length : Int)) := by omega
 have HGV : Hid (∀ v, goodF L rest K T (stV p la s) v → v = .int .i64 (Tt.cnt L rest ((K.zip T).drop p) la s : Nat)) := by
  refine hide ?_
  rintro v ⟨q, lb, t, _, _, _, he, rfl⟩
  obtain ⟨rfl, rfl, rfl⟩ := stV_inj he
  rfl
 rcases hlook with ⟨v, ⟨hg, hk1⟩, hrun⟩ | ⟨_, hrun⟩
 · obtain rfl := HGV.out v hg
   clear HGV hg
   unfold stV stC at hrun hk1 ⊢
   generalize Tt.cnt L rest ((K.zip T).drop p) la s = C at *
   go_enter Try.func83, Try.ntmps83
   go_upto_region 1 with fail
   have hW : Below w.heap.size w ((w.alloc (.cells #[.pointer (some ⟨B, 0, none⟩)] 83)).alloc (.cells #[.int .i64 (p : Nat), .int .i64 la, .int .i64 (s : Nat)] 91)) := by (repeat (first | exact Below.refl _ _ | assumption | (refine below_gr ?_ (by (first | omega | (simp only [zz] at *; omega))) _) | (refine below_alloc ?_ (by (first | omega | (simp only [zz] at *; omega))) _) | (refine Below.setCell ?_ (by (first | omega | (simp only [zz] at *; omega))) _) | refine below_drewN ?_ _ | refine below_drew ?_ | (refine below_step ?_ (by assumption) (by (first | omega | (simp only [zz] at *; omega))))))
   have hX : BlkAt ((w.alloc (.cells #[.pointer (some ⟨B, 0, none⟩)] 83)).alloc (.cells #[.int .i64 (p : Nat), .int .i64 la, .int .i64 (s : Nat)] 91)) w.heap.size #[.pointer (some ⟨B, 0, none⟩)] 83 := heap_a _ _ _
   have hY : BlkAt ((w.alloc (.cells #[.pointer (some ⟨B, 0, none⟩)] 83)).alloc (.cells #[.int .i64 (p : Nat), .int .i64 la, .int .i64 (s : Nat)] 91)) (w.heap.size + 1) #[.int .i64 (p : Nat), .int .i64 la, .int .i64 (s : Nat)] 91 := heap_b _ _ _
   obtain ⟨wa, hwa⟩ : ∃ wa, ((w.alloc (.cells #[.pointer (some ⟨B, 0, none⟩)] 83)).alloc (.cells #[.int .i64 (p : Nat), .int .i64 la, .int .i64 (s : Nat)] 91)) = wa := ⟨_, rfl⟩
   rw [hwa] at hW hX hY ⊢
   clear hwa
   have hB := hm.1.ext hW
   (try clear hBc0 hBc1 hBc2 hBc3 hBc4 hBc5 hBf hBl)
   have hBc0 := obj_at hB 0 _ rfl
   have hBc1 := obj_at hB 1 _ rfl
   have hBc2 := obj_at hB 2 _ rfl
   have hBc3 := obj_at hB 3 _ rfl
   have hBc4 := obj_at hB 4 _ rfl
   have hBc5 := obj_at hB 5 _ rfl
   have hBf := obj_fz hB 0
   have hBl := obj_lt hB
   (try clear hXc0 hXf hXl)
   have hXc0 := obj_at hX 0 _ rfl
   have hXf := obj_fz hX 0
   have hXl := obj_lt hX
   (try clear hYc0 hYc1 hYc2 hYf hYl)
   have hYc0 := obj_at hY 0 _ rfl
   have hYc1 := obj_at hY 1 _ rfl
   have hYc2 := obj_at hY 2 _ rfl
   have hYf := obj_fz hY 0
   have hYl := obj_lt hY
   have hMl := hk.lt
   go_upto_region 1 with fail
   refine wp_region_grow (by kernel_rfl) (by kernel_rfl) ?_
   repeat (go_big_quiet_step (fail))
   refine wpQuiet_nil ?_
   intro w1 hb_w1
   replace hb_w1 := ex_below hb_w1
   replace hB := hB.ext hb_w1
   replace hX := hX.ext hb_w1
   replace hY := hY.ext hb_w1
   replace hW := below_step hW hb_w1 (by have := hW.size; omega)
   have sz_w1 := hb_w1.size
   clear hb_w1
   (try clear hBc0 hBc1 hBc2 hBc3 hBc4 hBc5 hBf hBl)
   have hBc0 := obj_at hB 0 _ rfl
   have hBc1 := obj_at hB 1 _ rfl
   have hBc2 := obj_at hB 2 _ rfl
   have hBc3 := obj_at hB 3 _ rfl
   have hBc4 := obj_at hB 4 _ rfl
   have hBc5 := obj_at hB 5 _ rfl
   have hBf := obj_fz hB 0
   have hBl := obj_lt hB
   (try clear hXc0 hXf hXl)
   have hXc0 := obj_at hX 0 _ rfl
   have hXf := obj_fz hX 0
   have hXl := obj_lt hX
   (try clear hYc0 hYc1 hYc2 hYf hYl)
   have hYc0 := obj_at hY 0 _ rfl
   have hYc1 := obj_at hY 1 _ rfl
   have hYc2 := obj_at hY 2 _ rfl
   have hYf := obj_fz hY 0
   have hYl := obj_lt hY
   have hr5 : ∀ g, (Instr.lookup 118 (.map (some M)) (.agg #[.int .i64 (p : Nat), .int .i64 la, .int .i64 (s : Nat)]) true).run Try.prog (w1.grow g) = .ok (.tuple #[.int .i64 (C : Nat), .bool true]) (w1.grow g) := fun g => hrun _ (by rw [heap_grow _ _ _ (by have := hW.size; omega)]; exact hW.block M hMl)
   go_upto_region 5 with fail
   refine wp_region_grow (by kernel_rfl) (by kernel_rfl) ?_
   repeat (go_big_quiet_step (fail))
   refine wpQuiet_nil ?_
   intro w2 hb_w2
   replace hb_w2 := ex_below hb_w2
   replace hB := hB.ext hb_w2
   replace hX := hX.ext hb_w2
   replace hY := hY.ext hb_w2
   replace hW := below_step hW hb_w2 (by have := hW.size; omega)
   have sz_w2 := hb_w2.size
   clear hb_w2
   (try clear hBc0 hBc1 hBc2 hBc3 hBc4 hBc5 hBf hBl)
   have hBc0 := obj_at hB 0 _ rfl
   have hBc1 := obj_at hB 1 _ rfl
   have hBc2 := obj_at hB 2 _ rfl
   have hBc3 := obj_at hB 3 _ rfl
   have hBc4 := obj_at hB 4 _ rfl
   have hBc5 := obj_at hB 5 _ rfl
   have hBf := obj_fz hB 0
   have hBl := obj_lt hB
   (try clear hXc0 hXf hXl)
   have hXc0 := obj_at hX 0 _ rfl
   have hXf := obj_fz hX 0
   have hXl := obj_lt hX
   (try clear hYc0 hYc1 hYc2 hYf hYl)
   have hYc0 := obj_at hY 0 _ rfl
   have hYc1 := obj_at hY 1 _ rfl
   have hYc2 := obj_at hY 2 _ rfl
   have hYf := obj_fz hY 0
   have hYl := obj_lt hY
   go_wp2
   go_ret
   exact ⟨rfl, grown_none (below_grown hW), hk1.below hW⟩
 · clear HGV
   have HPUT0 := hide (fun (w' : World) (h : (KMap 91 M (goodF L rest K T) must) w') => h.put lawS und118 (finF L rest K T) hkl (⟨p, la, s, by omega, by omega, by omega, rfl, rfl⟩ : goodF L rest K T (stV p la s) (.int .i64 (Tt.cnt L rest ((K.zip T).drop p) la s : Nat))))
   unfold stV stC at hrun ⊢
   have HPUT : Hid (∀ w', (KMap 91 M (goodF L rest K T) must) w' → ∃ w'', (Instr.mapUpdate 118 (.map (some M)) (.agg #[.int .i64 (p : Nat), .int .i64 la, .int .i64 (s : Nat)]) (.int .i64 (Tt.cnt L rest ((K.zip T).drop p) la s : Nat))).run Try.prog w' = .ok () w'' ∧ (KMap 91 M (goodF L rest K T) (fun x => must x ∨ x = .agg #[.int .i64 (p : Nat), .int .i64 la, .int .i64 (s : Nat)])) w'' ∧ w'.grownBy w'' (some M)) := hide HPUT0.out
   clear HPUT0
   obtain ⟨C, hCC⟩ : ∃ C, Tt.cnt L rest ((K.zip T).drop p) la s = C := ⟨_, rfl⟩
   rw [hCC] at HPUT ⊢
   have HCC := hide hCC
   clear hCC
   refine (callsIn_wide (n := 8)).1 ?_
   have h18 : 1 ≤ 8 := by omega
   refine callsIn_of_wp_marks Try.func83 rfl trivial ?_ rfl
   simp only [Try.ntmps83, List.size_toArray, List.length_cons, List.length_nil, Nat.reduceAdd, Nat.reduceSub, Array.replicate_succ, Array.replicate_zero, List.push_toArray, List.append_toArray, List.nil_append, List.cons_append]
   refine wpIn_wide.2 ?_
   go_upto_region 1 with fail
   have hW : Below w.heap.size w ((w.alloc (.cells #[.pointer (some ⟨B, 0, none⟩)] 83)).alloc (.cells #[.int .i64 (p : Nat), .int .i64 la, .int .i64 (s : Nat)] 91)) := by (repeat (first | exact Below.refl _ _ | assumption | (refine below_gr ?_ (by (first | omega | (simp only [zz] at *; omega))) _) | (refine below_alloc ?_ (by (first | omega | (simp only [zz] at *; omega))) _) | (refine Below.setCell ?_ (by (first | omega | (simp only [zz] at *; omega))) _) | refine below_drewN ?_ _ | refine below_drew ?_ | (refine below_step ?_ (by assumption) (by (first | omega | (simp only [zz] at *; omega))))))
   have hX : BlkAt ((w.alloc (.cells #[.pointer (some ⟨B, 0, none⟩)] 83)).alloc (.cells #[.int .i64 (p : Nat), .int .i64 la, .int .i64 (s : Nat)] 91)) w.heap.size #[.pointer (some ⟨B, 0, none⟩)] 83 := heap_a _ _ _
   have hY : BlkAt ((w.alloc (.cells #[.pointer (some ⟨B, 0, none⟩)] 83)).alloc (.cells #[.int .i64 (p : Nat), .int .i64 la, .int .i64 (s : Nat)] 91)) (w.heap.size + 1) #[.int .i64 (p : Nat), .int .i64 la, .int .i64 (s : Nat)] 91 := heap_b _ _ _
   obtain ⟨wa, hwa⟩ : ∃ wa, ((w.alloc (.cells #[.pointer (some ⟨B, 0, none⟩)] 83)).alloc (.cells #[.int .i64 (p : Nat), .int .i64 la, .int .i64 (s : Nat)] 91)) = wa := ⟨_, rfl⟩
   rw [hwa] at hW hX hY ⊢
   clear hwa
   have hB := hm.1.ext hW
   (try clear hBc0 hBc1 hBc2 hBc3 hBc4 hBc5 hBf hBl)
   have hBc0 := obj_at hB 0 _ rfl
   have hBc1 := obj_at hB 1 _ rfl
   have hBc2 := obj_at hB 2 _ rfl
   have hBc3 := obj_at hB 3 _ rfl
   have hBc4 := obj_at hB 4 _ rfl
   have hBc5 := obj_at hB 5 _ rfl
   have hBf := obj_fz hB 0
   have hBl := obj_lt hB
   (try clear hXc0 hXf hXl)
   have hXc0 := obj_at hX 0 _ rfl
   have hXf := obj_fz hX 0
   have hXl := obj_lt hX
   (try clear hYc0 hYc1 hYc2 hYf hYl)
   have hYc0 := obj_at hY 0 _ rfl
   have hYc1 := obj_at hY 1 _ rfl
   have hYc2 := obj_at hY 2 _ rfl
   have hYf := obj_fz hY 0
   have hYl := obj_lt hY
   have hMl := hk.lt
   go_upto_region 1 with fail
   refine wp_region_grow (by kernel_rfl) (by kernel_rfl) ?_
   repeat (go_big_quiet_step (fail))
   refine wpQuiet_nil ?_
   intro w1 hb_w1
   replace hb_w1 := ex_below hb_w1
   replace hB := hB.ext hb_w1
   replace hX := hX.ext hb_w1
   replace hY := hY.ext hb_w1
   replace hW := below_step hW hb_w1 (by have := hW.size; omega)
   have sz_w1 := hb_w1.size
   clear hb_w1
   (try clear hBc0 hBc1 hBc2 hBc3 hBc4 hBc5 hBf hBl)
   have hBc0 := obj_at hB 0 _ rfl
   have hBc1 := obj_at hB 1 _ rfl
   have hBc2 := obj_at hB 2 _ rfl
   have hBc3 := obj_at hB 3 _ rfl
   have hBc4 := obj_at hB 4 _ rfl
   have hBc5 := obj_at hB 5 _ rfl
   have hBf := obj_fz hB 0
   have hBl := obj_lt hB
   (try clear hXc0 hXf hXl)
   have hXc0 := obj_at hX 0 _ rfl
   have hXf := obj_fz hX 0
   have hXl := obj_lt hX
   (try clear hYc0 hYc1 hYc2 hYf hYl)
   have hYc0 := obj_at hY 0 _ rfl
   have hYc1 := obj_at hY 1 _ rfl
   have hYc2 := obj_at hY 2 _ rfl
   have hYf := obj_fz hY 0
   have hYl := obj_lt hY
   have hr5 : ∀ g, (Instr.lookup 118 (.map (some M)) (.agg #[.int .i64 (p : Nat), .int .i64 la, .int .i64 (s : Nat)]) true).run Try.prog (w1.grow g) = .ok (.tuple #[.int .i64 0, .bool false]) (w1.grow g) := fun g => hrun _ (by rw [heap_grow _ _ _ (by have := hW.size; omega)]; exact hW.block M hMl)
   go_upto_region 5 with fail
   refine wp_region_grow (by kernel_rfl) (by kernel_rfl) ?_
   repeat (go_big_quiet_step (fail))
   refine wpQuiet_nil ?_
   intro w2 hb_w2
   replace hb_w2 := ex_below hb_w2
   replace hB := hB.ext hb_w2
   replace hX := hX.ext hb_w2
   replace hY := hY.ext hb_w2
   replace hW := below_step hW hb_w2 (by have := hW.size; omega)
   have sz_w2 := hb_w2.size
   clear hb_w2
   (try clear hBc0 hBc1 hBc2 hBc3 hBc4 hBc5 hBf hBl)
   have hBc0 := obj_at hB 0 _ rfl
   have hBc1 := obj_at hB 1 _ rfl
   have hBc2 := obj_at hB 2 _ rfl
   have hBc3 := obj_at hB 3 _ rfl
   have hBc4 := obj_at hB 4 _ rfl
   have hBc5 := obj_at hB 5 _ rfl
   have hBf := obj_fz hB 0
   have hBl := obj_lt hB
   (try clear hXc0 hXf hXl)
   have hXc0 := obj_at hX 0 _ rfl
   have hXf := obj_fz hX 0
   have hXl := obj_lt hX
   (try clear hYc0 hYc1 hYc2 hYf hYl)
   have hYc0 := obj_at hY 0 _ rfl
   have hYc1 := obj_at hY 1 _ rfl
   have hYc2 := obj_at hY 2 _ rfl
   have hYf := obj_fz hY 0
   have hYl := obj_lt hY
   go_wp2_with (go_at_call 82; refine (steps_in _ (some ⟨B, 0, none⟩) p la s).mono ?_; rintro e w8 ⟨rfl, rfl⟩)
   have hb0 : Below w2.heap.size w2 (((w2.alloc (.cells #[.int .i64 0, .int .i64 0, .int .i64 0, .int .i64 0, .int .i64 0, .int .i64 0] 142)).alloc (.cells #[.pointer (some ⟨B, 0, none⟩)] 83)).alloc (.cells (stC p la s) 91)) := by (repeat (first | exact Below.refl _ _ | assumption | (refine below_gr ?_ (by (first | omega | (simp only [zz] at *; omega))) _) | (refine below_alloc ?_ (by (first | omega | (simp only [zz] at *; omega))) _) | (refine Below.setCell ?_ (by (first | omega | (simp only [zz] at *; omega))) _) | refine below_drewN ?_ _ | refine below_drew ?_ | (refine below_step ?_ (by assumption) (by (first | omega | (simp only [zz] at *; omega))))))
   have hZ : BlkAt (((w2.alloc (.cells #[.int .i64 0, .int .i64 0, .int .i64 0, .int .i64 0, .int .i64 0, .int .i64 0] 142)).alloc (.cells #[.pointer (some ⟨B, 0, none⟩)] 83)).alloc (.cells (stC p la s) 91)) w2.heap.size #[.int .i64 0, .int .i64 0, .int .i64 0, .int .i64 0, .int .i64 0, .int .i64 0] 142 := (Below.heap_alloc _ _ _ (by simp; omega)).trans ((Below.heap_alloc _ _ _ (by simp)).trans (heap_alloc_new _ _))
   have hBm : BlkAt (((w2.alloc (.cells #[.int .i64 0, .int .i64 0, .int .i64 0, .int .i64 0, .int .i64 0, .int .i64 0] 142)).alloc (.cells #[.pointer (some ⟨B, 0, none⟩)] 83)).alloc (.cells (stC p la s) 91)) (w2.heap.size + 1) #[.pointer (some ⟨B, 0, none⟩)] 83 := by
    have h := heap_alloc_new (w2.alloc (.cells #[.int .i64 0, .int .i64 0, .int .i64 0, .int .i64 0, .int .i64 0, .int .i64 0] 142)) (.cells #[.pointer (some ⟨B, 0, none⟩)] 83)
    rw [World.size_alloc] at h
    exact (Below.heap_alloc _ _ _ (by simp)).trans h
   have hBs : BlkAt (((w2.alloc (.cells #[.int .i64 0, .int .i64 0, .int .i64 0, .int .i64 0, .int .i64 0, .int .i64 0] 142)).alloc (.cells #[.pointer (some ⟨B, 0, none⟩)] 83)).alloc (.cells (stC p la s) 91)) (w2.heap.size + 1 + 1) (stC p la s) 91 := by
    have h := heap_alloc_new ((w2.alloc (.cells #[.int .i64 0, .int .i64 0, .int .i64 0, .int .i64 0, .int .i64 0, .int .i64 0] 142)).alloc (.cells #[.pointer (some ⟨B, 0, none⟩)] 83)) (.cells (stC p la s) 91)
    rw [World.size_alloc, World.size_alloc] at h
    exact h
   have hs0 : (((w2.alloc (.cells #[.int .i64 0, .int .i64 0, .int .i64 0, .int .i64 0, .int .i64 0, .int .i64 0] 142)).alloc (.cells #[.pointer (some ⟨B, 0, none⟩)] 83)).alloc (.cells (stC p la s) 91)).heap.size = w2.heap.size + 1 + 1 + 1 := by simp
   have hk2 := (hk.below hW).below hb0
   obtain ⟨W0, hW0⟩ : ∃ v, (((w2.alloc (.cells #[.int .i64 0, .int .i64 0, .int .i64 0, .int .i64 0, .int .i64 0, .int .i64 0] 142)).alloc (.cells #[.pointer (some ⟨B, 0, none⟩)] 83)).alloc (.cells (stC p la s) 91)) = v := ⟨_, rfl⟩
   rw [hW0] at hb0 hZ hBm hBs hs0 hk2 ⊢
   clear hW0 hr5 hrun
   have hwz := obj_lt hY
   have hX0 := hX.ext hb0
   have hY0 := hY.ext hb0
   have hW0 := below_step hW hb0 (by omega)
   have hWs := hW.size
   obtain ⟨Wb, hWb⟩ : ∃ v, w2.heap.size = v := ⟨_, rfl⟩
   rw [hWb] at hZ hBm hBs hs0 hwz hWs ⊢
   have hMw := hk.lt
   clear hX hY hB hWb hW hb0 hBc0 hBc1 hBc2 hBc3 hBc4 hBc5 hBf hBl hXc0 hXf hXl hYc0 hYc1 hYc2 hYf hYl hpn hpm hkl
   have htp : p < T.length := by omega
   have hzd := Tt.zip_drop hp htp
   have hcn := Tt.cnt_cons L rest (K[p], T[p]) ((K.zip T).drop (p + 1)) la s
   rw [← hzd] at hcn
   obtain ⟨f, hf⟩ : ∃ f : Nat → Nat, f = fun c => Tt.cnt L rest ((K.zip T).drop (p + 1)) (c : Nat) ((s + K[p] * c) % L) := ⟨_, rfl⟩
   have hfs : ∀ c, f c ≤ 1679616 := fun c => by rw [hf]; exact Tt.cnt_small hL6 (by rw [List.length_drop, List.length_zip]; omega)
   have hcn2 : Tt.cnt L rest ((K.zip T).drop p) la s = ((List.range 6).map fun c => Tt.wv f L (letters L T[p] la) c).sum := by
    rw [hcn, hf]
    unfold letters
    simp only [Tt.wv_all]
    exact (Tt.six_sum hL6 _ _).symm
   have HIH : Hid (∀ (x : Nat) (w' : World), MachAt w' B M L rest A K c S T d → (KMap 91 M (goodF L rest K T) must) w' → Calls Try.prog 83 #[.pointer (some ⟨B, 0, none⟩), .agg #[.int .i64 ((p + 1 : Nat) : Int), .int .i64 ((x % L : Nat) : Int), .int .i64 (((s + K[p] * (x % L)) % L : Nat) : Int)]] w' (GivesM w' M (KMap 91 M (goodF L rest K T) must) (.int .i64 (f (x % L) : Nat)))) := hide (fun x w' h1 h2 => by
    have hL0 : 0 < L := by omega
    rw [hf]
    exact ih (x % L) ((s + K[p] * (x % L)) % L) w' (Nat.mod_lt _ hL0) (Nat.mod_lt _ hL0) h1 h2)
   have HST := steps_stops 7 (by omega) (Wb + 1) (Wb + 1 + 1) B M L rest A K c S T d p la s w hm hok hne hp hla hs htp W0 hBm hBs (by omega) (fun b hb _ => hW0.block b hb)
   rw [HCC.out] at hcn2
   have HC2 := hide hcn2
   have HENC : Hid (∀ x, encS L K[p] p s x = #[.int .i64 ((x % L : Nat) : Int), .agg #[.int .i64 ((p + 1 : Nat) : Int), .int .i64 ((x % L : Nat) : Int), .int .i64 (((s + K[p] * (x % L)) % L : Nat) : Int)]]) := hide (fun x => rfl)
   clear hcn hcn2 hzd hf ih
   generalize K[p] = kp at *
   refine (wpIn_wide (n := 8)).1 ?_
   refine wpIn_rangeFunc_ownH rfl h18 (gf := 94) (lb := #[.pointer (some ⟨Wb + 1, 0, none⟩), .pointer (some ⟨Wb + 1 + 1, 0, none⟩)]) rfl trivial (enters_of Try.func94 (by kernel_rfl) rfl)
    HST (fun h k => h.trans k) (kq_put (by omega) (by omega) (by omega)) (Below.refl _ _) (fun _ => rfl)
    (fun pre W' => BlkAt W' Wb (waysC (Tt.wv f L pre)) 142 ∧ BlkAt W' w.heap.size #[.pointer (some ⟨B, 0, none⟩)] 83 ∧ BlkAt W' (w.heap.size + 1) #[.int .i64 (p : Nat), .int .i64 la, .int .i64 (s : Nat)] 91 ∧ (KMap 91 M (goodF L rest K T) must) W' ∧ w.grownBy W' (some M) ∧ W0.heap.size ≤ W'.heap.size)
    (fun _ _ _ => False)
    ?ownI ?ownX ⟨hZ, hX0, hY0, hk2, grown_none (below_grown hW0), Nat.le_refl _⟩
    (fun x a' W' => ∃ Bx, Wb + 1 + 1 < Bx ∧ BlkAt W' Bx #[.int .i64 ((p + 1 : Nat) : Int), .int .i64 ((x % L : Nat) : Int), .int .i64 (((s + kp * (x % L)) % L : Nat) : Int)] 91 ∧ a' = { tmps := #[.pointer (some ⟨B, 0, none⟩), .agg #[.int .i64 (p : Nat), .int .i64 la, .int .i64 (s : Nat)], .pointer (some ⟨w.heap.size, 0, none⟩), .pointer (some ⟨w.heap.size + 1, 0, none⟩), .int .i64 0, .int .i64 0, .bool false, .pointer (some ⟨Wb, 0, none⟩), .int .i64 ((x % L : Nat) : Int), .pointer (some ⟨Bx, 0, none⟩), undef, undef, undef, .pointer (some ⟨w.heap.size + 1, 0, none⟩), .int .i64 (p : Nat), .pointer (some ⟨B, 0, none⟩), .pointer (some ⟨B, 0, none⟩), .pointer (some ⟨B, 0, none⟩), .pointer (some ⟨B, 1, none⟩), .int .i64 (K.length : Nat), .bool false, undef, undef, undef, undef, undef, undef, undef, undef, .tuple #[.int .i64 0, .bool false], .pointer (some ⟨B, 0, none⟩), .pointer (some ⟨B, 0, none⟩), .pointer (some ⟨B, 5, none⟩), .map (some M), .agg #[.int .i64 (p : Nat), .int .i64 la, .int .i64 (s : Nat)], .tuple #[.int .i64 0, .bool false], .int .i64 0, .bool false, .bool false, undef, .pointer (some ⟨B, 0, none⟩), .agg #[.int .i64 (p : Nat), .int .i64 la, .int .i64 (s : Nat)], .func (.func 94) #[] #[.pointer (some ⟨Wb + 1, 0, none⟩), .pointer (some ⟨Wb + 1 + 1, 0, none⟩)], .int .i64 ((x % L : Nat) : Int), .agg #[.int .i64 ((p + 1 : Nat) : Int), .int .i64 ((x % L : Nat) : Int), .int .i64 (((s + kp * (x % L)) % L : Nat) : Int)], undef, undef, undef, undef, undef, undef, undef, undef, undef, undef, undef, undef, undef, undef, undef, undef, undef, undef, undef, undef, undef, undef, undef], defers := [] })
    ?ownA ?assign ?body ?done ?stop
   case ownI =>
    refine OwnFrom.and (cells_from _ _ _) (OwnFrom.and (cells_from _ _ _) (OwnFrom.and (cells_from _ _ _) (OwnFrom.and ?_ (OwnFrom.and ?_ ?_))))
    · intro s X Y row h hg hr
      exact KMap.kept h hg (fun e => by have := (hr M e.symm).1; omega)
    · intro s X Y row h hg hr
      exact grown_far h hg (fun k e => by have := (hr k e).1; omega)
    · intro s X Y row h hg hr
      exact Nat.le_trans h hg.size
   case ownX => intro cd s X Y row h; exact h.elim
   case ownA =>
    rintro x a' s X Y row ⟨Bx, h1, h2, h3⟩ hg hr
    exact ⟨Bx, h1, cells_one h2 hg hr, h3⟩
   case assign =>
    rintro l pre x W' K' ⟨i1, i2, i3, i4, i5, i6⟩ hK
    rw [HENC.out]
    have hz := i5.size
    generalize hxl : x % L = c at *
    generalize (s + kp * c) % L = sv at *
    generalize ((p + 1 : Nat) : Int) = pp at *
    gi_wp2
    have hba : Below W'.heap.size W' (W'.alloc (.cells #[.int .i64 pp, .int .i64 (c : Nat), .int .i64 (sv : Nat)] 91)) := below_alloc (Below.refl _ _) (Nat.le_refl _) _
    exact hK _ _ ((KeepsOthers.alloc _ _).from _) (Kq.below hba (by omega) (by omega) (by omega)) ⟨i1.ext hba, i2.ext hba, i3.ext hba, i4.below hba, grown_trans i5 (grown_none (below_grown hba)), Nat.le_trans i6 hba.size⟩ ⟨W'.heap.size, by omega, World.alloc_heap_new W' _, rfl⟩
   case body =>
    rintro l pre x a' W' hll ⟨r, hr⟩ ⟨i1, i2, i3, i4, i5, i6⟩ ⟨Bx, hBx, bX, rfl⟩ hlt
    have hz := i5.size
    have hmW := hm.grown hne i5
    have HI := hide (HIH.out x)
    have hbl := obj_lt bX
    have hWl := obj_lt i1
    have h2l := obj_lt i2
    have h3l := obj_lt i3
    have hcx : x % L < L := Nat.mod_lt _ (by omega)
    have hfx := hfs (x % L)
    have hwn := waysC_set (Tt.wv f L pre) (x % L) (f (x % L)) (by omega)
    have HWN : Hid (∀ c, c < 6 → (if c = x % L then f (x % L) else Tt.wv f L pre c) = Tt.wv f L (pre ++ [x]) c) := hide (fun c _ => by rw [Tt.wv_snoc]; split <;> simp_all)
    have hwat := waysC_at (Tt.wv f L pre) (x % L) (by omega)
    have w0 := obj_at i1 (x % L) _ hwat
    have wf := obj_fz i1 (x % L)
    generalize hxl : x % L = c' at *
    generalize (s + kp * c') % L = sv at *
    generalize ((p + 1 : Nat) : Int) = pp at *
    generalize f c' = fc at *
    have e0 := obj_at i2 0 _ rfl
    have b0 := obj_at bX 0 _ rfl
    have b1 := obj_at bX 1 _ rfl
    have b2 := obj_at bX 2 _ rfl
    have hc6 : (c' : Int) < 6 := by omega
    have HWS := hide hwn
    have HWA := hide hwat
    clear hwn hxl hwat
    gi_wp2_with (refine ⟨trivial, ?_⟩; gi_at_call 83; refine (calls_round (HI.out _ hmW i4)).mono ?_; rintro e W2 ⟨rfl, hg2, hk3⟩; have hz2 := hg2.size; have i12 : BlkAt W2 Wb (waysC (Tt.wv f L pre)) 142 := (hg2.block Wb hWl (fun e => by have := Option.some.inj e; omega)).trans i1; have w02 := obj_at i12 c' _ HWA.out; have wf2 := obj_fz i12 c')
    refine ⟨(keeps_far hg2 (by omega)).trans ((KeepsOthers.setCell _ _ _).from _), (Kq.grown hg2 (by omega) (by omega) (by omega) (by omega) (by omega)).trans (Kq.setCell _ (by show w.heap.size ≤ Wb; omega) (by show Wb + 1 ≠ Wb; omega) (by show Wb + 1 + 1 ≠ Wb; omega) _), ?_, ?_, ?_, KMap.setCell hk3 _ (by show M ≠ Wb; omega) _, grown_set (grown_trans i5 hg2) _ (by show w.heap.size ≤ Wb; omega) _, by rw [size_setCell]; omega⟩
    · have h := set_obj i12 c' (.int .i64 (fc : Nat))
      rw [HWS.out, waysC_congr HWN.out] at h
      exact h
    · exact (Below.heap_setCell _ _ _ _ (by show w.heap.size ≠ Wb; omega)).trans ((hg2.block _ h2l (fun e => by have := Option.some.inj e; omega)).trans i2)
    · exact (Below.heap_setCell _ _ _ _ (by show w.heap.size + 1 ≠ Wb; omega)).trans ((hg2.block _ h3l (fun e => by have := Option.some.inj e; omega)).trans i3)
   case done =>
    rintro D xs W' hD rfl ⟨i1, i2, i3, i4, i5, i6⟩ hK
    have hz := i5.size
    have hmW := hm.grown hne i5
    have hCs := HC2.out
    have hle := fun c => Tt.wv_le f L (letters L T[p] la) c 1679616 (hfs c)
    generalize Tt.wv f L (letters L T[p] la) = g at *
    have h0 := hle 0
    have h1 := hle 1
    have h2 := hle 2
    have h3 := hle 3
    have h4 := hle 4
    have h5 := hle 5
    have hsum : ((List.range 6).map fun c => g c).sum = g 0 + (g 1 + (g 2 + (g 3 + (g 4 + g 5)))) := by simp [List.range, List.range.loop]
    rw [hsum] at hCs
    have HCS := hide hCs
    clear hCs
    have HAT : Hid (∀ c, c < 6 → (waysC g)[c]? = some (.int .i64 (g c : Nat))) := hide (waysC_at g)
    have HLE := hide hle
    clear hsum hle
    replace i1 : BlkAt W' Wb #[.int .i64 (g 0 : Nat), .int .i64 (g 1 : Nat), .int .i64 (g 2 : Nat), .int .i64 (g 3 : Nat), .int .i64 (g 4 : Nat), .int .i64 (g 5 : Nat)] 142 := i1
    have hWl := obj_lt i1
    have h2l := obj_lt i2
    have h3l := obj_lt i3
    have w0 := obj_at i1 0 _ rfl
    have w1 := obj_at i1 1 _ rfl
    have w2' := obj_at i1 2 _ rfl
    have w3 := obj_at i1 3 _ rfl
    have w4 := obj_at i1 4 _ rfl
    have w5 := obj_at i1 5 _ rfl
    have e0 := obj_at i2 0 _ rfl
    have b0 := obj_at i3 0 _ rfl
    have b1 := obj_at i3 1 _ rfl
    have b2 := obj_at i3 2 _ rfl
    have m5 := obj_at hmW.1 5 _ rfl
    cases heq : (((g 0 : Nat) : Int) == 0 && (((g 1 : Nat) : Int) == 0 && (((g 2 : Nat) : Int) == 0 && (((g 3 : Nat) : Int) == 0 && (((g 4 : Nat) : Int) == 0 && ((g 5 : Nat) : Int) == 0))))) with
    | true =>
      have hC0 : (C : Int) = 0 := by
       have hc := HCS.out
       simp only [Bool.and_eq_true, beq_iff_eq] at heq
       omega
      have HP := HPUT.out
      rw [hC0] at HP
      go_wp2
      obtain ⟨w9, hr9, hk9, hg9⟩ := HP W'.drew (i4.below (below_drew (Below.refl _ _)))
      clear HP
      go_region
      go_wp2
      have hK2 : w9.heap[D]? = some (.deferred (some [])) := (hg9.block D (obj_lt hK) (fun e => by have := Option.some.inj e; omega)).trans hK
      refine ⟨by simp, .inl ⟨_, _, rfl, run_takeDeferred hK2, ?_⟩⟩
      exact ⟨.int .i64 (0), by simp [results, Try.results83, go_sem], from_fin (by omega) (by omega) (by rw [hC0]) hk9 (grown_trans i5 (grown_trans (grown_none (below_grown (below_drew (Below.refl _ _)))) hg9))⟩
    | false =>
      have hps := fun k => psum_step g k
      have hpl := fun (k : Nat) (hk : k ≤ 6) => psum_le g 1679616 (fun c _ => HLE.out c) k
      have HCP : Hid (C = psum g 6) := hide (by rw [HCS.out]; simp [psum, List.range, List.range.loop])
      have HPS := hide hps
      have HPL := hide hpl
      clear hps hpl
      go_wp2
      go_loopw [10, 12, 54] (fun sa _ i wx => wx = W' ∧ ∃ k : Nat, k ≤ 6 ∧ i = .int .i64 (k : Nat) ∧ sa = .int .i64 (psum g k : Nat)) (fun _ _ i _ => 6 - (intOf i).toNat)
      case atStart => exact ⟨rfl, 0, by omega, rfl, rfl⟩
      case round =>
       obtain ⟨hwx, k, hk6, rfl, rfl⟩ := hrel
       obtain ⟨wy, hwy⟩ : ∃ v, v = wr := ⟨_, rfl⟩
       rw [hwx]
       clear hwx hwy
       by_cases hlt : k < 6
       · have hki : (k : Int) < 6 := by omega
         have hidx := waysC_idx g k hlt
         have hb1 := HPL.out k hk6
         have hb2 := HLE.out k
         have HS := hide (HPS.out k)
         generalize psum g k = pk at *
         generalize g k = gk at *
         go_wp2
         refine ⟨⟨trivial, k + 1, by omega, by go_num, ?_⟩, by simp [intOf]; omega⟩
         rw [HS.out]
         push_cast
         rfl
       · have hki : ¬ ((k : Int) < 6) := by omega
         obtain rfl : k = 6 := by omega
         have hC0 : (psum g 6 : Nat) = C := HCP.out.symm
         rw [hC0]
         have HP := HPUT.out
         go_wp2
         obtain ⟨w9, hr9, hk9, hg9⟩ := HP W'.drew (i4.below (below_drew (Below.refl _ _)))
         clear HP
         go_region
         go_wp2
         have hK2 : w9.heap[D]? = some (.deferred (some [])) := (hg9.block D (obj_lt hK) (fun e => by have := Option.some.inj e; omega)).trans hK
         refine ⟨by simp, .inl ⟨_, _, rfl, run_takeDeferred hK2, ?_⟩⟩
         exact ⟨.int .i64 ((C : Nat)), by simp [results, Try.results83, go_sem], from_fin (by omega) (by omega) rfl hk9 (grown_trans i5 (grown_trans (grown_none (below_grown (below_drew (Below.refl _ _)))) hg9))⟩
   case stop => rintro D cd pre W' hD _ h; exact h.elim
end Go.Proofs.Ytgjfejpibielaaa
namespace Go.Proofs.Ytgjfejpibielaaa
theorem from_any (B M : Nat) (L rest : Nat) (A : Option Addr) (K : List Nat) (c : Nat) (S : Option Addr) (T : List Nat) (d : Nat) (must : Value → Prop) (p : Nat) (la : Int) (s : Nat) (w : World) (hm : MachAt w B M L rest A K c S T d) (hok : OkM L rest K T) (hne : NeM B M A S) (hk : (KMap 91 M (goodF L rest K T) must) w) (hp : p ≤ K.length) (hla : -1 ≤ la ∧ la ≤ 5) (hs : s < L) :
 Calls Try.prog 83 #[.pointer (some ⟨B, 0, none⟩), stV p la s] w (GivesM w M (KMap 91 M (goodF L rest K T) must) (.int .i64 (Tt.cnt L rest ((K.zip T).drop p) la s : Nat))) := by
 obtain ⟨d, hd⟩ : ∃ d, p + d = K.length := ⟨K.length - p, by omega⟩
 induction d generalizing p la s w with
 | zero =>
   obtain rfl : p = K.length := by omega
   have hz : Tt.cnt L rest ((K.zip T).drop K.length) la s = if s = rest then 1 else 0 := by
    rw [List.drop_eq_nil_of_le (by rw [List.length_zip]; omega)]
    rfl
   rw [hz]
   refine (from_end B M L rest A K c S T d la s w hm hok).mono ?_
   rintro e w' ⟨rfl, g, rfl⟩
   have hb : RowKit.Below w.heap.size w (w.grow g) := below_gr (RowKit.Below.refl _ _) (Nat.le_refl _) _
   exact ⟨rfl, grown_none (below_grown hb), hk.below hb⟩
 | succ n ih =>
   refine (from_step B M L rest A K c S T d must p la s w hm hok hne hk (by omega) hla hs
    (fun x s' w' hx hs' hm' hk' => ih (p + 1) (x : Nat) s' w' hm' hk' (by omega) (by have := hok.1; have := hok.2; omega) hs' (by omega))).mono fun e w' h => ⟨h.1, h.2.1, h.2.2.weaken fun x hx => .inl hx⟩
/-- from a state that is not the last: its number is then in the map -/
theorem from_known (B M : Nat) (L rest : Nat) (A : Option Addr) (K : List Nat) (c : Nat) (S : Option Addr) (T : List Nat) (d : Nat) (must : Value → Prop) (p : Nat) (la : Int) (s : Nat) (w : World) (hm : MachAt w B M L rest A K c S T d) (hok : OkM L rest K T) (hne : NeM B M A S) (hk : (KMap 91 M (goodF L rest K T) must) w) (hp : p < K.length) (hla : -1 ≤ la ∧ la ≤ 5) (hs : s < L) :
 Calls Try.prog 83 #[.pointer (some ⟨B, 0, none⟩), stV p la s] w (GivesM w M (KMap 91 M (goodF L rest K T) (fun x => must x ∨ x = stV p la s)) (.int .i64 (Tt.cnt L rest ((K.zip T).drop p) la s : Nat))) :=
 from_step B M L rest A K c S T d must p la s w hm hok hne hk hp hla hs
  (fun x s' w' hx hs' hm' hk' => from_any B M L rest A K c S T d must (p + 1) (x : Nat) s' w' hm' hok hne hk' (by omega) (by have := hok.1; have := hok.2; omega) hs')
end Go.Proofs.Ytgjfejpibielaaa
namespace Go.Proofs.Ytgjfejpibielaaa
open Go.RowKit Go.Maps Go.Shelf
attribute [local go_sem] Oper.semAt_some
theorem mul64_one (n : Nat) (hn : n ≤ 8) (w : World) : Calls Try.prog 99 #[.int .u64 1, .int .u64 (n : Nat)] w (Gives w (.tuple #[.int .u64 0, .int .u64 (n : Nat)])) := by
 have hc : n = 0 ∨ n = 1 ∨ n = 2 ∨ n = 3 ∨ n = 4 ∨ n = 5 ∨ n = 6 ∨ n = 7 ∨ n = 8 := by omega
 clear hn
 rcases hc with rfl | rfl | rfl | rfl | rfl | rfl | rfl | rfl | rfl
 all_goals
  go_enter Try.func99, Try.ntmps99
  go_wp2
  go_ret2
  exact ⟨rfl, grew_refl w⟩
theorem mul_one (n : Nat) (hn : n ≤ 8) (w : World) : Calls Try.prog 96 #[.int .u64 1, .int .u64 (n : Nat)] w (Gives w (.tuple #[.int .u64 0, .int .u64 (n : Nat)])) := by
 go_enter Try.func96, Try.ntmps96
 go_wp2_with (go_at_call 99; refine (mul64_one n hn _).mono ?_; rintro e w2 ⟨rfl, g, rfl⟩)
 go_ret2
 exact ⟨rfl, g, rfl⟩
end Go.Proofs.Ytgjfejpibielaaa
