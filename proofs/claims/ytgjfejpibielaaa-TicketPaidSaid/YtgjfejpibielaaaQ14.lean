/- Proved here: how many come before a word, a part of the proofs about the ticket laws. Conditions: those that each theorem names, no others. -/
import Derived.Test.YtgjfejpibielaaaQ13
import Derived.WalkKit
import Derived.WalkSpells
import Derived.WalkLawsBesides
import Derived.Below
import Derived.Deep.QuietTactic
import Derived.BigQuiet
import Derived.Deep.Light
import Derived.Test.YtgjfejpibielaaaQ05
import Derived.StillTailTactics
import Derived.Deep.Quiet
set_option linter.unusedSimpArgs false
set_option linter.unusedVariables false
namespace Go.Proofs.Ytgjfejpibielaaa
open Go.RowKit Go.Maps Go.Shelf
attribute [local go_sem] Oper.semAt_some World.cell?_setCell_far
section
variable {P : Program} {ops : Array Oper} {md : Region.Mode} {C : World → Prop}
/-- the first operations, in whatever order; each is quiet in the class -/
def wpAnyLQ (P : Program) (md : Region.Mode) (ops : Array Oper) (C : World → Prop) (n : Nat) (L : Array Bool → Act → Prop) : Nat → Array Bool → Act → Prop
 | 0, listed, a => L listed a
 | f + 1, listed, a => Region.ready md ops listed ≠ [] ∧ ∀ i ∈ Region.ready md ops listed, i < n ∧ qOp P ops C i (wpAnyLQ P md ops C n L f (listed.setIfInBounds i true)) a
theorem wpAny_of_headQ {n g : Nat} {L : Array Bool → Act → Prop} {Q' : Exit → Act → World → Prop} (hL : ∀ listed a w, C w → L listed a → wpAny P md ops Q' g listed a w) :
 ∀ (f : Nat) (listed : Array Bool) (a : Act) (w : World), C w → wpAnyLQ P md ops C n L f listed a → wpAny P md ops Q' (f + g) listed a w
 | 0, listed, a, w, hw, h => by rw [Nat.zero_add]; exact hL _ _ _ hw h
 | f + 1, listed, a, w, hw, h => by
   rw [show f + 1 + g = (f + g) + 1 by omega]
   exact ⟨fun h0 => absurd h0 h.1, fun i hi => wpOp_of_qOp hw (fun a' w' hw' h' => wpAny_of_headQ hL f _ a' w' hw' h') (h.2 i hi).2⟩
theorem wpAnyLQ_first {n i : Nat} {oi : Oper} {v : Value} {L : Array Bool → Act → Prop} (hi : ops[i]? = some oi) (hsel : ∀ (j : Nat) (o : Oper) cs b, ops[j]? = some o → o.op ≠ .select cs b)
 (hs : Region.sinkB md ops n = true) (hc : Region.chainB md ops n = true) (hn : n < ops.size) (hin : i < n)
 (hdone : ∀ listed a, L listed a → ∀ j ∈ Region.ready md ops listed, n ≤ j) :
 ∀ (f : Nat) (listed : Array Bool) (a : Act), HeadInv md ops n listed →
  (∀ j oj, ops[j]? = some oj → j ≠ i → listed.getD j true = false → (∀ e ∈ oj.after, Region.binds md e = true → e.on ≠ i) → oi.apart ops oj = true) →
  i ∈ Region.ready md ops listed → YieldsIn P ops C oi v a →
  wpAnyLQ P md ops C n L f (listed.setIfInBounds i true) (a.put oi.dst v) → wpAnyLQ P md ops C n L (f + 1) listed a := by
 intro f
 induction f with
 | zero =>
   intro listed a inv _ hr hy H
   have hun := (mem_ready.1 hr).1
   refine ⟨fun h => (by rw [h] at hr; cases hr), fun j hj => ?_⟩
   have hjn : j < n := by
    rcases Nat.lt_or_ge j n with h | h
    · exact h
    · exact absurd hj (tail_waits hs hc hn inv _ i rfl hin hun j h)
   refine ⟨hjn, ?_⟩
   by_cases hji : j = i
   · subst hji; exact hy.qOp hi H
   · have := hdone _ _ H j (ready_mono hj hji)
     omega
 | succ f ih =>
   intro listed a inv hfree hr hy H
   have hun := (mem_ready.1 hr).1
   refine ⟨fun h => (by rw [h] at hr; cases hr), fun j hj => ?_⟩
   have hjn : j < n := by
    rcases Nat.lt_or_ge j n with h | h
    · exact h
    · exact absurd hj (tail_waits hs hc hn inv _ i rfl hin hun j h)
   refine ⟨hjn, ?_⟩
   by_cases hji : j = i
   · subst hji; exact hy.qOp hi H
   · have h1 := (H.2 j (ready_mono hj hji)).2
     obtain ⟨hjun, oj, hoj, hall⟩ := mem_ready.1 hj
     have hnot : ∀ e ∈ oj.after, Region.binds md e = true → e.on ≠ i := fun e he hb heq => by
      have h1 := hall e he hb
      rw [heq, getD_both hun] at h1
      cases h1
     have h2 := qOp_put hoj (hfree j oj hoj hji hjun hnot) (fun cs b => hsel i oi cs b hi) (fun cs b => hsel j oj cs b hoj) hy h1
     have hfree' : ∀ k ok, ops[k]? = some ok → k ≠ i → (listed.setIfInBounds j true).getD k true = false →
      (∀ e ∈ ok.after, Region.binds md e = true → e.on ≠ i) → oi.apart ops ok = true := fun k ok hk hki hun hno => by
      refine hfree k ok hk hki ?_ hno
      by_cases hjk : j = k
      · subst hjk; exact hjun
      · rw [getD_set_ne true hjk] at hun; exact hun
     refine qOp_mono (fun a' h3 => ih (listed.setIfInBounds j true) a' (inv.set hj hjn) hfree' (ready_mono hr (Ne.symm hji)) h3.1 ?_) h2
     rw [Array.setIfInBounds_comm _ _ hji]
     exact h3.2
theorem wpAnyLQ_lex {n g : Nat} {Lq : Act → Prop} (hsel : Region.noSelect ops = true) (hs : Region.sinkB md ops n = true) (hc : Region.chainB md ops n = true) (hn : n < ops.size) :
 ∀ (l : List Oper) (k : Nat) (listed : Array Bool) (a : Act), (∀ j, j < l.length → l[j]? = ops[k + j]?) → k + l.length = n → HeadInv md ops n listed →
 Region.lexHead md ops g l.length k listed = true → wpQuiet P ops C Lq l a →
 wpAnyLQ P md ops C n (fun listed' a' => Region.seqB md ops g n listed' = true ∧ Lq a') l.length listed a
 | [], k, listed, a, _, hk, _, hB, h => by
   have : k = n := by simpa using hk
   subst this
   exact ⟨by simpa [Region.lexHead] using hB, h⟩
 | o :: l, k, listed, a, hl, hk, inv, hB, h => by
   have h0 : ops[k]? = some o := by simpa using (hl 0 (by simp)).symm
   simp only [List.length_cons, Region.lexHead, Bool.and_eq_true] at hB
   obtain ⟨⟨hr, hf⟩, hB'⟩ := hB
   have hkn : k < n := by simp only [List.length_cons] at hk; omega
   have hr' : k ∈ Region.ready md ops listed := by simpa using hr
   have hst : qOp P ops C k (wpQuiet P ops C Lq l) a := by unfold qOp; simp only [h0]; exact h
   obtain ⟨v, hy, hK⟩ := yieldsIn_of_qOp h0 hst
   exact wpAnyLQ_first h0 (Region.noSelect_spec hsel) hs hc hn hkn (fun listed' a' hL => seqB_ready hL.1) l.length listed a inv (Region.free_spec h0 hf) hr' hy
    (wpAnyLQ_lex hsel hs hc hn l (k + 1) _ _ (fun j hj => by have := hl (j + 1) (by simp; omega); simpa [Nat.add_assoc, Nat.add_comm 1 j] using this) (by simp only [List.length_cons] at hk; omega) (inv.set hr' hkn) hB' hK)
end
def noDefer (ops : Array Oper) : Bool := ops.all fun o => match o.op with | .defer _ => false | _ => true
def noOut (Q : Exit → Act → World → Prop) : Exit → Act → World → Prop
 | .outgrown, _, _ => False
 | e, a, w => Q e a w
@[go_sem] theorem noOut_normal (Q : Exit → Act → World → Prop) (a : Act) (w : World) : noOut Q .normal a w = Q .normal a w := rfl
theorem noOut_imp {Q : Exit → Act → World → Prop} : ∀ (e : Exit) (a : Act) (w : World), noOut Q e a w → Q e a w := fun e a w h => by cases e <;> first | exact h | exact (h : False).elim
theorem noOut_lets (Q : Exit → Act → World → Prop) : ¬ LetsOut (noOut Q) := fun ⟨_, _, h⟩ => h
section
variable {P : Program} {ops : Array Oper} {Q : Exit → Act → World → Prop} {md : Region.Mode} {l n : Nat}
theorem wpOp_round (hQ : ¬ LetsOut Q) (hnd : noDefer ops = true) {i : Nat} {a : Act} {w : World} {K K' : Act → World → Prop} (hK : ∀ a w, K a w → K' a w) (h : wpOp P ops Q i K a w) : wpOpIn (Fence.wide.inRound l) n P ops Q i K' a w := by
 unfold wpOp at h
 unfold wpOpIn
 cases ho : ops[i]? with
 | none => rw [ho] at h; exact hK _ _ h
 | some o =>
   rw [ho] at h
   dsimp only at h ⊢
   have hd : ∀ c, o.op ≠ .defer c := fun c e => by
    unfold noDefer at hnd
    rw [Array.all_eq_true'] at hnd
    have := hnd o (Array.mem_of_getElem? ho)
    rw [e] at this
    cases this
   by_cases hw : Region.wanted o (yielded ops a.tmps) = true
   · rw [if_pos hw] at h ⊢
     have h := h.resolve_right (fun e => hQ e.2)
     unfold Oper.wp at h
     unfold Oper.wpIn
     refine ⟨fun _ _ => trivial, ?_⟩
     rw [show o.semAt (Fence.wide.inRound l).round a.eval = execOp a.eval o from Oper.semAt_some l _ _ hd]
     generalize (execOp a.eval o).run P w = r at *
     cases r with
     | ok nx w' =>
       cases nx <;> simp only [Oper.upon, Oper.uponIn] at h ⊢ <;>
        first
         | exact hK _ _ h
         | exact h.elim
         | exact ⟨fun e => (nomatch e), (calls_round h).mono (fun e w'' he => by cases e <;> first | exact hK _ _ he | exact he)⟩
         | exact ⟨fun e => (nomatch e), fun c cs _ => let ⟨v, w'', r1, s1⟩ := h c cs; ⟨v, w'', hK _ _ r1, stepsIn_wide.2 s1⟩⟩
     | halt x w' => cases x <;> simp only [Oper.upon, Oper.uponIn] at h ⊢ <;> first | exact h | exact h.elim
   · rw [if_neg hw] at h ⊢
     exact ⟨fun _ _ => trivial, hK _ _ h⟩
theorem wpAny_round (hQ : ¬ LetsOut Q) (hnd : noDefer ops = true) : ∀ (fuel : Nat) (listed : Array Bool) (a : Act) (w : World), wpAny P md ops Q fuel listed a w → wpAnyIn (Fence.wide.inRound l) n P md ops Q fuel listed a w
 | 0, _, _, _, h => h
 | fuel + 1, _, _, _, h => ⟨h.1, fun i hi => wpOp_round hQ hnd (fun a' w' h' => wpAny_round hQ hnd fuel _ a' w' h') (h.2 i hi)⟩
theorem region_round {id : Nat} {a : Act} {w : World} (hnd : noDefer ops = true) (hm : P.follows .mixedOrders = true)
 (h : wpAny P .any ops (noOut Q) ops.size (Array.replicate ops.size false) a { w with drawn := w.drawn + 1 }) : (Code.region id ops true).wpIn (Fence.wide.inRound l) n P Q a w :=
 wpIn_mono (wpIn_region_any hm (wpAny_round (noOut_lets Q) hnd _ _ _ _ h)) noOut_imp
/-- one walk serves every order -/
theorem quiet_round {C : World → Prop} {id : Nat} {a : Act} {w : World} {ol : List Oper} (hnd : noDefer ol.toArray = true) (hm : P.follows .mixedOrders = true) (hB : Region.lexB .any ol.toArray = true) (hC : C { w with drawn := w.drawn + 1 })
 (h : wpQuiet P ol.toArray C (fun a' => ∀ w', C w' → Q .normal a' w') ol a) : (Code.region id ol.toArray true).wpIn (Fence.wide.inRound l) n P Q a w := by
 simp only [Region.lexB, Bool.and_eq_true] at hB
 refine region_round hnd hm (wpAny_of_quiet (Q := fun a' => ∀ w', C w' → Q .normal a' w') (Q' := noOut Q) (fun _ w' hw' h => h w' hw') _ _ _ _ hC ?_)
 have := wpAnyQ_lex (C := C) (md := .any) hB.1 ol 0 (Array.replicate ol.toArray.size false) a (by simp) (by simpa using hB.2) h
 simpa using this
theorem grow_round {id : Nat} {a : Act} {w : World} {ol : List Oper} (hnd : noDefer ol.toArray = true) (hm : P.follows .mixedOrders = true) (hB : Region.lexB .any ol.toArray = true)
 (h : wpQuiet P ol.toArray (fun w' => ∃ g, w' = w.grow g) (fun a' => ∀ w', (∃ g, w' = w.grow g) → Q .normal a' w') ol a) : (Code.region id ol.toArray true).wpIn (Fence.wide.inRound l) n P Q a w :=
 quiet_round (C := fun w' => ∃ g, w' = w.grow g) hnd hm hB ⟨⟨#[], w.drawn + 1⟩, by simp [World.grow]⟩ h
/-- quiet operations, and a tail in one order -/
theorem quiet_tail_round {C : World → Prop} {id : Nat} {a : Act} {w : World} {ol : List Oper} (m : Nat) (hnd : noDefer ol.toArray = true) (hm : P.follows .mixedOrders = true) (hB : Region.lexTailB .any ol.toArray m = true) (hC : C { w with drawn := w.drawn + 1 })
 (h : wpQuiet P ol.toArray C (fun a' => ∀ w', C w' → wpList P ol.toArray (noOut Q) (ol.drop m) a' w') (ol.take m) a) : (Code.region id ol.toArray true).wpIn (Fence.wide.inRound l) n P Q a w := by
 simp only [Region.lexTailB, Bool.and_eq_true, decide_eq_true_eq] at hB
 obtain ⟨⟨⟨⟨hsel, hn⟩, hs⟩, hc⟩, hlex⟩ := hB
 have hn' : m < ol.length := by simpa using hn
 have htl : (ol.take m).length = m := by simp; omega
 have hdl : (ol.drop m).length = ol.toArray.size - m := by simp
 have inv0 : HeadInv .any ol.toArray m (Array.replicate ol.toArray.size false) :=
  ⟨by simp, fun j oj _ hl => (by rw [getD_replicate_false] at hl; cases hl), fun t _ ht => getD_in (by simpa using ht) (getD_replicate_false _ _)⟩
 have H := wpAnyLQ_lex (md := .any) (C := C) (g := ol.toArray.size - m) hsel hs hc hn (ol.take m) 0 _ a (fun j hj => by
  have hj' : j < m := by rw [htl] at hj; exact hj
  simp [hj']) (by simpa using htl) inv0 (by rw [htl]; exact hlex) h
 refine region_round hnd hm ?_
 have := wpAny_of_headQ (C := C) (Q' := noOut Q) (g := ol.toArray.size - m) (fun listed a' w' hw hL => by
  have := wpAny_of_seq (md := .any) (Q' := noOut Q) (ol.drop m) m listed a' w' (fun j => by simp [List.getElem?_drop]) (by rw [hdl]; exact hL.1) (hL.2 w' hw)
  rwa [hdl] at this) _ _ _ _ hC H
 rw [htl, show m + (ol.toArray.size - m) = ol.toArray.size by omega] at this
 exact this
def nrm (Q : Exit → Act → World → Prop) : Exit → Act → World → Prop
 | .normal, a, w => Q .normal a w
 | _, _, _ => False
@[go_sem] theorem nrm_normal (Q : Exit → Act → World → Prop) (a : Act) (w : World) : nrm Q .normal a w = Q .normal a w := rfl
end
theorem conv_bytes (w : World) (s : ByteArray) : ∃ C w1, (convert 9 62 (.string s)).run Try.prog w = .ok (.slice (some ⟨w.heap.size, 0, none⟩) s.size C) w1 ∧ Below w.heap.size w w1 ∧ w.heap.size < w1.heap.size ∧ ∀ j, (h : j < s.size) → w1.cell? ⟨w.heap.size, j, none⟩ = some (.int .u8 s[j].toNat) := by
 refine ⟨_, _, run_bytes_of_string (P := Try.prog) w 9 62 5 s (by kernel_rfl) (by kernel_rfl) (by kernel_rfl), ?_, by simp, fun j h => ?_⟩
 · (repeat (first | exact Below.refl _ _ | assumption | (refine below_gr ?_ (by (first | omega | (simp only [zz] at *; omega))) _) | (refine below_alloc ?_ (by (first | omega | (simp only [zz] at *; omega))) _) | (refine Below.setCell ?_ (by (first | omega | (simp only [zz] at *; omega))) _) | refine below_drewN ?_ _ | refine below_drew ?_ | (refine below_step ?_ (by assumption) (by (first | omega | (simp only [zz] at *; omega))))))
 · refine (World.cell?_alloc_mark w.drew _ _ _ j).trans ?_
   unfold bytesRow
   rw [Array.getElem?_append_left (by simpa using h), Array.getElem?_map, Array.getElem?_eq_getElem h]
   rfl
theorem nonempty_gk {w : World} {M : Nat} {K : World → Prop} (hM : M < w.heap.size) (h : K w) : Nonempty (Gk w M K) :=
 let ⟨g, _⟩ := gk_mk (K := K) (w := w) (w' := w) ⟨rfl, rfl, rfl, Nat.le_refl _, fun _ _ _ => rfl⟩ hM h
 ⟨g⟩
set_option maxRecDepth 100000 in
set_option maxHeartbeats 400000 in
theorem u8_letter2 : ∀ x, x < 6 → IntKind.u8.wrap (((x : Nat) : Int) + 97 - 97) = ((x : Nat) : Int) := by decide
theorem strW_at {ws : List Nat} (hl : ∀ x, x ∈ ws → x < 100) (j : Nat) (h : j < ws.length) : ((strW ws)[j]'(by rw [strW_size]; exact h)).toNat = ws[j] + 97 := by
 have : (strW ws)[j]'(by rw [strW_size]; exact h) = unb ws[j] := by
  show (strW ws).data[j]'_ = _
  simp [strW]
 rw [this, unb_val (hl _ (List.getElem_mem h))]
/-- what holds at the head of the loop over the letters -/
structure BefInv (L rest : Nat) (A : Option Addr) (K : List Nat) (c : Nat) (S : Option Addr) (T : List Nat) (d : Nat) (B M : Nat) (must : Value → Prop) (w : World) (Bm Bn Ba Bs : Nat) (ws : List Nat) (W : Nat) (k : Nat) (la : Int) (s N : Nat) (Ds : List Nat) (wr : World) : Prop where
 bm : BlkAt wr Bm #[.pointer (some ⟨B, 0, none⟩)] 83
 bn : BlkAt wr Bn #[.int .i64 (N : Nat)] 2
 ba : BlkAt wr Ba #[.int .i64 (k : Nat), .int .i64 la, .int .i64 (s : Nat)] 91
 bs : ∀ j, (h : j < ws.length) → wr.cell? ⟨Bs, j, none⟩ = some (.int .u8 ((ws[j] : Nat) + 97))
 bl : Bs < wr.heap.size
 le : k ≤ K.length
 sl : s < L
 la6 : -1 ≤ la ∧ la ≤ 5
 eq : N + Tt.befA L rest ((K.zip T).drop k) la s (ws.drop k) = W
 gx : GX [M] w wr
 mp : (KMap 91 M (goodF L rest K T) must) wr
 mks : Marks w.heap.size Ds wr
set_option maxRecDepth 100000 in
set_option maxHeartbeats 4000000 in
theorem before_any (B M : Nat) (L rest : Nat) (A : Option Addr) (K : List Nat) (c : Nat) (S : Option Addr) (T : List Nat) (d : Nat) (must : Value → Prop) (ws : List Nat) (w : World) (hm : MachAt w B M L rest A K c S T d) (hok : OkM L rest K T) (hne : NeM B M A S) (hk : (KMap 91 M (goodF L rest K T) must) w) (hwl : ws.length = K.length) (hwL : ∀ x, x ∈ ws → x < L) :
 Calls Try.prog 64 #[.pointer (some ⟨B, 0, none⟩), .string (strW ws)] w (GivesM w M (KMap 91 M (goodF L rest K T) must) (.int .i64 (Tt.befA L rest (K.zip T) (-1) 0 ws : Nat))) := by
 obtain ⟨hL2, hL6, hn2, hn8, htl, hkL, htL, hrL⟩ := id hok
 have hMl := hk.lt
 have hBl := obj_lt hm.1
 have HTL := hide htl
 have hW6 : Tt.befA L rest (K.zip T) (-1) 0 ws ≤ 1679616 := Nat.le_trans (Tt.bef_le L rest _ _ _ ws (by rw [List.length_zip]; omega) hwL) (Tt.cnt_small hL6 (by rw [List.length_zip]; omega))
 have HWL := hide hwl
 have HLT := hide hwL
 obtain ⟨W, hW⟩ : ∃ W, Tt.befA L rest (K.zip T) (-1) 0 ws = W := ⟨_, rfl⟩
 have HW := hide hW
 rw [hW] at hW6 ⊢
 clear hW htl hwl hwL
 have hsz : (strW ws).size = K.length := by rw [strW_size, HWL.out]
 refine (callsIn_wide (n := 8)).1 ?_
 have h18 : 1 ≤ 8 := by omega
 refine callsIn_of_wp_marks Try.func64 rfl trivial ?_ rfl
 simp only [Try.ntmps64, List.size_toArray, List.length_cons, List.length_nil, Nat.reduceAdd, Nat.reduceSub, Array.replicate_succ, Array.replicate_zero, List.push_toArray, List.append_toArray, List.nil_append, List.cons_append]
 refine wpIn_wide.2 ?_
 have HSZ := hide hsz
 clear hsz
 go_upto_region 1 with fail
 have hWq : Below w.heap.size w (w.alloc (.cells #[.pointer (some ⟨B, 0, none⟩)] 83)) := by (repeat (first | exact Below.refl _ _ | assumption | (refine below_gr ?_ (by (first | omega | (simp only [zz] at *; omega))) _) | (refine below_alloc ?_ (by (first | omega | (simp only [zz] at *; omega))) _) | (refine Below.setCell ?_ (by (first | omega | (simp only [zz] at *; omega))) _) | refine below_drewN ?_ _ | refine below_drew ?_ | (refine below_step ?_ (by assumption) (by (first | omega | (simp only [zz] at *; omega))))))
 have hbm : BlkAt (w.alloc (.cells #[.pointer (some ⟨B, 0, none⟩)] 83)) w.heap.size #[.pointer (some ⟨B, 0, none⟩)] 83 := heap_alloc_new _ _
 obtain ⟨wq, hwq⟩ : ∃ v, (w.alloc (.cells #[.pointer (some ⟨B, 0, none⟩)] 83)) = v := ⟨_, rfl⟩
 rw [hwq] at hWq hbm ⊢
 clear hwq
 obtain ⟨Bm, hBm⟩ : ∃ v, w.heap.size = v := ⟨_, rfl⟩
 have hq1 : w.heap.size ≤ Bm := by omega
 rw [hBm] at hbm ⊢
 clear hBm
 go_upto_region 2 with (go_at_call 62; refine (start_raw _).mono ?_; rintro e w1 ⟨rfl, hb1⟩; replace hb1 := ex_below hb1; have hz1 := hb1.size)
 have hbA : Below w1.heap.size w1 ((w1.alloc (.cells #[.int .i64 0] 2)).alloc (.cells #[.int .i64 0, .int .i64 (-1), .int .i64 0] 91)) := by (repeat (first | exact Below.refl _ _ | assumption | (refine below_gr ?_ (by (first | omega | (simp only [zz] at *; omega))) _) | (refine below_alloc ?_ (by (first | omega | (simp only [zz] at *; omega))) _) | (refine Below.setCell ?_ (by (first | omega | (simp only [zz] at *; omega))) _) | refine below_drewN ?_ _ | refine below_drew ?_ | (refine below_step ?_ (by assumption) (by (first | omega | (simp only [zz] at *; omega))))))
 have hqs := obj_lt hbm
 have hbn : BlkAt ((w1.alloc (.cells #[.int .i64 0] 2)).alloc (.cells #[.int .i64 0, .int .i64 (-1), .int .i64 0] 91)) w1.heap.size #[.int .i64 0] 2 := heap_a _ _ _
 have hba : BlkAt ((w1.alloc (.cells #[.int .i64 0] 2)).alloc (.cells #[.int .i64 0, .int .i64 (-1), .int .i64 0] 91)) (w1.heap.size + 1) #[.int .i64 0, .int .i64 (-1), .int .i64 0] 91 := heap_b _ _ _
 replace hbm := (hbm.ext hb1).ext hbA
 have hbWx : Below w.heap.size w ((w1.alloc (.cells #[.int .i64 0] 2)).alloc (.cells #[.int .i64 0, .int .i64 (-1), .int .i64 0] 91)) := below_step (below_step hWq hb1 hWq.size) hbA (by have := hWq.size; omega)
 obtain ⟨Bn, hBn⟩ : ∃ v, w1.heap.size = v := ⟨_, rfl⟩
 obtain ⟨Ba, hBa⟩ : ∃ v, w1.heap.size + 1 = v := ⟨_, rfl⟩
 have hq2 : Bm < Bn := by omega
 have hq3 : Bn < Ba := by omega
 obtain ⟨Wx, hWx⟩ : ∃ v, ((w1.alloc (.cells #[.int .i64 0] 2)).alloc (.cells #[.int .i64 0, .int .i64 (-1), .int .i64 0] 91)) = v := ⟨_, rfl⟩
 rw [hWx] at hbn hba hbm hbWx ⊢
 rw [hBa] at hba ⊢
 rw [hBn] at hbn ⊢
 clear hWx hBa hBn hbA hb1 hWq
 obtain ⟨C, w2, hcv, hb2, hz2, hcell⟩ := conv_bytes Wx (strW ws)
 have hbyt : ∀ j, (h : j < ws.length) → w2.cell? ⟨Wx.heap.size, j, none⟩ = some (.int .u8 ((ws[j] : Nat) + 97)) := fun j h => by
  rw [hcell j (by rw [strW_size]; exact h), strW_at (fun x hx => by have := HLT.out x hx; omega) j h]
  congr 2
 have hnl := obj_lt hbn
 have hal := obj_lt hba
 replace hbm := hbm.ext hb2
 replace hbn := hbn.ext hb2
 replace hba := hba.ext hb2
 have hbW0 : Below w.heap.size w w2 := below_step hbWx hb2 hbWx.size
 have hWxs := hbWx.size
 clear hcell hbWx
 have HBY := hide hbyt
 clear hbyt
 have hg0 : GX [M] w w2 := (GX.refl [M] w).below hbW0 (Nat.le_refl _)
 have hne1 := hne.1
 have HFA : Hid (∀ b o, A = some ⟨b, o, none⟩ → b ∉ [M]) := hide (fun b o e => by have := hne.2.1 b o e; simpa using this)
 have HFS : Hid (∀ b o, S = some ⟨b, o, none⟩ → b ∉ [M]) := hide (fun b o e => by have := hne.2.2 b o e; simpa using this)
 have hk0 := hk.below hbW0
 go_wp2
 obtain ⟨Bs, hBs⟩ : ∃ v, Wx.heap.size = v := ⟨_, rfl⟩
 rw [hBs] at HBY hz2 hWxs hnl hal ⊢
 clear hBs hcv hb2
 refine wp_loop (fun a wr => ∃ (k : Nat) (la : Int) (s N : Nat) (Ds : List Nat) (u9 : Value) (u10 : Value) (u11 : Value) (u12 : Value) (u18 : Value) (u19 : Value) (u20 : Value) (u21 : Value) (u22 : Value) (u23 : Value) (u24 : Value) (u25 : Value) (u26 : Value) (u27 : Value) (u28 : Value) (u29 : Value) (u30 : Value) (u31 : Value) (u32 : Value) (u33 : Value) (u34 : Value) (u35 : Value) (u36 : Value) (u37 : Value) (u38 : Value) (u39 : Value) (u40 : Value) (u41 : Value) (u42 : Value) (u43 : Value) (u44 : Value) (u45 : Value) (u46 : Value), BefInv L rest A K c S T d B M must w Bm Bn Ba Bs ws W k la s N Ds wr ∧ a = { tmps := #[.pointer (some ⟨B, 0, none⟩), .string (strW ws), .pointer (some ⟨Bm, 0, none⟩), undef, .int .i64 0, .pointer (some ⟨Bn, 0, none⟩), .pointer (some ⟨Ba, 0, none⟩), .bool true, undef, u9, u10, u11, u12, .agg #[.int .i64 0, .int .i64 (-1), .int .i64 0], .string (strW ws), .slice (some ⟨Bs, 0, none⟩) (strW ws).size C, .int .i64 ((strW ws).size : Nat), .int .i64 (k : Nat), u18, u19, u20, u21, u22, u23, u24, u25, u26, u27, u28, u29, u30, u31, u32, u33, u34, u35, u36, u37, u38, u39, u40, u41, u42, u43, u44, u45, u46, undef], defers := Ds.map mkD }) (fun a _ => K.length - (intOf (a.tmps.getD 17 undef)).toNat) ?start ?round
 case start =>
  refine ⟨0, -1, 0, 0, [], ?_⟩
  (repeat apply Exists.intro)
  exact ⟨{ bm := hbm, bn := hbn, ba := hba, bs := HBY.out, bl := hz2, le := by omega, sl := by omega, la6 := by omega, eq := by simpa using HW.out, gx := hg0, mp := hk0, mks := Marks.nil _ _ }, rfl⟩
 case round =>
  clear hbn hba hbm hg0 hbW0 hk0 HBY hz2
  intro a wr hh
  obtain ⟨k, la, s, N, Ds, u9, u10, u11, u12, u18, u19, u20, u21, u22, u23, u24, u25, u26, u27, u28, u29, u30, u31, u32, u33, u34, u35, u36, u37, u38, u39, u40, u41, u42, u43, u44, u45, u46, hI, rfl⟩ := hh
  have hgx := hI.gx
  have hmr := hm.gx hgx (by simpa using hne1) HFA.out HFS.out
  have hmb := hmr.1
  have hbm := hI.bm
  have hbn := hI.bn
  have hba := hI.ba
  have bm0 := obj_at hbm 0 _ rfl
  have ba0 := obj_at hba 0 _ rfl
  have ba1 := obj_at hba 1 _ rfl
  have ba2 := obj_at hba 2 _ rfl
  have bn0 := obj_at hbn 0 _ rfl
  have hBW := obj_lt hmb
  have hBmW := obj_lt hbm
  have hBaW := obj_lt hba
  have hBnW := obj_lt hbn
  have hBsW := hI.bl
  have hkK := hI.le
  have hla := hI.la6
  have hs := hI.sl
  have hszI : (((strW ws).size : Nat) : Int) = (K.length : Int) := by rw [HSZ.out]
  by_cases hlt : k < K.length
  · have hki : (k : Int) < (((strW ws).size : Nat) : Int) := by rw [HSZ.out]; omega
    have hkn : k < (strW ws).size := by rw [HSZ.out]; omega
    clear hszI
    have htp : k < T.length := by rw [HTL.out]; exact hlt
    have hkw : k < ws.length := by rw [HWL.out]; exact hlt
    have hby := hI.bs k hkw
    have hbL := HLT.out _ (List.getElem_mem hkw)
    have hdw : ws.drop k = ws[k] :: ws.drop (k + 1) := List.drop_eq_getElem_cons hkw
    have hzd := Tt.zip_drop hlt htp
    have hbs := Tt.bef_step L rest (K[k], T[k]) ((K.zip T).drop (k + 1)) la s ws[k] (ws.drop (k + 1))
    rw [← hzd, ← hdw] at hbs
    have HIQ := hI.eq
    rw [hbs] at HIQ
    have HQ := hide HIQ
    clear hbs hdw HIQ
    have hNX := hide (fun (w' : World) (h : MachAt w' B M L rest A K c S T d) => next_any B M L rest A K c S T d k la s ws[k] w' h hok hlt hla hs hbL htp)
    obtain ⟨f, hf⟩ : ∃ f : Nat → Nat, f = fun c => Tt.cnt L rest ((K.zip T).drop (k + 1)) (c : Nat) ((s + K[k] * c) % L) := ⟨_, rfl⟩
    have hQ2 : N + (((letters L T[k] la).map fun c => if c < ws[k] then f c else 0).sum + if decide ((ws[k] : Int) ≠ la) && T[k].testBit ws[k] then Tt.befA L rest ((K.zip T).drop (k + 1)) (ws[k] : Int) ((s + K[k] * ws[k]) % L) (ws.drop (k + 1)) else 0) = W := by
     rw [hf]; exact HQ.out
    have HQ2 := hide hQ2
    have hN6 : N ≤ 1679616 := by omega
    have hfs : ∀ c, f c ≤ 1679616 := fun c => by rw [hf]; exact Tt.cnt_small hL6 (by rw [List.length_drop, List.length_zip]; omega)
    have HIH : Hid (∀ (x : Nat) (w' : World), MachAt w' B M L rest A K c S T d → (KMap 91 M (goodF L rest K T) must) w' → Calls Try.prog 83 #[.pointer (some ⟨B, 0, none⟩), .agg #[.int .i64 ((k + 1 : Nat) : Int), .int .i64 ((x % L : Nat) : Int), .int .i64 (((s + K[k] * (x % L)) % L : Nat) : Int)]] w' (GivesM w' M (KMap 91 M (goodF L rest K T) must) (.int .i64 (f (x % L) : Nat)))) := hide (fun x w' h1 h2 => by
     have hL0 : 0 < L := by omega
     have hxl := Nat.mod_lt x hL0
     rw [hf]
     exact from_any B M L rest A K c S T d must (k + 1) ((x % L : Nat) : Int) ((s + K[k] * (x % L)) % L) w' h1 hok hne h2 (by omega) (by omega) (Nat.mod_lt _ hL0))
    have HMOD := hide (letters_mod (fun c => if c < ws[k] then f c else 0) L T[k] la)
    have HENC : Hid (∀ x, encS L K[k] k s x = #[.int .i64 ((x % L : Nat) : Int), .agg #[.int .i64 ((k + 1 : Nat) : Int), .int .i64 ((x % L : Nat) : Int), .int .i64 (((s + K[k] * (x % L)) % L : Nat) : Int)]]) := hide (fun x => rfl)
    have HST0 := fun (W0 : World) (Wb : Nat) (hBmm : BlkAt W0 Wb #[.pointer (some ⟨B, 0, none⟩)] 83) (hBss : BlkAt W0 (Wb + 1) (stC k la s) 91) (h1 : w.heap.size ≤ W0.heap.size) (h2 : GX [M] w W0) => steps_stops 7 (by omega) Wb (Wb + 1) B M L rest A K c S T d k la s w hm hok hne hlt hla hs htp W0 hBmm hBss h1 (fun b hb hn => h2.block b hb (by simpa using hn))
    have HST1 := hide HST0
    clear HQ hQ2 HST0 hf hzd
    have hsl : ((s + K[k] * ws[k]) % L) < L := Nat.mod_lt _ (by omega)
    unfold stV stC at hNX
    rw [show ((k + 1 : Nat) : Int) = (k : Int) + 1 from rfl] at hNX
    generalize hb0 : ws[k] = b at *
    have HB0 := hide hb0
    clear hb0
    generalize K[k] = kp at *
    generalize T[k] = tp at *
    have hbw : IntKind.u8.wrap ((b : Int) + 97 - 97) = (b : Int) := u8_letter2 b (by omega)
    have hcw : IntKind.i64.wrap (b : Int) = (b : Int) := by rw [IntKind.wrap_i64]; omega
    go_wp2_with (go_at_call 82; refine (steps_in _ (some ⟨B, 0, none⟩) k la s).mono ?_; rintro e w8 ⟨rfl, rfl⟩)
    have hb0 : Below wr.heap.size wr (((wr.alloc (.cells #[.int .i64 (b : Nat)] 3)).alloc (.cells #[.pointer (some ⟨B, 0, none⟩)] 83)).alloc (.cells (stC k la s) 91)) := by (repeat (first | exact Below.refl _ _ | assumption | (refine below_gr ?_ (by (first | omega | (simp only [zz] at *; omega))) _) | (refine below_alloc ?_ (by (first | omega | (simp only [zz] at *; omega))) _) | (refine Below.setCell ?_ (by (first | omega | (simp only [zz] at *; omega))) _) | refine below_drewN ?_ _ | refine below_drew ?_ | (refine below_step ?_ (by assumption) (by (first | omega | (simp only [zz] at *; omega))))))
    have hbo : BlkAt (((wr.alloc (.cells #[.int .i64 (b : Nat)] 3)).alloc (.cells #[.pointer (some ⟨B, 0, none⟩)] 83)).alloc (.cells (stC k la s) 91)) wr.heap.size #[.int .i64 (b : Nat)] 3 := (Below.heap_alloc _ _ _ (by simp; omega)).trans (heap_a _ _ _)
    have hBmm : BlkAt (((wr.alloc (.cells #[.int .i64 (b : Nat)] 3)).alloc (.cells #[.pointer (some ⟨B, 0, none⟩)] 83)).alloc (.cells (stC k la s) 91)) (wr.heap.size + 1) #[.pointer (some ⟨B, 0, none⟩)] 83 := (Below.heap_alloc _ _ _ (by simp)).trans (heap_b _ _ _)
    have hBss : BlkAt (((wr.alloc (.cells #[.int .i64 (b : Nat)] 3)).alloc (.cells #[.pointer (some ⟨B, 0, none⟩)] 83)).alloc (.cells (stC k la s) 91)) (wr.heap.size + 1 + 1) (stC k la s) 91 := by
     have h := heap_alloc_new ((wr.alloc (.cells #[.int .i64 (b : Nat)] 3)).alloc (.cells #[.pointer (some ⟨B, 0, none⟩)] 83)) (.cells (stC k la s) 91)
     rwa [World.size_alloc, World.size_alloc] at h
    have hs0 : (((wr.alloc (.cells #[.int .i64 (b : Nat)] 3)).alloc (.cells #[.pointer (some ⟨B, 0, none⟩)] 83)).alloc (.cells (stC k la s) 91)).heap.size = wr.heap.size + 1 + 1 + 1 := by simp
    obtain ⟨W0, hW0⟩ : ∃ v, (((wr.alloc (.cells #[.int .i64 (b : Nat)] 3)).alloc (.cells #[.pointer (some ⟨B, 0, none⟩)] 83)).alloc (.cells (stC k la s) 91)) = v := ⟨_, rfl⟩
    rw [hW0] at hb0 hbo hBmm hBss hs0 ⊢
    clear hW0
    have hgx0 : GX [M] w W0 := hgx.below hb0 hgx.size
    have hk0 := hI.mp.below hb0
    have bm := hbm.ext hb0
    have bn := hbn.ext hb0
    have ba := hba.ext hb0
    have HBS := hide hI.bs
    have mks0 := hI.mks.gx ((GX.refl [] wr).below hb0 (Nat.le_refl _)) (fun s hs => by cases hs)
    have hgsz := hgx.size
    have HC0 := hide hb0
    obtain ⟨Wb, hWb⟩ : ∃ v, wr.heap.size = v := ⟨_, rfl⟩
    rw [hWb] at hbo hBmm hBss hs0 hBW hBmW hBaW hBnW hBsW hgsz ⊢
    have HST := HST1.out W0 (Wb + 1) hBmm hBss (by omega) hgx0
    clear HST1 bm0 ba0 ba1 ba2 bn0 hbm hbn hba hmr hmb hI hgx hb0 hby
    refine (wpIn_wide (n := 8)).1 ?_
    refine wpIn_rangeFunc_ownH rfl h18 (gf := 94) (lb := #[.pointer (some ⟨Wb + 1, 0, none⟩), .pointer (some ⟨Wb + 1 + 1, 0, none⟩)]) rfl trivial (enters_of Try.func94 (by kernel_rfl) rfl)
     HST (fun h k => h.trans k) (kq_put (by omega) (by omega) (by omega)) (Below.refl _ _) (fun _ => rfl)
     (fun pre2 W' => BlkAt W' Bn #[.int .i64 ((N + (pre2.map fun x => if x % L < b then f (x % L) else 0).sum : Nat) : Int)] 2 ∧ GX [M, Bn] W0 W' ∧ (KMap 91 M (goodF L rest K T) must) W')
     (fun _ _ _ => False)
     ?ownI ?ownX ⟨by simpa using bn, GX.refl _ _, hk0⟩
     (fun x a' W' => ∃ Bx, Ba < Bx ∧ Wb ≤ Bx ∧ BlkAt W' Bx #[.int .i64 ((k + 1 : Nat) : Int), .int .i64 ((x % L : Nat) : Int), .int .i64 (((s + kp * (x % L)) % L : Nat) : Int)] 91 ∧ a' = { tmps := #[.pointer (some ⟨B, 0, none⟩), .string (strW ws), .pointer (some ⟨Bm, 0, none⟩), undef, .int .i64 0, .pointer (some ⟨Bn, 0, none⟩), .pointer (some ⟨Ba, 0, none⟩), .bool true, undef, .int .u8 ((b : Int) + 97), .pointer (some ⟨Wb, 0, none⟩), .int .i64 ((x % L : Nat) : Int), .pointer (some ⟨Bx, 0, none⟩), .agg #[.int .i64 0, .int .i64 (-1), .int .i64 0], .string (strW ws), .slice (some ⟨Bs, 0, none⟩) (strW ws).size C, .int .i64 ((strW ws).size : Nat), .int .i64 (k : Nat), .bool true, .pointer (some ⟨Bs, k, none⟩), .int .u8 ((b : Int) + 97), .int .u8 ((b : Int) + 97), .int .u8 (b : Nat), .int .i64 (b : Nat), .pointer (some ⟨B, 0, none⟩), .agg #[.int .i64 (k : Nat), .int .i64 la, .int .i64 (s : Nat)], .func (.func 94) #[] #[.pointer (some ⟨Wb + 1, 0, none⟩), .pointer (some ⟨Wb + 1 + 1, 0, none⟩)], .int .i64 ((x % L : Nat) : Int), .agg #[.int .i64 ((k + 1 : Nat) : Int), .int .i64 ((x % L : Nat) : Int), .int .i64 (((s + kp * (x % L)) % L : Nat) : Int)], u29, u30, u31, u32, u33, u34, u35, u36, u37, u38, u39, u40, u41, u42, u43, u44, u45, u46, undef], defers := [] })
     ?ownA ?assign ?body ?done ?stop
    case ownI =>
     rintro s X Y row ⟨h2, h3, h4⟩ hg hr
     exact ⟨cells_one h2 hg hr, h3.grown hg (fun r e hlt => by have := (hr r e).1; omega), h4.kept hg (fun e => by have := (hr M e.symm).1; omega)⟩
    case ownX => intro cd s X Y row h; exact h.elim
    case ownA =>
     rintro x a' s X Y row ⟨Bx, h1, h2, h3, h4⟩ hg hr
     exact ⟨Bx, h1, h2, cells_one h3 hg hr, h4⟩
    case assign =>
     rintro l pre2 x W' K' ⟨bN, g', kc⟩ hK
     rw [HENC.out]
     have hz := g'.size
     generalize hxl : x % L = cx at *
     generalize (s + kp * cx) % L = sv at *
     generalize ((k + 1 : Nat) : Int) = pp at *
     gi_wp2
     have hba : Below W'.heap.size W' (W'.alloc (.cells #[.int .i64 pp, .int .i64 (cx : Nat), .int .i64 (sv : Nat)] 91)) := below_alloc (Below.refl _ _) (Nat.le_refl _) _
     exact hK _ _ ((KeepsOthers.alloc _ _).from _) (Kq.below hba (by omega) (by omega) (by omega)) ⟨bN.ext hba, g'.below hba hz, kc.below hba⟩ ⟨W'.heap.size, by omega, by omega, World.alloc_heap_new W' _, rfl⟩
    case body =>
     rintro l pre2 x a' W' hll ⟨r, hr⟩ ⟨bN, g', kc⟩ ⟨Bx, hBx, hBx2, bX, rfl⟩ hlen
     have gw := hgx0.back g' (fun y hy hlt => by simp at hy ⊢; omega)
     have hmW := hm.gx gw (by simpa using hne1) HFA.out HFS.out
     have hMW : M < W'.heap.size := kc.lt
     have HI := hide (fun (q : Gk W' M (KMap 91 M (goodF L rest K T) must)) => HIH.out x _ (hmW.grown hne (gro_grown W' M q.1)) q.ok)
     have hz := g'.size
     have bm1 := bm.gx g' (by simp; omega)
     have bo1 := hbo.gx g' (by simp; omega)
     have hfx := hfs (x % L)
     have hNs : (pre2.map fun x => if x % L < b then f (x % L) else 0).sum ≤ pre2.length * 1679616 := Tt.sum_le_len pre2 _ _ (fun e => by have := hfs (e % L); split <;> omega)
     have hNs2 : pre2.length * 1679616 ≤ 6 * 1679616 := Nat.mul_le_mul_right _ (by omega)
     have HSN : Hid (((pre2 ++ [x]).map fun x => if x % L < b then f (x % L) else 0).sum = (pre2.map fun x => if x % L < b then f (x % L) else 0).sum + (if x % L < b then f (x % L) else 0)) := hide (by simp [List.sum_append])
     clear bm ba bn hbo hlen
     obtain ⟨Np, hNp⟩ : ∃ v, N + (pre2.map fun x => if x % L < b then f (x % L) else 0).sum = v := ⟨_, rfl⟩
     have hNp2 : Np ≤ 20000000 := by omega
     rw [hNp] at bN
     have HNP := hide hNp
     clear hNp hNs hNs2
     generalize hxl : x % L = cx at *
     have HXL := hide hxl
     clear hxl
     generalize (s + kp * cx) % L = sv at *
     generalize ((k + 1 : Nat) : Int) = pp at *
     have m0 := obj_at bm1 0 _ rfl
     have x0 := obj_at bX 0 _ rfl
     have x1 := obj_at bX 1 _ rfl
     have x2 := obj_at bX 2 _ rfl
     have o0 := obj_at bo1 0 _ rfl
     have n0 := obj_at bN 0 _ rfl
     have nf := obj_fz bN 0
     have hmw := obj_lt bm1
     have hxw := obj_lt bX
     have how := obj_lt bo1
     have hnw := obj_lt bN
     have hnM : Bn ≠ M := by omega
     have hmM : Bm ≠ M := by omega
     have hxM : Bx ≠ M := by omega
     by_cases hcb : cx < b
     · have hcI : (cx : Int) < (b : Int) := by omega
       obtain ⟨fc, HFC⟩ : ∃ v, Hid (f cx = v) := ⟨_, hide rfl⟩
       rw [HFC.out] at hfx HI
       have hsm : IntKind.i64.wrap ((Np : Int) + (fc : Int)) = ((Np + fc : Nat) : Int) := by rw [IntKind.wrap_i64]; omega
       gi_wp2
       haveI : Nonempty (Gk W' M (KMap 91 M (goodF L rest K T) must)) := nonempty_gk hMW kc
       refine quiet_tail_round (C := fun w' => ∃ g : Gk W' M (KMap 91 M (goodF L rest K T) must), w' = W'.gro M g.1) 5 (by kernel_rfl) (by kernel_rfl) (by kernel_rfl) (gk_mk (K := (KMap 91 M (goodF L rest K T) must)) ⟨rfl, rfl, rfl, Nat.le_refl _, fun _ _ _ => rfl⟩ hMW (kc.below (below_drew (Below.refl _ _)))) ?_
       simp only [List.take_succ_cons, List.take_zero, List.drop_succ_cons, List.drop_zero]
       repeat (go_big_quiet_step ((go_at_call 83; exact GivesM.quiet hMW (HI.out _))))
       refine wpQuiet_nil ?_
       rintro w2 ⟨g, hg⟩
       have hg2 : W'.grownBy w2 (some M) := by rw [hg]; exact gro_grown _ _ _
       have hk2 : (KMap 91 M (goodF L rest K T) must) w2 := by rw [hg]; exact Gk.ok (w := W') (M := M) (K := (KMap 91 M (goodF L rest K T) must)) g
       clear hg g
       have hz2 := hg2.size
       have bN2 : BlkAt w2 Bn #[.int .i64 (Np : Nat)] 2 := (hg2.block _ hnw (fun e => by have := Option.some.inj e; omega)).trans bN
       have p0 := obj_at bN2 0 _ rfl
       have pf := obj_fz bN2 0
       have pl := obj_lt bN2
       go_wp2
       rw [noOut_normal]
       gi_wp2
       have hgE : GX [M, Bn] W' (w2.setCell ⟨Bn, 0, none⟩ (.int .i64 ((Np + fc : Nat) : Int))) := ((GX.refl _ W').grown hg2 (fun r e _ => by rw [← Option.some.inj e]; simp)).setCell _ _ (fun _ => by simp)
       refine ⟨keeps_gx hgE (fun y hy => by simp at hy; omega), Kq.of_gx hgE (by omega) (fun y hy hlt => by simp at hy; omega) (by omega) (by omega) (by simp; omega) (by simp; omega), ?_, g'.trans hgE, hk2.setCell _ (by show M ≠ Bn; omega) _⟩
       have hE : N + ((pre2 ++ [x]).map fun x => if x % L < b then f (x % L) else 0).sum = Np + fc := by rw [HSN.out, if_pos hcb, HFC.out, ← HNP.out]; omega
       have hE' := congrArg (fun v : Nat => ((v : Nat) : Int)) hE
       simp only [Int.natCast_add] at hE'
       first | rw [hE] | rw [hE']
       exact set_obj bN2 0 _
     · have hcI : ¬ ((cx : Int) < (b : Int)) := by omega
       gi_wp2
       refine ⟨KeepsFrom.refl _ _, Kq.refl _ _ _ _ _, ?_, g', kc⟩
       have hE : N + ((pre2 ++ [x]).map fun x => if x % L < b then f (x % L) else 0).sum = Np := by rw [HSN.out, if_neg hcb, Nat.add_zero, HNP.out]
       have hE' := congrArg (fun v : Nat => ((v : Nat) : Int)) hE
       simp only [Int.natCast_add] at hE'
       first | rw [hE] | rw [hE']
       exact bN
    case done =>
     rintro D xs W' hD rfl ⟨bN, g', kc⟩ hK
     rw [HMOD.out] at bN
     have gw := hgx0.back g' (fun y hy hlt => by simp at hy ⊢; omega)
     have hmW := hm.gx gw (by simpa using hne1) HFA.out HFS.out
     have hz := g'.size
     have hMW : M < W'.heap.size := kc.lt
     have hmk : Marks w.heap.size (D :: Ds) W' := (mks0.gx g' (fun y hy => by
      simp at hy
      rcases hy with rfl | rfl
      · exact .inl hMl
      · exact .inr ⟨_, _, bn⟩)).cons (by omega) hK (fun h => by have := mks0.lt h; omega)
     have bm1 := bm.gx g' (by simp; omega)
     have ba1 := ba.gx g' (by simp; omega)
     have bo1 := hbo.gx g' (by simp; omega)
     have hbs1 : ∀ j, (h : j < ws.length) → W'.cell? ⟨Bs, j, none⟩ = some (.int .u8 ((ws[j] : Nat) + 97)) := fun j h =>
      ((World.cell?_of_block (a := ⟨Bs, j, none⟩) (g'.block Bs (by omega) (by simp; omega))).trans (HC0.out.cell (p := ⟨Bs, j, none⟩) (by show Bs < wr.heap.size; omega))).trans (HBS.out j h)
     have HBS1 := hide hbs1
     clear hbs1 bm ba bn hbo HST
     obtain ⟨SM, hSM⟩ : ∃ v, ((letters L tp la).map fun c => if c < b then f c else 0).sum = v := ⟨_, rfl⟩
     have hq := HQ2.out
     rw [hSM] at hq bN
     clear hSM
     have HQ3 := hide hq
     clear hq
     have m0 := obj_at bm1 0 _ rfl
     have a0 := obj_at ba1 0 _ rfl
     have a1 := obj_at ba1 1 _ rfl
     have a2 := obj_at ba1 2 _ rfl
     have o0 := obj_at bo1 0 _ rfl
     have hmw := obj_lt bm1
     have haw := obj_lt ba1
     have how := obj_lt bo1
     generalize hsv : (s + kp * b) % L = sv at *
     cases hyes : (decide ((b : Int) ≠ la) && tp.testBit b) with
     | true =>
       rw [hyes] at hNX
       have HQ4 : Hid (N + SM + Tt.befA L rest ((K.zip T).drop (k + 1)) (b : Int) sv (ws.drop (k + 1)) = W) := hide (by have := HQ3.out; rw [if_pos hyes] at this; rw [← this]; omega)
       clear hyes HQ3 HQ2
       go_wp2_with (go_at_call 63; refine (hNX.out _ hmW).mono ?_; rintro e w4 ⟨rfl, hb4⟩; replace hb4 := ex_below hb4; have hz4 := hb4.size; have ba4 := ba1.ext hb4; have q0 := obj_at ba4 0 _ rfl; have q1 := obj_at ba4 1 _ rfl; have q2 := obj_at ba4 2 _ rfl; have r0 := obj_fz ba4 0; have r1 := obj_fz ba4 1; have r2 := obj_fz ba4 2; have hl4 := obj_lt ba4)
       have hgE : GX [Ba] W' (((w4.setCell ⟨Ba, 0, none⟩ (.int .i64 ((k : Int) + 1))).setCell ⟨Ba, 1, none⟩ (.int .i64 (b : Nat))).setCell ⟨Ba, 2, none⟩ (.int .i64 (sv : Nat))) :=
        ((((GX.refl _ W').below hb4 (Nat.le_refl _)).setCell _ _ (fun _ => by simp)).setCell _ _ (fun _ => by simp)).setCell _ _ (fun _ => by simp)
       have hinv : BefInv L rest A K c S T d B M must w Bm Bn Ba Bs ws W (k + 1) (b : Nat) sv (N + SM) (D :: Ds) (((w4.setCell ⟨Ba, 0, none⟩ (.int .i64 ((k : Int) + 1))).setCell ⟨Ba, 1, none⟩ (.int .i64 (b : Nat))).setCell ⟨Ba, 2, none⟩ (.int .i64 (sv : Nat))) :=
        { bm := bm1.gx hgE (by simp; omega), bn := bN.gx hgE (by simp; omega), ba := set_obj (set_obj (set_obj ba4 0 _) 1 _) 2 _,
          bs := fun j h => (World.cell?_of_block (a := ⟨Bs, j, none⟩) (hgE.block Bs (by omega) (by simp; omega))).trans (HBS1.out j h),
          bl := by have := hgE.size; omega, le := by omega, sl := hsl, la6 := by omega, eq := HQ4.out, gx := gw.back hgE (fun y hy hlt => by simp at hy; omega), mp := kc.gx hgE (by simp; omega),
          mks := hmk.gx hgE (fun y hy => .inr (by rw [List.mem_singleton.1 hy]; exact ⟨_, _, ba1⟩)) }
       refine ⟨⟨k + 1, ((b : Nat) : Int), sv, N + SM, D :: Ds, ?_⟩, ?_⟩
       · (repeat apply Exists.intro)
         exact ⟨hinv, rfl⟩
       · simp [intOf]; omega
     | false =>
       rw [hyes] at hNX
       have HQ4 : Hid (N + SM = W) := hide (by have := HQ3.out; rw [if_neg (by rw [hyes]; simp)] at this; rw [← this]; omega)
       clear hyes HQ3 HQ2
       rw [HQ4.out] at bN
       go_wp2_with (go_at_call 63; refine (hNX.out _ hmW).mono ?_; rintro e w4 ⟨rfl, hb4⟩; replace hb4 := ex_below hb4; have hz4 := hb4.size; have ba4 := ba1.ext hb4; have q0 := obj_at ba4 0 _ rfl; have q1 := obj_at ba4 1 _ rfl; have q2 := obj_at ba4 2 _ rfl; have r0 := obj_fz ba4 0; have r1 := obj_fz ba4 1; have r2 := obj_fz ba4 2; have hl4 := obj_lt ba4; have bN4 := bN.ext hb4; have n0 := obj_at bN4 0 _ rfl; have hl5 := obj_lt bN4; have hne5 : Ba ≠ Bn := (by omega); have hne6 := hne5.symm)
       have hgE : GX [Ba] W' (((w4.setCell ⟨Ba, 0, none⟩ (.int .i64 ((k : Int) + 1))).setCell ⟨Ba, 1, none⟩ (.int .i64 (b : Nat))).setCell ⟨Ba, 2, none⟩ (.int .i64 (sv : Nat))) :=
        ((((GX.refl _ W').below hb4 (Nat.le_refl _)).setCell _ _ (fun _ => by simp)).setCell _ _ (fun _ => by simp)).setCell _ _ (fun _ => by simp)
       refine leaves_marks (D :: Ds) _ (hmk.gx hgE (fun y hy => .inr (by rw [List.mem_singleton.1 hy]; exact ⟨_, _, ba1⟩))) (fun w' hb => ?_)
       have hge := gw.back hgE (fun y hy hlt => by simp at hy; omega)
       exact ⟨.int .i64 (W : Nat), by simp [results, Try.results64, go_sem], rfl, (hge.below hb (Nat.le_refl _)).one, (kc.gx hgE (by simp; omega)).blk (hb.block M hMl)⟩
    case stop => rintro D cd pre2 W' hD hpre h; exact h.elim
  · have hkn : k = K.length := by omega
    have hki : ¬ ((k : Int) < (((strW ws).size : Nat) : Int)) := by rw [HSZ.out]; omega
    have hkj : ¬ (k < (strW ws).size) := by rw [HSZ.out]; omega
    clear hszI
    have hNW : N = W := by
     have h := hI.eq
     rw [hkn, List.drop_eq_nil_of_le (by rw [List.length_zip]; omega)] at h
     simpa [Tt.befA] using h
    rw [hNW] at bn0 hbn
    have HMK := hide hI.mks
    have hmp := hI.mp
    clear hI hkn hNW
    go_wp2
    refine leaves_marks Ds wr HMK.out (fun w' hb => ?_)
    exact ⟨.int .i64 (W : Nat), by simp [results, Try.results64, go_sem], rfl, (hgx.below hb (Nat.le_refl _)).one, hmp.blk (hb.block M hMl)⟩
end Go.Proofs.Ytgjfejpibielaaa
