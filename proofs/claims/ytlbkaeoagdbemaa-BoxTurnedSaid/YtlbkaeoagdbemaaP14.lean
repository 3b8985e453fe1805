/- Proved here: a loop over all parts; regions in the rounds of a range over a function, a part of the proofs about the box laws. Conditions: those that each theorem names, no others. -/
import Derived.Test.YtlbkaeoagdbemaaP13
import Derived.WalkKit
import Derived.WalkSpells
import Derived.WalkLawsBesides
import Derived.Below
import Derived.Deep.QuietTactic
import Derived.BigQuiet
import Derived.Deep.Light
import Derived.StillTailTactics
import Derived.Deep.RegionHeld3
import Derived.Deep.Quiet
import Derived.RangeFuncNested
import Derived.RangeFuncCalls
set_option linter.unusedSimpArgs false
set_option linter.unusedVariables false
namespace Go.Proofs.Ytlbkaeoagdbemaa
open Go.RowKit Go.Maps Go.Shelf
theorem sz_putObj (W : World) (r : Nat) (o : Obj) : (W.putObj r o).heap.size = W.heap.size := by simp
/-- what a round over parts comes to -/
def partPost (I : List Bm.Tk → World → Prop) (lo hi : Nat) (done : List Bm.Tk) (W : World) : Exit → Act → World → Prop
  | .normal, _, W' => KeepsOthers W W' ∧ KpR lo hi W W' ∧ I done W'
  | _, _, _ => False
/-- what the caller of the iterator says of its own cells abides -/
def OwnP (B : Nat) (I : List Bm.Tk → World → Prop) : Prop :=
  ∀ pre W W' row, I pre W → W.grownBy W' row → (∀ r, row = some r → B ≤ r ∧ ∃ o : Obj, W.heap[r]? = some o ∧ o.isCells = false) → I pre W'
theorem range_parts (s : Nat) (A : Option Addr) (R : List Nat) (rc : Nat) (B : Option Addr) (ts : List Bm.Tk) (d : Nat) (base : World) (hS : SheetAt base s A (zs R) rc B (tz ts) d) (hR5 : R.length ≤ 5) (hR6 : ∀ n, n ∈ R → n ≤ 6) (ht10 : ts.length ≤ 10) (hu : ∀ t, t ∈ ts → t.2 ≤ 1000) (htl : ∀ t, t ∈ ts → t.1.length = R.length) (ht6 : ∀ t, t ∈ ts → ∀ x, x ∈ t.1 → x < 64) {g : Operand} {ps : Array Tmp} {assign body : Code} {Q : Exit → Act → World → Prop} {a : Act} {w : World} (Bp : Nat)
    (hg : a.eval g = .func (.func 88) #[] #[.pointer (some ⟨Bp, 0, none⟩)]) (hps : ps.size = 2) (hold : ∀ b, b < base.heap.size → w.heap[b]? = base.heap[b]?) (hle : base.heap.size ≤ Bp) (hBl : Bp < w.heap.size) (hc : w.cell? ⟨Bp, 0, none⟩ = some (.pointer (some ⟨s, 0, none⟩)))
    (I : List Bm.Tk → World → Prop) (hI : OwnP w.heap.size I) (h0 : I [] w) (a₁ : Value → Value → Act)
    (hassign : ∀ (l : Nat) (x y : Value) (W : World) (K : Act → World → Prop), K (a₁ x y) W →
      assign.wpIn (Fence.wide.inRound l) 7 Try.prog (Exit.then K (fun _ _ _ => False)) { tmps := (ps.zip #[x, y]).foldl (fun t (p, v) => t.setIfInBounds p v) a.tmps, defers := [] } W)
    (hbody : ∀ (l : Nat) (pre : List Bm.Tk) (S : List Nat) (u : Nat) (X : Option Addr) (xc : Nat) (W : World), pre ++ [(S, u)] <+: allParts R ts → I pre W → OldB base W Bp → w.heap.size ≤ W.heap.size → I64 W X (zs S) → S.length = R.length → S.length ≤ xc → (∀ b o, X = some ⟨b, o, none⟩ → Bp ≤ b) →
      body.wpIn (Fence.wide.inRound l) 7 Try.prog (partPost I base.heap.size Bp (pre ++ [(S, u)]) W) (a₁ (.slice X S.length xc) (.int .i64 (u : Nat))) W)
    (hdone : ∀ (D : Nat) (W : World), I (allParts R ts) W → W.heap[D]? = some (.deferred (some [])) → KpR base.heap.size Bp w W → w.heap.size ≤ D → Q .normal { a with defers := { target := .collected D, args := #[] } :: a.defers } W) :
    (Code.rangeFunc g ps assign body).wpIn Fence.wide 8 Try.prog Q a w := by
  refine wpIn_rangeFunc ?_
  intro fn hfn
  rw [show Fence.wide.round = none from rfl]
  obtain ⟨rec, hrec⟩ : ∃ rec : LoopState → Option Code → Loop, rec = fun st pe => { state := st, pending := pe, fn, tmps := a.tmps, params := ps, assign, body, defers := w.heap.size } := ⟨_, rfl⟩
  obtain ⟨W1, hW1⟩ : ∃ W1, (w.alloc (.deferred (some []))).alloc (.loop (rec .ready none)) = W1 := ⟨_, rfl⟩
  have hL1 : W1.heap[w.heap.size + 1]? = some (.loop (rec .ready none)) := by
    rw [← hW1]; have := World.alloc_heap_new (w.alloc (.deferred (some []))) (.loop (rec .ready none)); rwa [World.size_alloc] at this
  have hK1 : W1.heap[w.heap.size]? = some (.deferred (some [])) := by
    rw [← hW1]; exact (Below.heap_alloc _ _ _ (by simp)).trans (World.alloc_heap_new w _)
  have hb1 : Below w.heap.size w W1 := by
    rw [← hW1]; exact ((Below.refl _ w).alloc (Nat.le_refl _) _).alloc (by simp) _
  have hI1 : I [] W1 := hI [] w W1 none h0 ⟨hb1.1, hb1.2, hb1.3, hb1.size, fun k hk _ => hb1.block k hk⟩ (fun r e => by cases e)
  have hO1 : OldB base W1 Bp := ⟨fun b hb => (hb1.block b (by omega)).trans (hold b hb), hle, by have := hb1.size; omega⟩
  have hput : ∀ (W : World) (r : Nat) (o : Obj), W.grownBy (W.putObj r o) (some r) := fun W r o => grownBy_putObj' W r o
  have hIput : ∀ pre (W : World) (o o' : Obj), I pre W → W.heap[w.heap.size + 1]? = some o → o.isCells = false → I pre (W.putObj (w.heap.size + 1) o') := fun pre W o o' hi hl ho =>
    hI pre W _ _ hi (hput W _ o') (fun r e => by cases e; exact ⟨by omega, o, hl, ho⟩)
  refine ⟨w.heap.size + 1, [{ target := .collected w.heap.size, args := #[] }], W1, { target := .fn (.func 88) #[.pointer (some ⟨Bp, 0, none⟩)], args := #[.func (.yield (w.heap.size + 1)) #[] #[]] }, W1, 88,
    #[.func (.yield (w.heap.size + 1)) #[] #[]] ++ #[.pointer (some ⟨Bp, 0, none⟩)], W1, ?_, ?_, ?_, ?_, fun _ => by omega, ?_⟩
  · rw [← hW1, hrec]; exact run_enterLoop_outer _ _ _ _ _
  · simp only [resolve, hg]
    simp [go_sem]
  · intro f' hf'; trivial
  · simp [invoke, go_sem, enters_of Try.func88 (by kernel_rfl) rfl]
  · refine (callsIn_wide.2 (parts1_any s A R rc B ts d base hS hR5 hR6 ht10 hu htl ht6 (w.heap.size + 1)
      (fun pre W => I pre W ∧ W.heap[w.heap.size + 1]? = some (.loop (rec .ready none)) ∧ W.heap[w.heap.size]? = some (.deferred (some [])) ∧ w.heap.size ≤ W.heap.size)
      Bp (allParts R ts) ?_ ?_ Bp (Nat.le_refl _) W1 hO1 ((hb1.cell (p := ⟨Bp, 0, none⟩) hBl).trans hc) (by have := hb1.size; omega) ⟨hI1, hL1, hK1, hb1.size⟩ (List.prefix_refl _))).mono ?_
    · rintro pre W W' ⟨hi, hl, hk, hz⟩ hg'
      have hb := hg'.below
      exact ⟨hI pre W W' none hi ⟨hb.1, hb.2, hb.3, hb.size, fun k hk _ => hb.block k hk⟩ (fun r e => by cases e), (hb.block _ (obj_lt hl)).trans hl, (hb.block _ (obj_lt hk)).trans hk, Nat.le_trans hz hb.size⟩
    · rintro pre S u X xc W hpre ⟨hi, hl, hk, hz⟩ hO hX hSl hxc hXh
      have hlt : w.heap.size + 1 < W.heap.size := obj_lt hl
      have hy := run_yield (P := Try.prog) (args := #[.slice X S.length xc, .int .i64 (u : Nat)]) hl (by rw [hrec]; simp [hps])
      rw [hrec] at hy
      refine ⟨fn, _, assign, body, hy, roundIn_of_wpIn hfn (hassign _ _ _ W _ ⟨_, run_beginRound hl (by rw [hrec]), ?_⟩)⟩
      have hl2 : (W.putObj (w.heap.size + 1) (.loop { rec .ready none with state := .busy })).heap[w.heap.size + 1]? = some (.loop { rec .ready none with state := .busy }) := World.putObj_heap_same hlt
      have hk2 : (W.putObj (w.heap.size + 1) (.loop { rec .ready none with state := .busy })).heap[w.heap.size]? = some (.deferred (some [])) := (World.putObj_heap_other (by omega)).trans hk
      have hs2 : (W.putObj (w.heap.size + 1) (.loop { rec .ready none with state := .busy })).heap.size = W.heap.size := by simp
      have hkeep : ∀ b, b ≠ w.heap.size + 1 → (W.putObj (w.heap.size + 1) (.loop { rec .ready none with state := .busy })).heap[b]? = W.heap[b]? := fun b hb => World.putObj_heap_other hb
      have hO2 : OldB base (W.putObj (w.heap.size + 1) (.loop { rec .ready none with state := .busy })) Bp := ⟨fun b hb => (hkeep b (by omega)).trans (hO.old b hb), hle, by rw [hs2]; exact hO.hi⟩
      have hX2 : I64 (W.putObj (w.heap.size + 1) (.loop { rec .ready none with state := .busy })) X (zs S) := fun i p hp => by
        obtain ⟨b, off, e0, e1, e2, e3⟩ := hX i p hp
        have hne : b ≠ w.heap.size + 1 := fun e => by
          subst e
          obtain ⟨o', ho', hc'⟩ := cells_of_cell e3
          simp only at ho'
          rw [hl] at ho'; cases ho'; cases hc'
        exact ⟨b, off, e0, by rw [hs2]; exact e1, by rw [hs2]; exact e2, (heap_cell (hkeep b hne)).trans e3⟩
      refine wpIn_mono (hbody _ pre S u X xc _ hpre (hIput pre W _ _ hi hl rfl) hO2 (by rw [hs2]; exact hz) hX2 hSl hxc hXh) ?_
      rintro e a3 W3 hp
      cases e with
      | normal =>
        obtain ⟨hko3, hkp3, hi3⟩ := hp
        have hl3 := hko3.same _ _ hl2 rfl
        have hk3 := hko3.same _ _ hk2 rfl
        have hlt3 := obj_lt hl3
        have hend := run_endRound (P := Try.prog) none hl3
        rw [hrec] at hend
        refine ⟨_, _, hend, rfl, ⟨hIput _ W3 _ _ hi3 hl3 rfl, ?_, ?_, ?_⟩, ?_, ?_⟩
        · rw [hrec]; exact World.putObj_heap_same hlt3
        · exact (World.putObj_heap_other (by omega)).trans hk3
        · rw [sz_putObj]; exact Nat.le_trans hz (by rw [← hs2]; exact hko3.size)
        · rw [sz_putObj]; rw [← hs2]; exact hko3.size
        · intro b hb hout
          by_cases hbr : b = w.heap.size + 1
          · subst hbr
            refine (World.putObj_heap_same hlt3).trans ?_
            rw [hl, hrec]; rfl
          · exact (World.putObj_heap_other hbr).trans ((hkp3.same b (by rw [hs2]; exact hb) hout).trans (hkeep b hbr))
      | ret => exact hp.elim
      | exit id => exact hp.elim
      | goto t => exact hp.elim
      | panic ch => exact hp.elim
      | outgrown => exact hp.elim
    · rintro e W2 ⟨rfl, ⟨hi, hl, hk, hz⟩, hkp⟩
      refine ⟨none, _, by have := run_endLoop (P := Try.prog) hl (by rw [hrec]; simp); rw [hrec] at this; exact this, hdone _ _ (hIput _ W2 _ _ hi hl rfl) ((World.putObj_heap_other (by omega)).trans hk) ?_ (Nat.le_refl _)⟩
      refine ⟨by rw [sz_putObj]; exact hz, fun b hb hout => (World.putObj_heap_other (by omega)).trans ((hkp.same b (by have := hb1.size; omega) hout).trans (hb1.block b hb))⟩
end Go.Proofs.Ytlbkaeoagdbemaa
namespace Go.Proofs.Ytlbkaeoagdbemaa
open Go.RowKit
section
variable {P : Program} {ops : Array Oper} {C : World → Prop} {Q : Exit → Act → World → Prop} {md : Region.Mode}
/-- the first operations, in whatever order; each is quiet in the class -/
def wpAnyLQ (P : Program) (md : Region.Mode) (ops : Array Oper) (C : World → Prop) (n : Nat) (L : Array Bool → Act → Prop) : Nat → Array Bool → Act → Prop
  | 0, listed, a => L listed a
  | f + 1, listed, a => Region.ready md ops listed ≠ [] ∧ ∀ i ∈ Region.ready md ops listed, i < n ∧ qOp P ops C i (wpAnyLQ P md ops C n L f (listed.setIfInBounds i true)) a
theorem wpAny_of_headQ {n g : Nat} {L : Array Bool → Act → Prop} {Q' : Exit → Act → World → Prop} (hL : ∀ listed a w, C w → L listed a → wpAny P md ops Q' g listed a w) :
    ∀ (f : Nat) (listed : Array Bool) (a : Act) (w : World), C w → wpAnyLQ P md ops C n L f listed a → wpAny P md ops Q' (f + g) listed a w
  | 0, listed, a, w, hw, h => by rw [Nat.zero_add]; exact hL _ _ _ hw h
  | f + 1, listed, a, w, hw, h => by
    rw [show f + 1 + g = (f + g) + 1 by omega]
    exact ⟨fun h0 => absurd h0 h.1, fun i hi => wpOp_of_qOp hw (fun a' w' hw' h' => wpAny_of_headQ hL f _ a' w' hw' h') (h.2 i hi).2⟩
theorem wpAnyLQ_first {n i : Nat} {oi : Oper} {v : Value} {L : Array Bool → Act → Prop} (hi : ops[i]? = some oi) (hsel : ∀ (j : Nat) (o : Oper) cs b, ops[j]? = some o → o.op ≠ .select cs b)
    (hs : Region.sinkB md ops n = true) (hc : Region.chainB md ops n = true) (hn : n < ops.size) (hin : i < n)
    (hdone : ∀ listed a, L listed a → ∀ j ∈ Region.ready md ops listed, n ≤ j) :
    ∀ (f : Nat) (listed : Array Bool) (a : Act), HeadInv md ops n listed →
      (∀ j oj, ops[j]? = some oj → j ≠ i → listed.getD j true = false → (∀ e ∈ oj.after, Region.binds md e = true → e.on ≠ i) → oi.apart ops oj = true) →
      i ∈ Region.ready md ops listed → YieldsIn P ops C oi v a →
      wpAnyLQ P md ops C n L f (listed.setIfInBounds i true) (a.put oi.dst v) → wpAnyLQ P md ops C n L (f + 1) listed a := by
  intro f
  induction f with
  | zero =>
    intro listed a inv _ hr hy H
    have hun := (mem_ready.1 hr).1
    refine ⟨fun h => (by rw [h] at hr; cases hr), fun j hj => ?_⟩
    have hjn : j < n := by
      rcases Nat.lt_or_ge j n with h | h
      · exact h
      · exact absurd hj (tail_waits hs hc hn inv _ i rfl hin hun j h)
    refine ⟨hjn, ?_⟩
    by_cases hji : j = i
    · subst hji; exact hy.qOp hi H
    · have := hdone _ _ H j (ready_mono hj hji)
      omega
  | succ f ih =>
    intro listed a inv hfree hr hy H
    have hun := (mem_ready.1 hr).1
    refine ⟨fun h => (by rw [h] at hr; cases hr), fun j hj => ?_⟩
    have hjn : j < n := by
      rcases Nat.lt_or_ge j n with h | h
      · exact h
      · exact absurd hj (tail_waits hs hc hn inv _ i rfl hin hun j h)
    refine ⟨hjn, ?_⟩
    by_cases hji : j = i
    · subst hji; exact hy.qOp hi H
    · have h1 := (H.2 j (ready_mono hj hji)).2
      obtain ⟨hjun, oj, hoj, hall⟩ := mem_ready.1 hj
      have hnot : ∀ e ∈ oj.after, Region.binds md e = true → e.on ≠ i := fun e he hb heq => by
        have h1 := hall e he hb
        rw [heq, getD_both hun] at h1
        cases h1
      have h2 := qOp_put hoj (hfree j oj hoj hji hjun hnot) (fun cs b => hsel i oi cs b hi) (fun cs b => hsel j oj cs b hoj) hy h1
      have hfree' : ∀ k ok, ops[k]? = some ok → k ≠ i → (listed.setIfInBounds j true).getD k true = false →
          (∀ e ∈ ok.after, Region.binds md e = true → e.on ≠ i) → oi.apart ops ok = true := fun k ok hk hki hun hno => by
        refine hfree k ok hk hki ?_ hno
        by_cases hjk : j = k
        · subst hjk; exact hjun
        · rw [getD_set_ne true hjk] at hun; exact hun
      refine qOp_mono (fun a' h3 => ih (listed.setIfInBounds j true) a' (inv.set hj hjn) hfree' (ready_mono hr (Ne.symm hji)) h3.1 ?_) h2
      rw [Array.setIfInBounds_comm _ _ hji]
      exact h3.2
theorem wpAnyLQ_lex {n g : Nat} {Lq : Act → Prop} (hsel : Region.noSelect ops = true) (hs : Region.sinkB md ops n = true) (hc : Region.chainB md ops n = true) (hn : n < ops.size) :
    ∀ (l : List Oper) (k : Nat) (listed : Array Bool) (a : Act), (∀ j, j < l.length → l[j]? = ops[k + j]?) → k + l.length = n → HeadInv md ops n listed →
    Region.lexHead md ops g l.length k listed = true → wpQuiet P ops C Lq l a →
    wpAnyLQ P md ops C n (fun listed' a' => Region.seqB md ops g n listed' = true ∧ Lq a') l.length listed a
  | [], k, listed, a, _, hk, _, hB, h => by
    have : k = n := by simpa using hk
    subst this
    exact ⟨by simpa [Region.lexHead] using hB, h⟩
  | o :: l, k, listed, a, hl, hk, inv, hB, h => by
    have h0 : ops[k]? = some o := by simpa using (hl 0 (by simp)).symm
    simp only [List.length_cons, Region.lexHead, Bool.and_eq_true] at hB
    obtain ⟨⟨hr, hf⟩, hB'⟩ := hB
    have hkn : k < n := by simp only [List.length_cons] at hk; omega
    have hr' : k ∈ Region.ready md ops listed := by simpa using hr
    have hst : qOp P ops C k (wpQuiet P ops C Lq l) a := by unfold qOp; simp only [h0]; exact h
    obtain ⟨v, hy, hK⟩ := yieldsIn_of_qOp h0 hst
    exact wpAnyLQ_first h0 (Region.noSelect_spec hsel) hs hc hn hkn (fun listed' a' hL => seqB_ready hL.1) l.length listed a inv (Region.free_spec h0 hf) hr' hy
      (wpAnyLQ_lex hsel hs hc hn l (k + 1) _ _ (fun j hj => by have := hl (j + 1) (by simp; omega); simpa [Nat.add_assoc, Nat.add_comm 1 j] using this) (by simp only [List.length_cons] at hk; omega) (inv.set hr' hkn) hB' hK)

end
/-! a region that draws its order, in a round of a range over a function -/
def noDefer (ops : Array Oper) : Bool := ops.all fun o => match o.op with | .defer _ => false | _ => true
def noOut (Q : Exit → Act → World → Prop) : Exit → Act → World → Prop
  | .outgrown, _, _ => False
  | e, a, w => Q e a w
@[go_sem] theorem noOut_normal (Q : Exit → Act → World → Prop) (a : Act) (w : World) : noOut Q .normal a w = Q .normal a w := rfl
theorem noOut_imp {Q : Exit → Act → World → Prop} : ∀ (e : Exit) (a : Act) (w : World), noOut Q e a w → Q e a w := fun e a w h => by cases e <;> first | exact h | exact (h : False).elim
theorem noOut_lets (Q : Exit → Act → World → Prop) : ¬ LetsOut (noOut Q) := fun ⟨_, _, h⟩ => h
section
variable {P : Program} {ops : Array Oper} {Q : Exit → Act → World → Prop} {md : Region.Mode} {l n : Nat}
theorem calls_round {f : FuncId} {args : Array Value} {w : World} {R : Ending → World → Prop} (h : Calls P f args w R) : CallsIn (Fence.wide.inRound l) n P f args w R :=
  CallsIn.inRound l (callsIn_wide.2 h)
theorem wpOp_round (hQ : ¬ LetsOut Q) (hnd : noDefer ops = true) {i : Nat} {a : Act} {w : World} {K K' : Act → World → Prop} (hK : ∀ a w, K a w → K' a w) (h : wpOp P ops Q i K a w) : wpOpIn (Fence.wide.inRound l) n P ops Q i K' a w := by
  unfold wpOp at h
  unfold wpOpIn
  cases ho : ops[i]? with
  | none => rw [ho] at h; exact hK _ _ h
  | some o =>
    rw [ho] at h
    dsimp only at h ⊢
    have hd : ∀ c, o.op ≠ .defer c := fun c e => by
      unfold noDefer at hnd
      rw [Array.all_eq_true'] at hnd
      have := hnd o (Array.mem_of_getElem? ho)
      rw [e] at this
      cases this
    by_cases hw : Region.wanted o (yielded ops a.tmps) = true
    · rw [if_pos hw] at h ⊢
      have h := h.resolve_right (fun e => hQ e.2)
      unfold Oper.wp at h
      unfold Oper.wpIn
      refine ⟨fun _ _ => trivial, ?_⟩
      rw [show o.semAt (Fence.wide.inRound l).round a.eval = execOp a.eval o from Oper.semAt_some l _ _ hd]
      generalize (execOp a.eval o).run P w = r at *
      cases r with
      | ok nx w' =>
        cases nx <;> simp only [Oper.upon, Oper.uponIn] at h ⊢ <;>
          first
            | exact hK _ _ h
            | exact h.elim
            | exact ⟨fun e => (nomatch e), (calls_round h).mono (fun e w'' he => by cases e <;> first | exact hK _ _ he | exact he)⟩
            | exact ⟨fun e => (nomatch e), fun c cs _ => let ⟨v, w'', r1, s1⟩ := h c cs; ⟨v, w'', hK _ _ r1, stepsIn_wide.2 s1⟩⟩
      | halt x w' => cases x <;> simp only [Oper.upon, Oper.uponIn] at h ⊢ <;> first | exact h | exact h.elim
    · rw [if_neg hw] at h ⊢
      exact ⟨fun _ _ => trivial, hK _ _ h⟩
theorem wpAny_round (hQ : ¬ LetsOut Q) (hnd : noDefer ops = true) : ∀ (fuel : Nat) (listed : Array Bool) (a : Act) (w : World), wpAny P md ops Q fuel listed a w → wpAnyIn (Fence.wide.inRound l) n P md ops Q fuel listed a w
  | 0, _, _, _, h => h
  | fuel + 1, _, _, _, h => ⟨h.1, fun i hi => wpOp_round hQ hnd (fun a' w' h' => wpAny_round hQ hnd fuel _ a' w' h') (h.2 i hi)⟩
theorem region_round {id : Nat} {a : Act} {w : World} (hnd : noDefer ops = true) (hm : P.follows .mixedOrders = true)
    (h : wpAny P .any ops (noOut Q) ops.size (Array.replicate ops.size false) a { w with drawn := w.drawn + 1 }) : (Code.region id ops true).wpIn (Fence.wide.inRound l) n P Q a w :=
  wpIn_mono (wpIn_region_any hm (wpAny_round (noOut_lets Q) hnd _ _ _ _ h)) noOut_imp
/-- one walk serves every order -/
theorem quiet_round {C : World → Prop} {id : Nat} {a : Act} {w : World} {ol : List Oper} (hnd : noDefer ol.toArray = true) (hm : P.follows .mixedOrders = true) (hB : Region.lexB .any ol.toArray = true) (hC : C { w with drawn := w.drawn + 1 })
    (h : wpQuiet P ol.toArray C (fun a' => ∀ w', C w' → Q .normal a' w') ol a) : (Code.region id ol.toArray true).wpIn (Fence.wide.inRound l) n P Q a w := by
  simp only [Region.lexB, Bool.and_eq_true] at hB
  refine region_round hnd hm (wpAny_of_quiet (Q := fun a' => ∀ w', C w' → Q .normal a' w') (Q' := noOut Q) (fun _ w' hw' h => h w' hw') _ _ _ _ hC ?_)
  have := wpAnyQ_lex (C := C) (md := .any) hB.1 ol 0 (Array.replicate ol.toArray.size false) a (by simp) (by simpa using hB.2) h
  simpa using this
theorem grow_round {id : Nat} {a : Act} {w : World} {ol : List Oper} (hnd : noDefer ol.toArray = true) (hm : P.follows .mixedOrders = true) (hB : Region.lexB .any ol.toArray = true)
    (h : wpQuiet P ol.toArray (fun w' => ∃ g, w' = w.grow g) (fun a' => ∀ w', (∃ g, w' = w.grow g) → Q .normal a' w') ol a) : (Code.region id ol.toArray true).wpIn (Fence.wide.inRound l) n P Q a w :=
  quiet_round (C := fun w' => ∃ g, w' = w.grow g) hnd hm hB ⟨⟨#[], w.drawn + 1⟩, by simp [World.grow]⟩ h
/-- quiet operations, and a tail in one order -/
theorem quiet_tail_round {C : World → Prop} {id : Nat} {a : Act} {w : World} {ol : List Oper} (m : Nat) (hnd : noDefer ol.toArray = true) (hm : P.follows .mixedOrders = true) (hB : Region.lexTailB .any ol.toArray m = true) (hC : C { w with drawn := w.drawn + 1 })
    (h : wpQuiet P ol.toArray C (fun a' => ∀ w', C w' → wpList P ol.toArray (noOut Q) (ol.drop m) a' w') (ol.take m) a) : (Code.region id ol.toArray true).wpIn (Fence.wide.inRound l) n P Q a w := by
  simp only [Region.lexTailB, Bool.and_eq_true, decide_eq_true_eq] at hB
  obtain ⟨⟨⟨⟨hsel, hn⟩, hs⟩, hc⟩, hlex⟩ := hB
  have hn' : m < ol.length := by simpa using hn
  have htl : (ol.take m).length = m := by simp; omega
  have hdl : (ol.drop m).length = ol.toArray.size - m := by simp
  have inv0 : HeadInv .any ol.toArray m (Array.replicate ol.toArray.size false) :=
    ⟨by simp, fun j oj _ hl => (by rw [getD_replicate_false] at hl; cases hl), fun t _ ht => getD_in (by simpa using ht) (getD_replicate_false _ _)⟩
  have H := wpAnyLQ_lex (md := .any) (C := C) (g := ol.toArray.size - m) hsel hs hc hn (ol.take m) 0 _ a (fun j hj => by
    have hj' : j < m := by rw [htl] at hj; exact hj
    simp [hj']) (by simpa using htl) inv0 (by rw [htl]; exact hlex) h
  refine region_round hnd hm ?_
  have := wpAny_of_headQ (C := C) (Q' := noOut Q) (g := ol.toArray.size - m) (fun listed a' w' hw hL => by
    have := wpAny_of_seq (md := .any) (Q' := noOut Q) (ol.drop m) m listed a' w' (fun j => by simp [List.getElem?_drop]) (by rw [hdl]; exact hL.1) (hL.2 w' hw)
    rwa [hdl] at this) _ _ _ _ hC H
  rw [htl, show m + (ol.toArray.size - m) = ol.toArray.size by omega] at this
  exact this
theorem grow_tail_round {id : Nat} {a : Act} {w : World} {ol : List Oper} (m : Nat) (hnd : noDefer ol.toArray = true) (hm : P.follows .mixedOrders = true) (hB : Region.lexTailB .any ol.toArray m = true)
    (h : wpQuiet P ol.toArray (fun w' => ∃ g, w' = w.grow g) (fun a' => ∀ w', (∃ g, w' = w.grow g) → wpList P ol.toArray (noOut Q) (ol.drop m) a' w') (ol.take m) a) : (Code.region id ol.toArray true).wpIn (Fence.wide.inRound l) n P Q a w :=
  quiet_tail_round (C := fun w' => ∃ g, w' = w.grow g) m hnd hm hB ⟨⟨#[], w.drawn + 1⟩, by simp [World.grow]⟩ h
/-- a region in which a word on the world is held -/
theorem held_round {S : World → Prop} {id : Nat} {a : Act} {w : World} (hnd : noDefer ops = true) (hm : P.follows .mixedOrders = true) (hS : S w.drew)
    (h : S w.drew → wpAnyH P .any ops (noOut Q) S ops.size (Array.replicate ops.size false) a w.drew) : (Code.region id ops true).wpIn (Fence.wide.inRound l) n P Q a w :=
  region_round hnd hm (wpAny_of_held _ _ _ _ (h hS))
end
end Go.Proofs.Ytlbkaeoagdbemaa
