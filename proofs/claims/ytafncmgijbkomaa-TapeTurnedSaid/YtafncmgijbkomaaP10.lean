/- Proved here: whether a night has the tapes; regions in the rounds of a range over a function, a part of the proofs about the tape laws. Conditions: those that each theorem names, no others. -/
import Derived.Test.YtafncmgijbkomaaP09
import Derived.WalkKit
import Derived.WalkSpells
import Derived.WalkLawsBesides
import Derived.Below
import Derived.Deep.QuietTactic
import Derived.BigQuiet
import Derived.Deep.Light
import Derived.Test.YtafncmgijbkomaaP08
import Derived.StillTailTactics
import Derived.Deep.Quiet
import Derived.RangeFuncNested
import Derived.RangeFuncCalls
set_option linter.unusedSimpArgs false
set_option linter.unusedVariables false
namespace Go.Proofs.Ytafncmgijbkomaa
open Go.RowKit Go.Maps
/-- whether a night has the tapes, or the error -/
def hasR (W : Int) (ts : List ByteArray) (night : ByteArray) : Bool × Int :=
  if chkSet W ts ≠ 0 then (false, chkSet W ts) else if 20 < night.size then (false, 7) else if isS W night = false then (false, 8) else (Tm.hasS (lt night) (lts ts), 0)
def boolE (q : Bool × Int) : Value := .tuple #[.bool q.1, .int .i64 q.2]
theorem pl_dec {ts : List (List Int)} {p q : List Nat} (h3 : ts.length ≤ 3) (hp : Tm.IsPl ts p) (hq : Tm.IsPl ts q) : (((p.getD 0 0 : Nat) : Int) == ((q.getD 0 0 : Nat) : Int) && (((p.getD 1 0 : Nat) : Int) == ((q.getD 1 0 : Nat) : Int) && ((p.getD 2 0 : Nat) : Int) == ((q.getD 2 0 : Nat) : Int))) = decide (p = q) := by
  by_cases h : p = q
  · subst h; simp
  · rw [decide_eq_false h, Bool.eq_false_iff]
    intro g
    simp only [Bool.and_eq_true, beq_iff_eq] at g
    exact h (plC_inj h3 hp hq (by omega) (by omega) (by omega))
def nF (ts : List (List Int)) (l : List Int) : List Nat := l.foldl (fun p x => Tm.nextP ts p x) (Tm.zeroP ts)
theorem nF_snoc (ts : List (List Int)) (l : List Int) (x : Int) : nF ts (l ++ [x]) = Tm.nextP ts (nF ts l) x := by simp [nF]
theorem nF_is (ts : List (List Int)) (l : List Int) : Tm.IsPl ts (nF ts l) ∧ Tm.remP ts (nF ts l) = l.foldl (fun t x => Tm.behs x t) ts := by
  have key : ∀ (l : List Int) (p : List Nat), Tm.IsPl ts p → Tm.IsPl ts (l.foldl (fun p x => Tm.nextP ts p x) p) ∧ Tm.remP ts (l.foldl (fun p x => Tm.nextP ts p x) p) = l.foldl (fun t x => Tm.behs x t) (Tm.remP ts p) := fun l => by
    induction l with
    | nil => intro p hp; exact ⟨hp, rfl⟩
    | cons x l ih =>
      intro p hp
      have := ih (Tm.nextP ts p x) (Tm.next_is hp x)
      rw [Tm.rem_next] at this
      exact this
  have := key l (Tm.zeroP ts) (Tm.zero_is ts)
  rw [Tm.rem_zero] at this
  exact this
theorem nF_has (ts : List (List Int)) (l : List Int) : Tm.hasS l ts = decide (nF ts l = Tm.lastPl ts) := by
  obtain ⟨h1, h2⟩ := nF_is ts l
  unfold Tm.hasS
  rw [← h2]
  have := Tm.over_iff h1
  rw [Bool.eq_iff_iff, this, decide_eq_true_eq]
set_option maxRecDepth 100000 in
set_option maxHeartbeats 1000000 in
theorem Has_any (W : Int) (A : Option Addr) (ts : List ByteArray) (c : Nat) (w : World) (hA : Strs w A ts) (hl : ts.length ≤ 1000) (hsz : ∀ k, (h : k < ts.length) → ts[k].size ≤ 1000000) (night : ByteArray) (hns : night.size ≤ 1000000) : Calls Try.prog 19 #[.agg #[.int .i64 W, .slice A ts.length c], .string night] w (Gives w (boolE (hasR W ts night))) := by
  by_cases h0 : chkSet W ts = 0
  · have h1 : (chkSet W ts != 0) = false := by simp [h0]
    have HV := hide (show hasR W ts night = if 20 < night.size then (false, (7 : Int)) else if isS W night = false then (false, 8) else (Tm.hasS (lt night) (lts ts), 0) by simp [hasR, h0])
    obtain ⟨hW1, hW2, _, h3, hs, hf, _, _⟩ := chk_val h0
    replace h0 := hide h0
    rw [HV.out]
    by_cases hn : 20 < night.size
    · have hni : (20 : Int) < (night.size : Nat) := by omega
      rw [if_pos hn]
      unfold boolE
      go_enter Try.func19, Try.ntmps19
      go_wp2_with (first
    | (go_at_call 21; refine (checkSet_any W A ts c _ (hA.ext (by (repeat (first | exact Below.refl _ _ | assumption | refine below_drewN ?_ _ | refine below_drew ?_ | refine below_gr ?_ ?_ _ | refine below_alloc ?_ ?_ _ | refine Below.setCell ?_ ?_ _ | refine below_step ?_ (by assumption) ?_ | omega | (simp only [zz] at *; omega))))) hl hsz).mono ?_; rintro e w1 ⟨rfl, hb1⟩; replace hb1 := ex_below hb1; have hz1 := hb1.size; simp only [World.size_alloc] at hz1; have hbw1 : Below w.heap.size w w1 := below_step ((Below.refl _ w).alloc (Nat.le_refl _) _) hb1 (by simp only [World.size_alloc]; omega); have hX1 := (hb1.block w.heap.size (by simp only [World.size_alloc]; omega)).trans (heap_alloc_new _ _); have x01 := obj_at hX1 0 _ rfl; have x11 := obj_at hX1 1 _ rfl; clear hb1))

      go_ret2
      exact ⟨rfl, below_grow hbw1⟩
    · have hni : ¬ ((20 : Int) < (night.size : Nat)) := by omega
      rw [if_neg hn]
      by_cases hS : isS W night = false
      · rw [if_pos hS]
        unfold boolE
        go_enter Try.func19, Try.ntmps19
        go_wp2_with (first
    | (go_at_call 21; refine (checkSet_any W A ts c _ (hA.ext (by (repeat (first | exact Below.refl _ _ | assumption | refine below_drewN ?_ _ | refine below_drew ?_ | refine below_gr ?_ ?_ _ | refine below_alloc ?_ ?_ _ | refine Below.setCell ?_ ?_ _ | refine below_step ?_ (by assumption) ?_ | omega | (simp only [zz] at *; omega))))) hl hsz).mono ?_; rintro e w1 ⟨rfl, hb1⟩; replace hb1 := ex_below hb1; have hz1 := hb1.size; simp only [World.size_alloc] at hz1; have hbw1 : Below w.heap.size w w1 := below_step ((Below.refl _ w).alloc (Nat.le_refl _) _) hb1 (by simp only [World.size_alloc]; omega); have hX1 := (hb1.block w.heap.size (by simp only [World.size_alloc]; omega)).trans (heap_alloc_new _ _); have x01 := obj_at hX1 0 _ rfl; have x11 := obj_at hX1 1 _ rfl; clear hb1)
    | (go_at_call 54; refine (isString_any W night _ hns).mono ?_; rintro e w2 ⟨rfl, hb2⟩; replace hb2 := ex_below hb2; have hz2 := hb2.size; have hbw2 : Below w.heap.size w w2 := below_step hbw1 hb2 (by omega); have hX2 := (hb2.block w.heap.size (by omega)).trans hX1; have x02 := obj_at hX2 0 _ rfl; have x12 := obj_at hX2 1 _ rfl; clear hb2))

        go_ret2
        exact ⟨rfl, below_grow hbw2⟩
      · rw [if_neg hS]
        have hS1 : isS W night = true := by simpa using hS
        have HLT := hide (isS_iff.1 hS1)
        have HGT := hide (lt_get night)
        have HLA := hide (lt_at night)
        rw [nF_has]
        unfold boolE
        clear hS
        have HZ : Hid (plC (nF (lts ts) ((lt night).take 0)) = #[.int .i64 0, .int .i64 0, .int .i64 0]) := by
          refine hide ?_
          have : ∀ k, (Tm.zeroP (lts ts)).getD k 0 = 0 := fun k => by
            unfold Tm.zeroP
            rw [List.getD_eq_getElem?_getD, List.getElem?_map]
            cases (lts ts)[k]? <;> rfl
          show plC (Tm.zeroP (lts ts)) = _
          unfold plC
          rw [this, this, this]
          rfl
        go_enter Try.func19, Try.ntmps19
        go_wp2_with (first
    | (go_at_call 21; refine (checkSet_any W A ts c _ (hA.ext (by (repeat (first | exact Below.refl _ _ | assumption | refine below_drewN ?_ _ | refine below_drew ?_ | refine below_gr ?_ ?_ _ | refine below_alloc ?_ ?_ _ | refine Below.setCell ?_ ?_ _ | refine below_step ?_ (by assumption) ?_ | omega | (simp only [zz] at *; omega))))) hl hsz).mono ?_; rintro e w1 ⟨rfl, hb1⟩; replace hb1 := ex_below hb1; have hz1 := hb1.size; simp only [World.size_alloc] at hz1; have hbw1 : Below w.heap.size w w1 := below_step ((Below.refl _ w).alloc (Nat.le_refl _) _) hb1 (by simp only [World.size_alloc]; omega); have hX1 := (hb1.block w.heap.size (by simp only [World.size_alloc]; omega)).trans (heap_alloc_new _ _); have x01 := obj_at hX1 0 _ rfl; have x11 := obj_at hX1 1 _ rfl; clear hb1)
    | (go_at_call 54; refine (isString_any W night _ hns).mono ?_; rintro e w2 ⟨rfl, hb2⟩; replace hb2 := ex_below hb2; have hz2 := hb2.size; have hbw2 : Below w.heap.size w w2 := below_step hbw1 hb2 (by omega); have hX2 := (hb2.block w.heap.size (by omega)).trans hX1; have x02 := obj_at hX2 0 _ rfl; have x12 := obj_at hX2 1 _ rfl; clear hb2)
    | (go_at_call 55; refine (newReel_any W A ts c _ (hA.ext hbw2)).mono ?_; rintro e w4 ⟨R, M, rfl, hb4, hR0, hM0, hR4⟩; have hz4 := hb4.size; have hbw4 : Below w.heap.size w w4 := below_step hbw2 hb4 (by omega); obtain ⟨C6, w6, hc6, hb6, hz6, hcell6⟩ := conv_bytes (w4.alloc (.cells #[.int .i64 0, .int .i64 0, .int .i64 0] 86)) night; simp only [World.size_alloc] at hz6 hb6 hc6 hcell6))

        have hO6 := (hb6.block w4.heap.size (by omega)).trans (heap_alloc_new w4 _)
        have hb46 : Below w4.heap.size w4 w6 := below_step ((Below.refl _ w4).alloc (Nat.le_refl _) _) hb6 (by omega)
        have hlt3 : (lts ts).length ≤ 3 := by simpa [lts] using h3
        go_loopw [33] (fun i wr => ∃ k : Nat, k ≤ night.size ∧ i = .int .i64 (k : Nat) ∧ wr.heap[w4.heap.size]? = some (.cells (plC (nF (lts ts) ((lt night).take k))) 86 (0, 0)) ∧ wr.heap[w4.heap.size + 1]? = w6.heap[w4.heap.size + 1]? ∧ Below w4.heap.size w4 wr) (fun i _ => night.size - (intOf i).toNat)
        case atStart => exact ⟨0, Nat.zero_le _, rfl, by rw [HZ.out]; exact hO6, rfl, hb46⟩
        case round =>
          obtain ⟨k, hk, rfl, hO, hY, hb⟩ := hrel
          have hz := hb.size
          have hRr := hR4.below hb
          have hYl : w4.heap.size + 1 < wr.heap.size := by
            have : w4.heap.size + 1 < w6.heap.size := by omega
            rw [Array.getElem?_eq_getElem this] at hY
            exact (Array.getElem?_eq_some_iff.1 hY).1
          obtain ⟨hpp, _⟩ := nF_is (lts ts) ((lt night).take k)
          by_cases hlt : k < night.size
          · have hck := (World.cell?_of_block (a := ⟨w4.heap.size + 1, k, none⟩) hY).trans (hcell6 k hlt)
            have hx := HLT.out _ (List.mem_of_getElem? (HLA.out k hlt))
            have hu := night[k].toNat_lt
            have hsn := nF_snoc (lts ts) ((lt night).take k) ((night[k].toNat : Int) - 97)
            have htk : (lt night).take (k + 1) = (lt night).take k ++ [(night[k].toNat : Int) - 97] := by
              rw [List.take_succ_eq_append_getElem (by rw [lt_len]; exact hlt), HGT.out k hlt]
            rw [← htk] at hsn
            have HNX := hide (fun (w' : World) (h : Reel R M W A ts c w') => next_any R W A ts c (nF (lts ts) ((lt night).take k)) ((night[k].toNat : Int) - 97) w' h.rat h.str h3 hpp hf)
            rw [← hsn] at HNX
            have hu1 : (97 : Int) ≤ night[k].toNat ∧ (night[k].toNat : Int) ≤ 255 := by omega
            clear hsn htk hx hu
            generalize hqn : nF (lts ts) ((lt night).take (k + 1)) = q at *
            have HQN := hide hqn
            clear hqn
            have hfr := obj_fz hO
            have hall : plC (nF (lts ts) ((lt night).take k)) = #[.int .i64 ((nF (lts ts) ((lt night).take k)).getD 0 0 : Nat), .int .i64 ((nF (lts ts) ((lt night).take k)).getD 1 0 : Nat), .int .i64 ((nF (lts ts) ((lt night).take k)).getD 2 0 : Nat)] := rfl
            unfold plV at HNX
            rw [hall] at hO HNX
            clear hall
            generalize (nF (lts ts) ((lt night).take k)).getD 0 0 = x0 at *
            generalize (nF (lts ts) ((lt night).take k)).getD 1 0 = x1 at *
            generalize (nF (lts ts) ((lt night).take k)).getD 2 0 = x2 at *
            obtain ⟨y0, y1, y2, hq⟩ : ∃ y0 y1 y2 : Nat, plC q = #[.int .i64 (y0 : Nat), .int .i64 (y1 : Nat), .int .i64 (y2 : Nat)] := ⟨_, _, _, rfl⟩
            rw [hq] at HNX
            have HQ := hide hq
            clear hq
            generalize (night[k].toNat : Int) = by8 at *
            have e0 := obj_at hO 0 _ rfl
            have e1 := obj_at hO 1 _ rfl
            have e2 := obj_at hO 2 _ rfl
            go_wp2_with (go_at_call 56; refine (HNX.out _ hRr).mono ?_; rintro e w7 ⟨rfl, hb7⟩; replace hb7 := ex_below hb7; have hz7 := hb7.size; have hO7 := (hb7.block w4.heap.size (by omega)).trans hO; have r0 := obj_at hO7 0 _ rfl; have r1 := obj_at hO7 1 _ rfl; have r2 := obj_at hO7 2 _ rfl; have s0 := obj_fz hO7 0; have s1 := obj_fz hO7 1; have s2 := obj_fz hO7 2)
            go_roundw
            case measure => simp [intOf]; omega
            refine ⟨k + 1, by omega, by go_num, by rw [HQN.out, HQ.out]; exact set_obj (set_obj (set_obj hO7 0 _) 1 _) 2 _, (Below.heap_setCell _ _ _ _ (by simp)).trans ((Below.heap_setCell _ _ _ _ (by simp)).trans ((Below.heap_setCell _ _ _ _ (by simp)).trans ((hb7.block _ hYl).trans hY))), Below.setCell (p := ⟨_, 2, none⟩) (Below.setCell (p := ⟨_, 1, none⟩) (Below.setCell (p := ⟨_, 0, none⟩) (below_step hb hb7 hz) (Nat.le_refl _) _) (Nat.le_refl _) _) (Nat.le_refl _) _⟩
          · have hkn : k = night.size := by omega
            rw [hkn, ← lt_len, List.take_length] at hO hpp
            have hd := pl_dec hlt3 hpp (Tm.last_is (lts ts))
            have HL := hide (fun (w' : World) (h : Reel R M W A ts c w') => last_any R W A ts c w' h.rat h.str h3 hf)
            unfold plV plC at HL
            unfold plC at hO
            generalize nF (lts ts) (lt night) = p at *
            generalize Tm.lastPl (lts ts) = q at *
            generalize decide (p = q) = d at *
            generalize p.getD 0 0 = x0 at *
            generalize p.getD 1 0 = x1 at *
            generalize p.getD 2 0 = x2 at *
            generalize q.getD 0 0 = y0 at *
            generalize q.getD 1 0 = y1 at *
            generalize q.getD 2 0 = y2 at *
            have e0 := obj_at hO 0 _ rfl
            have e1 := obj_at hO 1 _ rfl
            have e2 := obj_at hO 2 _ rfl
            have hOl := (Array.getElem?_eq_some_iff.1 hO).1
            go_wp2
            refine wp_region_grow (by kernel_rfl) (by kernel_rfl) ?_
            repeat (go_big_quiet_step ((go_at_call 57; exact Gives.quiet (HL.out _ (hRr.below (by (repeat (first | exact Below.refl _ _ | assumption | refine below_drewN ?_ _ | refine below_drew ?_ | refine below_gr ?_ ?_ _ | refine below_alloc ?_ ?_ _ | refine Below.setCell ?_ ?_ _ | refine below_step ?_ (by assumption) ?_ | omega | (simp only [zz] at *; omega)))))))))
            refine wpQuiet_nil ?_
            intro w9 hb9
            replace hb9 := ex_below hb9
            go_wp2
            go_ret2
            exact ⟨rfl, below_grow (below_step (below_step hbw4 hb (by omega)) hb9 (by omega))⟩
  · have HV := hide (show hasR W ts night = (false, chkSet W ts) by simp [hasR, h0])
    have h1 : (chkSet W ts != 0) = true := by simp [h0]
    rw [HV.out]
    unfold boolE
    go_enter Try.func19, Try.ntmps19
    go_wp2_with (first
    | (go_at_call 21; refine (checkSet_any W A ts c _ (hA.ext (by (repeat (first | exact Below.refl _ _ | assumption | refine below_drewN ?_ _ | refine below_drew ?_ | refine below_gr ?_ ?_ _ | refine below_alloc ?_ ?_ _ | refine Below.setCell ?_ ?_ _ | refine below_step ?_ (by assumption) ?_ | omega | (simp only [zz] at *; omega))))) hl hsz).mono ?_; rintro e w1 ⟨rfl, hb1⟩; replace hb1 := ex_below hb1; have hz1 := hb1.size; simp only [World.size_alloc] at hz1; have hbw1 : Below w.heap.size w w1 := below_step ((Below.refl _ w).alloc (Nat.le_refl _) _) hb1 (by simp only [World.size_alloc]; omega); have hX1 := (hb1.block w.heap.size (by simp only [World.size_alloc]; omega)).trans (heap_alloc_new _ _); have x01 := obj_at hX1 0 _ rfl; have x11 := obj_at hX1 1 _ rfl; clear hb1))

    go_ret2
    exact ⟨rfl, below_grow hbw1⟩
end Go.Proofs.Ytafncmgijbkomaa
namespace Go.Proofs.Ytafncmgijbkomaa
open Go.RowKit
/-! a region that draws its order, in a round of a range over a function -/
def noDefer (ops : Array Oper) : Bool := ops.all fun o => match o.op with | .defer _ => false | _ => true
def noOut (Q : Exit → Act → World → Prop) : Exit → Act → World → Prop
  | .outgrown, _, _ => False
  | e, a, w => Q e a w
@[go_sem] theorem noOut_normal (Q : Exit → Act → World → Prop) (a : Act) (w : World) : noOut Q .normal a w = Q .normal a w := rfl
theorem noOut_imp {Q : Exit → Act → World → Prop} : ∀ (e : Exit) (a : Act) (w : World), noOut Q e a w → Q e a w := fun e a w h => by cases e <;> first | exact h | exact (h : False).elim
theorem noOut_lets (Q : Exit → Act → World → Prop) : ¬ LetsOut (noOut Q) := fun ⟨_, _, h⟩ => h
section
variable {P : Program} {ops : Array Oper} {Q : Exit → Act → World → Prop} {md : Region.Mode} {l n : Nat}
theorem calls_round {f : FuncId} {args : Array Value} {w : World} {R : Ending → World → Prop} (h : Calls P f args w R) : CallsIn (Fence.wide.inRound l) n P f args w R :=
  CallsIn.inRound l (callsIn_wide.2 h)
theorem wpOp_round (hQ : ¬ LetsOut Q) (hnd : noDefer ops = true) {i : Nat} {a : Act} {w : World} {K K' : Act → World → Prop} (hK : ∀ a w, K a w → K' a w) (h : wpOp P ops Q i K a w) : wpOpIn (Fence.wide.inRound l) n P ops Q i K' a w := by
  unfold wpOp at h
  unfold wpOpIn
  cases ho : ops[i]? with
  | none => rw [ho] at h; exact hK _ _ h
  | some o =>
    rw [ho] at h
    dsimp only at h ⊢
    have hd : ∀ c, o.op ≠ .defer c := fun c e => by
      unfold noDefer at hnd
      rw [Array.all_eq_true'] at hnd
      have := hnd o (Array.mem_of_getElem? ho)
      rw [e] at this
      cases this
    by_cases hw : Region.wanted o (yielded ops a.tmps) = true
    · rw [if_pos hw] at h ⊢
      have h := h.resolve_right (fun e => hQ e.2)
      unfold Oper.wp at h
      unfold Oper.wpIn
      refine ⟨fun _ _ => trivial, ?_⟩
      rw [show o.semAt (Fence.wide.inRound l).round a.eval = execOp a.eval o from Oper.semAt_some l _ _ hd]
      generalize (execOp a.eval o).run P w = r at *
      cases r with
      | ok nx w' =>
        cases nx <;> simp only [Oper.upon, Oper.uponIn] at h ⊢ <;>
          first
            | exact hK _ _ h
            | exact h.elim
            | exact ⟨fun e => (nomatch e), (calls_round h).mono (fun e w'' he => by cases e <;> first | exact hK _ _ he | exact he)⟩
            | exact ⟨fun e => (nomatch e), fun c cs _ => let ⟨v, w'', r1, s1⟩ := h c cs; ⟨v, w'', hK _ _ r1, stepsIn_wide.2 s1⟩⟩
      | halt x w' => cases x <;> simp only [Oper.upon, Oper.uponIn] at h ⊢ <;> first | exact h | exact h.elim
    · rw [if_neg hw] at h ⊢
      exact ⟨fun _ _ => trivial, hK _ _ h⟩
theorem wpAny_round (hQ : ¬ LetsOut Q) (hnd : noDefer ops = true) : ∀ (fuel : Nat) (listed : Array Bool) (a : Act) (w : World), wpAny P md ops Q fuel listed a w → wpAnyIn (Fence.wide.inRound l) n P md ops Q fuel listed a w
  | 0, _, _, _, h => h
  | fuel + 1, _, _, _, h => ⟨h.1, fun i hi => wpOp_round hQ hnd (fun a' w' h' => wpAny_round hQ hnd fuel _ a' w' h') (h.2 i hi)⟩
theorem region_round {id : Nat} {a : Act} {w : World} (hnd : noDefer ops = true) (hm : P.follows .mixedOrders = true)
    (h : wpAny P .any ops (noOut Q) ops.size (Array.replicate ops.size false) a { w with drawn := w.drawn + 1 }) : (Code.region id ops true).wpIn (Fence.wide.inRound l) n P Q a w :=
  wpIn_mono (wpIn_region_any hm (wpAny_round (noOut_lets Q) hnd _ _ _ _ h)) noOut_imp
/-- one walk serves every order -/
theorem quiet_round {C : World → Prop} {id : Nat} {a : Act} {w : World} {ol : List Oper} (hnd : noDefer ol.toArray = true) (hm : P.follows .mixedOrders = true) (hB : Region.lexB .any ol.toArray = true) (hC : C { w with drawn := w.drawn + 1 })
    (h : wpQuiet P ol.toArray C (fun a' => ∀ w', C w' → Q .normal a' w') ol a) : (Code.region id ol.toArray true).wpIn (Fence.wide.inRound l) n P Q a w := by
  simp only [Region.lexB, Bool.and_eq_true] at hB
  refine region_round hnd hm (wpAny_of_quiet (Q := fun a' => ∀ w', C w' → Q .normal a' w') (Q' := noOut Q) (fun _ w' hw' h => h w' hw') _ _ _ _ hC ?_)
  have := wpAnyQ_lex (C := C) (md := .any) hB.1 ol 0 (Array.replicate ol.toArray.size false) a (by simp) (by simpa using hB.2) h
  simpa using this
theorem grow_round {id : Nat} {a : Act} {w : World} {ol : List Oper} (hnd : noDefer ol.toArray = true) (hm : P.follows .mixedOrders = true) (hB : Region.lexB .any ol.toArray = true)
    (h : wpQuiet P ol.toArray (fun w' => ∃ g, w' = w.grow g) (fun a' => ∀ w', (∃ g, w' = w.grow g) → Q .normal a' w') ol a) : (Code.region id ol.toArray true).wpIn (Fence.wide.inRound l) n P Q a w :=
  quiet_round (C := fun w' => ∃ g, w' = w.grow g) hnd hm hB ⟨⟨#[], w.drawn + 1⟩, by simp [World.grow]⟩ h
/-- quiet operations, and a tail in one order -/
theorem quiet_tail_round {C : World → Prop} {id : Nat} {a : Act} {w : World} {ol : List Oper} (m : Nat) (hnd : noDefer ol.toArray = true) (hm : P.follows .mixedOrders = true) (hB : Region.lexTailB .any ol.toArray m = true) (hC : C { w with drawn := w.drawn + 1 })
    (h : wpQuiet P ol.toArray C (fun a' => ∀ w', C w' → wpList P ol.toArray (noOut Q) (ol.drop m) a' w') (ol.take m) a) : (Code.region id ol.toArray true).wpIn (Fence.wide.inRound l) n P Q a w := by
  simp only [Region.lexTailB, Bool.and_eq_true, decide_eq_true_eq] at hB
  obtain ⟨⟨⟨⟨hsel, hn⟩, hs⟩, hc⟩, hlex⟩ := hB
  have hn' : m < ol.length := by simpa using hn
  have htl : (ol.take m).length = m := by simp; omega
  have hdl : (ol.drop m).length = ol.toArray.size - m := by simp
  have inv0 : HeadInv .any ol.toArray m (Array.replicate ol.toArray.size false) :=
    ⟨by simp, fun j oj _ hl => (by rw [getD_replicate_false] at hl; cases hl), fun t _ ht => getD_in (by simpa using ht) (getD_replicate_false _ _)⟩
  have H := wpAnyLQ_lex (md := .any) (C := C) (g := ol.toArray.size - m) hsel hs hc hn (ol.take m) 0 _ a (fun j hj => by
    have hj' : j < m := by rw [htl] at hj; exact hj
    simp [hj']) (by simpa using htl) inv0 (by rw [htl]; exact hlex) h
  refine region_round hnd hm ?_
  have := wpAny_of_headQ (C := C) (Q' := noOut Q) (g := ol.toArray.size - m) (fun listed a' w' hw hL => by
    have := wpAny_of_seq (md := .any) (Q' := noOut Q) (ol.drop m) m listed a' w' (fun j => by simp [List.getElem?_drop]) (by rw [hdl]; exact hL.1) (hL.2 w' hw)
    rwa [hdl] at this) _ _ _ _ hC H
  rw [htl, show m + (ol.toArray.size - m) = ol.toArray.size by omega] at this
  exact this
theorem grow_tail_round {id : Nat} {a : Act} {w : World} {ol : List Oper} (m : Nat) (hnd : noDefer ol.toArray = true) (hm : P.follows .mixedOrders = true) (hB : Region.lexTailB .any ol.toArray m = true)
    (h : wpQuiet P ol.toArray (fun w' => ∃ g, w' = w.grow g) (fun a' => ∀ w', (∃ g, w' = w.grow g) → wpList P ol.toArray (noOut Q) (ol.drop m) a' w') (ol.take m) a) : (Code.region id ol.toArray true).wpIn (Fence.wide.inRound l) n P Q a w :=
  quiet_tail_round (C := fun w' => ∃ g, w' = w.grow g) m hnd hm hB ⟨⟨#[], w.drawn + 1⟩, by simp [World.grow]⟩ h
/-- a region in which a word on the world is held -/
theorem held_round {S : World → Prop} {id : Nat} {a : Act} {w : World} (hnd : noDefer ops = true) (hm : P.follows .mixedOrders = true) (hS : S w.drew)
    (h : S w.drew → wpAnyH P .any ops (noOut Q) S ops.size (Array.replicate ops.size false) a w.drew) : (Code.region id ops true).wpIn (Fence.wide.inRound l) n P Q a w :=
  region_round hnd hm (wpAny_of_held _ _ _ _ (h hS))
end
end Go.Proofs.Ytafncmgijbkomaa
