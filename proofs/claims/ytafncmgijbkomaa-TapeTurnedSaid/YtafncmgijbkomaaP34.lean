/- Proved here: how many nights go on, a part of the proofs about the tape laws. Conditions: those that each theorem names, no others. -/
import Derived.Test.YtafncmgijbkomaaP05
import Derived.WalkKit
import Derived.WalkSpells
import Derived.WalkLawsBesides
import Derived.Below
import Derived.Deep.QuietTactic
import Derived.BigQuiet
import Derived.Deep.Light
import Derived.Laws.StructEq
set_option linter.unusedSimpArgs false
set_option linter.unusedVariables false
namespace Go.Proofs.Ytafncmgijbkomaa
open Go.RowKit Go.Maps
/-- the same at all worlds whose map is the same -/
theorem KMap.look2 {k t e : TypeId} {b : Nat} {good : Value → Value → Prop} {w : World} (h : KMap k b good w) (K : Keyed Try.prog k) (ht : Try.prog.underlying t = some (.map k e)) {z : Value} (hz : ∀ w', (zeroValue e).run Try.prog w' = .ok z w') {key : Value} {kl : Lit} (hkey : keyOf Try.prog k key = some kl) :
    (∃ v, good key v ∧ ∀ w' : World, w'.heap[b]? = w.heap[b]? → (Instr.lookup t (.map (some b)) key true).run Try.prog w' = .ok (.tuple #[v, .bool true]) w') ∨ (∀ w' : World, w'.heap[b]? = w.heap[b]? → (Instr.lookup t (.map (some b)) key true).run Try.prog w' = .ok (.tuple #[z, .bool false]) w') := by
  obtain ⟨l, ⟨es, clock, hb, F, hn, hD⟩, hl⟩ := h
  by_cases hin : ∃ x, x ∈ es.toList ∧ x.key = key
  · left
    have hm : KMap k b good w := ⟨l, ⟨es, clock, hb, F, hn, hD⟩, hl⟩
    rcases hm.look K ht (hz w) hkey with ⟨v, hrun, hg⟩ | hno
    · refine ⟨v, hg, fun w' hw => ?_⟩
      rcases Maps.fit_look true K ht (hz w') (hw.trans hb) F hkey with ⟨_, hne, _⟩ | ⟨e1, y1, _, _, hrun1, hR1, hat1, _⟩
      · obtain ⟨x, hx, hxk⟩ := hin
        exact absurd hxk (hne x hx)
      · rcases Maps.fit_look true K ht (hz w) hb F hkey with ⟨_, hne, _⟩ | ⟨e2, y2, _, _, hrun2, hR2, hat2, _⟩
        · obtain ⟨x, hx, hxk⟩ := hin
          exact absurd hxk (hne x hx)
        · have e3 : y1.1 = y2.1 := (hat1 .nil).symm.trans (hat2 .nil)
          rw [← Option.some.inj hR1, ← Option.some.inj hR2] at e3
          have e4 : e1.val = e2.val := DataW.held.inj e3
          rw [hrun] at hrun2
          have e5 : v = e2.val := by
            have e6 := Result.ok.inj hrun2
            have e7 := Value.tuple.inj e6.1
            have e8 := congrArg (fun a => a[0]?) e7
            exact Option.some.inj e8
          rw [e5, ← e4]
          exact hrun1
    · rcases Maps.fit_look true K ht (hz w) hb F hkey with ⟨_, hne, _⟩ | ⟨e2, y2, _, _, hrun2, _⟩
      · obtain ⟨x, hx, hxk⟩ := hin
        exact absurd hxk (hne x hx)
      · rw [hno] at hrun2
        injection hrun2 with e6
        simp at e6
  · right
    intro w' hw
    rcases Maps.fit_look true K ht (hz w') (hw.trans hb) F hkey with ⟨hrun, _, _⟩ | ⟨e1, y1, h1, h2, _⟩
    · exact hrun
    · exact absurd ⟨e1, h1, h2⟩ hin
@[go_sem] theorem eqPl (a b c d e f : Int) (w : World) : (Op.equalIn 10000 86 (.agg #[.int .i64 a, .int .i64 b, .int .i64 c]) (.agg #[.int .i64 d, .int .i64 e, .int .i64 f])).run Try.prog w = .ok (a == d && (b == e && c == f)) w := by
  have u3 := Try.underlying3
  have a3 := Try.isAgg3
  have z3 := Try.sizeOf3
  rw [show (10000 : Nat) = 9999 + 1 from rfl, Op.equalIn]
  simp only [Sem.run_bind, run_underlying Try.underlying86, Result.andThen_ok]
  simp only [Std.Legacy.Range.forIn_eq_forIn_range', Std.Legacy.Range.size, Nat.sub_zero, Nat.add_sub_cancel, Nat.div_one, List.range'_succ, List.range'_zero, List.forIn_cons, List.forIn_nil]
  go_simp
  by_cases h1 : a = d <;> by_cases h2 : b = e <;> by_cases h3 : c = f <;> simp [h1, h2, h3]
theorem plC_inj {ts : List (List Int)} {p q : List Nat} (h3 : ts.length ≤ 3) (hp : Tm.IsPl ts p) (hq : Tm.IsPl ts q) (h0 : p.getD 0 0 = q.getD 0 0) (h1 : p.getD 1 0 = q.getD 1 0) (h2 : p.getD 2 0 = q.getD 2 0) : p = q := by
  have e1 := hp.len
  have e2 := hq.len
  apply List.ext_getElem (by omega)
  intro i hi hj
  have key : p.getD i 0 = q.getD i 0 := by
    rcases (by omega : i = 0 ∨ i = 1 ∨ i = 2) with rfl | rfl | rfl
    · exact h0
    · exact h1
    · exact h2
  rw [List.getD_eq_getElem?_getD, List.getD_eq_getElem?_getD, List.getElem?_eq_getElem hi, List.getElem?_eq_getElem hj] at key
  exact key
set_option maxRecDepth 100000 in
set_option maxHeartbeats 1000000 in
theorem count_zero (R M : Nat) (W : Int) (A : Option Addr) (ts : List ByteArray) (cap : Nat) (h3 : ts.length ≤ 3) (hf : Fine ts) (hs : Small ts) (hW : 1 ≤ W ∧ W ≤ 5) (p : List Nat) (w : World) (hp : Tm.IsPl (lts ts) p) (hR : Reel R M W A ts cap w) :
    Calls Try.prog 75 #[.pointer (some ⟨R, 0, none⟩), stV p 0] w (Gives w (.int .i64 (Tm.cntC W.toNat 0 (Tm.remP (lts ts) p) : Nat))) := by
  have hL := fun w' (h : Reel R M W A ts cap w') => last_any R W A ts cap w' h.rat h.str h3 hf
  have hv : Tm.cntC W.toNat 0 (Tm.remP (lts ts) p) = if p = Tm.lastPl (lts ts) then 1 else 0 := by
    show (if Tm.over _ = true then 1 else 0) = _
    by_cases h : p = Tm.lastPl (lts ts)
    · rw [if_pos h, if_pos ((Tm.over_iff hp).2 h)]
    · rw [if_neg h, if_neg (fun g => h ((Tm.over_iff hp).1 g))]
  have hinj := fun h0 h1 h2 => plC_inj (by simpa [lts] using h3) hp (Tm.last_is (lts ts)) h0 h1 h2
  generalize Tm.lastPl (lts ts) = q at *
  unfold plV plC at hL
  unfold stV stC
  have HV := hide hv
  clear hv hf hs
  have HL := hide hL
  have HI := hide hinj
  clear hL hinj
  have HQ : Hid (∀ k, p = q → p.getD k 0 = q.getD k 0) := hide (fun k h => by rw [h])
  obtain ⟨x0, HX0⟩ : ∃ x0, Hid (p.getD 0 0 = x0) := ⟨_, hide rfl⟩
  obtain ⟨x1, HX1⟩ : ∃ x1, Hid (p.getD 1 0 = x1) := ⟨_, hide rfl⟩
  obtain ⟨x2, HX2⟩ : ∃ x2, Hid (p.getD 2 0 = x2) := ⟨_, hide rfl⟩
  obtain ⟨y0, HY0⟩ : ∃ x0, Hid (q.getD 0 0 = x0) := ⟨_, hide rfl⟩
  obtain ⟨y1, HY1⟩ : ∃ x1, Hid (q.getD 1 0 = x1) := ⟨_, hide rfl⟩
  obtain ⟨y2, HY2⟩ : ∃ x2, Hid (q.getD 2 0 = x2) := ⟨_, hide rfl⟩
  have HL2 := HL.out
  have HI2 := HI.out
  have HQ2 := HQ.out
  rw [HY0.out, HY1.out, HY2.out] at HL2
  rw [HX0.out, HX1.out, HX2.out, HY0.out, HY1.out, HY2.out] at HI2
  rw [HX0.out, HX1.out, HX2.out]
  have HE : Hid (p = q → x0 = y0 ∧ x1 = y1 ∧ x2 = y2) := hide (fun h => by
    have e0 := HQ2 0 h
    have e1 := HQ2 1 h
    have e2 := HQ2 2 h
    rw [HX0.out, HY0.out] at e0
    rw [HX1.out, HY1.out] at e1
    rw [HX2.out, HY2.out] at e2
    exact ⟨e0, e1, e2⟩)
  clear HL HI HQ HX0 HX1 HX2 HY0 HY1 HY2 HQ2
  have HL := hide HL2
  have HI := hide HI2
  clear HL2 HI2
  by_cases hpq : p = q
  all_goals
    have ht : ((x0 : Int) == y0 && ((x1 : Int) == y1 && (x2 : Int) == y2)) = decide (p = q) := by
      by_cases h : p = q
      · obtain ⟨e0, e1, e2⟩ := HE.out h
        subst e0 e1 e2
        rw [decide_eq_true h]
        simp
      · rw [decide_eq_false h]
        rw [Bool.eq_false_iff]
        intro g
        simp only [Bool.and_eq_true, beq_iff_eq] at g
        exact h (HI.out (by omega) (by omega) (by omega))
    rw [HV.out]
    first | rw [if_pos hpq] | rw [if_neg hpq]
    first | rw [decide_eq_true hpq] at ht | rw [decide_eq_false hpq] at ht
    clear hpq
    go_enter Try.func75, Try.ntmps75
    go_wp2
    refine wp_region_grow (by kernel_rfl) (by kernel_rfl) ?_
    repeat (go_big_quiet_step ((go_at_call 57; exact Gives.quiet (HL.out _ (hR.below (by (repeat (first | exact Below.refl _ _ | assumption | refine below_drewN ?_ _ | refine below_drew ?_ | refine below_gr ?_ ?_ _ | refine below_alloc ?_ ?_ _ | refine Below.setCell ?_ ?_ _ | refine below_step ?_ (by assumption) ?_ | omega | (simp only [zz] at *; omega)))))))))
    refine wpQuiet_nil ?_
    intro w2 hb2
    replace hb2 := ex_below hb2
    have hz2 := hb2.size
    (try simp only [zz] at hz2)
    have hs2 : w.heap.size < w2.heap.size := (by (first | omega | (simp only [zz] at *; omega)))
    have ho2 := own_cell hb2 (b := w.heap.size) (by (first | omega | (simp only [zz] at *; omega)))
    have hq2 := own_frozen hb2 (b := w.heap.size) (by (first | omega | (simp only [zz] at *; omega)))
    have hlt2 : ∀ b, b < w.heap.size → b < w2.heap.size := fun b hb => (by (first | omega | (simp only [zz] at *; omega)))
    have hc2 : ∀ b o, b < w.heap.size → w2.cell? ⟨b, o, none⟩ = w.cell? ⟨b, o, none⟩ := old_cell (by (repeat (first | exact Below.refl _ _ | assumption | refine below_drewN ?_ _ | refine below_drew ?_ | refine below_gr ?_ ?_ _ | refine below_alloc ?_ ?_ _ | refine Below.setCell ?_ ?_ _ | refine below_step ?_ (by assumption) ?_ | omega | (simp only [zz] at *; omega))))
    go_wp2
    go_ret
    exact gives_of (rfl) (by (repeat (first | exact Below.refl _ _ | assumption | refine below_drewN ?_ _ | refine below_drew ?_ | refine below_gr ?_ ?_ _ | refine below_alloc ?_ ?_ _ | refine Below.setCell ?_ ?_ _ | refine below_step ?_ (by assumption) ?_ | omega | (simp only [zz] at *; omega))))
end Go.Proofs.Ytafncmgijbkomaa
