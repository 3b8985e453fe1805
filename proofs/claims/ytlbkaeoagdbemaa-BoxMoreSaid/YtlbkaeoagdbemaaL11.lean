/- Rows.BoxMoreSaid is proved: for every card, tickets and ticket the law BoxMore returns true and leaves its arguments as they were. No condition. -/
import Derived.Test.YtlbkaeoagdbemaaP38
import Derived.Test.YtlbkaeoagdbemaaG19
import Derived.SizedLaws
set_option linter.unusedSimpArgs false
set_option linter.unusedVariables false
namespace Go.Proofs.Ytlbkaeoagdbemaa
open Go.ChangeShapes Go.WideShapes Go.ChangeAt Go.RowKit Go.Joins Go.Deep
set_option maxRecDepth 100000 in
/-- a slice of tickets whose number is bounded -/
theorem open_ticketsz {H : Type} {enc : TypeId × Value → H} {W : World} {r : Reach} {b0 : Nat} {hd : Bool} {v : Value} {d : DataW H} {p : List MemPlace} (hv : Value.okWide Try.prog W r b0 25 v) (h : DataW.Trod enc Try.prog W 0 (fun _ => true) hd 25 v d p) :
    ∃ (T : Option Addr) (ts : List Tz) (c : Nat), v = .slice T ts.length c ∧ Tks W T ts ∧ ts.length ≤ c ∧ c ≤ 9223372036854775807 ∧ (∀ t, t ∈ ts → t.1.length ≤ 9223372036854775807 ∧ (Lit.int .i64 t.2).wf = true ∧ ∀ n, n ∈ t.1 → (Lit.int .i64 n).wf = true) ∧ (ts.length = 0 ∨ ∃ E S, d = .slice E S ∧ E.length = ts.length) := by
  obtain ⟨T, len, cap, rfl⟩ := okWide_slice Try.underlying25 hv
  obtain ⟨fuel, hf⟩ := h
  have hd : len = 0 ∨ ∃ E S, d = .slice E S ∧ E.length = len := by
    rcases open_slice Try.underlying25 hf with ⟨hcs, _⟩ | ⟨a, l, c, m, n, D, Pl, hcs, _, _, _, _, hx, _⟩
    · simp [Value.cells] at hcs; exact .inl hcs.2.1
    · simp [Value.cells] at hcs
      injection hx with hx _
      exact .inr ⟨_, _, hx, by simp [hcs.2.1]⟩
  obtain ⟨xs, rfl, hI, hc, hc9, hw⟩ := open_tks (hd := _) (by simpa [Value.cells] using hf)
  exact ⟨T, xs, cap, rfl, hI, hc, hc9, hw, hd⟩
theorem bytes34 : Try.prog.bytesOf 34 = 32 := by kernel_rfl
set_option maxRecDepth 100000 in
theorem boxMore_lifted (os : Os) (started : os.Started) (H : Type) (enc : TypeId × Value → H) :
    ReturnsInHanded {} Try.checked os 11 .any (Rows.boxMoreSpec.pre6 enc Try.prog Try.f11 Rows.boxMoreRow.domain false) (Rows.boxMoreSpec.post enc Try.prog Try.f11 false true false false) := by
  refine returnsInHanded_of_change_sized (C := Try.checked) Try.own started (by kernel_rfl) Try.func11
    (ChangeSpec.witness6 (enc := enc) (C := Try.checked) false ⟨#[], #[.agg #[.slice none 0 0], .slice none 0 0, .agg #[.slice none 0 0, .int .i64 0]], []⟩ 8 (by kernel_rfl) (by kernel_rfl) (by kernel_rfl) (by kernel_rfl)) ?_
  intro W base args ds gs before hval0 hW hcnd hsz0 _
  have hval : ∀ (j : Nat) t v, Try.f11.params[j]? = some t → args[j]? = some v → Value.okWide Try.prog W .any base t v := hval0
  have hW' := hW
  obtain ⟨p, q, hA0, hV, rfl, hfz, hnd⟩ := hW
  have hA : DataW.TrodAll enc Try.prog W 0 (fun _ => true) true Try.f11.params.toList args.toList ds p := hA0
  have hsz : (DataW.weightsEach Try.prog (Try.f11.params.toList ++ Rows.boxMoreSpec.plain.varTypes Try.prog) (ds ++ gs)).all (· ≤ reachBytes) = true := hsz0
  rw [Try.params11] at hA hval hsz
  obtain ⟨v0, vs0, d0, ds0, p0, q0, hargs, rfl, rfl, g0, r0⟩ := trodAll_cons hA
  obtain ⟨v1, vs1, d1, ds1, p1, q1, rfl, rfl, rfl, g1, r1⟩ := trodAll_cons r0
  obtain ⟨v2, vs2, d2, ds2, p2, q2, rfl, rfl, rfl, g2, r2⟩ := trodAll_cons r1
  obtain ⟨rfl, rfl, rfl⟩ := trodAll_nil r2
  obtain rfl : args = #[v0, v1, v2] := by cases args; simp_all
  obtain ⟨rfl, rfl⟩ := trodVars_none hV
  have k0 := g0
  have lt0 : ∀ x ∈ p0, x.block < W.heap.size := by obtain ⟨m, hm⟩ := k0; exact DataW.trod_lt m _ _ _ hm
  obtain ⟨A0, R0, c0, rfl, hI0, hC0, hM0, wf0⟩ := open_card (hval 0 24 v0 rfl rfl) g0
  have k1 := g1
  have lt1 : ∀ x ∈ p1, x.block < W.heap.size := by obtain ⟨m, hm⟩ := k1; exact DataW.trod_lt m _ _ _ hm
  obtain ⟨B1, ts1, cc1, rfl, hT1, hC1, hM1, wt1, hz1⟩ := open_ticketsz (hval 1 25 v1 rfl rfl) g1
  have k2 := g2
  have lt2 : ∀ x ∈ p2, x.block < W.heap.size := by obtain ⟨m, hm⟩ := k2; exact DataW.trod_lt m _ _ _ hm
  obtain ⟨Y2, S2, c2, u2, rfl, hI2, hC2, hM2, wu2, wf2⟩ := open_ticket (hval 2 34 v2 rfl rfl) g2
  have hq1 : (ts1.length + 1) * 32 ≤ 140737488355328 := by
    rcases hz1 with h | ⟨E, S, rfl, hl⟩
    · omega
    · have := sized_slice hsz (j := 1) (t := 25) (e := 34) rfl rfl Try.underlying25
      rw [bytes34] at this
      simp only [reachBytes] at this
      omega
  clear hA0 hval0
  refine (more_law A0 R0 c0 B1 ts1 cc1 Y2 S2 c2 u2 W hI0 hT1 (by omega) hC1 hM1 (fun t ht => (wt1 t ht).1) hI2 hC2 hM2 hq1).mono fun e W' ⟨he, hgr⟩ => ?_
  subst he
  have bel := ex_below hgr
  exact ⟨_, rfl, _, _, _, [], _, [], hW', trodAll_mk1 (shut_bool Try.underlying4 _), (trodAll_cons_mk (Below.trod Try.laidOut (by kernel_rfl) (of_decide_eq_true (by kernel_rfl)) k0 bel lt0) (trodAll_cons_mk (Below.trod Try.laidOut (by kernel_rfl) (of_decide_eq_true (by kernel_rfl)) k1 bel lt1) (trodAll_cons_mk (Below.trod Try.laidOut (by kernel_rfl) (of_decide_eq_true (by kernel_rfl)) k2 bel lt2) trodAll_mk0))), rfl, bel.frame _, fun h => by cases h⟩
/-- the statement -/
theorem boxMore_holds : Rows.BoxMoreSaid :=
  OpenClaim.holds_of_wide 11 Try.f11 rfl rfl rfl rfl rfl rfl rfl ⟨rfl, rfl, rfl, rfl, rfl⟩ rfl rfl rfl rfl rfl (by kernel_rfl) Try.func11 (by kernel_rfl)
    (of_decide_eq_true (by kernel_rfl)) (by unfold Func.isWrapper; first | (rw [if_pos (by decide +kernel)]; kernel_rfl) | (rw [if_neg (by decide +kernel)]; exact ⟨rfl, rfl⟩))
    (fun os started H enc _ => boxMore_lifted os started H enc)
#print axioms boxMore_holds
end Go.Proofs.Ytlbkaeoagdbemaa
