/- Rows.BoxJoinedUptoSaid is proved: for all cards and tickets of the bulk that the statement names the law BoxJoined returns true and leaves its arguments as they were. Condition: the statement's own bound of the bulk. -/
import Derived.Test.YtlbkaeoagdbemaaP38
import Derived.Test.YtlbkaeoagdbemaaG21
import Derived.JoinedCond
set_option linter.unusedSimpArgs false
set_option linter.unusedVariables false
namespace Go.Proofs.Ytlbkaeoagdbemaa
open Go.ChangeShapes Go.WideShapes Go.ChangeAt Go.RowKit Go.Joins Go.Deep
theorem bulk_one {H : Type} (d : DataW H) : 1 ≤ Rows.uptoBulk d := by
  cases d with
  | lit l => cases l <;> simp [Rows.uptoBulk]
  | nil => simp [Rows.uptoBulk]
  | ptr d => simp [Rows.uptoBulk]
  | slice elems spare => simp [Rows.uptoBulk]
  | agg parts => simp [Rows.uptoBulk]
  | iface t d => simp [Rows.uptoBulk]
  | map entries => simp [Rows.uptoBulk]
  | held h => simp [Rows.uptoBulk]
theorem bulk_len {H : Type} (l : List (DataW H)) : l.length ≤ Rows.uptoBulkAll l := by
  induction l with
  | nil => simp [Rows.uptoBulkAll]
  | cons x r ih => have := bulk_one x; simp only [Rows.uptoBulkAll, List.length_cons]; omega
theorem bulk_part {H : Type} {d : DataW H} {l : List (DataW H)} (h : d ∈ l) : Rows.uptoBulk d ≤ Rows.uptoBulkAll l := by
  induction l with
  | nil => cases h
  | cons x r ih =>
    simp only [Rows.uptoBulkAll]
    cases List.mem_cons.1 h with
    | inl e => subst e; omega
    | inr e => have := ih e; omega
set_option maxRecDepth 100000 in
/-- a card, with what its runners weigh -/
theorem open_cardz {H : Type} {enc : TypeId × Value → H} {W : World} {r : Reach} {b0 : Nat} {hd : Bool} {v : Value} {d : DataW H} {p : List MemPlace} (hv : Value.okWide Try.prog W r b0 24 v) (h : DataW.Trod enc Try.prog W 0 (fun _ => true) hd 24 v d p) :
    ∃ (A : Option Addr) (R : List Int) (c : Nat), v = .agg #[.slice A R.length c] ∧ I64 W A R ∧ R.length ≤ c ∧ c ≤ 9223372036854775807 ∧ (∀ n, n ∈ R → (Lit.int .i64 n).wf = true) ∧ R.length ≤ Rows.uptoBulk d := by
  obtain ⟨cs, rfl, hsz⟩ := okWide_struct Try.underlying24 hv
  obtain ⟨fuel, hf⟩ := h
  rw [show Try.prog.cellsOf 24 = 1 by kernel_rfl] at hsz
  obtain ⟨l⟩ := cs
  match l, hsz with
  | [v0], _ =>
    obtain ⟨y0, n, hd1, hp1, hy0⟩ := trod_struct1 Try.underlying24 hf
    have c22 : Try.prog.cellsOf 22 = 1 := by kernel_rfl
    have hy : DataW.trod enc Try.prog W 0 (fun _ => true) hd n 22 [v0] = some y0 := by simpa [Value.cells, c22] using hy0
    obtain ⟨A, len, c, rfl⟩ := slice_form Try.underlying22 hy
    have hb : len ≤ Rows.uptoBulk y0.1 := by
      rcases open_slice Try.underlying22 hy with ⟨hcs, _⟩ | ⟨a, l, c, m, k, D, Pl, hcs, _, _, _, _, hx, _⟩
      · simp at hcs; omega
      · simp at hcs
        rw [hx]
        simp only [Rows.uptoBulk]
        have := bulk_len ((List.range l).map D)
        simp at this
        omega
    obtain ⟨xs, rfl, hI, hc, hc9, hw⟩ := open_nums hy
    exact ⟨A, xs, c, rfl, hI, hc, hc9, hw, by
      injection hd1 with e1 e2
      subst e1
      simp only [Rows.uptoBulk, Rows.uptoBulkAll]
      omega⟩
set_option maxRecDepth 100000 in
theorem boxJoined_contract (H : Type) (enc : TypeId × Value → H) (W : World) (base : Nat) (args : Array Value) (ds gs : List (DataW H)) (before : List MemPlace)
    (hval0 : ∀ (j : Nat) t v, Try.f16.params[j]? = some t → args[j]? = some v → Value.okWide Try.prog W .any base t v)
    (hW : DataW.Whole enc Try.prog Try.f16.params.toList Rows.boxJoinedSpec.vars false W args.toList ds gs before) (hk : Rows.uptoSmall H (ds ++ gs) = true) :
    Calls Try.prog 16 args W fun e W' => ∃ v, e = .returned v ∧ Rows.boxJoinedSpec.post enc Try.prog Try.f16 false true false false W args v W' := by
  have hval : ∀ (j : Nat) t v, Try.f16.params[j]? = some t → args[j]? = some v → Value.okWide Try.prog W .any base t v := hval0
  have hW' := hW
  obtain ⟨p, q, hA0, hV, rfl, hfz, hnd⟩ := hW
  have hA : DataW.TrodAll enc Try.prog W 0 (fun _ => true) true Try.f16.params.toList args.toList ds p := hA0
  rw [Try.params16] at hA hval
  obtain ⟨v0, vs0, d0, ds0, p0, q0, hargs, rfl, rfl, g0, r0⟩ := trodAll_cons hA
  obtain ⟨v1, vs1, d1, ds1, p1, q1, rfl, rfl, rfl, g1, r1⟩ := trodAll_cons r0
  obtain ⟨v2, vs2, d2, ds2, p2, q2, rfl, rfl, rfl, g2, r2⟩ := trodAll_cons r1
  obtain ⟨v3, vs3, d3, ds3, p3, q3, rfl, rfl, rfl, g3, r3⟩ := trodAll_cons r2
  obtain ⟨rfl, rfl, rfl⟩ := trodAll_nil r3
  obtain rfl : args = #[v0, v1, v2, v3] := by cases args; simp_all
  obtain ⟨rfl, rfl⟩ := trodVars_none hV
  have k0 := g0
  have lt0 : ∀ x ∈ p0, x.block < W.heap.size := by obtain ⟨m, hm⟩ := k0; exact DataW.trod_lt m _ _ _ hm
  obtain ⟨A0, R0, c0, rfl, hI0, hC0, hM0, wf0, hb0⟩ := open_cardz (hval 0 24 v0 rfl rfl) g0
  have k1 := g1
  have lt1 : ∀ x ∈ p1, x.block < W.heap.size := by obtain ⟨m, hm⟩ := k1; exact DataW.trod_lt m _ _ _ hm
  obtain ⟨A1, R1, c1, rfl, hI1, hC1, hM1, wf1, hb1⟩ := open_cardz (hval 1 24 v1 rfl rfl) g1
  have k2 := g2
  have lt2 : ∀ x ∈ p2, x.block < W.heap.size := by obtain ⟨m, hm⟩ := k2; exact DataW.trod_lt m _ _ _ hm
  obtain ⟨B2, ts2, d2, rfl, hT2, hC2, hM2, wt2⟩ := open_tickets (hval 2 25 v2 rfl rfl) g2
  have k3 := g3
  have lt3 : ∀ x ∈ p3, x.block < W.heap.size := by obtain ⟨m, hm⟩ := k3; exact DataW.trod_lt m _ _ _ hm
  obtain ⟨B3, ts3, d3, rfl, hT3, hC3, hM3, wt3⟩ := open_tickets (hval 3 25 v3 rfl rfl) g3
  have hq : (R0.length + R1.length) * 8 ≤ 140737488355328 := by
    have h : Rows.uptoBulkAll _ ≤ 1048576 := of_decide_eq_true hk
    simp only [List.cons_append, Rows.uptoBulkAll] at h
    omega
  clear hA0 hval0
  refine (joined_law A0 R0 c0 A1 R1 c1 B2 ts2 d2 B3 ts3 d3 W hI0 hI1 hT2 hT3 (by omega) (by omega) hC2 hM2 (fun t ht => (wt2 t ht).1) hC3 hM3 (fun t ht => (wt3 t ht).1) hq).mono fun e W' ⟨he, hgr⟩ => ?_
  subst he
  have bel := ex_below hgr
  exact ⟨_, rfl, _, _, _, [], _, [], hW', trodAll_mk1 (shut_bool Try.underlying4 _), (trodAll_cons_mk (Below.trod Try.laidOut (by kernel_rfl) (of_decide_eq_true (by kernel_rfl)) k0 bel lt0) (trodAll_cons_mk (Below.trod Try.laidOut (by kernel_rfl) (of_decide_eq_true (by kernel_rfl)) k1 bel lt1) (trodAll_cons_mk (Below.trod Try.laidOut (by kernel_rfl) (of_decide_eq_true (by kernel_rfl)) k2 bel lt2) (trodAll_cons_mk (Below.trod Try.laidOut (by kernel_rfl) (of_decide_eq_true (by kernel_rfl)) k3 bel lt3) trodAll_mk0)))), rfl, bel.frame _, fun h => by cases h⟩
set_option maxRecDepth 100000 in
theorem boxJoined_lifted (os : Os) (started : os.Started) (H : Type) (enc : TypeId × Value → H) (F : Stop.Interp) :
    ReturnsInHanded {} Try.checked os 16 .any ((Rows.OpenSpec.upto Rows.boxJoinedSpec).pre6 enc Try.prog Try.f16 Rows.boxJoinedUptoRow.domain false) (((Rows.OpenSpec.upto Rows.boxJoinedSpec).at F).post enc Try.prog Try.f16 false true false false) := by
  refine returnsInHanded_of_cond (C := Try.checked) (s := Rows.OpenSpec.upto Rows.boxJoinedSpec) (k := Rows.uptoSmall) rfl Try.own started (by kernel_rfl) Try.func16
    (OpenSpec.witness (enc := enc) (C := Try.checked) (s := Rows.OpenSpec.upto Rows.boxJoinedSpec) (k := Rows.uptoSmall) rfl false ⟨#[], #[.agg #[.slice none 0 0], .agg #[.slice none 0 0], .slice none 0 0, .slice none 0 0], []⟩ 8 (by kernel_rfl) (by kernel_rfl) (by kernel_rfl)
      (x := ([.agg [.nil], .agg [.nil], .nil, .nil], [], [])) (by kernel_rfl) rfl (by kernel_rfl)) ?_
  intro W base args ds gs before hval hW _ hk _
  exact boxJoined_contract H enc W base args ds gs before hval hW hk
/-- the statement -/
theorem boxJoinedUpto_holds : Rows.BoxJoinedUptoSaid :=
  OpenClaim.holds_of_cond 16 Try.f16 rfl rfl rfl rfl rfl rfl rfl ⟨rfl, rfl, rfl, rfl, rfl⟩ rfl rfl rfl rfl rfl (by kernel_rfl) Try.func16 (by kernel_rfl)
    (of_decide_eq_true (by kernel_rfl)) (by unfold Func.isWrapper; first | (rw [if_pos (by decide +kernel)]; kernel_rfl) | (rw [if_neg (by decide +kernel)]; exact ⟨rfl, rfl⟩))
    (fun os started H enc _ F => boxJoined_lifted os started H enc F)
#print axioms boxJoinedUpto_holds
end Go.Proofs.Ytlbkaeoagdbemaa
