/- Proved here: contracts and laws of C11, a part of the proofs about the crowd laws: what some functions of the program and of the reference compute, and plain facts about it. Conditions: those that each theorem names, no others. -/
import Derived.Test.YtbfhkknpocbeaaaC10
import Derived.Maps.OwnIn
import Derived.DeepKeys4
set_option linter.unusedSimpArgs false
set_option linter.unusedVariables false
namespace Go.Proofs.Ytbfhkknpocbeaaa
open Go.RowKit Go.Maps
theorem laidOutT : laidOutB Try.prog = true := by kernel_rfl
theorem row100 : (100 : TypeId) < Try.prog.types.size := of_decide_eq_true (by kernel_rfl)
set_option maxRecDepth 100000 in
theorem kt100 : Try.prog.keyTypeAt 2 100 = true := by kernel_rfl
theorem lawS : Keyed Try.prog 100 := Keyed.of_law (deep_law_laid laidOutT (m := 2) (by omega) row100 kt100 (by rw [Try.underlying100]))
set_option maxRecDepth 100000 in
theorem keyType100 : Try.prog.keyType 100 = true := by kernel_rfl
theorem cells100 : Try.prog.cellsOf 100 = 2 := by kernel_rfl
theorem cells2 : Try.prog.cellsOf 2 = 1 := by kernel_rfl
theorem cells3 : Try.prog.cellsOf 3 = 1 := by kernel_rfl
def encS (p : P2) : Value := .agg #[.int .i64 p.un, .int .i64 p.pn]
def litS (p : P2) : Lit := .string (keyBytes [.int .i64 p.un, .int .i64 p.pn])
def okS (p : P2) : Prop := (Lit.int .i64 p.un).wf = true ∧ (Lit.int .i64 p.pn).wf = true
theorem lits2 (k : Nat) (c : Value) : Try.prog.keyLits (k+1) 2 [c] = match c with | .int q n => if q = .i64 ∧ (Lit.int .i64 n).wf = true then some [.int .i64 n] else none | _ => none := by
  cases c <;> simp only [Program.keyLits, Try.underlying2]
theorem lits3 (k : Nat) (c : Value) : Try.prog.keyLits (k+1) 3 [c] = match c with | .int q n => if q = .i64 ∧ (Lit.int .i64 n).wf = true then some [.int .i64 n] else none | _ => none := by
  cases c <;> simp only [Program.keyLits, Try.underlying3]
theorem lits100 (k : Nat) (c0 c1 : Value) : Try.prog.keyLits (k+1) 100 [c0, c1] = ((Try.prog.keyLits k 2 [c0]).bind fun a => (Try.prog.keyLits k 3 [c1]).map fun b => a ++ b) := by
  conv => lhs; unfold Program.keyLits
  rw [Try.underlying100]
  simp only [cells100]
  simp [cells2, cells3]
  cases Try.prog.keyLits k 2 [c0] <;> simp
  cases Try.prog.keyLits k 3 [c1] <;> simp
theorem keyOf100 (c0 c1 : Value) : keyOf Try.prog 100 (.agg #[c0, c1]) = match c0, c1 with | .int .i64 a, .int .i64 b => if (Lit.int .i64 a).wf = true ∧ (Lit.int .i64 b).wf = true then some (.string (keyBytes [.int .i64 a, .int .i64 b])) else none | _, _ => none := by
  unfold keyOf
  rw [Try.underlying100]
  have hf : (Value.agg #[c0, c1]).formed Try.prog 100 = true := by simp [Value.formed, Try.underlying100, cells100]
  simp only [keyType100, hf]
  obtain ⟨k, hk⟩ : ∃ k, Try.prog.types.size = k + 1 := Nat.exists_eq_succ_of_ne_zero (Nat.ne_of_gt (Nat.lt_of_le_of_lt (Nat.zero_le _) row100))
  rw [hk]
  simp only [Value.cells, lits100, lits2, lits3]
  cases c0 <;> try (simp; done)
  rename_i q a
  cases c1 <;> try (simp; done)
  rename_i q' b
  by_cases h1 : q = .i64 <;> by_cases h2 : q' = .i64 <;> by_cases h3 : (Lit.int .i64 a).wf = true <;> by_cases h4 : (Lit.int .i64 b).wf = true <;> simp [h1, h2, h3, h4]
  all_goals trace_state
theorem keyS_mk {p : P2} (h : okS p) : keyOf Try.prog 100 (encS p) = some (litS p) := by
  unfold encS
  rw [keyOf100]
  simp [h.1, h.2, litS]
set_option maxRecDepth 100000 in
theorem keyS_inv {v : Value} {kl : Lit} (h : keyOf Try.prog 100 v = some kl) : ∃ p, okS p ∧ v = encS p ∧ kl = litS p := by
  have h' := h
  unfold keyOf at h'
  rw [Try.underlying100] at h'
  simp only [keyType100, Bool.true_and] at h'
  split at h'
  · rename_i hf
    cases v <;> simp [Value.formed, Try.underlying100, cells100] at hf
    rename_i cs
    obtain ⟨c0, c1, rfl⟩ : ∃ c0 c1, cs = #[c0, c1] := by
      obtain ⟨l⟩ := cs
      match l, hf with
      | [a, b], _ => exact ⟨a, b, rfl⟩
    rw [keyOf100] at h
    split at h
    · split at h
      · rename_i a b hw
        cases h
        exact ⟨⟨a, b⟩, hw, rfl, rfl⟩
      · cases h
    · cases h
  · cases h'
theorem encS_inj {p q : P2} (h : encS p = encS q) : p = q := by
  cases p; cases q; simp [encS] at h; simp [h]
theorem litS_inj {p q : P2} (hp : okS p) (hq : okS q) (h : litS p = litS q) : p = q :=
  encS_inj (lawS.inj (keyS_mk hp) (by rw [h]; exact keyS_mk hq))
#print axioms keyS_inv
end Go.Proofs.Ytbfhkknpocbeaaa
