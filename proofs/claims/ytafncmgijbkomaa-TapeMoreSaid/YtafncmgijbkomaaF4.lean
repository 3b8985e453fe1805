/- Proved here: the opening of a set of tapes whose number is bounded, a part of the proofs about the tape laws. Conditions: those that each theorem names, no others. -/
import Derived.Test.YtafncmgijbkomaaF3
import Derived.WalkKit
import Derived.WalkSpells
import Derived.WalkLawsBesides
import Derived.Below
import Derived.Deep.QuietTactic
import Derived.BigQuiet
import Derived.Deep.Light
import Derived.SizedLaws
set_option linter.unusedSimpArgs false
set_option linter.unusedVariables false
namespace Go.Proofs.Ytafncmgijbkomaa
open Go.ChangeShapes Go.WideShapes Go.ChangeAt Go.RowKit Go.Joins Go.Deep
section
variable {H : Type} {enc : TypeId × Value → H} {W : World}
set_option maxRecDepth 100000 in
/-- a set of tapes, with what its data are -/
theorem open_setz {r : Reach} {b0 : Nat} {hd : Bool} {v : Value} {d : DataW H} {p : List MemPlace} (hv : Value.okWide Try.prog W r b0 24 v) (h : DataW.Trod enc Try.prog W 0 (fun _ => true) hd 24 v d p) :
    ∃ (m : Int) (A : Option Addr) (ts : List ByteArray) (c : Nat), v = .agg #[.int .i64 m, .slice A ts.length c] ∧ Strs W A ts ∧ ts.length ≤ 9223372036854775807 ∧ (∀ s, s ∈ ts → s.size ≤ 9223372036854775807) ∧ (Lit.int .i64 m).wf = true ∧ (ts.length = 0 ∨ ∃ (x : DataW H) (E S : List (DataW H)), d = .agg [x, .slice E S] ∧ E.length = ts.length) := by
  obtain ⟨v0, v1, y0, y1, n, rfl, hdd, -, h0, h1⟩ := open_agg2 Try.underlying24 (by kernel_rfl) (by kernel_rfl) hv h
  obtain ⟨m, e0, -, w0⟩ := DataW.trod_int Try.underlying3 h0
  simp at e0
  subst e0
  have hsl : ∃ A len c, v1 = .slice A len c ∧ (len = 0 ∨ ∃ E S, y1.1 = .slice E S ∧ E.length = len) := by
    rcases open_slice Try.underlying22 h1 with ⟨hcs, _⟩ | ⟨a, l, c, m', n', D, Pl, hcs, _, _, _, _, hx, _⟩
    · simp at hcs; exact ⟨none, 0, 0, hcs, .inl rfl⟩
    · simp at hcs
      refine ⟨some a, _, c, hcs, .inr ⟨_, _, by rw [hx], by simp⟩⟩
  obtain ⟨A, len, c, rfl, hlen⟩ := hsl
  obtain ⟨ts, rfl, hP, hl, hs⟩ := open_tapes h1
  refine ⟨m, A, ts, c, rfl, hP, hl, hs, w0, ?_⟩
  rcases hlen with h | ⟨E, S, e1, e2⟩
  · exact .inl h
  · exact .inr ⟨y0.1, E, S, by rw [hdd, e1], e2⟩
theorem bytes9 : Try.prog.bytesOf 9 = 16 := by kernel_rfl
/-- how many tapes there can be -/
theorem set_sized {ts : List TypeId} {ds : List (DataW H)} {x : DataW H} {E S : List (DataW H)} (h : (DataW.weightsEach Try.prog (24 :: ts) (.agg [x, .slice E S] :: ds)).all (· ≤ reachBytes) = true) : (E.length + 1) * 16 ≤ 140737488355328 := by
  have h1 := List.all_eq_true.1 h _ (DataW.weights_mem_each (j := 0) (t := 24) (d := .agg [x, .slice E S]) rfl rfl ((E.length + S.length) * Try.prog.bytesOf 9) (by
    rw [DataW.weights]
    simp only [Try.underlying24]
    simp [DataW.weightsEach, DataW.weights, Try.underlying22]))
  rw [bytes9] at h1
  have h2 := of_decide_eq_true h1
  unfold reachBytes at h2
  omega
end
end Go.Proofs.Ytafncmgijbkomaa
