/- Proved here: strings behind an address, where another block is written, a part of the proofs about the tape laws. Conditions: those that each theorem names, no others. -/
import Derived.Test.YtafncmgijbkomaaP30
import Derived.WalkKit
import Derived.WalkSpells
import Derived.WalkLawsBesides
import Derived.Below
import Derived.Deep.QuietTactic
import Derived.BigQuiet
import Derived.Deep.Light

set_option linter.unusedSimpArgs false
set_option linter.unusedVariables false
namespace Go.Proofs.Ytafncmgijbkomaa
open Go.RowKit Go.Maps Go.Lib
/-! strings behind an address, where another block is written -/
theorem strs_off {w : World} {A : Option Addr} {ss : List ByteArray} {B n c : Nat} {t : TypeId} {x : Int} {P : Option Addr} (h : Strs w A ss) (h0 : 0 < ss.length) (hB : w.heap[B]? = some (.cells #[.int .i64 x, .slice P n c] t (0, 0))) : ∀ b o, A = some ⟨b, o, none⟩ → b ≠ B := by
  rintro b o rfl rfl
  obtain ⟨b1, o1, e1, h1, h2, h3⟩ := h 0 ss[0] (by simp)
  injection e1 with e1
  injection e1 with e2 e3 _
  subst e2 e3
  match o with
  | 0 => simp [World.cell?, hB] at h3
  | 1 => simp [World.cell?, hB] at h3
  | o + 2 => simp [World.cell?, hB] at h3
theorem strs_set {w : World} {A : Option Addr} {ss : List ByteArray} {B n c : Nat} {t : TypeId} {x : Int} {P : Option Addr} (h : Strs w A ss) (hB : w.heap[B]? = some (.cells #[.int .i64 x, .slice P n c] t (0, 0))) (u v : Value) : Strs ((w.setCell ⟨B, 0, none⟩ u).setCell ⟨B, 1, none⟩ v) A ss := fun k s hk => by
  have h0 : 0 < ss.length := by
    rcases Nat.eq_zero_or_pos ss.length with h1 | h1
    · rw [List.eq_nil_of_length_eq_zero h1] at hk; simp at hk
    · exact h1
  obtain ⟨b, off, h1, h2, h3, h4⟩ := h k s hk
  have hne := strs_off h h0 hB b off h1
  refine ⟨b, off, h1, by simpa using h2, by simpa using h3, ?_⟩
  rw [World.cell?_of_block (a := ⟨b, off + k, none⟩) (Below.heap_setCell _ _ _ _ hne), World.cell?_of_block (a := ⟨b, off + k, none⟩) (Below.heap_setCell _ _ _ _ hne), h4]
end Go.Proofs.Ytafncmgijbkomaa
