/- Proved here: contracts and laws of C31p, a part of the proofs about the crowd laws: what some functions of the program and of the reference compute, and plain facts about it. Conditions: those that each theorem names, no others. -/
import Derived.Test.YtbfhkknpocbeaaaC30
import Derived.WalkKit
import Derived.WalkSpells
import Derived.WalkLawsBesides
import Derived.Below
import Derived.Deep.QuietTactic
import Derived.BigQuiet
import Derived.Deep.Light

set_option linter.unusedSimpArgs false
set_option linter.unusedVariables false
namespace Go.Proofs.Ytbfhkknpocbeaaa
open Go.RowKit
theorem hk_chk : checkHall 5 hallPs = 0 := by decide +kernel
theorem hk_ask : asked 5 hallPs 2 = 0 := by decide +kernel
theorem hk_p1 : planW hallPs 2 [2, 3, 2, 4, 0] = 0 := by decide +kernel
theorem hk_p2 : planW hallPs 2 [1, 3, 2, 4, 0] = 16 := by decide +kernel
theorem hk_p3 : planW hallPs 2 [3, 3, 3, 4, 0] = 23 := by decide +kernel
theorem hk_m1 : fewP 5 hallPs (hallPs.map P3.lo) = 1 := by decide +kernel
theorem hk_m2 : fewP 5 hallPs (hallPs.map lastOr) = 2 := by decide +kernel
theorem hk_s2 : shutS 5 hallPs 2 (hallPs.map lastOr) = 0 := by decide +kernel
theorem hk_s1 : shutS 5 hallPs 1 (hallPs.map lastOr) = 1 := by decide +kernel
theorem hk_o2 : outS 5 hallPs 2 (hallPs.map lastOr) = [2, 3, 2, 4, 0] := by decide +kernel
theorem hk_b : boundR 5 hallPs 2 3 = (2, 0) := by decide +kernel
theorem hk_c : bestS hallPs (spansL 5) = ⟨2, 3, 2⟩ := by kernel_rfl
theorem hk_t : isTruth hallPs [2, 3, 2, 4, 3] = true := by decide +kernel
theorem hk_o1 : outS 5 hallPs 1 [2, 3, 2, 4, 3] = [2, 3, 0, 4, 0] := by decide +kernel
theorem hk_h1 : shutS 5 hallPs 1 [2, 3, 2, 4, 3] = 1 := by decide +kernel
theorem hk_l : lateD 5 hallPs 2 0 2 1 = 1 := by decide +kernel
theorem hk_g : (spansL 5).all (fun x => decide (0 ≤ leftW 2 hallPs x)) = true := by decide +kernel
theorem hk_r : roomV 2 3 hallPs (spansL 5) = 1 := by decide +kernel
theorem hk_q : planR 5 hallPs 2 [2, 3, 2, 4, 0] = 0 := by decide +kernel
end Go.Proofs.Ytbfhkknpocbeaaa
