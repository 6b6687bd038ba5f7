/-
  SpoolKnown, run by the evaluator once. No condition.
-/
import Derived.Test.YtedojhheppepdaaGreatDoorKEv44TSkE
import Derived.KernelRfl

namespace Go.Proofs
open Go Go.Ev
set_option maxRecDepth 100000
set_option linter.unusedVariables false
theorem Tryz.sk_run : (callOf Tryz.kf2 9 #[] (globSt Tryz.skG 1000)).map (·.1) = some (.bool true) := by kernel_rfl
end Go.Proofs
