/-
  RecordKnown: the first part, run. No condition.
-/
import Derived.Test.YtedojhheppepdaaGreatDoorRkC
namespace Go.Proofs
open Go Go.Ev
set_option maxRecDepth 100000
set_option linter.unusedVariables false
theorem Tryz.rk_run1 : xcode Tryz.prog Tryz.rkKF Tryz.rkD 100000 Tryz.rkX1 .nil { heap := .nil, fams := .nil, next := 1000 } (fun ex env σ => Ex.casesOn ex (cond (chkEnv Tryz.rkK1 env Tryz.rkVals) (some (.bool true, { heap := .nil, fams := .nil, next := 0 })) none) (fun _ => none) none) = some (.bool true, { heap := .nil, fams := .nil, next := 0 }) := by kernel_rfl
end Go.Proofs
