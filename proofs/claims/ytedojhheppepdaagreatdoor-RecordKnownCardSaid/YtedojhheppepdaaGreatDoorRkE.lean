/-
  RecordKnown: the second part, run. No condition.
-/
import Derived.Test.YtedojhheppepdaaGreatDoorRkC
namespace Go.Proofs
open Go Go.Ev
set_option maxRecDepth 100000
set_option linter.unusedVariables false
theorem Tryz.rk_run2 : xcode Tryz.prog Tryz.rkKF Tryz.rkD 100000 Tryz.rkX2 (mkEnv Tryz.rkK2 Tryz.rkVals) { heap := .nil, fams := .nil, next := 1000 } (fun ex env σ => Ex.casesOn ex (xret Tryz.prog Tryz.rkRs env σ fun v σ => some (v.out, { heap := .nil, fams := .nil, next := 0 })) (fun _ => none) (xret Tryz.prog Tryz.rkRs env σ fun v σ => some (v.out, { heap := .nil, fams := .nil, next := 0 }))) = some (.bool true, { heap := .nil, fams := .nil, next := 0 }) := by kernel_rfl
end Go.Proofs
