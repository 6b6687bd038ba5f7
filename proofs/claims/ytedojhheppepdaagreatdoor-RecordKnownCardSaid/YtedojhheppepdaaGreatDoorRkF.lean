/-
  RecordKnown: it tells true and leaves all blocks as they were. No condition.
-/
import Derived.Test.YtedojhheppepdaaGreatDoorRkD
import Derived.Test.YtedojhheppepdaaGreatDoorRkE
namespace Go.Proofs
open Go Go.Ev
set_option maxRecDepth 100000
set_option linter.unusedVariables false
theorem Tryz.recordKnown_calls : ∀ w, Calls Tryz.prog 5 #[] w fun e w' => e = .returned (.bool true) ∧ Go.RowKit.Below w.heap.size w w' :=
  law_two Tryz.rkKF_ok Tryz.mixed Tryz.rkD_ok 100000 Tryz.func5 (c := Tryz.rkC) (by rfl) (by kernel_rfl) 11 (by kernel_rfl) Tryz.rkX1_eq Tryz.rkX2_eq (by kernel_rfl) (vals := Tryz.rkVals) hvals_map Tryz.rkV_flat Tryz.rkRs_eq Tryz.rk_run1 Tryz.rk_run2 rfl
end Go.Proofs
