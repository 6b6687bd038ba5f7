/-
  SpoolKnown's 'tells', run by the evaluator once. No condition.
-/
import Derived.Test.YtedojhheppepdaaGreatDoorKSn1TEv43
import Derived.KernelRfl

namespace Go.Proofs
open Go Go.Ev
set_option maxRecDepth 100000
set_option linter.unusedVariables false
noncomputable def Tryz.skL : List Tryz.Known := [Tryz.sk16, Tryz.sk15, Tryz.sk14, Tryz.sk13, Tryz.sk12, Tryz.sk11, Tryz.sk9, Tryz.sk8, Tryz.sk2]
theorem Tryz.skL_ok : ∀ e ∈ Tryz.skL, Tryz.Known.ok e := Tryz.all_cons Tryz.sk16_ok (Tryz.all_cons Tryz.sk15_ok (Tryz.all_cons Tryz.sk14_ok (Tryz.all_cons Tryz.sk13_ok (Tryz.all_cons Tryz.sk12_ok (Tryz.all_cons Tryz.sk11_ok (Tryz.all_cons Tryz.sk9_ok (Tryz.all_cons Tryz.sk8_ok (Tryz.all_cons Tryz.sk2_ok Tryz.all_nil))))))))
noncomputable def Tryz.skG : List (Nat × List Value) := [(3, Tryz.tabC)]
theorem Tryz.skT_run : (callOf (Tryz.kf1 Tryz.skL Tryz.C0) 80 #[] (globSt Tryz.skG 1000)).map (·.1) = some (.bool true) := by kernel_rfl
end Go.Proofs
