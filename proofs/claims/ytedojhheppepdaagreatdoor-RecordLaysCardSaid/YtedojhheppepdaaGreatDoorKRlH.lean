/-
  The row. No condition.
-/
import Derived.Test.YtedojhheppepdaaGreatDoorKRlG
import Derived.Test.YtedojhheppepdaaGreatDoorKJfA
import Derived.Test.YtedojhheppepdaaGreatDoorKJfB
import Derived.Test.YtedojhheppepdaaGreatDoorKJfC
import Derived.Test.YtedojhheppepdaaGreatDoorKRlJ
import Derived.Test.YtedojhheppepdaaGreatDoorKRlK
namespace Go.Proofs.YtedojhheppepdaaGreatDoor
open Go Go.ChangeShapes Go.WideShapes Go.ChangeAt Go.RowKit
set_option maxRecDepth 100000
theorem Jtk : (Rows.recordLaysRow.plainKeys == Tryz.prog.plainKeys) = true := Jt6
theorem Kbu : (Rows.recordLaysRow.lifted == Tryz.prog.liftsFinal) = true := Kfg
theorem Kqe : (Tryz.prog.make == some Rows.recordLaysRow.make) = true := Kq5
theorem Kep : joinedFacts Tryz.prog 3 Tryz.f3 Rows.recordLaysSpec Rows.recordLaysRow = true := by
  unfold joinedFacts
  rw [Kck, Jt7, Kbv, Jrp, Jxs, Km0, Jtk, Jry, Jx6, Kbu, Kqe]
  kernel_rfl
theorem Jtm : Tryz.prog.funcNamed Rows.recordLaysRow.func = some 3 := by kernel_rfl
theorem Jxt : Tryz.f3.isInstance Tryz.prog Rows.recordLaysRow.origin Rows.recordLaysRow.targs := of_decide_eq_true (by kernel_rfl)
theorem Kbs : Tryz.f3.isWrapper Tryz.prog Rows.recordLaysRow.wrapper Rows.recordLaysRow.mainSum := by
  unfold Func.isWrapper; first | (rw [if_pos (by decide +kernel)]; kernel_rfl) | (rw [if_neg (by decide +kernel)]; exact ⟨rfl, rfl⟩)
theorem Krs : Rows.RecordLaysSaid :=
  OpenClaim.holds_of_wide 3 Tryz.f3 rfl rfl rfl rfl rfl rfl rfl ⟨rfl, rfl, rfl, rfl, rfl⟩ rfl rfl rfl rfl rfl Jtm Tryz.func3 Kep Jxt Kbs
    (fun os started H enc _ => Ken os started H enc)
end Go.Proofs.YtedojhheppepdaaGreatDoor
