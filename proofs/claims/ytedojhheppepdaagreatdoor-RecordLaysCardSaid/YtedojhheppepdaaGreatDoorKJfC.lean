/-
  Closed facts on the program that every row of the seat asks: its lifts and its make. No condition.
-/
import Derived.Test.YtedojhheppepdaaGreatDoorRows
import Derived.JoinedOf
import Derived.KernelRfl
namespace Go.Proofs.YtedojhheppepdaaGreatDoor
open Go
set_option maxRecDepth 100000
theorem Kfg : (Rows.recordKnownRow.lifted == Tryz.prog.liftsFinal) = true := by kernel_rfl
theorem Kq5 : (Tryz.prog.make == some Rows.recordKnownRow.make) = true := by kernel_rfl
end Go.Proofs.YtedojhheppepdaaGreatDoor
