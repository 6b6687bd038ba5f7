/-
  Closed facts on the program that every row of the seat asks: may it be entered. No condition.
-/
import Derived.Test.YtedojhheppepdaaGreatDoorRows
import Derived.JoinedOf
import Derived.KernelRfl
namespace Go.Proofs.YtedojhheppepdaaGreatDoor
open Go
set_option maxRecDepth 100000
theorem Jx6 : Tryz.prog.mayEnter = true := by kernel_rfl
theorem Jt6 : (Rows.recordKnownRow.plainKeys == Tryz.prog.plainKeys) = true := by kernel_rfl
end Go.Proofs.YtedojhheppepdaaGreatDoor
