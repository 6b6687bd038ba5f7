/-
  Closed facts on the program that every row of the seat asks. No condition.
-/
import Derived.Test.YtedojhheppepdaaGreatDoorRows
import Derived.JoinedOf
import Derived.KernelRfl
namespace Go.Proofs.YtedojhheppepdaaGreatDoor
open Go
set_option maxRecDepth 100000
theorem Kck : laidOutB Tryz.prog = true := by kernel_rfl
theorem Jt7 : mapsRowed Tryz.prog = true := by kernel_rfl
theorem Jry : Tryz.prog.stopsHeard = true := by kernel_rfl
end Go.Proofs.YtedojhheppepdaaGreatDoor
