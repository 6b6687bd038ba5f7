/-
  Two closed facts of every card of the seat: what the program's main is, and that it looks at nothing. No condition.
-/
import Derived.Test.YtedojhheppepdaaGreatDoorRows
import Derived.SevenTiedAt
import Derived.KernelRfl
namespace Go.Proofs.YtedojhheppepdaaGreatDoor
open Go
set_option maxRecDepth 100000
theorem Kff : Tryz.prog.mainIs = some (true, "704d7985944ecc1e7b2079513b4b6438f06dcfb134194cd2a922a6e3550e714d".toList) := by kernel_rfl
theorem Knm : false = Tryz.prog.looks [] := by kernel_rfl
end Go.Proofs.YtedojhheppepdaaGreatDoor
