/-
  RecordLays: closed facts on what it reaches. No condition.
-/
import Derived.Test.YtedojhheppepdaaGreatDoorRows
import Derived.JoinedOf
import Derived.KernelRfl
namespace Go.Proofs.YtedojhheppepdaaGreatDoor
open Go
set_option maxRecDepth 100000
theorem Kbv : (Rows.recordLaysRow.inPlace == Tryz.prog.inPlace 3) = true := by kernel_rfl
theorem Jrp : (Rows.recordLaysRow.unfollowed == Tryz.prog.unfollowed 3) = true := by kernel_rfl
end Go.Proofs.YtedojhheppepdaaGreatDoor
