/-
  RecordKnown: closed facts on what it reaches. No condition.
-/
import Derived.Test.YtedojhheppepdaaGreatDoorRows
import Derived.JoinedOf
import Derived.KernelRfl
namespace Go.Proofs.YtedojhheppepdaaGreatDoor
open Go
set_option maxRecDepth 100000

theorem rk_inPlace : (Rows.recordKnownRow.inPlace == Tryz.prog.inPlace 5) = true := by kernel_rfl
theorem rk_unfollowed : (Rows.recordKnownRow.unfollowed == Tryz.prog.unfollowed 5) = true := by kernel_rfl
end Go.Proofs.YtedojhheppepdaaGreatDoor
