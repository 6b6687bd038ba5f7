/-
  SpoolKnown: closed facts on what it reaches. No condition.
-/
import Derived.Test.YtedojhheppepdaaGreatDoorRows
import Derived.JoinedOf
import Derived.KernelRfl

namespace Go.Proofs.YtedojhheppepdaaGreatDoor
open Go
set_option maxRecDepth 100000

theorem sp_inPlace : (Rows.spoolKnownRow.inPlace == Tryz.prog.inPlace 9) = true := by kernel_rfl
theorem sp_unfollowed : (Rows.spoolKnownRow.unfollowed == Tryz.prog.unfollowed 9) = true := by kernel_rfl
end Go.Proofs.YtedojhheppepdaaGreatDoor
