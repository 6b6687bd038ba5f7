/-
  SpoolKnown: closed facts on what it reaches: recursion and variables. No condition.
-/
import Derived.Test.YtedojhheppepdaaGreatDoorRows
import Derived.JoinedOf
import Derived.KernelRfl

namespace Go.Proofs.YtedojhheppepdaaGreatDoor
open Go
set_option maxRecDepth 100000

theorem sp_recurses : (Rows.spoolKnownRow.recurses == Tryz.prog.recurses 9) = true := by kernel_rfl
theorem sp_named : (Rows.spoolKnownRow.named == Tryz.prog.varsNamed 9) = true := by kernel_rfl
end Go.Proofs.YtedojhheppepdaaGreatDoor
