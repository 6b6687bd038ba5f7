/-
  RecordKnown: closed facts on what it reaches: recursion and variables. No condition.
-/
import Derived.Test.YtedojhheppepdaaGreatDoorRows
import Derived.JoinedOf
import Derived.KernelRfl
namespace Go.Proofs.YtedojhheppepdaaGreatDoor
open Go
set_option maxRecDepth 100000

theorem rk_recurses : (Rows.recordKnownRow.recurses == Tryz.prog.recurses 5) = true := by kernel_rfl
theorem rk_named : (Rows.recordKnownRow.named == Tryz.prog.varsNamed 5) = true := by kernel_rfl
end Go.Proofs.YtedojhheppepdaaGreatDoor
