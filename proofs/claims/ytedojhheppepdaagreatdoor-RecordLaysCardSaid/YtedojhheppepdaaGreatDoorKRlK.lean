/-
  RecordLays: closed facts on what it reaches: recursion and variables. No condition.
-/
import Derived.Test.YtedojhheppepdaaGreatDoorRows
import Derived.JoinedOf
import Derived.KernelRfl
namespace Go.Proofs.YtedojhheppepdaaGreatDoor
open Go
set_option maxRecDepth 100000
theorem Jxs : (Rows.recordLaysRow.recurses == Tryz.prog.recurses 3) = true := by kernel_rfl
theorem Km0 : (Rows.recordLaysRow.named == Tryz.prog.varsNamed 3) = true := by kernel_rfl
end Go.Proofs.YtedojhheppepdaaGreatDoor
