/-
  RecordLays: a closed fact of the card: by what it goes. No condition.
-/
import Derived.Test.YtedojhheppepdaaGreatDoorRows
import Derived.SevenTiedAt
import Derived.KernelRfl
namespace Go.Proofs.YtedojhheppepdaaGreatDoor
open Go
set_option maxRecDepth 100000
theorem Keo : false = Rows.recordLaysRow.goesBy Tryz.prog := by kernel_rfl
end Go.Proofs.YtedojhheppepdaaGreatDoor
