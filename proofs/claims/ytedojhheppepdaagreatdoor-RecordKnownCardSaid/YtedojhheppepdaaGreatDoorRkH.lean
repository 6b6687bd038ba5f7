/-
  RecordKnown: the row, out of its closed facts and its contract. No condition.
-/
import Derived.Test.YtedojhheppepdaaGreatDoorRkG
import Derived.Test.YtedojhheppepdaaGreatDoorJfA
import Derived.Test.YtedojhheppepdaaGreatDoorJfB
import Derived.Test.YtedojhheppepdaaGreatDoorJfC
import Derived.Test.YtedojhheppepdaaGreatDoorRkJ
import Derived.Test.YtedojhheppepdaaGreatDoorRkK
import Derived.SevenTiedAt
namespace Go.Proofs.YtedojhheppepdaaGreatDoor
open Go Go.ChangeShapes Go.WideShapes Go.ChangeAt Go.RowKit
set_option maxRecDepth 100000

theorem rk_closed : joinedFacts Tryz.prog 5 Tryz.f5 Rows.recordKnownSpec Rows.recordKnownRow = true := by
  unfold joinedFacts
  rw [jf_laidOut, jf_mapsRowed, rk_inPlace, rk_unfollowed, rk_recurses, rk_named, jf_plainKeys, jf_stopsHeard, jf_mayEnter, jf_lifted, jf_make]
  kernel_rfl
theorem rk_named5 : Tryz.prog.funcNamed Rows.recordKnownRow.func = some 5 := by kernel_rfl
theorem rk_instance : Tryz.f5.isInstance Tryz.prog Rows.recordKnownRow.origin Rows.recordKnownRow.targs := of_decide_eq_true (by kernel_rfl)
theorem rk_wrapper : Tryz.f5.isWrapper Tryz.prog Rows.recordKnownRow.wrapper Rows.recordKnownRow.mainSum := by
  unfold Func.isWrapper; first | (rw [if_pos (by decide +kernel)]; kernel_rfl) | (rw [if_neg (by decide +kernel)]; exact ⟨rfl, rfl⟩)
theorem rk_row : Rows.RecordKnownSaid :=
  OpenClaim.holds_of_wide 5 Tryz.f5 rfl rfl rfl rfl rfl rfl rfl ⟨rfl, rfl, rfl, rfl, rfl⟩ rfl rfl rfl rfl rfl rk_named5 Tryz.func5 rk_closed rk_instance rk_wrapper
    (fun os started H enc _ => rk_lifted os started H enc)
end Go.Proofs.YtedojhheppepdaaGreatDoor
