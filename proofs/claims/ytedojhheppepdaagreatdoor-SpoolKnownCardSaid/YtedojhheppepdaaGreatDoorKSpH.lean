/-
  SpoolKnown: the row, out of its closed facts and its contract. No condition.
-/
import Derived.Test.YtedojhheppepdaaGreatDoorKSkGTSpG
import Derived.Test.YtedojhheppepdaaGreatDoorKJfA
import Derived.Test.YtedojhheppepdaaGreatDoorKJfB
import Derived.Test.YtedojhheppepdaaGreatDoorKJfC
import Derived.Test.YtedojhheppepdaaGreatDoorKSpJ
import Derived.Test.YtedojhheppepdaaGreatDoorKSpK
import Derived.SevenTiedAt

namespace Go.Proofs.YtedojhheppepdaaGreatDoor
open Go Go.ChangeShapes Go.WideShapes Go.ChangeAt Go.RowKit
set_option maxRecDepth 100000

theorem sp_plainKeys : (Rows.spoolKnownRow.plainKeys == Tryz.prog.plainKeys) = true := jf_plainKeys
theorem sp_liftedB : (Rows.spoolKnownRow.lifted == Tryz.prog.liftsFinal) = true := jf_lifted
theorem sp_make : (Tryz.prog.make == some Rows.spoolKnownRow.make) = true := jf_make
theorem sp_closed : joinedFacts Tryz.prog 9 Tryz.f9 Rows.spoolKnownSpec Rows.spoolKnownRow = true := by
  unfold joinedFacts
  rw [jf_laidOut, jf_mapsRowed, sp_inPlace, sp_unfollowed, sp_recurses, sp_named, sp_plainKeys, jf_stopsHeard, jf_mayEnter, sp_liftedB, sp_make]
  kernel_rfl
theorem sp_named9 : Tryz.prog.funcNamed Rows.spoolKnownRow.func = some 9 := by kernel_rfl
theorem sp_instance : Tryz.f9.isInstance Tryz.prog Rows.spoolKnownRow.origin Rows.spoolKnownRow.targs := of_decide_eq_true (by kernel_rfl)
theorem sp_wrapper : Tryz.f9.isWrapper Tryz.prog Rows.spoolKnownRow.wrapper Rows.spoolKnownRow.mainSum := by
  unfold Func.isWrapper; first | (rw [if_pos (by decide +kernel)]; kernel_rfl) | (rw [if_neg (by decide +kernel)]; exact ⟨rfl, rfl⟩)
theorem sp_row : Rows.SpoolKnownSaid :=
  OpenClaim.holds_of_wide 9 Tryz.f9 rfl rfl rfl rfl rfl rfl rfl ⟨rfl, rfl, rfl, rfl, rfl⟩ rfl rfl rfl rfl rfl sp_named9 Tryz.func9 sp_closed sp_instance sp_wrapper
    (fun os started H enc _ => sp_lifted os started H enc)
end Go.Proofs.YtedojhheppepdaaGreatDoor
