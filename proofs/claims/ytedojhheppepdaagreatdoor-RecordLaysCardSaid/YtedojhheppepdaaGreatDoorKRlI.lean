/-
  The card. No condition.
-/
import Derived.Test.YtedojhheppepdaaGreatDoorKRlH
import Derived.Test.YtedojhheppepdaaGreatDoorKRlL
import Derived.Test.YtedojhheppepdaaGreatDoorKJfD
import Derived.Test.YtedojhheppepdaaGreatDoorCards
import Derived.Test.YtedojhheppepdaaGreatDoorTie
import Derived.SevenTiedAt
namespace Go.Proofs.YtedojhheppepdaaGreatDoor
open Go Go.ChangeShapes Go.WideShapes Go.ChangeAt Go.RowKit
set_option maxRecDepth 100000
theorem Kmy : Tryz.prog.wantsStandIn 30 = false := by kernel_rfl
theorem recordLays_holds : Rows.RecordLaysCardSaid :=
  Claim7.holds_tied_plain_at .later [] [.data, .data, .data, .data, .pinned] true (true, "704d7985944ecc1e7b2079513b4b6438f06dcfb134194cd2a922a6e3550e714d") false
    Krs (fun _ h => by cases h) (by kernel_rfl) (fun _ h => by cases h) recordLays_row_tie rfl ⟨rfl, rfl⟩ Kff rfl
    (fun f fn hf hfn => by
      obtain rfl : f = 3 := Option.some.inj (Jtm.symm.trans hf) |>.symm
      obtain rfl : fn = Tryz.f3 := (Option.some.inj (Tryz.func3.symm.trans hfn)).symm
      exact ⟨Knm, fun j t ht => by
        rw [Jtl] at ht
        cases j with
        | zero => simp at ht; subst ht; exact Kmy
        | succ j => simp at ht⟩)
    Keo
end Go.Proofs.YtedojhheppepdaaGreatDoor
#print axioms Go.Proofs.YtedojhheppepdaaGreatDoor.recordLays_holds
