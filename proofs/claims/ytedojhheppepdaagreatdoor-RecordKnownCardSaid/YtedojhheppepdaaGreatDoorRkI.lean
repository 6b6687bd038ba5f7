/-
  RecordKnown: the tied card. No condition.
-/
import Derived.Test.YtedojhheppepdaaGreatDoorRkH
import Derived.Test.YtedojhheppepdaaGreatDoorRkL
import Derived.Test.YtedojhheppepdaaGreatDoorJfD
import Derived.Test.YtedojhheppepdaaGreatDoorCards
import Derived.Test.YtedojhheppepdaaGreatDoorTie
import Derived.SevenTiedAt
namespace Go.Proofs.YtedojhheppepdaaGreatDoor
open Go Go.ChangeShapes Go.WideShapes Go.ChangeAt Go.RowKit
set_option maxRecDepth 100000

theorem recordKnown_holds : Rows.RecordKnownCardSaid :=
  Claim7.holds_tied_plain_at .later [] [.data, .data, .data, .data, .pinned] true (true, "704d7985944ecc1e7b2079513b4b6438f06dcfb134194cd2a922a6e3550e714d") false
    rk_row (fun _ h => by cases h) (by kernel_rfl) (fun _ h => by cases h) recordKnown_row_tie rfl ⟨rfl, rfl⟩ jf_mainIs rfl
    (fun f fn hf hfn => by
      obtain rfl : f = 5 := Option.some.inj (rk_named5.symm.trans hf) |>.symm
      obtain rfl : fn = Tryz.f5 := (Option.some.inj (Tryz.func5.symm.trans hfn)).symm
      exact ⟨jf_looks, fun j t ht => by
        rw [rk_params] at ht
        simp at ht⟩)
    rk_goesBy
end Go.Proofs.YtedojhheppepdaaGreatDoor
#print axioms Go.Proofs.YtedojhheppepdaaGreatDoor.recordKnown_holds
