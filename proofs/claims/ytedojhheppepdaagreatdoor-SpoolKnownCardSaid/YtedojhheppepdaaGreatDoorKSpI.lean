/-
  SpoolKnown: the tied card. No condition.
-/
import Derived.Test.YtedojhheppepdaaGreatDoorKSpH
import Derived.Test.YtedojhheppepdaaGreatDoorKSpL
import Derived.Test.YtedojhheppepdaaGreatDoorKJfD
import Derived.Test.YtedojhheppepdaaGreatDoorCards
import Derived.Test.YtedojhheppepdaaGreatDoorTie
import Derived.SevenTiedAt

namespace Go.Proofs.YtedojhheppepdaaGreatDoor
open Go Go.ChangeShapes Go.WideShapes Go.ChangeAt Go.RowKit
set_option maxRecDepth 100000

theorem spoolKnown_holds : Rows.SpoolKnownCardSaid :=
  Claim7.holds_tied_plain_at .later [] [.data, .data, .data, .data, .data, .pinned] true (true, "704d7985944ecc1e7b2079513b4b6438f06dcfb134194cd2a922a6e3550e714d") false
    sp_row (fun _ h => by cases h) (by kernel_rfl) (fun _ h => by cases h) spoolKnown_row_tie rfl ⟨rfl, rfl⟩ jf_mainIs rfl
    (fun f fn hf hfn => by
      obtain rfl : f = 9 := Option.some.inj (sp_named9.symm.trans hf) |>.symm
      obtain rfl : fn = Tryz.f9 := (Option.some.inj (Tryz.func9.symm.trans hfn)).symm
      exact ⟨jf_looks, fun j t ht => by
        rw [sp_params] at ht
        simp at ht⟩)
    sp_goesBy
end Go.Proofs.YtedojhheppepdaaGreatDoor
#print axioms Go.Proofs.YtedojhheppepdaaGreatDoor.spoolKnown_holds
