/-
  DERIVED. GIVEN WITH THE SEED: THE CARDS: each row of YtedojhheppepdaaGreatDoorRows.lean that lists a variable, with what it lists TIED to the program's text (the seventh form; the later family's looks); each row that meets fmt, with fmt's text TOLD by the authors' own Lean function (tested against real Go, not proved from fmt's source: count such statements apart). THE CARD IS WHAT COUNTS. Prove the row's statement (the work); the ties are given (YtedojhheppepdaaGreatDoorTie.lean); close each card by the builder's one call (the guide's Derived/Test/ToyasCard.lean, 'card_holds'). Laid BY PROGRAM, IN A SANDBOX (cutbox-door.mjs). By AI agents, Wed Nov 11 2026. No macro, syntax, notation, axiom, sorry.
-/
import Derived.Test.YtedojhheppepdaaGreatDoorRows
import GoSem.ClaimSeven
namespace Go.Proofs.YtedojhheppepdaaGreatDoor
namespace Rows

/-- THE TIED CARD OF 'postriderlaw23.RecordLays'. -/
def recordLaysCard : Claim7 := { stood := { row := recordLaysRow, standIns := [], harness := (true, "704d7985944ecc1e7b2079513b4b6438f06dcfb134194cd2a922a6e3550e714d"), looks := false }, kinds := [], alts := [], laidByText := true, laidKinds := [.data, .data, .data, .data, .pinned], laidTests := true, laidLooks := .later }
def RecordLaysCardSaid : Prop := Claim7.holds Tryz.pinned (.plain (OpenSpec.ofChange recordLaysSpec)) recordLaysCard

/-- THE TIED CARD OF 'postriderlaw23.RecordReads'. -/
def recordReadsCard : Claim7 := { stood := { row := recordReadsRow, standIns := [], harness := (true, "704d7985944ecc1e7b2079513b4b6438f06dcfb134194cd2a922a6e3550e714d"), looks := false }, kinds := [], alts := [], laidByText := true, laidKinds := [.data, .data, .data, .data, .pinned], laidTests := true, laidLooks := .later }
def RecordReadsCardSaid : Prop := Claim7.holds Tryz.pinned (.plain (OpenSpec.ofChange recordReadsSpec)) recordReadsCard

/-- THE TIED CARD OF 'postriderlaw23.RecordKnown'. -/
def recordKnownCard : Claim7 := { stood := { row := recordKnownRow, standIns := [], harness := (true, "704d7985944ecc1e7b2079513b4b6438f06dcfb134194cd2a922a6e3550e714d"), looks := false }, kinds := [], alts := [], laidByText := true, laidKinds := [.data, .data, .data, .data, .pinned], laidTests := true, laidLooks := .later }
def RecordKnownCardSaid : Prop := Claim7.holds Tryz.pinned (.plain (OpenSpec.ofChange recordKnownSpec)) recordKnownCard

/-- THE TIED CARD OF 'postriderlaw24.SpoolBounce'. -/
def spoolBounceCard : Claim7 := { stood := { row := spoolBounceRow, standIns := [], harness := (true, "704d7985944ecc1e7b2079513b4b6438f06dcfb134194cd2a922a6e3550e714d"), looks := false }, kinds := [], alts := [], laidByText := true, laidKinds := [.data, .data, .data, .data, .data, .pinned], laidTests := true, laidLooks := .later }
def SpoolBounceCardSaid : Prop := Claim7.holds Tryz.pinned (.plain (OpenSpec.ofChange spoolBounceSpec)) spoolBounceCard

/-- THE TIED CARD OF 'postriderlaw24.SpoolGood'. -/
def spoolGoodCard : Claim7 := { stood := { row := spoolGoodRow, standIns := [], harness := (true, "704d7985944ecc1e7b2079513b4b6438f06dcfb134194cd2a922a6e3550e714d"), looks := false }, kinds := [], alts := [], laidByText := true, laidKinds := [.data, .data, .data, .data, .data, .pinned], laidTests := true, laidLooks := .later }
def SpoolGoodCardSaid : Prop := Claim7.holds Tryz.pinned (.plain (OpenSpec.ofChange spoolGoodSpec)) spoolGoodCard

/-- THE TIED CARD OF 'postriderlaw24.SpoolPicks'. -/
def spoolPicksCard : Claim7 := { stood := { row := spoolPicksRow, standIns := [], harness := (true, "704d7985944ecc1e7b2079513b4b6438f06dcfb134194cd2a922a6e3550e714d"), looks := false }, kinds := [], alts := [], laidByText := true, laidKinds := [.data, .data, .data, .data, .data, .pinned], laidTests := true, laidLooks := .later }
def SpoolPicksCardSaid : Prop := Claim7.holds Tryz.pinned (.plain (OpenSpec.ofChange spoolPicksSpec)) spoolPicksCard

/-- THE TIED CARD OF 'postriderlaw24.SpoolKnown'. -/
def spoolKnownCard : Claim7 := { stood := { row := spoolKnownRow, standIns := [], harness := (true, "704d7985944ecc1e7b2079513b4b6438f06dcfb134194cd2a922a6e3550e714d"), looks := false }, kinds := [], alts := [], laidByText := true, laidKinds := [.data, .data, .data, .data, .data, .pinned], laidTests := true, laidLooks := .later }
def SpoolKnownCardSaid : Prop := Claim7.holds Tryz.pinned (.plain (OpenSpec.ofChange spoolKnownSpec)) spoolKnownCard

/-- THE TIED CARD OF 'postriderlaw23.RecordApart'. -/
def recordApartCard : Claim7 := { stood := { row := recordApartRow, standIns := [], harness := (true, "704d7985944ecc1e7b2079513b4b6438f06dcfb134194cd2a922a6e3550e714d"), looks := false }, kinds := [], alts := [], laidByText := true, laidKinds := [.data, .data, .data, .data, .pinned, .pinned], laidTests := true, laidLooks := .later }
def RecordApartCardSaid : Prop := Claim7.holds Tryz.pinned (.plain (OpenSpec.ofChange recordApartSpec)) recordApartCard

/-- THE TIED CARD OF 'postriderlaw23.RecordBack'. -/
def recordBackCard : Claim7 := { stood := { row := recordBackRow, standIns := [], harness := (true, "704d7985944ecc1e7b2079513b4b6438f06dcfb134194cd2a922a6e3550e714d"), looks := false }, kinds := [], alts := [], laidByText := true, laidKinds := [.data, .data, .data, .data, .pinned, .pinned], laidTests := true, laidLooks := .later }
def RecordBackCardSaid : Prop := Claim7.holds Tryz.pinned (.plain (OpenSpec.ofChange recordBackSpec)) recordBackCard

/-- THE SECOND FORM's CARD OF 'postriderlaw23.RecordLays'. -/
def recordLaysUptoCard : Claim7 := { stood := { row := recordLaysUptoRow, standIns := [], harness := (true, "704d7985944ecc1e7b2079513b4b6438f06dcfb134194cd2a922a6e3550e714d"), looks := false }, kinds := [], alts := [], laidByText := true, laidKinds := [.data, .data, .data, .data, .pinned], laidTests := true, laidLooks := .later }
def RecordLaysUptoCardSaid : Prop := Claim7.holds Tryz.pinned (.plain (OpenSpec.upto recordLaysSpec)) recordLaysUptoCard

/-- THE SECOND FORM's CARD OF 'postriderlaw23.RecordReads'. -/
def recordReadsUptoCard : Claim7 := { stood := { row := recordReadsUptoRow, standIns := [], harness := (true, "704d7985944ecc1e7b2079513b4b6438f06dcfb134194cd2a922a6e3550e714d"), looks := false }, kinds := [], alts := [], laidByText := true, laidKinds := [.data, .data, .data, .data, .pinned], laidTests := true, laidLooks := .later }
def RecordReadsUptoCardSaid : Prop := Claim7.holds Tryz.pinned (.plain (OpenSpec.upto recordReadsSpec)) recordReadsUptoCard

/-- THE SECOND FORM's CARD OF 'postriderlaw23.RecordKnown'. -/
def recordKnownUptoCard : Claim7 := { stood := { row := recordKnownUptoRow, standIns := [], harness := (true, "704d7985944ecc1e7b2079513b4b6438f06dcfb134194cd2a922a6e3550e714d"), looks := false }, kinds := [], alts := [], laidByText := true, laidKinds := [.data, .data, .data, .data, .pinned], laidTests := true, laidLooks := .later }
def RecordKnownUptoCardSaid : Prop := Claim7.holds Tryz.pinned (.plain (OpenSpec.upto recordKnownSpec)) recordKnownUptoCard

/-- THE SECOND FORM's CARD OF 'postriderlaw24.SpoolBounce'. -/
def spoolBounceUptoCard : Claim7 := { stood := { row := spoolBounceUptoRow, standIns := [], harness := (true, "704d7985944ecc1e7b2079513b4b6438f06dcfb134194cd2a922a6e3550e714d"), looks := false }, kinds := [], alts := [], laidByText := true, laidKinds := [.data, .data, .data, .data, .data, .pinned], laidTests := true, laidLooks := .later }
def SpoolBounceUptoCardSaid : Prop := Claim7.holds Tryz.pinned (.plain (OpenSpec.upto spoolBounceSpec)) spoolBounceUptoCard

/-- THE SECOND FORM's CARD OF 'postriderlaw24.SpoolGood'. -/
def spoolGoodUptoCard : Claim7 := { stood := { row := spoolGoodUptoRow, standIns := [], harness := (true, "704d7985944ecc1e7b2079513b4b6438f06dcfb134194cd2a922a6e3550e714d"), looks := false }, kinds := [], alts := [], laidByText := true, laidKinds := [.data, .data, .data, .data, .data, .pinned], laidTests := true, laidLooks := .later }
def SpoolGoodUptoCardSaid : Prop := Claim7.holds Tryz.pinned (.plain (OpenSpec.upto spoolGoodSpec)) spoolGoodUptoCard

/-- THE SECOND FORM's CARD OF 'postriderlaw24.SpoolPicks'. -/
def spoolPicksUptoCard : Claim7 := { stood := { row := spoolPicksUptoRow, standIns := [], harness := (true, "704d7985944ecc1e7b2079513b4b6438f06dcfb134194cd2a922a6e3550e714d"), looks := false }, kinds := [], alts := [], laidByText := true, laidKinds := [.data, .data, .data, .data, .data, .pinned], laidTests := true, laidLooks := .later }
def SpoolPicksUptoCardSaid : Prop := Claim7.holds Tryz.pinned (.plain (OpenSpec.upto spoolPicksSpec)) spoolPicksUptoCard

/-- THE SECOND FORM's CARD OF 'postriderlaw24.SpoolKnown'. -/
def spoolKnownUptoCard : Claim7 := { stood := { row := spoolKnownUptoRow, standIns := [], harness := (true, "704d7985944ecc1e7b2079513b4b6438f06dcfb134194cd2a922a6e3550e714d"), looks := false }, kinds := [], alts := [], laidByText := true, laidKinds := [.data, .data, .data, .data, .data, .pinned], laidTests := true, laidLooks := .later }
def SpoolKnownUptoCardSaid : Prop := Claim7.holds Tryz.pinned (.plain (OpenSpec.upto spoolKnownSpec)) spoolKnownUptoCard

/-- THE SECOND FORM's CARD OF 'postriderlaw23.RecordApart'. -/
def recordApartUptoCard : Claim7 := { stood := { row := recordApartUptoRow, standIns := [], harness := (true, "704d7985944ecc1e7b2079513b4b6438f06dcfb134194cd2a922a6e3550e714d"), looks := false }, kinds := [], alts := [], laidByText := true, laidKinds := [.data, .data, .data, .data, .pinned, .pinned], laidTests := true, laidLooks := .later }
def RecordApartUptoCardSaid : Prop := Claim7.holds Tryz.pinned (.plain (OpenSpec.upto recordApartSpec)) recordApartUptoCard

/-- THE SECOND FORM's CARD OF 'postriderlaw23.RecordBack'. -/
def recordBackUptoCard : Claim7 := { stood := { row := recordBackUptoRow, standIns := [], harness := (true, "704d7985944ecc1e7b2079513b4b6438f06dcfb134194cd2a922a6e3550e714d"), looks := false }, kinds := [], alts := [], laidByText := true, laidKinds := [.data, .data, .data, .data, .pinned, .pinned], laidTests := true, laidLooks := .later }
def RecordBackUptoCardSaid : Prop := Claim7.holds Tryz.pinned (.plain (OpenSpec.upto recordBackSpec)) recordBackUptoCard
end Rows
end Go.Proofs.YtedojhheppepdaaGreatDoor
