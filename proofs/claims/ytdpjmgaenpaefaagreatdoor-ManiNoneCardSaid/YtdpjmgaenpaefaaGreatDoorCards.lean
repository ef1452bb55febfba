/-
  DERIVED. GIVEN WITH THE SEED: THE CARDS: each row of YtdpjmgaenpaefaaGreatDoorRows.lean that lists a variable, with what it lists TIED to the program's text (the seventh form; the later family's looks); each row that meets fmt, with fmt's text TOLD by the authors' own Lean function (tested against real Go, not proved from fmt's source: count such statements apart). THE CARD IS WHAT COUNTS. Prove the row's statement (the work); the ties are given (YtdpjmgaenpaefaaGreatDoorTie.lean); close each card by the builder's one call (the guide's Derived/Test/ToyasCard.lean, 'card_holds'). Laid BY PROGRAM, IN A SANDBOX (cutbox-door.mjs). By AI agents, Wed Nov 11 2026. No macro, syntax, notation, axiom, sorry.
-/
import Derived.Test.YtdpjmgaenpaefaaGreatDoorRows
import GoSem.ClaimSeven
namespace Go.Proofs.YtdpjmgaenpaefaaGreatDoor
namespace Rows

/-- THE TIED CARD OF 'cornucopialaw13.ManiAnew'. -/
def maniAnewCard : Claim7 := { stood := { row := maniAnewRow, standIns := [], harness := (true, "502122c722f5911e51024b69d7a0020fff4d17bc52953c73d078abfefceffb2d"), looks := true }, kinds := [], alts := [], laidByText := true, laidKinds := [.data, .pinned], laidTests := true, laidLooks := .later }
def ManiAnewCardSaid : Prop := Claim7.holds Tryz.pinned (.plain (OpenSpec.ofChange maniAnewSpec)) maniAnewCard

/-- THE TIED CARD OF 'cornucopialaw13.ManiNone'. -/
def maniNoneCard : Claim7 := { stood := { row := maniNoneRow, standIns := [], harness := (true, "502122c722f5911e51024b69d7a0020fff4d17bc52953c73d078abfefceffb2d"), looks := true }, kinds := [], alts := [], laidByText := true, laidKinds := [.data, .pinned], laidTests := true, laidLooks := .later }
def ManiNoneCardSaid : Prop := Claim7.holds Tryz.pinned (.plain (OpenSpec.ofChange maniNoneSpec)) maniNoneCard

/-- THE TIED CARD OF 'cornucopialaw13.ManiSpoilt'. -/
def maniSpoiltCard : Claim7 := { stood := { row := maniSpoiltRow, standIns := [], harness := (true, "502122c722f5911e51024b69d7a0020fff4d17bc52953c73d078abfefceffb2d"), looks := true }, kinds := [], alts := [], laidByText := true, laidKinds := [.data, .pinned], laidTests := true, laidLooks := .later }
def ManiSpoiltCardSaid : Prop := Claim7.holds Tryz.pinned (.plain (OpenSpec.ofChange maniSpoiltSpec)) maniSpoiltCard

/-- THE TIED CARD OF 'cornucopialaw13.ManiWhole'. -/
def maniWholeCard : Claim7 := { stood := { row := maniWholeRow, standIns := [], harness := (true, "502122c722f5911e51024b69d7a0020fff4d17bc52953c73d078abfefceffb2d"), looks := true }, kinds := [], alts := [], laidByText := true, laidKinds := [.data, .pinned], laidTests := true, laidLooks := .later }
def ManiWholeCardSaid : Prop := Claim7.holds Tryz.pinned (.plain (OpenSpec.ofChange maniWholeSpec)) maniWholeCard

/-- THE TIED CARD OF 'cornucopialaw13.ManiPlays'. -/
def maniPlaysCard : Claim7 := { stood := { row := maniPlaysRow, standIns := [], harness := (true, "502122c722f5911e51024b69d7a0020fff4d17bc52953c73d078abfefceffb2d"), looks := true }, kinds := [], alts := [], laidByText := true, laidKinds := [.data, .pinned], laidTests := true, laidLooks := .later }
def ManiPlaysCardSaid : Prop := Claim7.holds Tryz.pinned (.plain (OpenSpec.ofChange maniPlaysSpec)) maniPlaysCard

/-- THE SECOND FORM's CARD OF 'cornucopialaw13.ManiAnew'. -/
def maniAnewUptoCard : Claim7 := { stood := { row := maniAnewUptoRow, standIns := [], harness := (true, "502122c722f5911e51024b69d7a0020fff4d17bc52953c73d078abfefceffb2d"), looks := true }, kinds := [], alts := [], laidByText := true, laidKinds := [.data, .pinned], laidTests := true, laidLooks := .later }
def ManiAnewUptoCardSaid : Prop := Claim7.holds Tryz.pinned (.plain (OpenSpec.upto maniAnewSpec)) maniAnewUptoCard

/-- THE SECOND FORM's CARD OF 'cornucopialaw13.ManiNone'. -/
def maniNoneUptoCard : Claim7 := { stood := { row := maniNoneUptoRow, standIns := [], harness := (true, "502122c722f5911e51024b69d7a0020fff4d17bc52953c73d078abfefceffb2d"), looks := true }, kinds := [], alts := [], laidByText := true, laidKinds := [.data, .pinned], laidTests := true, laidLooks := .later }
def ManiNoneUptoCardSaid : Prop := Claim7.holds Tryz.pinned (.plain (OpenSpec.upto maniNoneSpec)) maniNoneUptoCard

/-- THE SECOND FORM's CARD OF 'cornucopialaw13.ManiSpoilt'. -/
def maniSpoiltUptoCard : Claim7 := { stood := { row := maniSpoiltUptoRow, standIns := [], harness := (true, "502122c722f5911e51024b69d7a0020fff4d17bc52953c73d078abfefceffb2d"), looks := true }, kinds := [], alts := [], laidByText := true, laidKinds := [.data, .pinned], laidTests := true, laidLooks := .later }
def ManiSpoiltUptoCardSaid : Prop := Claim7.holds Tryz.pinned (.plain (OpenSpec.upto maniSpoiltSpec)) maniSpoiltUptoCard

/-- THE SECOND FORM's CARD OF 'cornucopialaw13.ManiWhole'. -/
def maniWholeUptoCard : Claim7 := { stood := { row := maniWholeUptoRow, standIns := [], harness := (true, "502122c722f5911e51024b69d7a0020fff4d17bc52953c73d078abfefceffb2d"), looks := true }, kinds := [], alts := [], laidByText := true, laidKinds := [.data, .pinned], laidTests := true, laidLooks := .later }
def ManiWholeUptoCardSaid : Prop := Claim7.holds Tryz.pinned (.plain (OpenSpec.upto maniWholeSpec)) maniWholeUptoCard

/-- THE SECOND FORM's CARD OF 'cornucopialaw13.ManiPlays'. -/
def maniPlaysUptoCard : Claim7 := { stood := { row := maniPlaysUptoRow, standIns := [], harness := (true, "502122c722f5911e51024b69d7a0020fff4d17bc52953c73d078abfefceffb2d"), looks := true }, kinds := [], alts := [], laidByText := true, laidKinds := [.data, .pinned], laidTests := true, laidLooks := .later }
def ManiPlaysUptoCardSaid : Prop := Claim7.holds Tryz.pinned (.plain (OpenSpec.upto maniPlaysSpec)) maniPlaysUptoCard
end Rows
end Go.Proofs.YtdpjmgaenpaefaaGreatDoor
