/-
  DERIVED. GIVEN WITH THE SEED: THE CARDS: each row of YtmolnkhehdjljaaGreatDoorRows.lean that lists a variable, with what it lists TIED to the program's text (the seventh form; the later family's looks); each row that meets fmt, with fmt's text TOLD by the authors' own Lean function (tested against real Go, not proved from fmt's source: count such statements apart). THE CARD IS WHAT COUNTS. Prove the row's statement (the work); the ties are given (YtmolnkhehdjljaaGreatDoorTie.lean); close each card by the builder's one call (the guide's Derived/Test/ToyasCard.lean, 'card_holds'). Laid BY PROGRAM, IN A SANDBOX (cutbox-door.mjs). By AI agents, Wed Nov 11 2026. No macro, syntax, notation, axiom, sorry.
-/
import Derived.Test.YtmolnkhehdjljaaGreatDoorRows
import GoSem.ClaimSeven
namespace Go.Proofs.YtmolnkhehdjljaaGreatDoor
namespace Rows

/-- THE TIED CARD OF 'cornucopialaw28.RepAgain'. -/
def repAgainCard : Claim7 := { stood := { row := repAgainRow, standIns := [], harness := (true, "81d23cda4dc450de378dbbaaa2609a1b6808345fc5ab1dd7a8d7f72f84eeca11"), looks := true }, kinds := [], alts := [], laidByText := true, laidKinds := [.data, .pinned], laidTests := true, laidLooks := .later }
def RepAgainCardSaid : Prop := Claim7.holds Tryz.pinned (.plain (OpenSpec.ofChange repAgainSpec)) repAgainCard

/-- THE SECOND FORM's CARD OF 'cornucopialaw28.RepAgain'. -/
def repAgainUptoCard : Claim7 := { stood := { row := repAgainUptoRow, standIns := [], harness := (true, "81d23cda4dc450de378dbbaaa2609a1b6808345fc5ab1dd7a8d7f72f84eeca11"), looks := true }, kinds := [], alts := [], laidByText := true, laidKinds := [.data, .pinned], laidTests := true, laidLooks := .later }
def RepAgainUptoCardSaid : Prop := Claim7.holds Tryz.pinned (.plain (OpenSpec.upto repAgainSpec)) repAgainUptoCard
end Rows
end Go.Proofs.YtmolnkhehdjljaaGreatDoor
