/-
  DERIVED. GIVEN WITH THE SEED: THE CARDS: each row of YtanepmneapepkaaGreatDoorRows.lean that lists a variable, with what it lists TIED to the program's text (the seventh form; the later family's looks); each row that meets fmt, with fmt's text TOLD by the authors' own Lean function (tested against real Go, not proved from fmt's source: count such statements apart). THE CARD IS WHAT COUNTS. Prove the row's statement (the work); the ties are given (YtanepmneapepkaaGreatDoorTie.lean); close each card by the builder's one call (the guide's Derived/Test/ToyasCard.lean, 'card_holds'). Laid BY PROGRAM, IN A SANDBOX (cutbox-door.mjs). By AI agents, Wed Nov 11 2026. No macro, syntax, notation, axiom, sorry.
-/
import Derived.Test.YtanepmneapepkaaGreatDoorRows
import GoSem.ClaimSeven
namespace Go.Proofs.YtanepmneapepkaaGreatDoor
namespace Rows

/-- THE TIED CARD OF 'cornucopialaw17.LsmRefuses'. -/
def lsmRefusesCard : Claim7 := { stood := { row := lsmRefusesRow, standIns := [], harness := (true, "82fc174d9f5a6b122a0d76477309ae7ef1da86c5e574d1971a6d4952ffe085b9"), looks := true }, kinds := [], alts := [], laidByText := true, laidKinds := [.data, .pinned], laidTests := true, laidLooks := .later }
def LsmRefusesCardSaid : Prop := Claim7.holds Tryz.pinned (.plain (OpenSpec.ofChange lsmRefusesSpec)) lsmRefusesCard

/-- THE SECOND FORM's CARD OF 'cornucopialaw17.LsmRefuses'. -/
def lsmRefusesUptoCard : Claim7 := { stood := { row := lsmRefusesUptoRow, standIns := [], harness := (true, "82fc174d9f5a6b122a0d76477309ae7ef1da86c5e574d1971a6d4952ffe085b9"), looks := true }, kinds := [], alts := [], laidByText := true, laidKinds := [.data, .pinned], laidTests := true, laidLooks := .later }
def LsmRefusesUptoCardSaid : Prop := Claim7.holds Tryz.pinned (.plain (OpenSpec.upto lsmRefusesSpec)) lsmRefusesUptoCard
end Rows
end Go.Proofs.YtanepmneapepkaaGreatDoor
