/-
  DERIVED. GIVEN WITH THE SEED: THE CARDS: each row of YthcnhdiipbpdgaaGreatDoorRows.lean that lists a variable, with what it lists TIED to the program's text (the seventh form; the later family's looks); each row that meets fmt, with fmt's text TOLD by the authors' own Lean function (tested against real Go, not proved from fmt's source: count such statements apart). THE CARD IS WHAT COUNTS. Prove the row's statement (the work); the ties are given (YthcnhdiipbpdgaaGreatDoorTie.lean); close each card by the builder's one call (the guide's Derived/Test/ToyasCard.lean, 'card_holds'). Laid BY PROGRAM, IN A SANDBOX (cutbox-door.mjs). By AI agents, Wed Nov 11 2026. No macro, syntax, notation, axiom, sorry.
-/
import Derived.Test.YthcnhdiipbpdgaaGreatDoorRows
import GoSem.ClaimSeven
namespace Go.Proofs.YthcnhdiipbpdgaaGreatDoor
namespace Rows

/-- THE TIED CARD OF 'cornucopialaw17.LsmNone'. -/
def lsmNoneCard : Claim7 := { stood := { row := lsmNoneRow, standIns := [], harness := (true, "cdac06c4a7f5c35bb1f5d13c09c8eda4deaac640cb4a7055db6c78b3c66f8007"), looks := true }, kinds := [], alts := [], laidByText := true, laidKinds := [.data, .pinned], laidTests := true, laidLooks := .later }
def LsmNoneCardSaid : Prop := Claim7.holds Tryz.pinned (.plain (OpenSpec.ofChange lsmNoneSpec)) lsmNoneCard

/-- THE SECOND FORM's CARD OF 'cornucopialaw17.LsmNone'. -/
def lsmNoneUptoCard : Claim7 := { stood := { row := lsmNoneUptoRow, standIns := [], harness := (true, "cdac06c4a7f5c35bb1f5d13c09c8eda4deaac640cb4a7055db6c78b3c66f8007"), looks := true }, kinds := [], alts := [], laidByText := true, laidKinds := [.data, .pinned], laidTests := true, laidLooks := .later }
def LsmNoneUptoCardSaid : Prop := Claim7.holds Tryz.pinned (.plain (OpenSpec.upto lsmNoneSpec)) lsmNoneUptoCard
end Rows
end Go.Proofs.YthcnhdiipbpdgaaGreatDoor
