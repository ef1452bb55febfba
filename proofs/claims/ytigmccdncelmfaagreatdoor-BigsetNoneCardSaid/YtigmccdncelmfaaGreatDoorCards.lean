/-
  DERIVED. GIVEN WITH THE SEED: THE CARDS: each row of YtigmccdncelmfaaGreatDoorRows.lean that lists a variable, with what it lists TIED to the program's text (the seventh form; the later family's looks); each row that meets fmt, with fmt's text TOLD by the authors' own Lean function (tested against real Go, not proved from fmt's source: count such statements apart). THE CARD IS WHAT COUNTS. Prove the row's statement (the work); the ties are given (YtigmccdncelmfaaGreatDoorTie.lean); close each card by the builder's one call (the guide's Derived/Test/ToyasCard.lean, 'card_holds'). Laid BY PROGRAM, IN A SANDBOX (cutbox-door.mjs). By AI agents, Wed Nov 11 2026. No macro, syntax, notation, axiom, sorry.
-/
import Derived.Test.YtigmccdncelmfaaGreatDoorRows
import GoSem.ClaimSeven
namespace Go.Proofs.YtigmccdncelmfaaGreatDoor
namespace Rows

/-- THE TIED CARD OF 'cornucopialaw24.BigsetNone'. -/
def bigsetNoneCard : Claim7 := { stood := { row := bigsetNoneRow, standIns := [], harness := (true, "cb7fe63307cfb2a8910e887d14d58065fed5c59330761caa3cfe1b93c6ade0de"), looks := true }, kinds := [], alts := [], laidByText := true, laidKinds := [.data, .pinned], laidTests := true, laidLooks := .later }
def BigsetNoneCardSaid : Prop := Claim7.holds Tryz.pinned (.plain (OpenSpec.ofChange bigsetNoneSpec)) bigsetNoneCard

/-- THE SECOND FORM's CARD OF 'cornucopialaw24.BigsetNone'. -/
def bigsetNoneUptoCard : Claim7 := { stood := { row := bigsetNoneUptoRow, standIns := [], harness := (true, "cb7fe63307cfb2a8910e887d14d58065fed5c59330761caa3cfe1b93c6ade0de"), looks := true }, kinds := [], alts := [], laidByText := true, laidKinds := [.data, .pinned], laidTests := true, laidLooks := .later }
def BigsetNoneUptoCardSaid : Prop := Claim7.holds Tryz.pinned (.plain (OpenSpec.upto bigsetNoneSpec)) bigsetNoneUptoCard
end Rows
end Go.Proofs.YtigmccdncelmfaaGreatDoor
