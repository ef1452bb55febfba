/-
  DERIVED. GIVEN WITH THE SEED: THE CARDS: each row of YtfahplfgamgoaaaGreatDoorRows.lean that lists a variable, with what it lists TIED to the program's text (the seventh form; the later family's looks); each row that meets fmt, with fmt's text TOLD by the authors' own Lean function (tested against real Go, not proved from fmt's source: count such statements apart). THE CARD IS WHAT COUNTS. Prove the row's statement (the work); the ties are given (YtfahplfgamgoaaaGreatDoorTie.lean); close each card by the builder's one call (the guide's Derived/Test/ToyasCard.lean, 'card_holds'). Laid BY PROGRAM, IN A SANDBOX (cutbox-door.mjs). By AI agents, Wed Nov 11 2026. No macro, syntax, notation, axiom, sorry.
-/
import Derived.Test.YtfahplfgamgoaaaGreatDoorRows
import GoSem.ClaimSeven
namespace Go.Proofs.YtfahplfgamgoaaaGreatDoor
namespace Rows

/-- THE TIED CARD OF 'cornucopialaw28.RepNone'. -/
def repNoneCard : Claim7 := { stood := { row := repNoneRow, standIns := [], harness := (true, "237a7e113828a321b071642c4cce66895b501ab123ab5b11053e3093685aadb5"), looks := true }, kinds := [], alts := [], laidByText := true, laidKinds := [.data, .pinned], laidTests := true, laidLooks := .later }
def RepNoneCardSaid : Prop := Claim7.holds Tryz.pinned (.plain (OpenSpec.ofChange repNoneSpec)) repNoneCard

/-- THE SECOND FORM's CARD OF 'cornucopialaw28.RepNone'. -/
def repNoneUptoCard : Claim7 := { stood := { row := repNoneUptoRow, standIns := [], harness := (true, "237a7e113828a321b071642c4cce66895b501ab123ab5b11053e3093685aadb5"), looks := true }, kinds := [], alts := [], laidByText := true, laidKinds := [.data, .pinned], laidTests := true, laidLooks := .later }
def RepNoneUptoCardSaid : Prop := Claim7.holds Tryz.pinned (.plain (OpenSpec.upto repNoneSpec)) repNoneUptoCard
end Rows
end Go.Proofs.YtfahplfgamgoaaaGreatDoor
