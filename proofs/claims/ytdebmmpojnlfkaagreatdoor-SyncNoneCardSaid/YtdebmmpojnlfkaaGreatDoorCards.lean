/-
  DERIVED. GIVEN WITH THE SEED: THE CARDS: each row of YtdebmmpojnlfkaaGreatDoorRows.lean that lists a variable, with what it lists TIED to the program's text (the seventh form; the later family's looks); each row that meets fmt, with fmt's text TOLD by the authors' own Lean function (tested against real Go, not proved from fmt's source: count such statements apart). THE CARD IS WHAT COUNTS. Prove the row's statement (the work); the ties are given (YtdebmmpojnlfkaaGreatDoorTie.lean); close each card by the builder's one call (the guide's Derived/Test/ToyasCard.lean, 'card_holds'). Laid BY PROGRAM, IN A SANDBOX (cutbox-door.mjs). By AI agents, Wed Nov 11 2026. No macro, syntax, notation, axiom, sorry.
-/
import Derived.Test.YtdebmmpojnlfkaaGreatDoorRows
import GoSem.ClaimSeven
namespace Go.Proofs.YtdebmmpojnlfkaaGreatDoor
namespace Rows

/-- THE TIED CARD OF 'cornucopialaw27.SyncNone'. -/
def syncNoneCard : Claim7 := { stood := { row := syncNoneRow, standIns := [], harness := (true, "370071a0b5052b2e812fd344f90f49775c7c197a13181232c857ba888d80e970"), looks := true }, kinds := [], alts := [], laidByText := true, laidKinds := [.data, .pinned], laidTests := true, laidLooks := .later }
def SyncNoneCardSaid : Prop := Claim7.holds Tryz.pinned (.plain (OpenSpec.ofChange syncNoneSpec)) syncNoneCard

/-- THE SECOND FORM's CARD OF 'cornucopialaw27.SyncNone'. -/
def syncNoneUptoCard : Claim7 := { stood := { row := syncNoneUptoRow, standIns := [], harness := (true, "370071a0b5052b2e812fd344f90f49775c7c197a13181232c857ba888d80e970"), looks := true }, kinds := [], alts := [], laidByText := true, laidKinds := [.data, .pinned], laidTests := true, laidLooks := .later }
def SyncNoneUptoCardSaid : Prop := Claim7.holds Tryz.pinned (.plain (OpenSpec.upto syncNoneSpec)) syncNoneUptoCard
end Rows
end Go.Proofs.YtdebmmpojnlfkaaGreatDoor
