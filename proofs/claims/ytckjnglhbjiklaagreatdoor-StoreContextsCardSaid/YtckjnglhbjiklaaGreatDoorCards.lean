/-
  DERIVED. GIVEN WITH THE SEED: THE CARDS: each row of YtckjnglhbjiklaaGreatDoorRows.lean that lists a variable, with what it lists TIED to the program's text (the seventh form; the later family's looks); each row that meets fmt, with fmt's text TOLD by the authors' own Lean function (tested against real Go, not proved from fmt's source: count such statements apart). THE CARD IS WHAT COUNTS. Prove the row's statement (the work); the ties are given (YtckjnglhbjiklaaGreatDoorTie.lean); close each card by the builder's one call (the guide's Derived/Test/ToyasCard.lean, 'card_holds'). Laid BY PROGRAM, IN A SANDBOX (cutbox-door.mjs). By AI agents, Wed Nov 11 2026. No macro, syntax, notation, axiom, sorry.
-/
import Derived.Test.YtckjnglhbjiklaaGreatDoorRows
import GoSem.ClaimSeven
namespace Go.Proofs.YtckjnglhbjiklaaGreatDoor
namespace Rows

/-- THE TIED CARD OF 'cornucopialaw30.StoreContexts'. -/
def storeContextsCard : Claim7 := { stood := { row := storeContextsRow, standIns := [], harness := (true, "79fc5213d89255734e1681fa78c41d8272ad08c5b1d539bc0f5aff1f8d83d265"), looks := true }, kinds := [], alts := [], laidByText := true, laidKinds := [.data, .pinned], laidTests := true, laidLooks := .later }
def StoreContextsCardSaid : Prop := Claim7.holds Tryz.pinned (.plain (OpenSpec.ofChange storeContextsSpec)) storeContextsCard

/-- THE TIED CARD OF 'cornucopialaw30.StoreKinds'. -/
def storeKindsCard : Claim7 := { stood := { row := storeKindsRow, standIns := [], harness := (true, "79fc5213d89255734e1681fa78c41d8272ad08c5b1d539bc0f5aff1f8d83d265"), looks := true }, kinds := [], alts := [], laidByText := true, laidKinds := [.data, .pinned], laidTests := true, laidLooks := .later }
def StoreKindsCardSaid : Prop := Claim7.holds Tryz.pinned (.plain (OpenSpec.ofChange storeKindsSpec)) storeKindsCard

/-- THE SECOND FORM's CARD OF 'cornucopialaw30.StoreContexts'. -/
def storeContextsUptoCard : Claim7 := { stood := { row := storeContextsUptoRow, standIns := [], harness := (true, "79fc5213d89255734e1681fa78c41d8272ad08c5b1d539bc0f5aff1f8d83d265"), looks := true }, kinds := [], alts := [], laidByText := true, laidKinds := [.data, .pinned], laidTests := true, laidLooks := .later }
def StoreContextsUptoCardSaid : Prop := Claim7.holds Tryz.pinned (.plain (OpenSpec.upto storeContextsSpec)) storeContextsUptoCard

/-- THE SECOND FORM's CARD OF 'cornucopialaw30.StoreKinds'. -/
def storeKindsUptoCard : Claim7 := { stood := { row := storeKindsUptoRow, standIns := [], harness := (true, "79fc5213d89255734e1681fa78c41d8272ad08c5b1d539bc0f5aff1f8d83d265"), looks := true }, kinds := [], alts := [], laidByText := true, laidKinds := [.data, .pinned], laidTests := true, laidLooks := .later }
def StoreKindsUptoCardSaid : Prop := Claim7.holds Tryz.pinned (.plain (OpenSpec.upto storeKindsSpec)) storeKindsUptoCard
end Rows
end Go.Proofs.YtckjnglhbjiklaaGreatDoor
