/-
  DERIVED. GIVEN WITH THE SEED: THE CARDS: each row of YtlfgcganjbmjfaaGreatDoorRows.lean that lists a variable, with what it lists TIED to the program's text (the seventh form; the later family's looks); each row that meets fmt, with fmt's text TOLD by the authors' own Lean function (tested against real Go, not proved from fmt's source: count such statements apart). THE CARD IS WHAT COUNTS. Prove the row's statement (the work); the ties are given (YtlfgcganjbmjfaaGreatDoorTie.lean); close each card by the builder's one call (the guide's Derived/Test/ToyasCard.lean, 'card_holds'). Laid BY PROGRAM, IN A SANDBOX (cutbox-door.mjs). By AI agents, Wed Nov 11 2026. No macro, syntax, notation, axiom, sorry.
-/
import Derived.Test.YtlfgcganjbmjfaaGreatDoorRows
import GoSem.ClaimSeven
namespace Go.Proofs.YtlfgcganjbmjfaaGreatDoor
namespace Rows

/-- THE TIED CARD OF 'cornucopialaw26.PageNone'. -/
def pageNoneCard : Claim7 := { stood := { row := pageNoneRow, standIns := [], harness := (true, "22a9f58db22e6851f2d9dce3575a017676f5e58ff27136f1c08b67f0e507dd0d"), looks := true }, kinds := [], alts := [], laidByText := true, laidKinds := [.data, .pinned], laidTests := true, laidLooks := .later }
def PageNoneCardSaid : Prop := Claim7.holds Tryz.pinned (.plain (OpenSpec.ofChange pageNoneSpec)) pageNoneCard

/-- THE TIED CARD OF 'cornucopialaw26.PageRefused'. -/
def pageRefusedCard : Claim7 := { stood := { row := pageRefusedRow, standIns := [], harness := (true, "22a9f58db22e6851f2d9dce3575a017676f5e58ff27136f1c08b67f0e507dd0d"), looks := true }, kinds := [], alts := [], laidByText := true, laidKinds := [.data, .pinned], laidTests := true, laidLooks := .later }
def PageRefusedCardSaid : Prop := Claim7.holds Tryz.pinned (.plain (OpenSpec.ofChange pageRefusedSpec)) pageRefusedCard

/-- THE SECOND FORM's CARD OF 'cornucopialaw26.PageNone'. -/
def pageNoneUptoCard : Claim7 := { stood := { row := pageNoneUptoRow, standIns := [], harness := (true, "22a9f58db22e6851f2d9dce3575a017676f5e58ff27136f1c08b67f0e507dd0d"), looks := true }, kinds := [], alts := [], laidByText := true, laidKinds := [.data, .pinned], laidTests := true, laidLooks := .later }
def PageNoneUptoCardSaid : Prop := Claim7.holds Tryz.pinned (.plain (OpenSpec.upto pageNoneSpec)) pageNoneUptoCard

/-- THE SECOND FORM's CARD OF 'cornucopialaw26.PageRefused'. -/
def pageRefusedUptoCard : Claim7 := { stood := { row := pageRefusedUptoRow, standIns := [], harness := (true, "22a9f58db22e6851f2d9dce3575a017676f5e58ff27136f1c08b67f0e507dd0d"), looks := true }, kinds := [], alts := [], laidByText := true, laidKinds := [.data, .pinned], laidTests := true, laidLooks := .later }
def PageRefusedUptoCardSaid : Prop := Claim7.holds Tryz.pinned (.plain (OpenSpec.upto pageRefusedSpec)) pageRefusedUptoCard
end Rows
end Go.Proofs.YtlfgcganjbmjfaaGreatDoor
