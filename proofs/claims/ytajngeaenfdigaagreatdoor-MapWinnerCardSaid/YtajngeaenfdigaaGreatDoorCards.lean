/-
  DERIVED. GIVEN WITH THE SEED: THE CARDS: each row of YtajngeaenfdigaaGreatDoorRows.lean that lists a variable, with what it lists TIED to the program's text (the seventh form; the later family's looks); each row that meets fmt, with fmt's text TOLD by the authors' own Lean function (tested against real Go, not proved from fmt's source: count such statements apart). THE CARD IS WHAT COUNTS. Prove the row's statement (the work); the ties are given (YtajngeaenfdigaaGreatDoorTie.lean); close each card by the builder's one call (the guide's Derived/Test/ToyasCard.lean, 'card_holds'). Laid BY PROGRAM, IN A SANDBOX (cutbox-door.mjs). By AI agents, Wed Nov 11 2026. No macro, syntax, notation, axiom, sorry.
-/
import Derived.Test.YtajngeaenfdigaaGreatDoorRows
import GoSem.ClaimSeven
namespace Go.Proofs.YtajngeaenfdigaaGreatDoor
namespace Rows

/-- THE TIED CARD OF 'cornucopialaw25.MapWinner'. -/
def mapWinnerCard : Claim7 := { stood := { row := mapWinnerRow, standIns := [], harness := (true, "c611f91a5fbb1191cdda0cc4da66956a4303a5d0515694064897d46d1a03dd7b"), looks := true }, kinds := [], alts := [], laidByText := true, laidKinds := [.data, .pinned], laidTests := true, laidLooks := .later }
def MapWinnerCardSaid : Prop := Claim7.holds Tryz.pinned (.plain (OpenSpec.ofChange mapWinnerSpec)) mapWinnerCard

/-- THE TIED CARD OF 'cornucopialaw25.MapBoth'. -/
def mapBothCard : Claim7 := { stood := { row := mapBothRow, standIns := [], harness := (true, "c611f91a5fbb1191cdda0cc4da66956a4303a5d0515694064897d46d1a03dd7b"), looks := true }, kinds := [], alts := [], laidByText := true, laidKinds := [.data, .pinned], laidTests := true, laidLooks := .later }
def MapBothCardSaid : Prop := Claim7.holds Tryz.pinned (.plain (OpenSpec.ofChange mapBothSpec)) mapBothCard

/-- THE SECOND FORM's CARD OF 'cornucopialaw25.MapWinner'. -/
def mapWinnerUptoCard : Claim7 := { stood := { row := mapWinnerUptoRow, standIns := [], harness := (true, "c611f91a5fbb1191cdda0cc4da66956a4303a5d0515694064897d46d1a03dd7b"), looks := true }, kinds := [], alts := [], laidByText := true, laidKinds := [.data, .pinned], laidTests := true, laidLooks := .later }
def MapWinnerUptoCardSaid : Prop := Claim7.holds Tryz.pinned (.plain (OpenSpec.upto mapWinnerSpec)) mapWinnerUptoCard

/-- THE SECOND FORM's CARD OF 'cornucopialaw25.MapBoth'. -/
def mapBothUptoCard : Claim7 := { stood := { row := mapBothUptoRow, standIns := [], harness := (true, "c611f91a5fbb1191cdda0cc4da66956a4303a5d0515694064897d46d1a03dd7b"), looks := true }, kinds := [], alts := [], laidByText := true, laidKinds := [.data, .pinned], laidTests := true, laidLooks := .later }
def MapBothUptoCardSaid : Prop := Claim7.holds Tryz.pinned (.plain (OpenSpec.upto mapBothSpec)) mapBothUptoCard
end Rows
end Go.Proofs.YtajngeaenfdigaaGreatDoor
