/-
  DERIVED. GIVEN WITH THE SEED: THE CARDS: each row of YtbanldnjpnfgkaaGreatDoorRows.lean that lists a variable, with what it lists TIED to the program's text (the seventh form; the later family's looks); each row that meets fmt, with fmt's text TOLD by the authors' own Lean function (tested against real Go, not proved from fmt's source: count such statements apart). THE CARD IS WHAT COUNTS. Prove the row's statement (the work); the ties are given (YtbanldnjpnfgkaaGreatDoorTie.lean); close each card by the builder's one call (the guide's Derived/Test/ToyasCard.lean, 'card_holds'). Laid BY PROGRAM, IN A SANDBOX (cutbox-door.mjs). By AI agents, Wed Nov 11 2026. No macro, syntax, notation, axiom, sorry.
-/
import Derived.Test.YtbanldnjpnfgkaaGreatDoorRows
import GoSem.ClaimSeven
namespace Go.Proofs.YtbanldnjpnfgkaaGreatDoor
namespace Rows

/-- THE TIED CARD OF 'cornucopialaw28.RepReads'. -/
def repReadsCard : Claim7 := { stood := { row := repReadsRow, standIns := [], harness := (true, "455b046f6b5b96e96a06a31ec3cfb9a34a7d335feffb64007e1435a28d19b854"), looks := true }, kinds := [], alts := [], laidByText := true, laidKinds := [.data, .pinned], laidTests := true, laidLooks := .later }
def RepReadsCardSaid : Prop := Claim7.holds Tryz.pinned (.plain (OpenSpec.ofChange repReadsSpec)) repReadsCard

/-- THE SECOND FORM's CARD OF 'cornucopialaw28.RepReads'. -/
def repReadsUptoCard : Claim7 := { stood := { row := repReadsUptoRow, standIns := [], harness := (true, "455b046f6b5b96e96a06a31ec3cfb9a34a7d335feffb64007e1435a28d19b854"), looks := true }, kinds := [], alts := [], laidByText := true, laidKinds := [.data, .pinned], laidTests := true, laidLooks := .later }
def RepReadsUptoCardSaid : Prop := Claim7.holds Tryz.pinned (.plain (OpenSpec.upto repReadsSpec)) repReadsUptoCard
end Rows
end Go.Proofs.YtbanldnjpnfgkaaGreatDoor
