/-
  Part of the proof of a statement of this seat: walks of its functions and the closed run; no condition but those written in each theorem.
-/
import Derived.Test.YtfahplfgamgoaaaGreatDoorPD
namespace Go.Proofs.YtfahplfgamgoaaaGreatDoor.fnRepNone
set_option maxRecDepth 100000
open Go.ChangeShapes Go.WideShapes Go.ChangeAt Go.RowKit Go.VmK
theorem c5 : (Rows.repNoneRow.recurses == Tryz.pinned.checked.prog.recurses 3) = true := by kernel_rfl
end Go.Proofs.YtfahplfgamgoaaaGreatDoor.fnRepNone
