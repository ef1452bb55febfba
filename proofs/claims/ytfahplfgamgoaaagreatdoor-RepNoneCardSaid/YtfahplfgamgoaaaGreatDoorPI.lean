/-
  Part of the proof of a statement of this seat: walks of its functions and the closed run; no condition but those written in each theorem.
-/
import Derived.Test.YtfahplfgamgoaaaGreatDoorPD
namespace Go.Proofs.YtfahplfgamgoaaaGreatDoor.fnRepNone
set_option maxRecDepth 100000
open Go.ChangeShapes Go.WideShapes Go.ChangeAt Go.RowKit Go.VmK
theorem c4 : (Rows.repNoneRow.unfollowed == Tryz.pinned.checked.prog.unfollowed 3) = true := by kernel_rfl
end Go.Proofs.YtfahplfgamgoaaaGreatDoor.fnRepNone
