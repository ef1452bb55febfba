/-
  Part of the proof of a statement of this seat: walks of its functions and the closed run; no condition but those written in each theorem.
-/
import Derived.Test.YtbanldnjpnfgkaaGreatDoorKD
namespace Go.Proofs.YtbanldnjpnfgkaaGreatDoor.fnRepReads
set_option maxRecDepth 100000
open Go.ChangeShapes Go.WideShapes Go.ChangeAt Go.RowKit Go.VmK
theorem c1 : mapsRowed Tryz.pinned.checked.prog = true := by kernel_rfl
theorem c8a : Tryz.pinned.checked.prog.stopsHeard = true := by kernel_rfl
theorem c8b : Tryz.pinned.checked.prog.mayEnter = true := by kernel_rfl
theorem c11 : laidOutB Tryz.pinned.checked.prog = true := laid_out
theorem c9 : (Rows.repReadsRow.lifted == Tryz.pinned.checked.prog.liftsFinal) = true := by kernel_rfl
theorem c7 : (Rows.repReadsRow.plainKeys == Tryz.pinned.checked.prog.plainKeys) = true := by kernel_rfl
end Go.Proofs.YtbanldnjpnfgkaaGreatDoor.fnRepReads
