/-
  Part of the proof of a statement of this seat: walks of its functions and the closed run; no condition but those written in each theorem.
-/
import Derived.Test.YtbanldnjpnfgkaaGreatDoorKQX
namespace Go.Proofs.YtbanldnjpnfgkaaGreatDoor.fnRepReads
set_option maxRecDepth 100000
open Go.ChangeShapes Go.WideShapes Go.ChangeAt Go.RowKit Go.VmK
set_option maxHeartbeats 100000000 in
theorem c3 : (Rows.repReadsRow.inPlace == Tryz.pinned.checked.prog.inPlace 3) = true := by
  unfold Program.inPlace
  rw [closure_eq]
  as_aux_lemma => kernel_rfl
set_option maxHeartbeats 100000000 in
theorem c4 : (Rows.repReadsRow.unfollowed == Tryz.pinned.checked.prog.unfollowed 3) = true := by
  unfold Program.unfollowed
  rw [closure_eq]
  as_aux_lemma => kernel_rfl
end Go.Proofs.YtbanldnjpnfgkaaGreatDoor.fnRepReads
