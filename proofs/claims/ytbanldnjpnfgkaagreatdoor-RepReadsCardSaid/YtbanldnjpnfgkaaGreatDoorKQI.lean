/-
  Part of the proof of a statement of this seat: walks of its functions and the closed run; no condition but those written in each theorem.
-/
import Derived.Test.YtbanldnjpnfgkaaGreatDoorKQX
namespace Go.Proofs.YtbanldnjpnfgkaaGreatDoor.fnRepReads
set_option maxRecDepth 100000
open Go.ChangeShapes Go.WideShapes Go.ChangeAt Go.RowKit Go.VmK
set_option maxHeartbeats 100000000 in
theorem c5 : (Rows.repReadsRow.recurses == Tryz.pinned.checked.prog.recurses 3) = true := by
  unfold Program.recurses Program.unfollowed
  rw [closure_eq]
  as_aux_lemma => kernel_rfl
set_option maxHeartbeats 100000000 in
theorem c6 : (Rows.repReadsRow.named == Tryz.pinned.checked.prog.varsNamed 3) = true := by
  unfold Program.varsNamed
  rw [closure_eq]
  as_aux_lemma => kernel_rfl
end Go.Proofs.YtbanldnjpnfgkaaGreatDoor.fnRepReads
