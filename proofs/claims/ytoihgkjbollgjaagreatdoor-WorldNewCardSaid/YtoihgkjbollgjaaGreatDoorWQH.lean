/-
  Part of the proof of a statement of this seat: walks of its functions and the closed run; no condition but those written in each theorem.
-/
import Derived.Test.YtoihgkjbollgjaaGreatDoorWD
import Derived.Test.YtoihgkjbollgjaaGreatDoorWQQ
namespace Go.Proofs.YtoihgkjbollgjaaGreatDoor.fnWorldNew
set_option maxRecDepth 100000
open Go.ChangeShapes Go.WideShapes Go.ChangeAt Go.RowKit Go.VmK
theorem c3 : (Rows.worldNewRow.inPlace == Tryz.pinned.checked.prog.inPlace 4) = true := by
  rw [show Tryz.pinned.checked.prog.inPlace 4 = _ from Wk.inPlace_eq]
  as_aux_lemma => kernel_rfl
theorem c4 : (Rows.worldNewRow.unfollowed == Tryz.pinned.checked.prog.unfollowed 4) = true := by
  rw [show Tryz.pinned.checked.prog.unfollowed 4 = _ from Wk.unfollowed_eq]
  as_aux_lemma => kernel_rfl
theorem c5 : (Rows.worldNewRow.recurses == Tryz.pinned.checked.prog.recurses 4) = true := by
  rw [show Tryz.pinned.checked.prog.recurses 4 = _ from Wk.recurses_eq]
  as_aux_lemma => kernel_rfl
theorem c6 : (Rows.worldNewRow.named == Tryz.pinned.checked.prog.varsNamed 4) = true := by
  rw [show Tryz.pinned.checked.prog.varsNamed 4 = _ from Wk.vars_eq]
  as_aux_lemma => kernel_rfl
end Go.Proofs.YtoihgkjbollgjaaGreatDoor.fnWorldNew
