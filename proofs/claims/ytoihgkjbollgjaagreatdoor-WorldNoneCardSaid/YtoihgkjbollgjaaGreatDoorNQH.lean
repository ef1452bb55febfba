/-
  Part of the proof of a statement of this seat: walks of its functions and the closed run; no condition but those written in each theorem.
-/
import Derived.Test.YtoihgkjbollgjaaGreatDoorND
import Derived.Test.YtoihgkjbollgjaaGreatDoorNQQ
namespace Go.Proofs.YtoihgkjbollgjaaGreatDoor.fnWorldNone
set_option maxRecDepth 100000
open Go.ChangeShapes Go.WideShapes Go.ChangeAt Go.RowKit Go.VmK
theorem c3 : (Rows.worldNoneRow.inPlace == Tryz.pinned.checked.prog.inPlace 3) = true := by
  rw [show Tryz.pinned.checked.prog.inPlace 3 = _ from Wk.inPlace_eq]
  as_aux_lemma => kernel_rfl
theorem c4 : (Rows.worldNoneRow.unfollowed == Tryz.pinned.checked.prog.unfollowed 3) = true := by
  rw [show Tryz.pinned.checked.prog.unfollowed 3 = _ from Wk.unfollowed_eq]
  as_aux_lemma => kernel_rfl
theorem c5 : (Rows.worldNoneRow.recurses == Tryz.pinned.checked.prog.recurses 3) = true := by
  rw [show Tryz.pinned.checked.prog.recurses 3 = _ from Wk.recurses_eq]
  as_aux_lemma => kernel_rfl
theorem c6 : (Rows.worldNoneRow.named == Tryz.pinned.checked.prog.varsNamed 3) = true := by
  rw [show Tryz.pinned.checked.prog.varsNamed 3 = _ from Wk.vars_eq]
  as_aux_lemma => kernel_rfl
end Go.Proofs.YtoihgkjbollgjaaGreatDoor.fnWorldNone
