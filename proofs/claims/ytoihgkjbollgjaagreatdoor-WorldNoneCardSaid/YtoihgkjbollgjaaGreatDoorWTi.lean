/-
  Part of the proof of a statement of this seat: walks of its functions and the closed run; no condition but those written in each theorem.
-/
import Derived.Test.YtoihgkjbollgjaaGreatDoorRows
import Derived.LaidByTextLater
import Derived.SevenTiedAt
import Derived.LaidSub
import Derived.LaidOnce
import Derived.Test.YtoihgkjbollgjaaGreatDoorWTa
import Derived.Test.YtoihgkjbollgjaaGreatDoorWTb
import Derived.Test.YtoihgkjbollgjaaGreatDoorWTc
/- The tie of the row, by one run (as at other seats). -/
namespace Go.Proofs.YtoihgkjbollgjaaGreatDoor
open Go
set_option maxRecDepth 100000
theorem tieOne : Tryz.prog.laidByTextLater [("unicode/utf8.acceptRanges", Rows.laid_unicode_utf8_acceptRanges)] [.data] true :=
  Program.laidByTextLater_by_one 60 8 64 tw tx tr tk tg tn td
theorem worldNew_row_tie : Rows.worldNewRow.laidByTextAt .later Tryz.pinned [.pinned, .data] true :=
  OpenClaim.laidByTextAt_pinned rfl rfl tieOne rfl rfl rfl rfl (fun y hy _e => by
    simp only [Rows.worldNewRow, List.zip_cons_cons, List.zip_nil_right, List.mem_cons, List.mem_nil_iff, or_false] at hy
    rcases hy with rfl | rfl
    · exact ⟨pin_first, by kernel_rfl⟩
    · cases _e) fitsRow
theorem worldNone_row_tie : Rows.worldNoneRow.laidByTextAt .later Tryz.pinned [.pinned, .data] true :=
  OpenClaim.laidByTextAt_pinned rfl rfl tieOne rfl rfl rfl rfl (fun y hy _e => by
    simp only [Rows.worldNoneRow, List.zip_cons_cons, List.zip_nil_right, List.mem_cons, List.mem_nil_iff, or_false] at hy
    rcases hy with rfl | rfl
    · exact ⟨pin_first, by kernel_rfl⟩
    · cases _e) fitsRow
end Go.Proofs.YtoihgkjbollgjaaGreatDoor
