/-
  Part of the proof of a statement of this seat: walks of its functions and the closed run; no condition but those written in each theorem.
-/
import Derived.Test.YtoihgkjbollgjaaGreatDoorRows
import Derived.LaidByTextLater
import Derived.SevenTiedAt
import Derived.LaidSub
import Derived.LaidOnce
/- The tie of the row, by one run (as at other seats). -/
namespace Go.Proofs.YtoihgkjbollgjaaGreatDoor
open Go
set_option maxRecDepth 100000
theorem td (os : Os) (tape : Nat → Question → Nat) : doorLeaves Tryz.prog 60 8 64 [("unicode/utf8.acceptRanges", Rows.laid_unicode_utf8_acceptRanges)] os tape = some (([("unicode/utf8.acceptRanges", Rows.laid_unicode_utf8_acceptRanges)] : List (String × DataW Unit)).filter fun x => x.2.handleName?.isNone, (funcsListed [("unicode/utf8.acceptRanges", Rows.laid_unicode_utf8_acceptRanges)]).map (·.2.funcsOut)) := by kernel_rfl
end Go.Proofs.YtoihgkjbollgjaaGreatDoor
