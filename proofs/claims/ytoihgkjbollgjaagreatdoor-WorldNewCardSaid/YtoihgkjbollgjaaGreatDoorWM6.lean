/-
  Part of the proof of a statement of this seat: walks of its functions and the closed run; no condition but those written in each theorem.
-/
import Derived.Test.YtoihgkjbollgjaaGreatDoorWNLo6
import Derived.Test.YtoihgkjbollgjaaGreatDoorWNHi6
namespace Go.Proofs.YtoihgkjbollgjaaGreatDoor.Wk
set_option maxRecDepth 100000
open Go.RowKit Go.VmK
/-- the law's run behind a world of so many -/
noncomputable def consMLo6 : List (FuncId × Con) := [(6, .yes []), (173, .sort), (16, .known [callLo6])]
theorem runLo6 (σ0 : Nat → Option Value) : saysYes (runF (withFacts (ctx consMLo6 []) factsLo σ0) 100000 4 [.int .i64 6, .symInt .i64 1] (heap0 4)) = true := by kernel_rfl
/-- the law's run behind a world of so many -/
noncomputable def consMHi6 : List (FuncId × Con) := [(6, .yes []), (173, .sort), (16, .known [callHi6])]
theorem runHi6 (σ0 : Nat → Option Value) : saysYes (runF (withFacts (ctx consMHi6 []) factsHi σ0) 100000 4 [.int .i64 6, .symInt .i64 1] (heap0 4)) = true := by kernel_rfl
end Go.Proofs.YtoihgkjbollgjaaGreatDoor.Wk
