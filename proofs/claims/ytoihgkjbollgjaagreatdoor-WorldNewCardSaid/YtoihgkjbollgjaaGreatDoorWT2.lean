/-
  Part of the proof of a statement of this seat: walks of its functions and the closed run; no condition but those written in each theorem.
-/
import Derived.Test.YtoihgkjbollgjaaGreatDoorWB
namespace Go.Proofs.YtoihgkjbollgjaaGreatDoor.Wk
set_option maxRecDepth 100000
open Go.RowKit Go.VmK
theorem runLo5 (σ0 : Nat → Option Value) : saysYes (runF (withFacts (ctx consN []) factsLo σ0) 100000 4 [.int .i64 5, .symInt .i64 1] (heap0 4)) = true := by kernel_rfl
theorem runHi5 (σ0 : Nat → Option Value) : saysYes (runF (withFacts (ctx consN []) factsHi σ0) 100000 4 [.int .i64 5, .symInt .i64 1] (heap0 4)) = true := by kernel_rfl
end Go.Proofs.YtoihgkjbollgjaaGreatDoor.Wk
