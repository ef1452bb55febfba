/-
  Part of the proof of a statement of this seat: walks of its functions and the closed run; no condition but those written in each theorem.
-/
import Derived.Test.YtoihgkjbollgjaaGreatDoorWB
namespace Go.Proofs.YtoihgkjbollgjaaGreatDoor.Wk
set_option maxRecDepth 100000
open Go.RowKit Go.VmK
theorem runMid (σ0 : Nat → Option Value) : saysYes (runF (withFacts (ctx consN []) factsMid σ0) 100000 4 [.symInt .i64 0, .symInt .i64 1] (heap0 4)) = true := by kernel_rfl
theorem runLoL (σ0 : Nat → Option Value) : saysYes (runF (withFacts (ctx consN []) factsLoL σ0) 100000 4 [.symInt .i64 0, .symInt .i64 1] (heap0 4)) = true := by kernel_rfl
theorem runLoH (σ0 : Nat → Option Value) : saysYes (runF (withFacts (ctx consN []) factsLoH σ0) 100000 4 [.symInt .i64 0, .symInt .i64 1] (heap0 4)) = true := by kernel_rfl
theorem runHiL (σ0 : Nat → Option Value) : saysYes (runF (withFacts (ctx consN []) factsHiL σ0) 100000 4 [.symInt .i64 0, .symInt .i64 1] (heap0 4)) = true := by kernel_rfl
theorem runHiH (σ0 : Nat → Option Value) : saysYes (runF (withFacts (ctx consN []) factsHiH σ0) 100000 4 [.symInt .i64 0, .symInt .i64 1] (heap0 4)) = true := by kernel_rfl
theorem runLo1 (σ0 : Nat → Option Value) : saysYes (runF (withFacts (ctx consN []) factsLo σ0) 100000 4 [.int .i64 1, .symInt .i64 1] (heap0 4)) = true := by kernel_rfl
theorem runLo2 (σ0 : Nat → Option Value) : saysYes (runF (withFacts (ctx consN []) factsLo σ0) 100000 4 [.int .i64 2, .symInt .i64 1] (heap0 4)) = true := by kernel_rfl
theorem runHi1 (σ0 : Nat → Option Value) : saysYes (runF (withFacts (ctx consN []) factsHi σ0) 100000 4 [.int .i64 1, .symInt .i64 1] (heap0 4)) = true := by kernel_rfl
theorem runHi2 (σ0 : Nat → Option Value) : saysYes (runF (withFacts (ctx consN []) factsHi σ0) 100000 4 [.int .i64 2, .symInt .i64 1] (heap0 4)) = true := by kernel_rfl
end Go.Proofs.YtoihgkjbollgjaaGreatDoor.Wk
