/-
  Part of the proof of a statement of this seat: walks of its functions and the closed run; no condition but those written in each theorem.
-/
import Derived.Test.YtmolnkhehdjljaaGreatDoorAP
import Derived.Test.YtmolnkhehdjljaaGreatDoorAK
namespace Go.Proofs.YtmolnkhehdjljaaGreatDoor.Wk
set_option maxRecDepth 100000
open Go.RowKit Go.VmK
/-- the law's runs: alive, a pair, and each asking are taken from what is known -/
noncomputable def consT : List (FuncId × Con) := [(246, .sort), (5, .known callsAP), (20, .known callsAK), (4, .yes [])]
noncomputable def consN : List (FuncId × Con) := [(4, .yes [])]
noncomputable def factsLow : List (BinOp × AV × AV × Bool) := [(.lss, .symInt .i64 0, .int .i64 0, true)]
noncomputable def factsHigh : List (BinOp × AV × AV × Bool) := [(.lss, .symInt .i64 0, .int .i64 0, false), (.gtr, .symInt .i64 0, .int .i64 60, true)]
theorem runLow (σ0 : Nat → Option Value) : saysYes (runF (withFacts (ctx consN []) factsLow σ0) 100000 3 [.symInt .i64 0] (heap0 1)) = true := by kernel_rfl
theorem runHigh (σ0 : Nat → Option Value) : saysYes (runF (withFacts (ctx consN []) factsHigh σ0) 100000 3 [.symInt .i64 0] (heap0 1)) = true := by kernel_rfl
end Go.Proofs.YtmolnkhehdjljaaGreatDoor.Wk
