/-
  Part of the proof of a statement of this seat: walks of its functions and the closed run; no condition but those written in each theorem.
-/
import Derived.Test.YtlfgcganjbmjfaaGreatDoorG0
namespace Go.Proofs.YtlfgcganjbmjfaaGreatDoor.Wk
set_option maxRecDepth 100000
open Go.RowKit Go.VmK
/-- THE LAW'S OWN RUN: alive by contract. -/
noncomputable def consB : List (FuncId × Con) := [(6, .yes [])]
theorem runBt : saysYes (runF (ctx consB [5]) 100000 3 [.agg [.symStr 0, .symStr 1, .symStr 2, .symStr 3, .symInt .i64 4, .bool true]] (heap0 5)) = true := by kernel_rfl
theorem runBf : saysYes (runF (ctx consB [5]) 100000 3 [.agg [.symStr 0, .symStr 1, .symStr 2, .symStr 3, .symInt .i64 4, .bool false]] (heap0 5)) = true := by kernel_rfl
end Go.Proofs.YtlfgcganjbmjfaaGreatDoor.Wk
