/-
  Part of the proof of a statement of this seat: walks of its functions and the closed run; no condition but those written in each theorem.
-/
import Derived.Test.YtjifcdnkhcjcjaaGreatDoorT0
namespace Go.Proofs.YtjifcdnkhcjcjaaGreatDoor.Wk
set_option maxRecDepth 100000
open Go.RowKit Go.VmK
/-- THE LAW'S OWN RUN: alive by contract. -/
noncomputable def consB : List (FuncId × Con) := [(5, .yes [])]
theorem runB : saysYes (runF (ctx consB [4]) 100000 3 [.agg [.symInt .i64 0, .symStr 1, .symStr 2, .symStr 3, .symStr 4, .symInt .i64 5, .symStr 6, .symStr 7]] (heap0 8)) = true := by kernel_rfl
end Go.Proofs.YtjifcdnkhcjcjaaGreatDoor.Wk
