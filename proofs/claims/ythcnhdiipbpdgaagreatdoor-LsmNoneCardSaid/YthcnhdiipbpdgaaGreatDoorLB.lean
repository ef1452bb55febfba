/-
  Part of the proof of a statement of this seat: walks of its functions and the closed run; no condition but those written in each theorem.
-/
import Derived.Test.YthcnhdiipbpdgaaGreatDoorL0
namespace Go.Proofs.YthcnhdiipbpdgaaGreatDoor.Wk
set_option maxRecDepth 100000
open Go.RowKit Go.VmK
/-- THE LAW'S OWN RUN: its guard, and alive, by contract. -/
noncomputable def consB : List (FuncId × Con) := [(4, .flag [.sym 1]), (5, .yes [])]
theorem runLB : saysYes (runF (ctx consB [4]) 100000 3 [.symStr 0, .sym 1] (heap0 2)) = true := by kernel_rfl
end Go.Proofs.YthcnhdiipbpdgaaGreatDoor.Wk
