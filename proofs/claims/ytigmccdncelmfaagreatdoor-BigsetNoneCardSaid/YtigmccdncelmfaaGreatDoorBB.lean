/-
  Part of the proof of a statement of this seat: walks of its functions and the closed run; no condition but those written in each theorem.
-/
import Derived.Test.YtigmccdncelmfaaGreatDoorB0
namespace Go.Proofs.YtigmccdncelmfaaGreatDoor.Wk
set_option maxRecDepth 100000
open Go.RowKit Go.VmK
/-- THE LAW'S OWN RUN: its guard, and alive, by contract. -/
noncomputable def consB : List (FuncId × Con) := [(4, .flag [.agg [.sym 1, .sym 2, .sym 3, .sym 4, .sym 5]]), (5, .yes [])]
theorem runB : saysYes (runF (ctx consB [4]) 100000 3 [.symStr 0, .agg [.sym 1, .sym 2, .sym 3, .sym 4, .sym 5]] (heap0 6)) = true := by kernel_rfl
end Go.Proofs.YtigmccdncelmfaaGreatDoor.Wk
