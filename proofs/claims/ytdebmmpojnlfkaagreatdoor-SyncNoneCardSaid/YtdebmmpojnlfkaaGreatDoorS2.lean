/-
  Part of the proof of a statement of this seat: walks of its functions and the closed run; no condition but those written in each theorem.
-/
import Derived.Test.YtdebmmpojnlfkaaGreatDoorS1
namespace Go.Proofs.YtdebmmpojnlfkaaGreatDoor.Wk
set_option maxRecDepth 100000
open Go.RowKit Go.VmK
theorem run_yes : saysYes (runCall theC 100000 3 [.agg [.sym 0, .sym 1, .sym 2, .sym 3, .sym 4, .sym 5, .sym 6, .sym 7, .sym 8, .sym 9, .sym 10, .sym 11, .sym 12, .sym 13, .sym 14, .sym 15, .sym 16, .sym 17]] (heap0 18)) = true := by kernel_rfl
end Go.Proofs.YtdebmmpojnlfkaaGreatDoor.Wk
