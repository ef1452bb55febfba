/-
  Part of the proof of a statement of this seat: walks of its functions and the closed run; no condition but those written in each theorem.
-/
import Derived.Test.YtdpjmgaenpaefaaGreatDoorM1
namespace Go.Proofs.YtdpjmgaenpaefaaGreatDoor.Wk
open Go.RowKit Go.VmK Go.ChangeShapes Go.WideShapes
set_option maxRecDepth 100000
theorem run_yes : saysYes (runCall theC 100000 4 [.agg [.sym 0, .sym 1, .sym 2, .sym 3, .sym 4]] (heap0 5)) = true := by kernel_rfl
theorem mixed : Tryz.prog.follows .mixedOrders = true := by kernel_rfl
theorem cells37 : Tryz.prog.cellsOf 37 = 5 := by kernel_rfl
theorem cells34 : Tryz.prog.cellsOf 34 = 5 := by kernel_rfl
theorem cells3 : Tryz.prog.cellsOf 3 = 1 := by kernel_rfl
theorem cells9 : Tryz.prog.cellsOf 9 = 1 := by kernel_rfl
theorem cells27 : Tryz.prog.cellsOf 27 = 1 := by kernel_rfl
theorem cells35 : Tryz.prog.cellsOf 35 = 1 := by kernel_rfl
end Go.Proofs.YtdpjmgaenpaefaaGreatDoor.Wk
