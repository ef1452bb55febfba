/-
  Part of the proof of a statement of this seat: walks of its functions and the closed run; no condition but those written in each theorem.
-/
import Derived.Test.YtmolnkhehdjljaaGreatDoorAB
namespace Go.Proofs.YtmolnkhehdjljaaGreatDoor.Wk
set_option maxRecDepth 100000
open Go.RowKit Go.VmK
theorem run24 : saysYes (runF (ctx consT []) 100000 3 [.int .i64 (Int.ofNat 24)] (heap0 0)) = true := by kernel_rfl
theorem run25 : saysYes (runF (ctx consT []) 100000 3 [.int .i64 (Int.ofNat 25)] (heap0 0)) = true := by kernel_rfl
theorem run26 : saysYes (runF (ctx consT []) 100000 3 [.int .i64 (Int.ofNat 26)] (heap0 0)) = true := by kernel_rfl
theorem run27 : saysYes (runF (ctx consT []) 100000 3 [.int .i64 (Int.ofNat 27)] (heap0 0)) = true := by kernel_rfl
theorem run28 : saysYes (runF (ctx consT []) 100000 3 [.int .i64 (Int.ofNat 28)] (heap0 0)) = true := by kernel_rfl
theorem run29 : saysYes (runF (ctx consT []) 100000 3 [.int .i64 (Int.ofNat 29)] (heap0 0)) = true := by kernel_rfl
theorem run30 : saysYes (runF (ctx consT []) 100000 3 [.int .i64 (Int.ofNat 30)] (heap0 0)) = true := by kernel_rfl
theorem run31 : saysYes (runF (ctx consT []) 100000 3 [.int .i64 (Int.ofNat 31)] (heap0 0)) = true := by kernel_rfl
end Go.Proofs.YtmolnkhehdjljaaGreatDoor.Wk
