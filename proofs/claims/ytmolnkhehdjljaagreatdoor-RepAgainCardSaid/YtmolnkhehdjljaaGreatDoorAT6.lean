/-
  Part of the proof of a statement of this seat: walks of its functions and the closed run; no condition but those written in each theorem.
-/
import Derived.Test.YtmolnkhehdjljaaGreatDoorAB
namespace Go.Proofs.YtmolnkhehdjljaaGreatDoor.Wk
set_option maxRecDepth 100000
open Go.RowKit Go.VmK
theorem run48 : saysYes (runF (ctx consT []) 100000 3 [.int .i64 (Int.ofNat 48)] (heap0 0)) = true := by kernel_rfl
theorem run49 : saysYes (runF (ctx consT []) 100000 3 [.int .i64 (Int.ofNat 49)] (heap0 0)) = true := by kernel_rfl
theorem run50 : saysYes (runF (ctx consT []) 100000 3 [.int .i64 (Int.ofNat 50)] (heap0 0)) = true := by kernel_rfl
theorem run51 : saysYes (runF (ctx consT []) 100000 3 [.int .i64 (Int.ofNat 51)] (heap0 0)) = true := by kernel_rfl
theorem run52 : saysYes (runF (ctx consT []) 100000 3 [.int .i64 (Int.ofNat 52)] (heap0 0)) = true := by kernel_rfl
theorem run53 : saysYes (runF (ctx consT []) 100000 3 [.int .i64 (Int.ofNat 53)] (heap0 0)) = true := by kernel_rfl
theorem run54 : saysYes (runF (ctx consT []) 100000 3 [.int .i64 (Int.ofNat 54)] (heap0 0)) = true := by kernel_rfl
theorem run55 : saysYes (runF (ctx consT []) 100000 3 [.int .i64 (Int.ofNat 55)] (heap0 0)) = true := by kernel_rfl
end Go.Proofs.YtmolnkhehdjljaaGreatDoor.Wk
