/-
  Part of the proof of a statement of this seat: walks of its functions and the closed run; no condition but those written in each theorem.
-/
import Derived.Test.YtmolnkhehdjljaaGreatDoorAB
namespace Go.Proofs.YtmolnkhehdjljaaGreatDoor.Wk
set_option maxRecDepth 100000
open Go.RowKit Go.VmK
theorem run0 : saysYes (runF (ctx consT []) 100000 3 [.int .i64 (Int.ofNat 0)] (heap0 0)) = true := by kernel_rfl
theorem run1 : saysYes (runF (ctx consT []) 100000 3 [.int .i64 (Int.ofNat 1)] (heap0 0)) = true := by kernel_rfl
theorem run2 : saysYes (runF (ctx consT []) 100000 3 [.int .i64 (Int.ofNat 2)] (heap0 0)) = true := by kernel_rfl
theorem run3 : saysYes (runF (ctx consT []) 100000 3 [.int .i64 (Int.ofNat 3)] (heap0 0)) = true := by kernel_rfl
theorem run4 : saysYes (runF (ctx consT []) 100000 3 [.int .i64 (Int.ofNat 4)] (heap0 0)) = true := by kernel_rfl
theorem run5 : saysYes (runF (ctx consT []) 100000 3 [.int .i64 (Int.ofNat 5)] (heap0 0)) = true := by kernel_rfl
theorem run6 : saysYes (runF (ctx consT []) 100000 3 [.int .i64 (Int.ofNat 6)] (heap0 0)) = true := by kernel_rfl
theorem run7 : saysYes (runF (ctx consT []) 100000 3 [.int .i64 (Int.ofNat 7)] (heap0 0)) = true := by kernel_rfl
end Go.Proofs.YtmolnkhehdjljaaGreatDoor.Wk
