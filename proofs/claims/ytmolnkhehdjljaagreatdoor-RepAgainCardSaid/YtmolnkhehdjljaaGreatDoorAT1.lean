/-
  Part of the proof of a statement of this seat: walks of its functions and the closed run; no condition but those written in each theorem.
-/
import Derived.Test.YtmolnkhehdjljaaGreatDoorAB
namespace Go.Proofs.YtmolnkhehdjljaaGreatDoor.Wk
set_option maxRecDepth 100000
open Go.RowKit Go.VmK
theorem run8 : saysYes (runF (ctx consT []) 100000 3 [.int .i64 (Int.ofNat 8)] (heap0 0)) = true := by kernel_rfl
theorem run9 : saysYes (runF (ctx consT []) 100000 3 [.int .i64 (Int.ofNat 9)] (heap0 0)) = true := by kernel_rfl
theorem run10 : saysYes (runF (ctx consT []) 100000 3 [.int .i64 (Int.ofNat 10)] (heap0 0)) = true := by kernel_rfl
theorem run11 : saysYes (runF (ctx consT []) 100000 3 [.int .i64 (Int.ofNat 11)] (heap0 0)) = true := by kernel_rfl
theorem run12 : saysYes (runF (ctx consT []) 100000 3 [.int .i64 (Int.ofNat 12)] (heap0 0)) = true := by kernel_rfl
theorem run13 : saysYes (runF (ctx consT []) 100000 3 [.int .i64 (Int.ofNat 13)] (heap0 0)) = true := by kernel_rfl
theorem run14 : saysYes (runF (ctx consT []) 100000 3 [.int .i64 (Int.ofNat 14)] (heap0 0)) = true := by kernel_rfl
theorem run15 : saysYes (runF (ctx consT []) 100000 3 [.int .i64 (Int.ofNat 15)] (heap0 0)) = true := by kernel_rfl
end Go.Proofs.YtmolnkhehdjljaaGreatDoor.Wk
