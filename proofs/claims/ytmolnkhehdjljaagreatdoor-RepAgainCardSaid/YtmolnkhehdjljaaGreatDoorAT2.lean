/-
  Part of the proof of a statement of this seat: walks of its functions and the closed run; no condition but those written in each theorem.
-/
import Derived.Test.YtmolnkhehdjljaaGreatDoorAB
namespace Go.Proofs.YtmolnkhehdjljaaGreatDoor.Wk
set_option maxRecDepth 100000
open Go.RowKit Go.VmK
theorem run16 : saysYes (runF (ctx consT []) 100000 3 [.int .i64 (Int.ofNat 16)] (heap0 0)) = true := by kernel_rfl
theorem run17 : saysYes (runF (ctx consT []) 100000 3 [.int .i64 (Int.ofNat 17)] (heap0 0)) = true := by kernel_rfl
theorem run18 : saysYes (runF (ctx consT []) 100000 3 [.int .i64 (Int.ofNat 18)] (heap0 0)) = true := by kernel_rfl
theorem run19 : saysYes (runF (ctx consT []) 100000 3 [.int .i64 (Int.ofNat 19)] (heap0 0)) = true := by kernel_rfl
theorem run20 : saysYes (runF (ctx consT []) 100000 3 [.int .i64 (Int.ofNat 20)] (heap0 0)) = true := by kernel_rfl
theorem run21 : saysYes (runF (ctx consT []) 100000 3 [.int .i64 (Int.ofNat 21)] (heap0 0)) = true := by kernel_rfl
theorem run22 : saysYes (runF (ctx consT []) 100000 3 [.int .i64 (Int.ofNat 22)] (heap0 0)) = true := by kernel_rfl
theorem run23 : saysYes (runF (ctx consT []) 100000 3 [.int .i64 (Int.ofNat 23)] (heap0 0)) = true := by kernel_rfl
end Go.Proofs.YtmolnkhehdjljaaGreatDoor.Wk
