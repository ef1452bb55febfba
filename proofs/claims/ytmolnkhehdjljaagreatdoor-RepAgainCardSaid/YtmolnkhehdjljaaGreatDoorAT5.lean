/-
  Part of the proof of a statement of this seat: walks of its functions and the closed run; no condition but those written in each theorem.
-/
import Derived.Test.YtmolnkhehdjljaaGreatDoorAB
namespace Go.Proofs.YtmolnkhehdjljaaGreatDoor.Wk
set_option maxRecDepth 100000
open Go.RowKit Go.VmK
theorem run40 : saysYes (runF (ctx consT []) 100000 3 [.int .i64 (Int.ofNat 40)] (heap0 0)) = true := by kernel_rfl
theorem run41 : saysYes (runF (ctx consT []) 100000 3 [.int .i64 (Int.ofNat 41)] (heap0 0)) = true := by kernel_rfl
theorem run42 : saysYes (runF (ctx consT []) 100000 3 [.int .i64 (Int.ofNat 42)] (heap0 0)) = true := by kernel_rfl
theorem run43 : saysYes (runF (ctx consT []) 100000 3 [.int .i64 (Int.ofNat 43)] (heap0 0)) = true := by kernel_rfl
theorem run44 : saysYes (runF (ctx consT []) 100000 3 [.int .i64 (Int.ofNat 44)] (heap0 0)) = true := by kernel_rfl
theorem run45 : saysYes (runF (ctx consT []) 100000 3 [.int .i64 (Int.ofNat 45)] (heap0 0)) = true := by kernel_rfl
theorem run46 : saysYes (runF (ctx consT []) 100000 3 [.int .i64 (Int.ofNat 46)] (heap0 0)) = true := by kernel_rfl
theorem run47 : saysYes (runF (ctx consT []) 100000 3 [.int .i64 (Int.ofNat 47)] (heap0 0)) = true := by kernel_rfl
end Go.Proofs.YtmolnkhehdjljaaGreatDoor.Wk
