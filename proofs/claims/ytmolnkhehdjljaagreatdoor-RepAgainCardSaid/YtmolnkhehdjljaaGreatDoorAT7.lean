/-
  Part of the proof of a statement of this seat: walks of its functions and the closed run; no condition but those written in each theorem.
-/
import Derived.Test.YtmolnkhehdjljaaGreatDoorAB
namespace Go.Proofs.YtmolnkhehdjljaaGreatDoor.Wk
set_option maxRecDepth 100000
open Go.RowKit Go.VmK
theorem run56 : saysYes (runF (ctx consT []) 100000 3 [.int .i64 (Int.ofNat 56)] (heap0 0)) = true := by kernel_rfl
theorem run57 : saysYes (runF (ctx consT []) 100000 3 [.int .i64 (Int.ofNat 57)] (heap0 0)) = true := by kernel_rfl
theorem run58 : saysYes (runF (ctx consT []) 100000 3 [.int .i64 (Int.ofNat 58)] (heap0 0)) = true := by kernel_rfl
theorem run59 : saysYes (runF (ctx consT []) 100000 3 [.int .i64 (Int.ofNat 59)] (heap0 0)) = true := by kernel_rfl
theorem run60 : saysYes (runF (ctx consT []) 100000 3 [.int .i64 (Int.ofNat 60)] (heap0 0)) = true := by kernel_rfl
end Go.Proofs.YtmolnkhehdjljaaGreatDoor.Wk
