/-
  Part of the proof of a statement of this seat: walks of its functions and the closed run; no condition but those written in each theorem.
-/
import Derived.Test.YtmolnkhehdjljaaGreatDoorAB
namespace Go.Proofs.YtmolnkhehdjljaaGreatDoor.Wk
set_option maxRecDepth 100000
open Go.RowKit Go.VmK
theorem run32 : saysYes (runF (ctx consT []) 100000 3 [.int .i64 (Int.ofNat 32)] (heap0 0)) = true := by kernel_rfl
theorem run33 : saysYes (runF (ctx consT []) 100000 3 [.int .i64 (Int.ofNat 33)] (heap0 0)) = true := by kernel_rfl
theorem run34 : saysYes (runF (ctx consT []) 100000 3 [.int .i64 (Int.ofNat 34)] (heap0 0)) = true := by kernel_rfl
theorem run35 : saysYes (runF (ctx consT []) 100000 3 [.int .i64 (Int.ofNat 35)] (heap0 0)) = true := by kernel_rfl
theorem run36 : saysYes (runF (ctx consT []) 100000 3 [.int .i64 (Int.ofNat 36)] (heap0 0)) = true := by kernel_rfl
theorem run37 : saysYes (runF (ctx consT []) 100000 3 [.int .i64 (Int.ofNat 37)] (heap0 0)) = true := by kernel_rfl
theorem run38 : saysYes (runF (ctx consT []) 100000 3 [.int .i64 (Int.ofNat 38)] (heap0 0)) = true := by kernel_rfl
theorem run39 : saysYes (runF (ctx consT []) 100000 3 [.int .i64 (Int.ofNat 39)] (heap0 0)) = true := by kernel_rfl
end Go.Proofs.YtmolnkhehdjljaaGreatDoor.Wk
