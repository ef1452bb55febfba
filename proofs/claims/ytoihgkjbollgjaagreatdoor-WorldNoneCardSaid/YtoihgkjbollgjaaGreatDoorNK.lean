/-
  Part of the proof of a statement of this seat: walks of its functions and the closed run; no condition but those written in each theorem.
-/
import Derived.Test.YtoihgkjbollgjaaGreatDoorNL
namespace Go.Proofs.YtoihgkjbollgjaaGreatDoor.Wk
set_option maxRecDepth 100000
open Go.RowKit Go.VmK
theorem crash0 : (List.range' 2 21).all (fun n => saysVal (.tuple [.str (List.replicate n 110), .bool true]) (runF (ctx consE []) 100000 76 [.str crash, .int .i64 (Int.ofNat n)] (heap0 0)) && saysVal (.int .i64 0) (runF (ctx consE []) 100000 77 [.str (List.replicate n 110), .str [116]] (heap0 0))) = true := by kernel_rfl
theorem crash1 : (List.range' 23 20).all (fun n => saysVal (.tuple [.str (List.replicate n 110), .bool true]) (runF (ctx consE []) 100000 76 [.str crash, .int .i64 (Int.ofNat n)] (heap0 0)) && saysVal (.int .i64 0) (runF (ctx consE []) 100000 77 [.str (List.replicate n 110), .str [116]] (heap0 0))) = true := by kernel_rfl
theorem crash2 : (List.range' 43 20).all (fun n => saysVal (.tuple [.str (List.replicate n 110), .bool true]) (runF (ctx consE []) 100000 76 [.str crash, .int .i64 (Int.ofNat n)] (heap0 0)) && saysVal (.int .i64 0) (runF (ctx consE []) 100000 77 [.str (List.replicate n 110), .str [116]] (heap0 0))) = true := by kernel_rfl
end Go.Proofs.YtoihgkjbollgjaaGreatDoor.Wk
