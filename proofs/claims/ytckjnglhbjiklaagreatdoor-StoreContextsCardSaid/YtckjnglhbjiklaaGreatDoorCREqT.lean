/-
  Part of the proof of a statement of this seat: walks of its functions and the closed run; no condition but those written in each theorem.
-/
import Derived.Test.YtckjnglhbjiklaaGreatDoorCREqF
namespace Go.Proofs.YtckjnglhbjiklaaGreatDoor.Wk
set_option maxRecDepth 100000
open Go.RowKit Go.VmK Go.NumPure Go.Shelf
theorem runEqT (σ0 : Nat → Option Value) : saysYes (runF (CEq allEq σ0) 100000 3 [.symStr 0, .symStr 1, .symStr 1, .bool true] (heap0 1000)) = true := by kernel_rfl
theorem lawEqT {n e r : List UInt8} (hs : Sc n e r) (w : World) {m : Int} (hm : w.cell? ⟨0, 0, none⟩ = some (.int .i64 m)) : Calls Tryz.prog 3 #[.string (txt n), .string (txt e), .string (txt e), .bool true] w fun e w' => e = .returned (.bool true) ∧ Stands w w' :=
  calls_yes (progEq hs (allEq_ok hs hm)) mixed (by rw [← runF_eq]; exact runEqT _) (fun i hi => sgEq_none _ _ _ i (by have : 1000 ≤ i := hi; omega)) (xs := [.string (txt n), .string (txt e), .string (txt e), .bool true]) rfl
end Go.Proofs.YtckjnglhbjiklaaGreatDoor.Wk
