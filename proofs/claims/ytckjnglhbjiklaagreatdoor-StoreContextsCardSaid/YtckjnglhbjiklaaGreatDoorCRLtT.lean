/-
  Part of the proof of a statement of this seat: walks of its functions and the closed run; no condition but those written in each theorem.
-/
import Derived.Test.YtckjnglhbjiklaaGreatDoorCRLtF
namespace Go.Proofs.YtckjnglhbjiklaaGreatDoor.Wk
set_option maxRecDepth 100000
open Go.RowKit Go.VmK Go.NumPure Go.Shelf
theorem runLtT (σ0 : Nat → Option Value) : saysYes (runF (CLt allLt σ0) 100000 3 [.symStr 0, .symStr 1, .symStr 2, .bool true] (heap0 1000)) = true := by kernel_rfl
theorem lawLtT {n e r : List UInt8} (hs : Sc n e r) (h : ltL e r = true) (w : World) {m : Int} (hm : w.cell? ⟨0, 0, none⟩ = some (.int .i64 m)) : Calls Tryz.prog 3 #[.string (txt n), .string (txt e), .string (txt r), .bool true] w fun e w' => e = .returned (.bool true) ∧ Stands w w' :=
  calls_yes (progLt hs h (allLt_ok hs h hm)) mixed (by rw [← runF_eq]; exact runLtT _) (fun i hi => sgLt_none _ _ _ i (by have : 1000 ≤ i := hi; omega)) (xs := [.string (txt n), .string (txt e), .string (txt r), .bool true]) rfl
end Go.Proofs.YtckjnglhbjiklaaGreatDoor.Wk
