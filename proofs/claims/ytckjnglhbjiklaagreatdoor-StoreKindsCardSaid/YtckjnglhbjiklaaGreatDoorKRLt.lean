/-
  Part of the proof of a statement of this seat: walks of its functions and the closed run; no condition but those written in each theorem.
-/
import Derived.Test.YtckjnglhbjiklaaGreatDoorKMLt
namespace Go.Proofs.YtckjnglhbjiklaaGreatDoor.Wk
set_option maxRecDepth 100000
open Go.RowKit Go.VmK Go.NumPure Go.Shelf
theorem runLt (σ0 : Nat → Option Value) : saysYes (runF (CLt consLt σ0) 100000 4 [.symStr 0, .symStr 1, .symStr 2] (heap0 1000)) = true := by kernel_rfl
theorem lawLt {name elem value : ByteArray} (hs : Sm name elem value) (hab : ltL name.data.toList (otr name).data.toList = true) (hne : ¬ otr name = name) (w : World) {m : Int} (hm : w.cell? ⟨0, 0, none⟩ = some (.int .i64 m)) : Calls Tryz.prog 4 #[.string name, .string elem, .string value] w fun e w' => e = .returned (.bool true) ∧ Stands w w' :=
  calls_yes (progLt hs hab hne (consLt_ok hs hab hne hm)) mixed (by rw [← runF_eq]; exact runLt _) (fun i hi => sg_none _ _ _ i (by have : 1000 ≤ i := hi; omega)) (xs := [.string name, .string elem, .string value]) rfl
end Go.Proofs.YtckjnglhbjiklaaGreatDoor.Wk
