/-
  Part of the proof of a statement of this seat: walks of its functions and the closed run; no condition but those written in each theorem.
-/
import Derived.Test.YtckjnglhbjiklaaGreatDoorCDLt0
import Derived.Test.YtckjnglhbjiklaaGreatDoorCDLt1
import Derived.Test.YtckjnglhbjiklaaGreatDoorCDLt2
namespace Go.Proofs.YtckjnglhbjiklaaGreatDoor.Wk
set_option maxRecDepth 100000
open Go.RowKit Go.VmK Go.NumPure Go.Shelf
noncomputable def doesLt : List (List AV × Heap × List (AV × Heap)) := [(dargLt0, dinLt0, [(dvalLt0, doutLt0)]), (dargLt1, dinLt1, [(dvalLt1, doutLt1)]), (dargLt2, dinLt2, [(dvalLt2, doutLt2)])]
noncomputable def allLt : List (FuncId × Con) := (8, .known doesLt) :: consLt
theorem allLt_ok {n e r : List UInt8} {w0 : World} (hs : Sc n e r) (h : ltL e r = true) {m : Int} (hm : w0.cell? ⟨0, 0, none⟩ = some (.int .i64 m)) : ∀ p ∈ allLt, ConOK Tryz.prog (PLt w0 n e r) p.1 p.2 := by
  unfold allLt
  refine List.forall_mem_cons.2 ⟨known_ok mixed fun r_ hr => ?_, consLt_ok hs h hm⟩
  simp only [doesLt, List.mem_cons, List.mem_nil_iff, or_false] at hr
  rcases hr with rfl | rfl | rfl
  · exact ⟨CLt consLt (sgLt n e r), 100000, progLt hs h (consLt_ok hs h hm), by rw [← runF_eq]; exact isOuts_eq (drunLt0 _)⟩
  · exact ⟨CLt consLt (sgLt n e r), 100000, progLt hs h (consLt_ok hs h hm), by rw [← runF_eq]; exact isOuts_eq (drunLt1 _)⟩
  · exact ⟨CLt consLt (sgLt n e r), 100000, progLt hs h (consLt_ok hs h hm), by rw [← runF_eq]; exact isOuts_eq (drunLt2 _)⟩
end Go.Proofs.YtckjnglhbjiklaaGreatDoor.Wk
namespace Go.Proofs.YtckjnglhbjiklaaGreatDoor.Wk
set_option maxRecDepth 100000
open Go.RowKit Go.VmK Go.NumPure Go.Shelf
theorem runLtF (σ0 : Nat → Option Value) : saysYes (runF (CLt allLt σ0) 100000 3 [.symStr 0, .symStr 1, .symStr 2, .bool false] (heap0 1000)) = true := by kernel_rfl
theorem lawLtF {n e r : List UInt8} (hs : Sc n e r) (h : ltL e r = true) (w : World) {m : Int} (hm : w.cell? ⟨0, 0, none⟩ = some (.int .i64 m)) : Calls Tryz.prog 3 #[.string (txt n), .string (txt e), .string (txt r), .bool false] w fun e w' => e = .returned (.bool true) ∧ Stands w w' :=
  calls_yes (progLt hs h (allLt_ok hs h hm)) mixed (by rw [← runF_eq]; exact runLtF _) (fun i hi => sgLt_none _ _ _ i (by have : 1000 ≤ i := hi; omega)) (xs := [.string (txt n), .string (txt e), .string (txt r), .bool false]) rfl
end Go.Proofs.YtckjnglhbjiklaaGreatDoor.Wk
