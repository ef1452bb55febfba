/-
  Part of the proof of a statement of this seat: walks of its functions and the closed run; no condition but those written in each theorem.
-/
import Derived.Test.YtckjnglhbjiklaaGreatDoorCDGt0
import Derived.Test.YtckjnglhbjiklaaGreatDoorCDGt1
import Derived.Test.YtckjnglhbjiklaaGreatDoorCDGt2
namespace Go.Proofs.YtckjnglhbjiklaaGreatDoor.Wk
set_option maxRecDepth 100000
open Go.RowKit Go.VmK Go.NumPure Go.Shelf
noncomputable def doesGt : List (List AV × Heap × List (AV × Heap)) := [(dargGt0, dinGt0, [(dvalGt0, doutGt0)]), (dargGt1, dinGt1, [(dvalGt1, doutGt1)]), (dargGt2, dinGt2, [(dvalGt2, doutGt2)])]
noncomputable def allGt : List (FuncId × Con) := (8, .known doesGt) :: consGt
theorem allGt_ok {n e r : List UInt8} {w0 : World} (hs : Sc n e r) (h : ltL r e = true) {m : Int} (hm : w0.cell? ⟨0, 0, none⟩ = some (.int .i64 m)) : ∀ p ∈ allGt, ConOK Tryz.prog (PGt w0 n e r) p.1 p.2 := by
  unfold allGt
  refine List.forall_mem_cons.2 ⟨known_ok mixed fun r_ hr => ?_, consGt_ok hs h hm⟩
  simp only [doesGt, List.mem_cons, List.mem_nil_iff, or_false] at hr
  rcases hr with rfl | rfl | rfl
  · exact ⟨CGt consGt (sgGt n e r), 100000, progGt hs h (consGt_ok hs h hm), by rw [← runF_eq]; exact isOuts_eq (drunGt0 _)⟩
  · exact ⟨CGt consGt (sgGt n e r), 100000, progGt hs h (consGt_ok hs h hm), by rw [← runF_eq]; exact isOuts_eq (drunGt1 _)⟩
  · exact ⟨CGt consGt (sgGt n e r), 100000, progGt hs h (consGt_ok hs h hm), by rw [← runF_eq]; exact isOuts_eq (drunGt2 _)⟩
end Go.Proofs.YtckjnglhbjiklaaGreatDoor.Wk
namespace Go.Proofs.YtckjnglhbjiklaaGreatDoor.Wk
set_option maxRecDepth 100000
open Go.RowKit Go.VmK Go.NumPure Go.Shelf
theorem runGtF (σ0 : Nat → Option Value) : saysYes (runF (CGt allGt σ0) 100000 3 [.symStr 0, .symStr 1, .symStr 2, .bool false] (heap0 1000)) = true := by kernel_rfl
theorem lawGtF {n e r : List UInt8} (hs : Sc n e r) (h : ltL r e = true) (w : World) {m : Int} (hm : w.cell? ⟨0, 0, none⟩ = some (.int .i64 m)) : Calls Tryz.prog 3 #[.string (txt n), .string (txt e), .string (txt r), .bool false] w fun e w' => e = .returned (.bool true) ∧ Stands w w' :=
  calls_yes (progGt hs h (allGt_ok hs h hm)) mixed (by rw [← runF_eq]; exact runGtF _) (fun i hi => sgGt_none _ _ _ i (by have : 1000 ≤ i := hi; omega)) (xs := [.string (txt n), .string (txt e), .string (txt r), .bool false]) rfl
end Go.Proofs.YtckjnglhbjiklaaGreatDoor.Wk
