/-
  Part of the proof of a statement of this seat: walks of its functions and the closed run; no condition but those written in each theorem.
-/
import Derived.Test.YtckjnglhbjiklaaGreatDoorCDEq0
import Derived.Test.YtckjnglhbjiklaaGreatDoorCDEq1
import Derived.Test.YtckjnglhbjiklaaGreatDoorCDEq2
namespace Go.Proofs.YtckjnglhbjiklaaGreatDoor.Wk
set_option maxRecDepth 100000
open Go.RowKit Go.VmK Go.NumPure Go.Shelf
noncomputable def doesEq : List (List AV × Heap × List (AV × Heap)) := [(dargEq0, dinEq0, [(dvalEq0, doutEq0)]), (dargEq1, dinEq1, [(dvalEq1, doutEq1)]), (dargEq2, dinEq2, [(dvalEq2, doutEq2)])]
noncomputable def allEq : List (FuncId × Con) := (8, .known doesEq) :: consEq
theorem allEq_ok {n e r : List UInt8} {w0 : World} (hs : Sc n e r) {m : Int} (hm : w0.cell? ⟨0, 0, none⟩ = some (.int .i64 m)) : ∀ p ∈ allEq, ConOK Tryz.prog (PEq w0 n e r) p.1 p.2 := by
  unfold allEq
  refine List.forall_mem_cons.2 ⟨known_ok mixed fun r_ hr => ?_, consEq_ok hs hm⟩
  simp only [doesEq, List.mem_cons, List.mem_nil_iff, or_false] at hr
  rcases hr with rfl | rfl | rfl
  · exact ⟨CEq consEq (sgEq n e r), 100000, progEq hs (consEq_ok hs hm), by rw [← runF_eq]; exact isOuts_eq (drunEq0 _)⟩
  · exact ⟨CEq consEq (sgEq n e r), 100000, progEq hs (consEq_ok hs hm), by rw [← runF_eq]; exact isOuts_eq (drunEq1 _)⟩
  · exact ⟨CEq consEq (sgEq n e r), 100000, progEq hs (consEq_ok hs hm), by rw [← runF_eq]; exact isOuts_eq (drunEq2 _)⟩
end Go.Proofs.YtckjnglhbjiklaaGreatDoor.Wk
namespace Go.Proofs.YtckjnglhbjiklaaGreatDoor.Wk
set_option maxRecDepth 100000
open Go.RowKit Go.VmK Go.NumPure Go.Shelf
theorem runEqF (σ0 : Nat → Option Value) : saysYes (runF (CEq allEq σ0) 100000 3 [.symStr 0, .symStr 1, .symStr 1, .bool false] (heap0 1000)) = true := by kernel_rfl
theorem lawEqF {n e r : List UInt8} (hs : Sc n e r) (w : World) {m : Int} (hm : w.cell? ⟨0, 0, none⟩ = some (.int .i64 m)) : Calls Tryz.prog 3 #[.string (txt n), .string (txt e), .string (txt e), .bool false] w fun e w' => e = .returned (.bool true) ∧ Stands w w' :=
  calls_yes (progEq hs (allEq_ok hs hm)) mixed (by rw [← runF_eq]; exact runEqF _) (fun i hi => sgEq_none _ _ _ i (by have : 1000 ≤ i := hi; omega)) (xs := [.string (txt n), .string (txt e), .string (txt e), .bool false]) rfl
end Go.Proofs.YtckjnglhbjiklaaGreatDoor.Wk
