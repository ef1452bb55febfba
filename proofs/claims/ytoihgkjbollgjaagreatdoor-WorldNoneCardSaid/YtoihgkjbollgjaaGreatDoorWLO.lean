/-
  Part of the proof of a statement of this seat: walks of its functions and the closed run; no condition but those written in each theorem.
-/
import Derived.Test.YtoihgkjbollgjaaGreatDoorProg
import Derived.KernelRfl
import GoSem.ClaimDataLaid
namespace Go.Proofs.YtoihgkjbollgjaaGreatDoor.Wk
set_option maxRecDepth 100000
/-- every type is laid as it should be: in parts -/
theorem lo_size : Tryz.prog.types.size = 793 := by kernel_rfl
theorem lo0 : (List.range' 0 100).all (rowFine Tryz.prog) = true := by kernel_rfl
theorem lo100 : (List.range' 100 100).all (rowFine Tryz.prog) = true := by kernel_rfl
theorem lo200 : (List.range' 200 100).all (rowFine Tryz.prog) = true := by kernel_rfl
theorem lo300 : (List.range' 300 100).all (rowFine Tryz.prog) = true := by kernel_rfl
theorem lo400 : (List.range' 400 100).all (rowFine Tryz.prog) = true := by kernel_rfl
theorem lo500 : (List.range' 500 100).all (rowFine Tryz.prog) = true := by kernel_rfl
theorem lo600 : (List.range' 600 100).all (rowFine Tryz.prog) = true := by kernel_rfl
theorem lo700 : (List.range' 700 93).all (rowFine Tryz.prog) = true := by kernel_rfl
theorem lo_globals : Tryz.prog.globals.all (fun g => decide (g.type < Tryz.prog.types.size)) = true := by kernel_rfl
theorem lo_funcs : Tryz.prog.funcs.all (fun f => f.params.all fun t => decide (t < Tryz.prog.types.size)) = true := by kernel_rfl
theorem lo_range : List.range 793 = List.range' 0 100 ++ List.range' 100 100 ++ List.range' 200 100 ++ List.range' 300 100 ++ List.range' 400 100 ++ List.range' 500 100 ++ List.range' 600 100 ++ List.range' 700 93 := by decide +kernel
theorem laid_out : laidOutB Tryz.prog = true := by
  unfold laidOutB
  rw [lo_globals, lo_funcs, Bool.and_true, Bool.and_true, lo_size, lo_range]
  simp only [List.all_append, Bool.and_eq_true]
  exact ⟨⟨⟨⟨⟨⟨⟨lo0, lo100⟩, lo200⟩, lo300⟩, lo400⟩, lo500⟩, lo600⟩, lo700⟩
end Go.Proofs.YtoihgkjbollgjaaGreatDoor.Wk
