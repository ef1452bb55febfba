/-
  Part of the proof of a statement of this seat: walks of its functions and the closed run; no condition but those written in each theorem.
-/
import Derived.Test.YtdpjmgaenpaefaaGreatDoorW3
import Derived.Test.YtdpjmgaenpaefaaGreatDoorR8
import Derived.KernelRfl
namespace Go.Proofs.YtdpjmgaenpaefaaGreatDoor.Wk
open Go.RowKit Go.VmK
set_option maxRecDepth 100000
theorem ext_same : ExtOK Tryz.prog 292 .same := ext_same_ok Tryz.func292 (by kernel_rfl) (by kernel_rfl) (by kernel_rfl) (by kernel_rfl)
theorem ext_clone : ExtOK Tryz.prog 178 .mapsClone := ext_clone_ok Tryz.func178 (by kernel_rfl) (by kernel_rfl) (by kernel_rfl) (by kernel_rfl)
noncomputable def theC : Ctx := mkCtx Tryz.prog [(178, .mapsClone), (292, .same), (304, .other), (342, .other)] [(19, .flag [.agg [.sym 0, .sym 1, .sym 2, .sym 3, .sym 4]])] [19, 54, 172, 174, 246, 251, 290]
theorem types_ok : typesOk Tryz.prog = true := by kernel_rfl
theorem names_ok : namesOk Tryz.prog = true := by kernel_rfl
theorem exts_ok : ∀ p ∈ [((178 : FuncId), Ext.mapsClone), (292, .same), (304, .other), (342, .other)], ExtOK Tryz.prog p.1 p.2 := by
  intro p hp
  simp only [List.mem_cons, List.mem_nil_iff, or_false] at hp
  rcases hp with rfl | rfl | rfl | rfl
  · exact ext_clone
  · exact ext_same
  · trivial
  · trivial
end Go.Proofs.YtdpjmgaenpaefaaGreatDoor.Wk
