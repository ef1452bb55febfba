/-
  Part of the proof of a statement of this seat: walks of its functions and the closed run; no condition but those written in each theorem.
-/
import Derived.Test.YtdebmmpojnlfkaaGreatDoorYAny
import Derived.KernelRfl
namespace Go.Proofs.YtdebmmpojnlfkaaGreatDoor.Wk
set_option maxRecDepth 100000
open Go.RowKit Go.VmK
noncomputable def theC : Ctx := mkCtx Tryz.prog [(267, .same), (283, .mapsClone)] [(4, .flag [.agg [.sym 0, .sym 1, .sym 2, .sym 3, .sym 4, .sym 5, .sym 6, .sym 7, .sym 8, .sym 9, .sym 10, .sym 11, .sym 12, .sym 13, .sym 14, .sym 15, .sym 16, .sym 17]])] [4, 118, 162, 179, 181, 239, 241, 262, 298, 372, 385]
theorem types_ok : typesOk Tryz.prog = true := by kernel_rfl
theorem names_ok : namesOk Tryz.prog = true := by kernel_rfl
theorem ext_same : ExtOK Tryz.prog 267 .same := ext_same_ok Tryz.func267 (by kernel_rfl) (by kernel_rfl) (by kernel_rfl) (by kernel_rfl)
theorem ext_clone : ExtOK Tryz.prog 283 .mapsClone := ext_clone_ok Tryz.func283 (by kernel_rfl) (by kernel_rfl) (by kernel_rfl) (by kernel_rfl)
theorem exts_ok : ∀ p ∈ [((267 : FuncId), Ext.same), (283, .mapsClone)], ExtOK Tryz.prog p.1 p.2 := by
  intro p hp
  simp only [List.mem_cons, List.mem_nil_iff, or_false] at hp
  rcases hp with rfl | rfl
  · exact ext_same
  · exact ext_clone
theorem mixed : Tryz.prog.follows .mixedOrders = true := by kernel_rfl
end Go.Proofs.YtdebmmpojnlfkaaGreatDoor.Wk
