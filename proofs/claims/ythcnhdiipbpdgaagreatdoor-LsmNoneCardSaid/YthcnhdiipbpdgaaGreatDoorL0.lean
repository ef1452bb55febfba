/-
  Part of the proof of a statement of this seat: walks of its functions and the closed run; no condition but those written in each theorem.
-/
import Derived.Test.YthcnhdiipbpdgaaGreatDoorR8
import Derived.Test.YthcnhdiipbpdgaaGreatDoorR9
import Derived.Test.YthcnhdiipbpdgaaGreatDoorR7d
import Derived.Test.YthcnhdiipbpdgaaGreatDoorVmF
import Derived.KernelRfl
import Derived.Test.YthcnhdiipbpdgaaGreatDoorProg
namespace Go.Proofs.YthcnhdiipbpdgaaGreatDoor.Wk
set_option maxRecDepth 100000
open Go.RowKit Go.VmK
theorem types_ok : typesOk Tryz.prog = true := by kernel_rfl
theorem names_ok : namesOk Tryz.prog = true := by kernel_rfl
theorem mixed : Tryz.prog.follows .mixedOrders = true := by kernel_rfl
theorem keys_ok : keysOk Tryz.prog [] = true := by kernel_rfl
theorem ext_same : ExtOK Tryz.prog 224 .same := ext_same_ok Tryz.func224 (by kernel_rfl) (by kernel_rfl) (by kernel_rfl) (by kernel_rfl)
theorem ext_clone : ExtOK Tryz.prog 229 .mapsClone := ext_clone_ok Tryz.func229 (by kernel_rfl) (by kernel_rfl) (by kernel_rfl) (by kernel_rfl)
theorem exts_ok : ∀ p ∈ [((224 : FuncId), Ext.same), (229, .mapsClone)], ExtOK Tryz.prog p.1 p.2 := by
  intro p hp
  simp only [List.mem_cons, List.mem_nil_iff, or_false] at hp
  rcases hp with rfl | rfl
  · exact ext_same
  · exact ext_clone
/-- the machine's tables, with what is taken by contract -/
noncomputable def ctx (cons : List (FuncId × Con)) (more : List FuncId) : Ctx := mkCtx Tryz.prog [(224, .same), (229, .mapsClone)] cons (more ++ [105, 127, 175, 177, 209, 211, 239, 264, 289, 314]) [] [(14, 100), (6, 100), (126, 2), (12, 100), (7, 100)]
theorem ctx_ok {O : Env → Heap → World → Prop} {cons : List (FuncId × Con)} (more : List FuncId) (h : ∀ p ∈ cons, ConOK Tryz.prog O p.1 p.2) : ProgOK Tryz.prog (ctx cons more) O := mkCtx_ok types_ok names_ok exts_ok h keys_ok
end Go.Proofs.YthcnhdiipbpdgaaGreatDoor.Wk
