/-
  Part of the proof of a statement of this seat: walks of its functions and the closed run; no condition but those written in each theorem.
-/
import Derived.Test.YtfahplfgamgoaaaGreatDoorR8b
import Derived.Test.YtfahplfgamgoaaaGreatDoorR7d
import Derived.Test.YtfahplfgamgoaaaGreatDoorVmF
import Derived.KernelRfl
import Derived.Test.YtfahplfgamgoaaaGreatDoorProg
namespace Go.Proofs.YtfahplfgamgoaaaGreatDoor.Wk
set_option maxRecDepth 100000
open Go.RowKit Go.VmK
theorem types_ok : typesOk Tryz.prog = true := by kernel_rfl
theorem names_ok : namesOk Tryz.prog = true := by kernel_rfl
theorem mixed : Tryz.prog.follows .mixedOrders = true := by kernel_rfl
theorem keys_ok : keysOk Tryz.prog [(34, 4), (37, 4)] = true := by kernel_rfl
theorem ext0 : ExtOK Tryz.prog 431 .same := ext_same_ok Tryz.func431 (by kernel_rfl) (by kernel_rfl) (by kernel_rfl) (by kernel_rfl)
theorem ext1 : ExtOK Tryz.prog 405 .mapsClone := ext_clone_ok Tryz.func405 (by kernel_rfl) (by kernel_rfl) (by kernel_rfl) (by kernel_rfl)
theorem ext2 : ExtOK Tryz.prog 514 .count := ext_count_ok Tryz.func514 (by kernel_rfl) (by kernel_rfl) (by kernel_rfl) (by kernel_rfl)
theorem ext3 : ExtOK Tryz.prog 533 .compare := ext_compare_ok Tryz.func533 (by kernel_rfl) (by kernel_rfl) (by kernel_rfl) (by kernel_rfl)
theorem exts_ok : ∀ p ∈ [((431 : FuncId), Ext.same), (405, .mapsClone), (514, .count), (533, .compare)], ExtOK Tryz.prog p.1 p.2 := by
  intro p hp
  simp only [List.mem_cons, List.mem_nil_iff, or_false] at hp
  rcases hp with rfl | rfl | rfl | rfl
  · exact ext0
  · exact ext1
  · exact ext2
  · exact ext3
/-- the machine's tables, with what is taken by contract -/
noncomputable def ctx (cons : List (FuncId × Con)) : Ctx := mkCtx Tryz.prog [(431, .same), (405, .mapsClone), (514, .count), (533, .compare)] cons [50, 121, 123, 198, 224, 225, 239, 271, 314, 316, 334, 336, 366, 378, 385, 387, 416, 432, 455, 457, 462, 487, 511, 534] [(34, 4), (37, 4)]
theorem ctx_ok {O : Env → Heap → World → Prop} {cons : List (FuncId × Con)} (h : ∀ p ∈ cons, ConOK Tryz.prog O p.1 p.2) : ProgOK Tryz.prog (ctx cons) O := mkCtx_ok types_ok names_ok exts_ok h keys_ok
end Go.Proofs.YtfahplfgamgoaaaGreatDoor.Wk
