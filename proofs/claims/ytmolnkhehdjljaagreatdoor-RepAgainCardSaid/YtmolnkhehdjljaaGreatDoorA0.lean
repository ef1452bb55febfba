/-
  Part of the proof of a statement of this seat: walks of its functions and the closed run; no condition but those written in each theorem.
-/
import Derived.Test.YtmolnkhehdjljaaGreatDoorV7
import Derived.KernelRfl
import Derived.Test.YtmolnkhehdjljaaGreatDoorProg
namespace Go.Proofs.YtmolnkhehdjljaaGreatDoor.Wk
set_option maxRecDepth 100000
open Go.RowKit Go.VmK
theorem types_ok : typesOk Tryz.prog = true := by kernel_rfl
theorem names_ok : namesOk Tryz.prog = true := by kernel_rfl
theorem mixed : Tryz.prog.follows .mixedOrders = true := by kernel_rfl
theorem keys_ok : keysOk Tryz.prog [(42, 4), (45, 4), (226, 4), (31, 4), (574, 4)] = true := by kernel_rfl
theorem ext0 : ExtOK Tryz.prog 297 .same := ext_same_ok Tryz.func297 (by kernel_rfl) (by kernel_rfl) (by kernel_rfl) (by kernel_rfl)
theorem ext1 : ExtOK Tryz.prog 345 .mapsClone := ext_clone_ok Tryz.func345 (by kernel_rfl) (by kernel_rfl) (by kernel_rfl) (by kernel_rfl)
theorem ext2 : ExtOK Tryz.prog 474 .count := ext_count_ok Tryz.func474 (by kernel_rfl) (by kernel_rfl) (by kernel_rfl) (by kernel_rfl)
theorem ext3 : ExtOK Tryz.prog 419 .compare := ext_compare_ok Tryz.func419 (by kernel_rfl) (by kernel_rfl) (by kernel_rfl) (by kernel_rfl)
theorem exts_ok : ∀ p ∈ [((297 : FuncId), Ext.same), (345, .mapsClone), (474, .count), (419, .compare)], ExtOK Tryz.prog p.1 p.2 := by
  intro p hp
  simp only [List.mem_cons, List.mem_nil_iff, or_false] at hp
  rcases hp with rfl | rfl | rfl | rfl
  · exact ext0
  · exact ext1
  · exact ext2
  · exact ext3
/-- the machine's tables, with what is taken by contract -/
noncomputable def ctx (cons : List (FuncId × Con)) (more : List FuncId) : Ctx := mkCtx Tryz.prog [(297, .same), (345, .mapsClone), (474, .count), (419, .compare)] cons (more ++ [26, 54, 56, 100, 160, 201, 220, 245, 247, 290, 303, 305, 325, 328, 364, 381, 383, 447, 462, 500]) [(42, 4), (45, 4), (226, 4), (31, 4), (574, 4)] [(159, 2), (5, 100), (20, 100), (12, 100), (32, 100), (50, 100), (37, 100)]
theorem ctx_ok {O : Env → Heap → World → Prop} {cons : List (FuncId × Con)} (more : List FuncId) (h : ∀ p ∈ cons, ConOK Tryz.prog O p.1 p.2) : ProgOK Tryz.prog (ctx cons more) O := mkCtx_ok types_ok names_ok exts_ok h keys_ok
end Go.Proofs.YtmolnkhehdjljaaGreatDoor.Wk
