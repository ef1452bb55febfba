/-
  Part of the proof of a statement of this seat: walks of its functions and the closed run; no condition but those written in each theorem.
-/
import Derived.Test.YtigmccdncelmfaaGreatDoorV7
import Derived.KernelRfl
import Derived.Test.YtigmccdncelmfaaGreatDoorProg
namespace Go.Proofs.YtigmccdncelmfaaGreatDoor.Wk
set_option maxRecDepth 100000
open Go.RowKit Go.VmK
theorem types_ok : typesOk Tryz.prog = true := by kernel_rfl
theorem names_ok : namesOk Tryz.prog = true := by kernel_rfl
theorem mixed : Tryz.prog.follows .mixedOrders = true := by kernel_rfl
theorem keys_ok : keysOk Tryz.prog [(40, 4), (60, 4), (423, 4), (159, 4)] = true := by kernel_rfl
theorem ext0 : ExtOK Tryz.prog 227 .same := ext_same_ok Tryz.func227 (by kernel_rfl) (by kernel_rfl) (by kernel_rfl) (by kernel_rfl)
theorem ext1 : ExtOK Tryz.prog 384 .mapsClone := ext_clone_ok Tryz.func384 (by kernel_rfl) (by kernel_rfl) (by kernel_rfl) (by kernel_rfl)
theorem ext2 : ExtOK Tryz.prog 288 .count := ext_count_ok Tryz.func288 (by kernel_rfl) (by kernel_rfl) (by kernel_rfl) (by kernel_rfl)
theorem ext3 : ExtOK Tryz.prog 355 .compare := ext_compare_ok Tryz.func355 (by kernel_rfl) (by kernel_rfl) (by kernel_rfl) (by kernel_rfl)
theorem exts_ok : ∀ p ∈ [((227 : FuncId), Ext.same), (384, .mapsClone), (288, .count), (355, .compare)], ExtOK Tryz.prog p.1 p.2 := by
  intro p hp
  simp only [List.mem_cons, List.mem_nil_iff, or_false] at hp
  rcases hp with rfl | rfl | rfl | rfl
  · exact ext0
  · exact ext1
  · exact ext2
  · exact ext3
/-- the machine's tables, with what is taken by contract -/
noncomputable def ctx (cons : List (FuncId × Con)) (more : List FuncId) : Ctx := mkCtx Tryz.prog [(227, .same), (384, .mapsClone), (288, .count), (355, .compare)] cons (more ++ [79, 80, 112, 139, 140, 144, 185, 187, 214, 216, 243, 266, 272, 285, 315, 330, 332, 404, 450, 470]) [(40, 4), (60, 4), (423, 4), (159, 4)] [(111, 2), (19, 100), (9, 100), (20, 100), (10, 100), (21, 100)]
theorem ctx_ok {O : Env → Heap → World → Prop} {cons : List (FuncId × Con)} (more : List FuncId) (h : ∀ p ∈ cons, ConOK Tryz.prog O p.1 p.2) : ProgOK Tryz.prog (ctx cons more) O := mkCtx_ok types_ok names_ok exts_ok h keys_ok
end Go.Proofs.YtigmccdncelmfaaGreatDoor.Wk
