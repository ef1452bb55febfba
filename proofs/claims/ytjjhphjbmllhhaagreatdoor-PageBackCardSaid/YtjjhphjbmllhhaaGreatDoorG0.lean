/-
  Part of the proof of a statement of this seat: walks of its functions and the closed run; no condition but those written in each theorem.
-/
import Derived.Test.YtjjhphjbmllhhaaGreatDoorV7
import Derived.KernelRfl
import Derived.Test.YtjjhphjbmllhhaaGreatDoorProg
namespace Go.Proofs.YtjjhphjbmllhhaaGreatDoor.Wk
set_option maxRecDepth 100000
open Go.RowKit Go.VmK
theorem types_ok : typesOk Tryz.prog = true := by kernel_rfl
theorem names_ok : namesOk Tryz.prog = true := by kernel_rfl
theorem mixed : Tryz.prog.follows .mixedOrders = true := by kernel_rfl
theorem keys_ok : keysOk Tryz.prog [(44, 4), (75, 4), (493, 4), (194, 4), (23, 4)] = true := by kernel_rfl
theorem ext0 : ExtOK Tryz.prog 131 .same := ext_same_ok Tryz.func131 (by kernel_rfl) (by kernel_rfl) (by kernel_rfl) (by kernel_rfl)
theorem ext1 : ExtOK Tryz.prog 291 .mapsClone := ext_clone_ok Tryz.func291 (by kernel_rfl) (by kernel_rfl) (by kernel_rfl) (by kernel_rfl)
theorem ext2 : ExtOK Tryz.prog 401 .count := ext_count_ok Tryz.func401 (by kernel_rfl) (by kernel_rfl) (by kernel_rfl) (by kernel_rfl)
theorem ext3 : ExtOK Tryz.prog 360 .compare := ext_compare_ok Tryz.func360 (by kernel_rfl) (by kernel_rfl) (by kernel_rfl) (by kernel_rfl)
theorem ext4 : ExtOK Tryz.prog 406 (.makeNoZero 5) := ext_makeNoZero_ok (ps := Tryz.f406.params) (t := 30) Tryz.func406 (by kernel_rfl) (by kernel_rfl) (by kernel_rfl) (by kernel_rfl) Tryz.underlying30 (by kernel_rfl)
theorem ext5 : ExtOK Tryz.prog 452 .indexByte := ext_indexByte_ok Tryz.func452 (by kernel_rfl) (by kernel_rfl) (by kernel_rfl) (by kernel_rfl)
theorem exts_ok : ∀ p ∈ [((131 : FuncId), Ext.same), (291, .mapsClone), (401, .count), (360, .compare), (406, .makeNoZero 5), (452, .indexByte)], ExtOK Tryz.prog p.1 p.2 := by
  intro p hp
  simp only [List.mem_cons, List.mem_nil_iff, or_false] at hp
  rcases hp with rfl | rfl | rfl | rfl | rfl | rfl
  · exact ext0
  · exact ext1
  · exact ext2
  · exact ext3
  · exact ext4
  · exact ext5
/-- the machine's tables, with what is taken by contract -/
noncomputable def ctx (cons : List (FuncId × Con)) (more : List FuncId) : Ctx := mkCtx Tryz.prog [(131, .same), (291, .mapsClone), (401, .count), (360, .compare), (406, .makeNoZero 5), (452, .indexByte)] cons (more ++ [73, 121, 123, 150, 186, 192, 219, 234, 260, 262, 311, 313, 330, 365, 391, 427]) [(44, 4), (75, 4), (493, 4), (194, 4), (23, 4)] [(72, 2), (9, 100), (10, 100), (11, 100), (13, 100)]
theorem ctx_ok {O : Env → Heap → World → Prop} {cons : List (FuncId × Con)} (more : List FuncId) (h : ∀ p ∈ cons, ConOK Tryz.prog O p.1 p.2) : ProgOK Tryz.prog (ctx cons more) O := mkCtx_ok types_ok names_ok exts_ok h keys_ok
end Go.Proofs.YtjjhphjbmllhhaaGreatDoor.Wk
