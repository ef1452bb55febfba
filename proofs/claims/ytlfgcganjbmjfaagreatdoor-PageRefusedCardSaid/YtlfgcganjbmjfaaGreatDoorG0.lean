/-
  Part of the proof of a statement of this seat: walks of its functions and the closed run; no condition but those written in each theorem.
-/
import Derived.Test.YtlfgcganjbmjfaaGreatDoorV7
import Derived.KernelRfl
import Derived.Test.YtlfgcganjbmjfaaGreatDoorProg
namespace Go.Proofs.YtlfgcganjbmjfaaGreatDoor.Wk
set_option maxRecDepth 100000
open Go.RowKit Go.VmK
theorem types_ok : typesOk Tryz.prog = true := by kernel_rfl
theorem names_ok : namesOk Tryz.prog = true := by kernel_rfl
theorem mixed : Tryz.prog.follows .mixedOrders = true := by kernel_rfl
theorem keys_ok : keysOk Tryz.prog [(44, 4), (51, 4), (462, 4), (175, 4), (23, 4)] = true := by kernel_rfl
theorem ext0 : ExtOK Tryz.prog 245 .same := ext_same_ok Tryz.func245 (by kernel_rfl) (by kernel_rfl) (by kernel_rfl) (by kernel_rfl)
theorem ext1 : ExtOK Tryz.prog 295 .mapsClone := ext_clone_ok Tryz.func295 (by kernel_rfl) (by kernel_rfl) (by kernel_rfl) (by kernel_rfl)
theorem ext2 : ExtOK Tryz.prog 356 .count := ext_count_ok Tryz.func356 (by kernel_rfl) (by kernel_rfl) (by kernel_rfl) (by kernel_rfl)
theorem ext3 : ExtOK Tryz.prog 367 .compare := ext_compare_ok Tryz.func367 (by kernel_rfl) (by kernel_rfl) (by kernel_rfl) (by kernel_rfl)
theorem ext4 : ExtOK Tryz.prog 406 (.makeNoZero 5) := ext_makeNoZero_ok (ps := Tryz.f406.params) (t := 45) Tryz.func406 (by kernel_rfl) (by kernel_rfl) (by kernel_rfl) (by kernel_rfl) Tryz.underlying45 (by kernel_rfl)
theorem ext5 : ExtOK Tryz.prog 433 .indexByte := ext_indexByte_ok Tryz.func433 (by kernel_rfl) (by kernel_rfl) (by kernel_rfl) (by kernel_rfl)
theorem exts_ok : ∀ p ∈ [((245 : FuncId), Ext.same), (295, .mapsClone), (356, .count), (367, .compare), (406, .makeNoZero 5), (433, .indexByte)], ExtOK Tryz.prog p.1 p.2 := by
  intro p hp
  simp only [List.mem_cons, List.mem_nil_iff, or_false] at hp
  rcases hp with rfl | rfl | rfl | rfl | rfl | rfl
  · exact ext0
  · exact ext1
  · exact ext2
  · exact ext3
  · exact ext4
  · exact ext5
/-- the machine's tables, with what is taken by contract -/
noncomputable def ctx (cons : List (FuncId × Con)) (more : List FuncId) : Ctx := mkCtx Tryz.prog [(245, .same), (295, .mapsClone), (356, .count), (367, .compare), (406, .makeNoZero 5), (433, .indexByte)] cons (more ++ [53, 106, 108, 135, 173, 179, 219, 231, 259, 261, 314, 316, 334, 370, 396, 430]) [(44, 4), (51, 4), (462, 4), (175, 4), (23, 4)] [(52, 2), (10, 100), (11, 100), (12, 100), (7, 100)]
theorem ctx_ok {O : Env → Heap → World → Prop} {cons : List (FuncId × Con)} (more : List FuncId) (h : ∀ p ∈ cons, ConOK Tryz.prog O p.1 p.2) : ProgOK Tryz.prog (ctx cons more) O := mkCtx_ok types_ok names_ok exts_ok h keys_ok
end Go.Proofs.YtlfgcganjbmjfaaGreatDoor.Wk
