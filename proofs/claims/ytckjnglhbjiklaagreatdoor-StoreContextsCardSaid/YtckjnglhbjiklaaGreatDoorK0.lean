/-
  Part of the proof of a statement of this seat: walks of its functions and the closed run; no condition but those written in each theorem.
-/
import Derived.Test.YtckjnglhbjiklaaGreatDoorV7
import Derived.KernelRfl
import Derived.Test.YtckjnglhbjiklaaGreatDoorProg
namespace Go.Proofs.YtckjnglhbjiklaaGreatDoor.Wk
set_option maxRecDepth 100000
open Go.RowKit Go.VmK
theorem types_ok : typesOk Tryz.prog = true := by kernel_rfl
theorem names_ok : namesOk Tryz.prog = true := by kernel_rfl
theorem mixed : Tryz.prog.follows .mixedOrders = true := by kernel_rfl
theorem keys_ok : keysOk Tryz.prog [(32, 4), (35, 4), (472, 4), (227, 4)] = true := by kernel_rfl
theorem ext0 : ExtOK Tryz.prog 279 .same := ext_same_ok Tryz.func279 (by kernel_rfl) (by kernel_rfl) (by kernel_rfl) (by kernel_rfl)
theorem ext1 : ExtOK Tryz.prog 244 .mapsClone := ext_clone_ok Tryz.func244 (by kernel_rfl) (by kernel_rfl) (by kernel_rfl) (by kernel_rfl)
theorem ext2 : ExtOK Tryz.prog 346 .count := ext_count_ok Tryz.func346 (by kernel_rfl) (by kernel_rfl) (by kernel_rfl) (by kernel_rfl)
theorem ext3 : ExtOK Tryz.prog 384 .compare := ext_compare_ok Tryz.func384 (by kernel_rfl) (by kernel_rfl) (by kernel_rfl) (by kernel_rfl)
theorem ext4 : ExtOK Tryz.prog 383 (.makeNoZero 5) := ext_makeNoZero_ok (ps := Tryz.f383.params) (t := 249) Tryz.func383 (by kernel_rfl) (by kernel_rfl) (by kernel_rfl) (by kernel_rfl) Tryz.underlying249 (by kernel_rfl)
theorem ext5 : ExtOK Tryz.prog 458 .indexByte := ext_indexByte_ok Tryz.func458 (by kernel_rfl) (by kernel_rfl) (by kernel_rfl) (by kernel_rfl)
theorem exts_ok : ∀ p ∈ [((279 : FuncId), Ext.same), (244, .mapsClone), (346, .count), (384, .compare), (383, .makeNoZero 5), (458, .indexByte)], ExtOK Tryz.prog p.1 p.2 := by
  intro p hp
  simp only [List.mem_cons, List.mem_nil_iff, or_false] at hp
  rcases hp with rfl | rfl | rfl | rfl | rfl | rfl
  · exact ext0
  · exact ext1
  · exact ext2
  · exact ext3
  · exact ext4
  · exact ext5
/-- the machine's tables, with what is taken by contract -/
noncomputable def ctx (cons : List (FuncId × Con)) (more : List FuncId) : Ctx := mkCtx Tryz.prog [(279, .same), (244, .mapsClone), (346, .count), (384, .compare), (383, .makeNoZero 5), (458, .indexByte)] cons (more ++ [121, 196, 198, 204, 263, 266, 268, 275, 298, 338, 341, 343, 363, 380, 399, 427, 441, 475, 477, 503]) [(32, 4), (35, 4), (472, 4), (227, 4)] [(120, 2), (6, 100), (94, 100), (97, 100), (159, 100), (160, 100), (8, 100), (229, 100), (299, 100)]
theorem ctx_ok {O : Env → Heap → World → Prop} {cons : List (FuncId × Con)} (more : List FuncId) (h : ∀ p ∈ cons, ConOK Tryz.prog O p.1 p.2) : ProgOK Tryz.prog (ctx cons more) O := mkCtx_ok types_ok names_ok exts_ok h keys_ok
end Go.Proofs.YtckjnglhbjiklaaGreatDoor.Wk
