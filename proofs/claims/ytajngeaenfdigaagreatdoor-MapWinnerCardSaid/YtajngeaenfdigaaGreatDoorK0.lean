/-
  Part of the proof of a statement of this seat: walks of its functions and the closed run; no condition but those written in each theorem.
-/
import Derived.Test.YtajngeaenfdigaaGreatDoorV7
import Derived.KernelRfl
import Derived.Test.YtajngeaenfdigaaGreatDoorProg
namespace Go.Proofs.YtajngeaenfdigaaGreatDoor.Wk
set_option maxRecDepth 100000
open Go.RowKit Go.VmK
theorem types_ok : typesOk Tryz.prog = true := by kernel_rfl
theorem names_ok : namesOk Tryz.prog = true := by kernel_rfl
theorem mixed : Tryz.prog.follows .mixedOrders = true := by kernel_rfl
theorem keys_ok : keysOk Tryz.prog [(25, 4), (28, 4), (527, 4), (212, 4)] = true := by kernel_rfl
theorem ext0 : ExtOK Tryz.prog 249 .same := ext_same_ok Tryz.func249 (by kernel_rfl) (by kernel_rfl) (by kernel_rfl) (by kernel_rfl)
theorem ext1 : ExtOK Tryz.prog 307 .mapsClone := ext_clone_ok Tryz.func307 (by kernel_rfl) (by kernel_rfl) (by kernel_rfl) (by kernel_rfl)
theorem ext2 : ExtOK Tryz.prog 411 .count := ext_count_ok Tryz.func411 (by kernel_rfl) (by kernel_rfl) (by kernel_rfl) (by kernel_rfl)
theorem ext3 : ExtOK Tryz.prog 348 .compare := ext_compare_ok Tryz.func348 (by kernel_rfl) (by kernel_rfl) (by kernel_rfl) (by kernel_rfl)
theorem ext4 : ExtOK Tryz.prog 427 (.makeNoZero 5) := ext_makeNoZero_ok (ps := Tryz.f427.params) (t := 56) Tryz.func427 (by kernel_rfl) (by kernel_rfl) (by kernel_rfl) (by kernel_rfl) Tryz.underlying56 (by kernel_rfl)
theorem ext5 : ExtOK Tryz.prog 470 .indexByte := ext_indexByte_ok Tryz.func470 (by kernel_rfl) (by kernel_rfl) (by kernel_rfl) (by kernel_rfl)
theorem exts_ok : ∀ p ∈ [((249 : FuncId), Ext.same), (307, .mapsClone), (411, .count), (348, .compare), (427, .makeNoZero 5), (470, .indexByte)], ExtOK Tryz.prog p.1 p.2 := by
  intro p hp
  simp only [List.mem_cons, List.mem_nil_iff, or_false] at hp
  rcases hp with rfl | rfl | rfl | rfl | rfl | rfl
  · exact ext0
  · exact ext1
  · exact ext2
  · exact ext3
  · exact ext4
  · exact ext5
/-- the machine's tables, with what is taken by contract -/
noncomputable def ctx (cons : List (FuncId × Con)) (more : List FuncId) : Ctx := mkCtx Tryz.prog [(249, .same), (307, .mapsClone), (411, .count), (348, .compare), (427, .makeNoZero 5), (470, .indexByte)] cons (more ++ [50, 114, 116, 160, 187, 193, 215, 243, 262, 264, 285, 299, 301, 333, 349, 351, 375, 400, 405, 433]) [(25, 4), (28, 4), (527, 4), (212, 4)] [(49, 2), (20, 100), (21, 100), (11, 100), (9, 100), (12, 100), (10, 100), (61, 100), (201, 100)]
theorem ctx_ok {O : Env → Heap → World → Prop} {cons : List (FuncId × Con)} (more : List FuncId) (h : ∀ p ∈ cons, ConOK Tryz.prog O p.1 p.2) : ProgOK Tryz.prog (ctx cons more) O := mkCtx_ok types_ok names_ok exts_ok h keys_ok
end Go.Proofs.YtajngeaenfdigaaGreatDoor.Wk
