/-
  Part of the proof of a statement of this seat: walks of its functions and the closed run; no condition but those written in each theorem.
-/
import Derived.Test.YtbanldnjpnfgkaaGreatDoorV7
import Derived.KernelRfl
import Derived.Test.YtbanldnjpnfgkaaGreatDoorProg
namespace Go.Proofs.YtbanldnjpnfgkaaGreatDoor.Wk
set_option maxRecDepth 100000
open Go.RowKit Go.VmK
theorem types_ok : typesOk Tryz.prog = true := by kernel_rfl
theorem names_ok : namesOk Tryz.prog = true := by kernel_rfl
theorem mixed : Tryz.prog.follows .mixedOrders = true := by kernel_rfl
theorem keys_ok : keysOk Tryz.prog [(44, 4), (47, 4), (515, 4), (53, 4), (65, 4)] = true := by kernel_rfl
theorem ext0 : ExtOK Tryz.prog 416 .same := ext_same_ok Tryz.func416 (by kernel_rfl) (by kernel_rfl) (by kernel_rfl) (by kernel_rfl)
theorem ext1 : ExtOK Tryz.prog 370 .mapsClone := ext_clone_ok Tryz.func370 (by kernel_rfl) (by kernel_rfl) (by kernel_rfl) (by kernel_rfl)
theorem ext2 : ExtOK Tryz.prog 504 .count := ext_count_ok Tryz.func504 (by kernel_rfl) (by kernel_rfl) (by kernel_rfl) (by kernel_rfl)
theorem ext3 : ExtOK Tryz.prog 500 .compare := ext_compare_ok Tryz.func500 (by kernel_rfl) (by kernel_rfl) (by kernel_rfl) (by kernel_rfl)
theorem ext4 : ExtOK Tryz.prog 492 (.makeNoZero 5) := ext_makeNoZero_ok (ps := Tryz.f492.params) (t := 85) Tryz.func492 (by kernel_rfl) (by kernel_rfl) (by kernel_rfl) (by kernel_rfl) Tryz.underlying85 (by kernel_rfl)
theorem ext5 : ExtOK Tryz.prog 559 .indexByte := ext_indexByte_ok Tryz.func559 (by kernel_rfl) (by kernel_rfl) (by kernel_rfl) (by kernel_rfl)
theorem exts_ok : ∀ p ∈ [((416 : FuncId), Ext.same), (370, .mapsClone), (504, .count), (500, .compare), (492, .makeNoZero 5), (559, .indexByte)], ExtOK Tryz.prog p.1 p.2 := by
  intro p hp
  simp only [List.mem_cons, List.mem_nil_iff, or_false] at hp
  rcases hp with rfl | rfl | rfl | rfl | rfl | rfl
  · exact ext0
  · exact ext1
  · exact ext2
  · exact ext3
  · exact ext4
  · exact ext5
/-- the machine's tables, with what is taken by contract -/
noncomputable def ctx (cons : List (FuncId × Con)) (more : List FuncId) : Ctx := mkCtx Tryz.prog [(416, .same), (370, .mapsClone), (504, .count), (500, .compare), (492, .makeNoZero 5), (559, .indexByte)] cons (more ++ [191, 230, 242, 291, 293, 309, 328, 330, 349, 381, 399, 401, 417, 460, 467, 501]) [(44, 4), (47, 4), (515, 4), (53, 4), (65, 4)] [(229, 2), (9, 100), (28, 100), (54, 100), (64, 100), (42, 100), (83, 100), (161, 100), (49, 100), (34, 100), (12, 100)]
theorem ctx_ok {O : Env → Heap → World → Prop} {cons : List (FuncId × Con)} (more : List FuncId) (h : ∀ p ∈ cons, ConOK Tryz.prog O p.1 p.2) : ProgOK Tryz.prog (ctx cons more) O := mkCtx_ok types_ok names_ok exts_ok h keys_ok
end Go.Proofs.YtbanldnjpnfgkaaGreatDoor.Wk
