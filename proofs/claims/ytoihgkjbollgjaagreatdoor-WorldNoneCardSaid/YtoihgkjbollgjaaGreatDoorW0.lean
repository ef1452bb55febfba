/-
  Part of the proof of a statement of this seat: walks of its functions and the closed run; no condition but those written in each theorem.
-/
import Derived.Test.YtoihgkjbollgjaaGreatDoorV7
import Derived.KernelRfl
import Derived.Test.YtoihgkjbollgjaaGreatDoorProg
namespace Go.Proofs.YtoihgkjbollgjaaGreatDoor.Wk
set_option maxRecDepth 100000
open Go.RowKit Go.VmK
theorem types_ok : typesOk Tryz.prog = true := by kernel_rfl
theorem names_ok : namesOk Tryz.prog = true := by kernel_rfl
theorem mixed : Tryz.prog.follows .mixedOrders = true := by kernel_rfl
theorem keys_ok : keysOk Tryz.prog [(140, 4), (143, 4), (188, 4), (660, 4), (136, 4)] = true := by kernel_rfl
theorem ext0 : ExtOK Tryz.prog 187 .same := ext_same_ok Tryz.func187 (by kernel_rfl) (by kernel_rfl) (by kernel_rfl) (by kernel_rfl)
theorem ext1 : ExtOK Tryz.prog 171 .mapsClone := ext_clone_ok Tryz.func171 (by kernel_rfl) (by kernel_rfl) (by kernel_rfl) (by kernel_rfl)
theorem ext2 : ExtOK Tryz.prog 157 .count := ext_count_ok Tryz.func157 (by kernel_rfl) (by kernel_rfl) (by kernel_rfl) (by kernel_rfl)
theorem ext3 : ExtOK Tryz.prog 546 .compare := ext_compare_ok Tryz.func546 (by kernel_rfl) (by kernel_rfl) (by kernel_rfl) (by kernel_rfl)
theorem ext4 : ExtOK Tryz.prog 432 (.makeNoZero 5) := ext_makeNoZero_ok (ps := Tryz.f432.params) (t := 94) Tryz.func432 (by kernel_rfl) (by kernel_rfl) (by kernel_rfl) (by kernel_rfl) Tryz.underlying94 (by kernel_rfl)
theorem ext5 : ExtOK Tryz.prog 468 .indexByte := ext_indexByte_ok Tryz.func468 (by kernel_rfl) (by kernel_rfl) (by kernel_rfl) (by kernel_rfl)
theorem exts_ok : ∀ p ∈ [((187 : FuncId), Ext.same), (171, .mapsClone), (157, .count), (546, .compare), (432, .makeNoZero 5), (468, .indexByte)], ExtOK Tryz.prog p.1 p.2 := by
  intro p hp
  simp only [List.mem_cons, List.mem_nil_iff, or_false] at hp
  rcases hp with rfl | rfl | rfl | rfl | rfl | rfl
  · exact ext0
  · exact ext1
  · exact ext2
  · exact ext3
  · exact ext4
  · exact ext5
/-- the machine's tables, with what is taken by contract -/
noncomputable def ctx (cons : List (FuncId × Con)) (more : List FuncId) : Ctx := mkCtx Tryz.prog [(187, .same), (171, .mapsClone), (157, .count), (546, .compare), (432, .makeNoZero 5), (468, .indexByte)] cons (more ++ [94, 115, 147, 148, 172, 174, 188, 190, 231, 232, 236, 277, 285, 300, 322, 341, 343, 386, 425, 454, 466, 502, 504, 597, 656, 686]) [(140, 4), (143, 4), (188, 4), (660, 4), (136, 4)] [(93, 2), (95, 100), (481, 100), (132, 100), (117, 100), (63, 100), (131, 100), (52, 100), (10, 100), (8, 100), (161, 100), (29, 100), (51, 100), (16, 100), (480, 100), (28, 100)]
theorem ctx_ok {O : Env → Heap → World → Prop} {cons : List (FuncId × Con)} (more : List FuncId) (h : ∀ p ∈ cons, ConOK Tryz.prog O p.1 p.2) : ProgOK Tryz.prog (ctx cons more) O := mkCtx_ok types_ok names_ok exts_ok h keys_ok
end Go.Proofs.YtoihgkjbollgjaaGreatDoor.Wk
