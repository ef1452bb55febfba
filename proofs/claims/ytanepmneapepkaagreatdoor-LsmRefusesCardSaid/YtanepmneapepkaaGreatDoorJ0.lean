/-
  Part of the proof of a statement of this seat: walks of its functions and the closed run; no condition but those written in each theorem.
-/
import Derived.Test.YtanepmneapepkaaGreatDoorV7
import Derived.KernelRfl
import Derived.Test.YtanepmneapepkaaGreatDoorProg
namespace Go.Proofs.YtanepmneapepkaaGreatDoor.Wk
set_option maxRecDepth 100000
open Go.RowKit Go.VmK
theorem types_ok : typesOk Tryz.prog = true := by kernel_rfl
theorem names_ok : namesOk Tryz.prog = true := by kernel_rfl
theorem mixed : Tryz.prog.follows .mixedOrders = true := by kernel_rfl
theorem keys_ok : keysOk Tryz.prog [(315, 4)] = true := by kernel_rfl
theorem ext0 : ExtOK Tryz.prog 197 .same := ext_same_ok Tryz.func197 (by kernel_rfl) (by kernel_rfl) (by kernel_rfl) (by kernel_rfl)
theorem ext1 : ExtOK Tryz.prog 207 .mapsClone := ext_clone_ok Tryz.func207 (by kernel_rfl) (by kernel_rfl) (by kernel_rfl) (by kernel_rfl)
theorem ext2 : ExtOK Tryz.prog 293 .compare := ext_compare_ok Tryz.func293 (by kernel_rfl) (by kernel_rfl) (by kernel_rfl) (by kernel_rfl)
theorem ext3 : ExtOK Tryz.prog 295 (.makeNoZero 5) := ext_makeNoZero_ok (ps := Tryz.f295.params) (t := 33) Tryz.func295 (by kernel_rfl) (by kernel_rfl) (by kernel_rfl) (by kernel_rfl) Tryz.underlying33 (by kernel_rfl)
theorem ext4 : ExtOK Tryz.prog 330 .indexByte := ext_indexByte_ok Tryz.func330 (by kernel_rfl) (by kernel_rfl) (by kernel_rfl) (by kernel_rfl)
theorem exts_ok : ∀ p ∈ [((197 : FuncId), Ext.same), (207, .mapsClone), (293, .compare), (295, .makeNoZero 5), (330, .indexByte)], ExtOK Tryz.prog p.1 p.2 := by
  intro p hp
  simp only [List.mem_cons, List.mem_nil_iff, or_false] at hp
  rcases hp with rfl | rfl | rfl | rfl | rfl
  · exact ext0
  · exact ext1
  · exact ext2
  · exact ext3
  · exact ext4
/-- the machine's tables, with what is taken by contract -/
noncomputable def ctx (cons : List (FuncId × Con)) (more : List FuncId) : Ctx := mkCtx Tryz.prog [(197, .same), (207, .mapsClone), (293, .compare), (295, .makeNoZero 5), (330, .indexByte)] cons (more ++ [79, 110, 147, 149, 193, 195, 219, 249, 274, 302]) [(315, 4)] [(109, 2), (6, 100), (7, 100), (9, 100), (5, 100), (11, 100), (12, 100)]
theorem ctx_ok {O : Env → Heap → World → Prop} {cons : List (FuncId × Con)} (more : List FuncId) (h : ∀ p ∈ cons, ConOK Tryz.prog O p.1 p.2) : ProgOK Tryz.prog (ctx cons more) O := mkCtx_ok types_ok names_ok exts_ok h keys_ok
end Go.Proofs.YtanepmneapepkaaGreatDoor.Wk
