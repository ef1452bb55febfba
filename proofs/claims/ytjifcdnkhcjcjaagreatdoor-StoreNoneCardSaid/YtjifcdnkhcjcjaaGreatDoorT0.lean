/-
  Part of the proof of a statement of this seat: walks of its functions and the closed run; no condition but those written in each theorem.
-/
import Derived.Test.YtjifcdnkhcjcjaaGreatDoorV7
import Derived.KernelRfl
import Derived.Test.YtjifcdnkhcjcjaaGreatDoorProg
namespace Go.Proofs.YtjifcdnkhcjcjaaGreatDoor.Wk
set_option maxRecDepth 100000
open Go.RowKit Go.VmK
theorem types_ok : typesOk Tryz.prog = true := by kernel_rfl
theorem names_ok : namesOk Tryz.prog = true := by kernel_rfl
theorem mixed : Tryz.prog.follows .mixedOrders = true := by kernel_rfl
theorem keys_ok : keysOk Tryz.prog [(30, 4), (33, 4), (448, 4), (193, 4)] = true := by kernel_rfl
theorem ext0 : ExtOK Tryz.prog 250 .same := ext_same_ok Tryz.func250 (by kernel_rfl) (by kernel_rfl) (by kernel_rfl) (by kernel_rfl)
theorem ext1 : ExtOK Tryz.prog 292 .mapsClone := ext_clone_ok Tryz.func292 (by kernel_rfl) (by kernel_rfl) (by kernel_rfl) (by kernel_rfl)
theorem ext2 : ExtOK Tryz.prog 319 .count := ext_count_ok Tryz.func319 (by kernel_rfl) (by kernel_rfl) (by kernel_rfl) (by kernel_rfl)
theorem ext3 : ExtOK Tryz.prog 430 .compare := ext_compare_ok Tryz.func430 (by kernel_rfl) (by kernel_rfl) (by kernel_rfl) (by kernel_rfl)
theorem exts_ok : ∀ p ∈ [((250 : FuncId), Ext.same), (292, .mapsClone), (319, .count), (430, .compare)], ExtOK Tryz.prog p.1 p.2 := by
  intro p hp
  simp only [List.mem_cons, List.mem_nil_iff, or_false] at hp
  rcases hp with rfl | rfl | rfl | rfl
  · exact ext0
  · exact ext1
  · exact ext2
  · exact ext3
/-- the machine's tables, with what is taken by contract -/
noncomputable def ctx (cons : List (FuncId × Con)) (more : List FuncId) : Ctx := mkCtx Tryz.prog [(250, .same), (292, .mapsClone), (319, .count), (430, .compare)] cons (more ++ [158, 168, 229, 231, 235, 237, 244, 271, 307, 310, 313, 315, 337, 382, 411, 427, 468, 470, 480, 494]) [(30, 4), (33, 4), (448, 4), (193, 4)] [(157, 2), (7, 100), (76, 100), (79, 100), (129, 100), (130, 100), (6, 100)]
theorem ctx_ok {O : Env → Heap → World → Prop} {cons : List (FuncId × Con)} (more : List FuncId) (h : ∀ p ∈ cons, ConOK Tryz.prog O p.1 p.2) : ProgOK Tryz.prog (ctx cons more) O := mkCtx_ok types_ok names_ok exts_ok h keys_ok
end Go.Proofs.YtjifcdnkhcjcjaaGreatDoor.Wk
