/-
  Part of the proof of a statement of this seat: walks of its functions and the closed run; no condition but those written in each theorem.
-/
import Derived.Test.YtckjnglhbjiklaaGreatDoorKD
namespace Go.Proofs.YtckjnglhbjiklaaGreatDoor.fnStoreKinds
set_option maxRecDepth 100000
open Go.ChangeShapes Go.WideShapes Go.ChangeAt Go.RowKit Go.VmK
theorem looks_yes : true = Tryz.pinned.checked.prog.looks [] := by kernel_rfl
theorem named : Tryz.prog.funcNamed "cornucopia/cornucopialaw30.StoreKinds" = some 4 := by kernel_rfl
theorem no_stand0 : Tryz.prog.wantsStandIn 9 = false := by kernel_rfl
theorem plain (f : FuncId) (fn : Func) (hf : Tryz.pinned.checked.prog.funcNamed "cornucopia/cornucopialaw30.StoreKinds" = some f) (hfn : Tryz.pinned.checked.prog.funcs[f]? = some fn) :
    true = Tryz.pinned.checked.prog.looks [] ∧ ∀ (j : Nat) t, fn.params[j]? = some t → Tryz.pinned.checked.prog.wantsStandIn t = false := by
  obtain rfl : f = 4 := Option.some.inj (named.symm.trans hf) |>.symm
  obtain rfl : fn = Tryz.f4 := (Option.some.inj (Tryz.func4.symm.trans hfn)).symm
  refine ⟨looks_yes, fun j t ht => ?_⟩
  rw [Tryz.params4] at ht
  obtain rfl : t = 9 := by simpa using Array.mem_of_getElem? ht
  exact no_stand0
theorem card_main : Tryz.pinned.checked.prog.mainIs = some (Rows.storeKindsCard.stood.harness.1, Rows.storeKindsCard.stood.harness.2.toList) := by kernel_rfl
theorem no_goes : Tryz.pinned.checked.prog.funcs.any Func.goes = false := by kernel_rfl
theorem card_goes : false = Rows.storeKindsRow.goesBy Tryz.pinned.checked.prog := goesBy_none rfl no_goes
theorem card_wf : Rows.storeKindsRow.wfByText (OpenSpec.ofChange Rows.storeKindsSpec) = true := by kernel_rfl
end Go.Proofs.YtckjnglhbjiklaaGreatDoor.fnStoreKinds
