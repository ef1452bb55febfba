/-
  Part of the proof of a statement of this seat: walks of its functions and the closed run; no condition but those written in each theorem.
-/
import Derived.Test.YtajngeaenfdigaaGreatDoorWD
namespace Go.Proofs.YtajngeaenfdigaaGreatDoor.fnMapWinner
set_option maxRecDepth 100000
open Go.ChangeShapes Go.WideShapes Go.ChangeAt Go.RowKit Go.VmK
theorem looks_yes : true = Tryz.pinned.checked.prog.looks [] := by kernel_rfl
theorem named : Tryz.prog.funcNamed "cornucopia/cornucopialaw25.MapWinner" = some 3 := by kernel_rfl
theorem no_stand0 : Tryz.prog.wantsStandIn 22 = false := by kernel_rfl
theorem plain (f : FuncId) (fn : Func) (hf : Tryz.pinned.checked.prog.funcNamed "cornucopia/cornucopialaw25.MapWinner" = some f) (hfn : Tryz.pinned.checked.prog.funcs[f]? = some fn) :
    true = Tryz.pinned.checked.prog.looks [] ∧ ∀ (j : Nat) t, fn.params[j]? = some t → Tryz.pinned.checked.prog.wantsStandIn t = false := by
  obtain rfl : f = 3 := Option.some.inj (named.symm.trans hf) |>.symm
  obtain rfl : fn = Tryz.f3 := (Option.some.inj (Tryz.func3.symm.trans hfn)).symm
  refine ⟨looks_yes, fun j t ht => ?_⟩
  rw [Tryz.params3] at ht
  obtain rfl : t = 22 := by simpa using Array.mem_of_getElem? ht
  exact no_stand0
theorem card_main : Tryz.pinned.checked.prog.mainIs = some (Rows.mapWinnerCard.stood.harness.1, Rows.mapWinnerCard.stood.harness.2.toList) := by kernel_rfl
theorem no_goes : Tryz.pinned.checked.prog.funcs.any Func.goes = false := by kernel_rfl
theorem card_goes : false = Rows.mapWinnerRow.goesBy Tryz.pinned.checked.prog := goesBy_none rfl no_goes
theorem card_wf : Rows.mapWinnerRow.wfByText (OpenSpec.ofChange Rows.mapWinnerSpec) = true := by kernel_rfl
end Go.Proofs.YtajngeaenfdigaaGreatDoor.fnMapWinner
