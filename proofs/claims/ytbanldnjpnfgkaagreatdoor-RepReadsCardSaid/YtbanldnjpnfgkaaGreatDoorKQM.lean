/-
  Part of the proof of a statement of this seat: walks of its functions and the closed run; no condition but those written in each theorem.
-/
import Derived.Test.YtbanldnjpnfgkaaGreatDoorKD
namespace Go.Proofs.YtbanldnjpnfgkaaGreatDoor.fnRepReads
set_option maxRecDepth 100000
open Go.ChangeShapes Go.WideShapes Go.ChangeAt Go.RowKit Go.VmK
theorem looks_yes : true = Tryz.pinned.checked.prog.looks [] := by kernel_rfl
theorem named : Tryz.prog.funcNamed "cornucopia/cornucopialaw28.RepReads" = some 3 := by kernel_rfl
theorem no_stand0 : Tryz.prog.wantsStandIn 9 = false := by kernel_rfl
theorem no_stand1 : Tryz.prog.wantsStandIn 28 = false := by kernel_rfl
theorem plain (f : FuncId) (fn : Func) (hf : Tryz.pinned.checked.prog.funcNamed "cornucopia/cornucopialaw28.RepReads" = some f) (hfn : Tryz.pinned.checked.prog.funcs[f]? = some fn) :
    true = Tryz.pinned.checked.prog.looks [] ∧ ∀ (j : Nat) t, fn.params[j]? = some t → Tryz.pinned.checked.prog.wantsStandIn t = false := by
  obtain rfl : f = 3 := Option.some.inj (named.symm.trans hf) |>.symm
  obtain rfl : fn = Tryz.f3 := (Option.some.inj (Tryz.func3.symm.trans hfn)).symm
  refine ⟨looks_yes, fun j t ht => ?_⟩
  rw [Tryz.params3] at ht
  have ht := Array.mem_of_getElem? ht
  have ht : t = 9 ∨ t = 28 := by simpa using ht
  rcases ht with rfl | rfl
  · exact no_stand0
  · exact no_stand1
theorem card_main : Tryz.pinned.checked.prog.mainIs = some (Rows.repReadsCard.stood.harness.1, Rows.repReadsCard.stood.harness.2.toList) := by kernel_rfl
theorem no_goes : Tryz.pinned.checked.prog.funcs.any Func.goes = false := by kernel_rfl
theorem card_goes : false = Rows.repReadsRow.goesBy Tryz.pinned.checked.prog := goesBy_none rfl no_goes
theorem card_wf : Rows.repReadsRow.wfByText (OpenSpec.ofChange Rows.repReadsSpec) = true := by kernel_rfl
end Go.Proofs.YtbanldnjpnfgkaaGreatDoor.fnRepReads
