/-
  Part of the proof of a statement of this seat: walks of its functions and the closed run; no condition but those written in each theorem.
-/
import Derived.Test.YthcnhdiipbpdgaaGreatDoorLE
namespace Go.Proofs.YthcnhdiipbpdgaaGreatDoor.fnLsmNone
set_option maxRecDepth 100000
open Go.ChangeShapes Go.WideShapes Go.ChangeAt Go.RowKit Go.VmK
set_option maxHeartbeats 100000000 in
theorem closed : joinedFacts Tryz.pinned.checked.prog 3 Tryz.f3 (OpenSpec.ofChange Rows.lsmNoneSpec).bare Rows.lsmNoneRow = true := by
  unfold joinedFacts
  simp only [Bool.and_eq_true]
  repeat' apply And.intro
  all_goals (as_aux_lemma => kernel_rfl)
set_option maxHeartbeats 100000000 in
theorem said : Rows.LsmNoneSaid :=
  OpenClaim.holds_of_cond 3 Tryz.f3 rfl rfl rfl rfl rfl rfl rfl ⟨rfl, rfl, rfl, rfl, rfl⟩ rfl rfl rfl rfl rfl (by as_aux_lemma => kernel_rfl) Tryz.func3 closed
    (of_decide_eq_true (by as_aux_lemma => kernel_rfl)) (by unfold Func.isWrapper; first | (rw [if_pos (by decide +kernel)]; kernel_rfl) | (rw [if_neg (by decide +kernel)]; exact ⟨rfl, rfl⟩))
    (fun os started H enc _ F => by rw [OpenClaim.pre_eq_preRow]; exact lifted os started H enc F)
theorem looks_yes : true = Tryz.pinned.checked.prog.looks [] := by kernel_rfl
theorem named : Tryz.prog.funcNamed "cornucopia/cornucopialaw17.LsmNone" = some 3 := by kernel_rfl
theorem no_stand0 : Tryz.prog.wantsStandIn 9 = false := by kernel_rfl
theorem no_stand1 : Tryz.prog.wantsStandIn 22 = false := by kernel_rfl
theorem plain (f : FuncId) (fn : Func) (hf : Tryz.pinned.checked.prog.funcNamed "cornucopia/cornucopialaw17.LsmNone" = some f) (hfn : Tryz.pinned.checked.prog.funcs[f]? = some fn) :
    true = Tryz.pinned.checked.prog.looks [] ∧ ∀ (j : Nat) t, fn.params[j]? = some t → Tryz.pinned.checked.prog.wantsStandIn t = false := by
  obtain rfl : f = 3 := Option.some.inj (named.symm.trans hf) |>.symm
  obtain rfl : fn = Tryz.f3 := (Option.some.inj (Tryz.func3.symm.trans hfn)).symm
  refine ⟨looks_yes, fun j t ht => ?_⟩
  rw [Tryz.params3] at ht
  have ht := Array.mem_of_getElem? ht
  have ht : t = 9 ∨ t = 22 := by simpa using ht
  rcases ht with rfl | rfl
  · exact no_stand0
  · exact no_stand1
theorem card_main : Tryz.pinned.checked.prog.mainIs = some (Rows.lsmNoneCard.stood.harness.1, Rows.lsmNoneCard.stood.harness.2.toList) := by kernel_rfl
theorem card_goes : false = Rows.lsmNoneRow.goesBy Tryz.pinned.checked.prog := by kernel_rfl
theorem card_wf : Rows.lsmNoneRow.wfByText (OpenSpec.ofChange Rows.lsmNoneSpec) = true := by kernel_rfl
set_option maxHeartbeats 100000000 in
theorem card : Rows.LsmNoneCardSaid :=
  Claim7.holds_tied_plain_at .later [] _ _ _ _ said (fun _ h => by cases h) card_wf (fun _ h => by cases h) lsmNone_row_tie rfl ⟨rfl, rfl⟩ card_main rfl plain card_goes
end Go.Proofs.YthcnhdiipbpdgaaGreatDoor.fnLsmNone
