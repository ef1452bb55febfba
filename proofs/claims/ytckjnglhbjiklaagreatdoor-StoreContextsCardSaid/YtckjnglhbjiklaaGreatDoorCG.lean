/-
  Part of the proof of a statement of this seat: walks of its functions and the closed run; no condition but those written in each theorem.
-/
import Derived.Test.YtckjnglhbjiklaaGreatDoorCE
import Derived.Test.YtckjnglhbjiklaaGreatDoorCQH
import Derived.Test.YtckjnglhbjiklaaGreatDoorCQI
import Derived.Test.YtckjnglhbjiklaaGreatDoorCQL
import Derived.Test.YtckjnglhbjiklaaGreatDoorCQM
import Derived.Test.YtckjnglhbjiklaaGreatDoorCQN
namespace Go.Proofs.YtckjnglhbjiklaaGreatDoor.fnStoreContexts
set_option maxRecDepth 100000
open Go.ChangeShapes Go.WideShapes Go.ChangeAt Go.RowKit Go.VmK
set_option maxHeartbeats 100000000 in
theorem closed : joinedFacts Tryz.pinned.checked.prog 3 Tryz.f3 (OpenSpec.ofChange Rows.storeContextsSpec).bare Rows.storeContextsRow = true := by
  unfold joinedFacts
  simp only [Bool.and_eq_true]
  repeat' apply And.intro
  all_goals first | with_reducible exact c1 | with_reducible exact c3 | with_reducible exact c4 | with_reducible exact c5 | with_reducible exact c6 | with_reducible exact c7 | with_reducible exact c8a | with_reducible exact c8b | with_reducible exact c9 | with_reducible exact c11 | (as_aux_lemma => kernel_rfl)
theorem said : Rows.StoreContextsSaid := said_of closed
set_option maxHeartbeats 100000000 in
theorem card : Rows.StoreContextsCardSaid :=
  Claim7.holds_tied_plain_at .later [] _ _ _ _ said (fun _ h => by cases h) card_wf (fun _ h => by cases h) storeContexts_row_tie rfl ⟨rfl, rfl⟩ card_main rfl plain card_goes
end Go.Proofs.YtckjnglhbjiklaaGreatDoor.fnStoreContexts
