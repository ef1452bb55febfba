/-
  Part of the proof of a statement of this seat: walks of its functions and the closed run; no condition but those written in each theorem.
-/
import Derived.Test.YtbanldnjpnfgkaaGreatDoorKE
import Derived.Test.YtbanldnjpnfgkaaGreatDoorKQH
import Derived.Test.YtbanldnjpnfgkaaGreatDoorKQI
import Derived.Test.YtbanldnjpnfgkaaGreatDoorKQL
import Derived.Test.YtbanldnjpnfgkaaGreatDoorKQM
import Derived.Test.YtbanldnjpnfgkaaGreatDoorKQN
namespace Go.Proofs.YtbanldnjpnfgkaaGreatDoor.fnRepReads
set_option maxRecDepth 100000
open Go.ChangeShapes Go.WideShapes Go.ChangeAt Go.RowKit Go.VmK
set_option maxHeartbeats 100000000 in
theorem closed : joinedFacts Tryz.pinned.checked.prog 3 Tryz.f3 (OpenSpec.ofChange Rows.repReadsSpec).bare Rows.repReadsRow = true := by
  unfold joinedFacts
  simp only [Bool.and_eq_true]
  repeat' apply And.intro
  all_goals first | with_reducible exact c1 | with_reducible exact c3 | with_reducible exact c4 | with_reducible exact c5 | with_reducible exact c6 | with_reducible exact c7 | with_reducible exact c8a | with_reducible exact c8b | with_reducible exact c9 | with_reducible exact c11 | (as_aux_lemma => kernel_rfl)
theorem said : Rows.RepReadsSaid := said_of closed
set_option maxHeartbeats 100000000 in
theorem card : Rows.RepReadsCardSaid :=
  Claim7.holds_tied_plain_at .later [] _ _ _ _ said (fun _ h => by cases h) card_wf (fun _ h => by cases h) repReads_row_tie rfl ⟨rfl, rfl⟩ card_main rfl plain card_goes
end Go.Proofs.YtbanldnjpnfgkaaGreatDoor.fnRepReads
