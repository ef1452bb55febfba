/-
  Part of the proof of a statement of this seat: walks of its functions and the closed run; no condition but those written in each theorem.
-/
import Derived.Test.YtbanldnjpnfgkaaGreatDoorKO
import Derived.Test.YtbanldnjpnfgkaaGreatDoorKI
import Derived.Test.YtbanldnjpnfgkaaGreatDoorKW
import Derived.Test.YtbanldnjpnfgkaaGreatDoorKY
namespace Go.Proofs.YtbanldnjpnfgkaaGreatDoor.Wk
set_option maxRecDepth 100000
open Go.RowKit Go.VmK
/-- ALIVE, FROM AN EMPTY MEMORY: yes. -/
noncomputable def consA : List (FuncId × Con) := [(329, .sort), (311, .fn cmpRows), (9, .known callsKO), (28, .known callsKI), (54, .known callsKW), (64, .known callsKY)]
theorem consA_ok {O : Env → Heap → World → Prop} : ∀ p ∈ consA, ConOK Tryz.prog O p.1 p.2 := by
  intro p hp
  simp only [consA, List.mem_cons, List.mem_nil_iff, or_false] at hp
  rcases hp with rfl | rfl | rfl | rfl | rfl | rfl
  · exact sortOK
  · exact conBytes
  · exact knownKO
  · exact knownKI
  · exact knownKW
  · exact knownKY
theorem runA : saysYes (runF (ctx consA []) 100000 7 [] (heap0 0)) = true := by kernel_rfl
theorem alive_yes (w : World) : Calls Tryz.prog 7 #[] w fun e w' => e = .returned (.bool true) ∧ Stands w w' :=
  calls_yes (σ0 := fun _ => none) (ctx_ok [] consA_ok) mixed (by rw [← runF_eq]; exact runA) (fun _ _ => rfl) rfl
end Go.Proofs.YtbanldnjpnfgkaaGreatDoor.Wk
