/-
  Part of the proof of a statement of this seat: walks of its functions and the closed run; no condition but those written in each theorem.
-/
import Derived.Test.YtoihgkjbollgjaaGreatDoorNQ1
import Derived.Test.YtoihgkjbollgjaaGreatDoorNQ2
import Derived.Test.YtoihgkjbollgjaaGreatDoorNQ3
import Derived.Test.YtoihgkjbollgjaaGreatDoorNQ4
namespace Go.Proofs.YtoihgkjbollgjaaGreatDoor.Wk
set_option maxRecDepth 100000
theorem inPlace_eq : Tryz.prog.inPlace 3 = ["internal/bytealg.IndexByteString", "internal/bytealg.IndexString", "internal/bytealg.CountString", "internal/abi.NoEscape", "internal/bytealg.MakeNoZero", "maps.clone", "internal/bytealg.abigen_runtime_cmpstring", "internal/bytealg.Compare", "slices.overlaps[cornucopia/rep.Packet]"] := by
  show (Tryz.prog.closure 3).filterMap inOf = _
  rw [closure_eq, parts]
  simp only [List.filterMap_append, in0, in1, in2, in3, in4, in5, in6, in7, in8, in9, in10, in11]
  rfl
theorem globals_eq : reached.flatMap glOf = [1, 2, 0, 0, 0] := by
  rw [parts]
  simp only [List.flatMap_append, gl0, gl1, gl2, gl3, gl4, gl5, gl6, gl7, gl8, gl9, gl10, gl11]
  rfl
theorem reads_eq : reached.filterMap erOf = ["internal/bytealg.MaxLen"] := by
  rw [parts]
  simp only [List.filterMap_append, er0, er1, er2, er3, er4, er5, er6, er7, er8, er9, er10, er11]
  rfl
theorem vars_eq : Tryz.prog.varsNamed 3 = ((([1, 2, 0, 0, 0] : List Nat).eraseDups).filterMap (fun g => (Tryz.prog.globals[g]?).map (·.name)) ++ ["internal/bytealg.MaxLen"]).eraseDups := by
  show ((((Tryz.prog.closure 3).flatMap glOf).eraseDups).filterMap (fun g => (Tryz.prog.globals[g]?).map (·.name)) ++ (Tryz.prog.closure 3).filterMap erOf).eraseDups = _
  rw [closure_eq, globals_eq, reads_eq]
end Go.Proofs.YtoihgkjbollgjaaGreatDoor.Wk
