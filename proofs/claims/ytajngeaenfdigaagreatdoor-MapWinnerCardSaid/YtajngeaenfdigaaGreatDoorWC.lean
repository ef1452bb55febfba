/-
  Part of the proof of a statement of this seat: walks of its functions and the closed run; no condition but those written in each theorem.
-/
import Derived.Test.YtajngeaenfdigaaGreatDoorQWe
import Derived.Test.YtajngeaenfdigaaGreatDoorKA
import Derived.ChangeMaps5
import Derived.Shelf.Vars
namespace Go.Proofs.YtajngeaenfdigaaGreatDoor.Wk
set_option maxRecDepth 100000
open Go.RowKit Go.VmK
open Go.ChangeShapes Go.WideShapes Go.Proofs Go.MapWin
variable {H : Type} {enc : TypeId × Value → H}
theorem cI : Tryz.prog.cellsOf 30 = 7 := by kernel_rfl
theorem cS : Tryz.prog.cellsOf 9 = 1 := by kernel_rfl
theorem cD : Tryz.prog.cellsOf 28 = 5 := by kernel_rfl
theorem cA : Tryz.prog.cellsOf 25 = 4 := by kernel_rfl
theorem cU : Tryz.prog.cellsOf 5 = 1 := by kernel_rfl
theorem cN : Tryz.prog.cellsOf 26 = 1 := by kernel_rfl
theorem walk {W : World} {base : Nat} {v0 : Value} {d0 : DataW H} {p0 : List MemPlace} (hv0 : Value.okWide Tryz.prog W .any base 22 v0)
    (h0 : DataW.Trod enc Tryz.prog W 0 (fun _ => true) true 22 v0 d0 p0) :
    Calls Tryz.prog 3 #[v0] W fun e W' => e = .returned (.bool true) ∧ Stands W W' := by
  obtain ⟨ao', len', cap', rfl⟩ := okWide_slice Tryz.underlying22 hv0
  obtain ⟨fuel0, ht0⟩ := h0
  obtain ⟨ao, len, cap, f, e0, _, hbig, hr⟩ := open_items Tryz.underlying22 Tryz.underlying30 cI Tryz.underlying9 cS Tryz.underlying28 cD Tryz.underlying25 cA Tryz.underlying5 cU Tryz.underlying26 cN rfl rfl rfl rfl rfl rfl rfl rfl rfl rfl rfl rfl rfl rfl rfl ht0
  have hv : ao' = ao ∧ len' = len ∧ cap' = cap := by simpa [Value.cells] using e0
  obtain ⟨rfl, rfl, rfl⟩ := hv
  by_cases h60 : (60 : Int) < len'
  · exact law_long alive_yes ao' len' cap' h60 W
  · rcases hr with rfl | ⟨bk, off, rfl, hl⟩
    · exact law_zero alive_yes ao' cap' W
    · by_cases hz : len' = 0
      · subst hz; exact law_zero alive_yes _ cap' W
      · exact law_some alive_yes f hbig bk off len' cap' (by omega) h60 W hl
end Go.Proofs.YtajngeaenfdigaaGreatDoor.Wk
