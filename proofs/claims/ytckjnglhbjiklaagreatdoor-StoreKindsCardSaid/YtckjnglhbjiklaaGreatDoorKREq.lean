/-
  Part of the proof of a statement of this seat: walks of its functions and the closed run; no condition but those written in each theorem.
-/
import Derived.Test.YtckjnglhbjiklaaGreatDoorKF
import Derived.Test.YtckjnglhbjiklaaGreatDoorKCon
import Derived.Test.YtckjnglhbjiklaaGreatDoorKA
namespace Go.Proofs.YtckjnglhbjiklaaGreatDoor.Wk
set_option maxRecDepth 100000
open Go.RowKit Go.VmK Go.NumPure Go.Shelf
section
variable {name elem value : ByteArray} {w0 : World}
noncomputable def baseEq : List (FuncId × Con) := [(5, .yes []), (197, .fn (sortFn rowsSort)), (69, .ans rowsClone), (86, .ans rowsText), (288, .ans rowsPart), (117, .fn (patFn rowsBatch)), (171, .fn (rowFn rowsFrame)), (149, .fn (rowFn rowsNT)), (300, .fn (patFn rowsItems))]
theorem baseEq_ok (hs : Sm name elem value) {m : Int} (hm : w0.cell? ⟨0, 0, none⟩ = some (.int .i64 m)) : ∀ p ∈ baseEq, ConOK Tryz.prog (OO w0 name elem value) p.1 p.2 := by
  intro p hp
  simp only [baseEq, List.mem_cons, List.mem_nil_iff, or_false] at hp
  rcases hp with rfl | rfl | rfl | rfl | rfl | rfl | rfl | rfl | rfl
  · exact yes_ok rfl fun w _ => alive_yes w
  · exact conSort_ok
  · exact conClone hs
  · exact conText hs hm
  · exact conPart hs
  · exact conBatch hs
  · exact conFrame hs
  · exact conNT hs
  · exact conItems hs
theorem progEq {cs : List (FuncId × Con)} (hs : Sm name elem value) (hne : otr name = name) (K : ∀ p ∈ cs, ConOK Tryz.prog (OO w0 name elem value) p.1 p.2) : ProgOK Tryz.prog (CEq cs (sg name elem value)) (OO w0 name elem value) :=
  withAll_ok (ctx_ok [] K) (fun _ _ _ h => h.σ) (fun _ _ _ _ _ _ _ h => by cases h) (factsOkEq hs hne) (ofactsOkEq hs hne)
noncomputable def consEq : List (FuncId × Con) := baseEq
theorem consEq_ok (hs : Sm name elem value) (_hne : otr name = name) {m : Int} (hm : w0.cell? ⟨0, 0, none⟩ = some (.int .i64 m)) : ∀ p ∈ consEq, ConOK Tryz.prog (OO w0 name elem value) p.1 p.2 := baseEq_ok hs hm
end
end Go.Proofs.YtckjnglhbjiklaaGreatDoor.Wk
namespace Go.Proofs.YtckjnglhbjiklaaGreatDoor.Wk
set_option maxRecDepth 100000
open Go.RowKit Go.VmK Go.NumPure Go.Shelf
theorem runEq (σ0 : Nat → Option Value) : saysYes (runF (CEq consEq σ0) 100000 4 [.symStr 0, .symStr 1, .symStr 2] (heap0 1000)) = true := by kernel_rfl
theorem lawEq {name elem value : ByteArray} (hs : Sm name elem value) (hne : otr name = name) (w : World) {m : Int} (hm : w.cell? ⟨0, 0, none⟩ = some (.int .i64 m)) : Calls Tryz.prog 4 #[.string name, .string elem, .string value] w fun e w' => e = .returned (.bool true) ∧ Stands w w' :=
  calls_yes (progEq hs hne (consEq_ok hs hne hm)) mixed (by rw [← runF_eq]; exact runEq _) (fun i hi => sg_none _ _ _ i (by have : 1000 ≤ i := hi; omega)) (xs := [.string name, .string elem, .string value]) rfl
end Go.Proofs.YtckjnglhbjiklaaGreatDoor.Wk
