/-
  Part of the proof of a statement of this seat: walks of its functions and the closed run; no condition but those written in each theorem.
-/
import Derived.Test.YthcnhdiipbpdgaaGreatDoorLA
import Derived.Test.YthcnhdiipbpdgaaGreatDoorLB
import Derived.Test.YthcnhdiipbpdgaaGreatDoorYWrites
import Derived.Test.YthcnhdiipbpdgaaGreatDoorYAt
import Derived.ChangeMaps5
namespace Go.Proofs.YthcnhdiipbpdgaaGreatDoor.Wk
set_option maxRecDepth 100000
open Go.RowKit Go.VmK
open Go.ChangeShapes Go.WideShapes
variable {H : Type} {enc : TypeId × Value → H}
theorem c_write : Tryz.prog.cellsOf 58 = 3 := by kernel_rfl
theorem c_str : Tryz.prog.cellsOf 9 = 1 := by kernel_rfl
theorem walk {W : World} {base : Nat} {v0 v1 : Value} {d0 d1 : DataW H} {p0 p1 : List MemPlace} (hv0 : Value.okWide Tryz.prog W .any base 9 v0) (hv1 : Value.okWide Tryz.prog W .any base 22 v1)
    (h0 : DataW.Trod enc Tryz.prog W 0 (fun _ => true) true 9 v0 d0 p0) (h1 : DataW.Trod enc Tryz.prog W 0 (fun _ => true) true 22 v1 d1 p1) :
    Calls Tryz.prog 3 #[v0, v1] W fun e W' => e = .returned (.bool true) ∧ Stands W W' := by
  obtain ⟨s, rfl, _⟩ := Go.ChangeMaps.open_string Tryz.underlying9 hv0 h0
  obtain ⟨ao, len, cap, rfl⟩ := okWide_slice Tryz.underlying22 hv1
  obtain ⟨fuel, hf⟩ := h1
  obtain ⟨v, he, ht⟩ := texts_at (i := 0) (j := 1) Tryz.underlying22 Tryz.underlying58 Tryz.underlying9 c_str c_write (by decide) rfl rfl rfl rfl (by decide) (by decide) hf
  have hv : v = .slice ao len cap := by simpa [Value.cells] using he.symm
  subst hv
  refine calls_yes (P := Tryz.prog) (C := ctx consB [4]) (σ0 := fun i => [Value.string s, .slice ao len cap][i]?) (ctx_ok [4] ?_) mixed (by rw [← runF_eq]; exact runLB) (fun i hi => by
    have hi : 2 ≤ i := hi
    obtain ⟨k, rfl⟩ : ∃ k, i = k + 2 := ⟨i - 2, by omega⟩
    rfl) rfl
  intro q hq
  simp only [consB, List.mem_cons, List.mem_nil_iff, or_false] at hq
  rcases hq with rfl | rfl
  · refine flag_ok rfl fun w st => (writes_any (ht.stands st)).mono fun e w' ⟨h1, h2⟩ => ?_
    obtain ⟨v, rfl⟩ := h1
    exact ⟨v, rfl, h2⟩
  · exact yes_ok rfl fun w _ => alive_yes w
end Go.Proofs.YthcnhdiipbpdgaaGreatDoor.Wk
