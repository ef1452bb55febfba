/-
  Part of the proof of a statement of this seat: walks of its functions and the closed run; no condition but those written in each theorem.
-/
import Derived.Test.YtfahplfgamgoaaaGreatDoorPA
import Derived.ChangeMaps5
namespace Go.Proofs.YtfahplfgamgoaaaGreatDoor.Wk
set_option maxRecDepth 100000
open Go.RowKit Go.VmK
open Go.ChangeShapes Go.WideShapes
variable {H : Type} {enc : TypeId × Value → H}
/-- THE LAW'S OWN RUN: alive by contract. -/
noncomputable def consB : List (FuncId × Con) := [(4, .yes [])]
theorem runB : saysYes (runF (ctx consB) 100000 3 [.symStr 0] (heap0 1)) = true := by kernel_rfl
theorem walk {W : World} {base : Nat} {v0 : Value} {d0 : DataW H} {p0 : List MemPlace} (hv0 : Value.okWide Tryz.prog W .any base 9 v0) (h0 : DataW.Trod enc Tryz.prog W 0 (fun _ => true) true 9 v0 d0 p0) :
    Calls Tryz.prog 3 #[v0] W fun e W' => e = .returned (.bool true) ∧ Stands W W' := by
  obtain ⟨s, rfl, _⟩ := Go.ChangeMaps.open_string Tryz.underlying9 hv0 h0
  refine calls_yes (P := Tryz.prog) (C := ctx consB) (σ0 := fun i => [Value.string s][i]?) (ctx_ok ?_) mixed (by rw [← runF_eq]; exact runB) (fun i hi => by
    have hi : 1 ≤ i := hi
    obtain ⟨k, rfl⟩ : ∃ k, i = k + 1 := ⟨i - 1, by omega⟩
    rfl) rfl
  intro q hq
  simp only [consB, List.mem_cons, List.mem_nil_iff, or_false] at hq
  subst hq
  exact yes_ok rfl fun w _ => alive_yes w
end Go.Proofs.YtfahplfgamgoaaaGreatDoor.Wk
