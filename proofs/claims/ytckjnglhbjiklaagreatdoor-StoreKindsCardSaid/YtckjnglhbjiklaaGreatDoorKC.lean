/-
  Part of the proof of a statement of this seat: walks of its functions and the closed run; no condition but those written in each theorem.
-/
import Derived.Test.YtckjnglhbjiklaaGreatDoorKL
import Derived.ChangeMaps5
import Derived.Shelf.Vars
namespace Go.Proofs.YtckjnglhbjiklaaGreatDoor.Wk
set_option maxRecDepth 100000
open Go.RowKit Go.VmK
open Go.ChangeShapes Go.WideShapes Go.Proofs
variable {H : Type} {enc : TypeId × Value → H}
theorem max_len {W : World} (h : W.ShapedOpen Tryz.prog) : ∃ m, W.cell? ⟨0, 0, none⟩ = some (.int .i64 m) :=
  cell_of_shapedOpen_int (zero := #[.int .i64 0]) (t := 3) h (of_decide_eq_true (by kernel_rfl)) (by kernel_rfl) rfl (by kernel_rfl) (by kernel_rfl) Tryz.underlying3
theorem walk {W : World} {base : Nat} {v0 v1 v2 : Value} {d0 d1 d2 : DataW H} {p0 p1 p2 : List MemPlace} (hsh : W.ShapedOpen Tryz.prog) (hv0 : Value.okWide Tryz.prog W .any base 9 v0) (hv1 : Value.okWide Tryz.prog W .any base 9 v1) (hv2 : Value.okWide Tryz.prog W .any base 9 v2)
    (h0 : DataW.Trod enc Tryz.prog W 0 (fun _ => true) true 9 v0 d0 p0) (h1 : DataW.Trod enc Tryz.prog W 0 (fun _ => true) true 9 v1 d1 p1) (h2 : DataW.Trod enc Tryz.prog W 0 (fun _ => true) true 9 v2 d2 p2) :
    Calls Tryz.prog 4 #[v0, v1, v2] W fun e W' => e = .returned (.bool true) ∧ Stands W W' := by
  obtain ⟨x0, rfl, _⟩ := Go.ChangeMaps.open_string Tryz.underlying9 hv0 h0
  obtain ⟨x1, rfl, _⟩ := Go.ChangeMaps.open_string Tryz.underlying9 hv1 h1
  obtain ⟨x2, rfl, _⟩ := Go.ChangeMaps.open_string Tryz.underlying9 hv2 h2
  obtain ⟨m, hm⟩ := max_len hsh
  exact law_all x0 x1 x2 W hm
end Go.Proofs.YtckjnglhbjiklaaGreatDoor.Wk
