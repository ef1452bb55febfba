/-
  Part of the proof of a statement of this seat: walks of its functions and the closed run; no condition but those written in each theorem.
-/
import Derived.Test.YtanepmneapepkaaGreatDoorJA
import Derived.Test.YtanepmneapepkaaGreatDoorJM
import Derived.Test.YtanepmneapepkaaGreatDoorYAt
namespace Go.Proofs.YtanepmneapepkaaGreatDoor.Wk
set_option maxRecDepth 100000
open Go.RowKit Go.VmK
open Go.ChangeShapes Go.WideShapes
variable {H : Type} {enc : TypeId × Value → H}
theorem cW : Tryz.prog.cellsOf 24 = 3 := by kernel_rfl
theorem cS : Tryz.prog.cellsOf 9 = 1 := by kernel_rfl
theorem cB : Tryz.prog.cellsOf 4 = 1 := by kernel_rfl
theorem walk {W : World} {base : Nat} {v0 v1 v2 : Value} {d0 d1 d2 : DataW H} {p0 p1 p2 : List MemPlace} (hv0 : Value.okWide Tryz.prog W .any base 22 v0) (hv1 : Value.okWide Tryz.prog W .any base 24 v1) (hv2 : Value.okWide Tryz.prog W .any base 3 v2)
    (h0 : DataW.Trod enc Tryz.prog W 0 (fun _ => true) true 22 v0 d0 p0) (h1 : DataW.Trod enc Tryz.prog W 0 (fun _ => true) true 24 v1 d1 p1) (h2 : DataW.Trod enc Tryz.prog W 0 (fun _ => true) true 3 v2 d2 p2) :
    Calls Tryz.prog 3 #[v0, v1, v2] W fun e W' => e = .returned (.bool true) ∧ Stands W W' := by
  obtain ⟨a, rfl⟩ : ∃ a, v2 = .int .i64 a := by
    obtain ⟨a, h, _⟩ := Go.ChangeShapes.open_int Tryz.underlying3 hv2 h2
    exact ⟨a, h⟩
  obtain ⟨cs, rfl, hsz⟩ := agg_of Tryz.underlying24 hv1
  rw [cW] at hsz
  obtain ⟨l⟩ := cs
  obtain ⟨ao', len', cap', rfl⟩ := okWide_slice Tryz.underlying22 hv0
  obtain ⟨fuel0, ht0⟩ := h0
  obtain ⟨ao, len, cap, ks, vs, ds, e0, hnil, hcap, hmax, hr⟩ := open_writes Tryz.underlying22 Tryz.underlying24 cW Tryz.underlying9 Tryz.underlying4 cS cB rfl rfl rfl rfl rfl rfl rfl rfl rfl ht0
  have hv : ao' = ao ∧ len' = len ∧ cap' = cap := by simpa [Value.cells] using e0
  obtain ⟨rfl, rfl, rfl⟩ := hv
  match l, hsz with
  | [c0, c1, c2], _ =>
    obtain ⟨fuel, ht⟩ := h1
    obtain ⟨zs, m, _, _, hl4, hzl, hg⟩ := DataW.trod_struct Tryz.underlying24 ht
    have zsome : ∀ i, i < 3 → ∃ y, zs[i]? = some y := fun i hi => ⟨_, List.getElem?_eq_getElem (by simp at hzl; omega)⟩
    obtain ⟨z0, g0⟩ := zsome 0 (by decide)
    have q0 := (hg 0 _ rfl).trans g0
    obtain ⟨z1, g1⟩ := zsome 1 (by decide)
    have q1 := (hg 1 _ rfl).trans g1
    obtain ⟨z2, g2⟩ := zsome 2 (by decide)
    have q2 := (hg 2 _ rfl).trans g2
    simp only [Value.cells] at q0 q1 q2
    obtain ⟨x0, r0⟩ := str_at Tryz.underlying9 q0
    cases r0
    obtain ⟨x1, r1⟩ := str_at Tryz.underlying9 q1
    cases r1
    obtain ⟨x2, r2⟩ := bool_at Tryz.underlying4 q2
    cases r2
    exact law_all (fun w => alive_yes w) ao' len' cap' ks vs ds x0 x1 x2 a W hr hnil hcap hmax
end Go.Proofs.YtanepmneapepkaaGreatDoor.Wk
