/-
  Part of the proof of a statement of this seat: walks of its functions and the closed run; no condition but those written in each theorem.
-/
import Derived.Test.YtjjhphjbmllhhaaGreatDoorGA
import Derived.Test.YtjjhphjbmllhhaaGreatDoorPAll
import Derived.Test.YtjjhphjbmllhhaaGreatDoorYAt
import Derived.Test.YtjjhphjbmllhhaaGreatDoorV7
namespace Go.Proofs.YtjjhphjbmllhhaaGreatDoor.Wk
set_option maxRecDepth 100000
open Go.RowKit Go.VmK
open Go.ChangeShapes Go.WideShapes
variable {H : Type} {enc : TypeId × Value → H}
theorem cR : Tryz.prog.cellsOf 23 = 6 := by kernel_rfl
theorem walk {W : World} {base : Nat} {v0 v1 v2 : Value} {d0 d1 d2 : DataW H} {p0 p1 p2 : List MemPlace} (hv0 : Value.okWide Tryz.prog W .any base 23 v0) (hv1 : Value.okWide Tryz.prog W .any base 3 v1) (hv2 : Value.okWide Tryz.prog W .any base 3 v2)
    (h0 : DataW.Trod enc Tryz.prog W 0 (fun _ => true) true 23 v0 d0 p0) (h1 : DataW.Trod enc Tryz.prog W 0 (fun _ => true) true 3 v1 d1 p1) (h2 : DataW.Trod enc Tryz.prog W 0 (fun _ => true) true 3 v2 d2 p2) :
    Calls Tryz.prog 3 #[v0, v1, v2] W fun e W' => e = .returned (.bool true) ∧ Stands W W' := by
  obtain ⟨cs, rfl, hsz⟩ := agg_of Tryz.underlying23 hv0
  obtain ⟨a, rfl, ha⟩ : ∃ a, v1 = .int .i64 a ∧ a ≤ 9223372036854775807 := by
    obtain ⟨a, h, _, _, hw⟩ := Go.ChangeShapes.open_int Tryz.underlying3 hv1 h1
    exact ⟨a, h, of_decide_eq_true (Bool.and_eq_true_iff.1 hw).2⟩
  obtain ⟨b, rfl⟩ : ∃ b, v2 = .int .i64 b := by
    obtain ⟨b, h, _⟩ := Go.ChangeShapes.open_int Tryz.underlying3 hv2 h2
    exact ⟨b, h⟩
  rw [cR] at hsz
  obtain ⟨l⟩ := cs
  match l, hsz with
  | [c0, c1, c2, c3, c4, c5], _ =>
    obtain ⟨fuel, ht⟩ := h0
    obtain ⟨zs, m, _, _, hl4, hzl, hg⟩ := DataW.trod_struct Tryz.underlying23 ht
    have zsome : ∀ i, i < 6 → ∃ y, zs[i]? = some y := fun i hi => ⟨_, List.getElem?_eq_getElem (by simp at hzl; omega)⟩
    obtain ⟨z0, g0⟩ := zsome 0 (by decide)
    have q0 := (hg 0 _ rfl).trans g0
    obtain ⟨z1, g1⟩ := zsome 1 (by decide)
    have q1 := (hg 1 _ rfl).trans g1
    obtain ⟨z2, g2⟩ := zsome 2 (by decide)
    have q2 := (hg 2 _ rfl).trans g2
    obtain ⟨z3, g3⟩ := zsome 3 (by decide)
    have q3 := (hg 3 _ rfl).trans g3
    obtain ⟨z4, g4⟩ := zsome 4 (by decide)
    have q4 := (hg 4 _ rfl).trans g4
    obtain ⟨z5, g5⟩ := zsome 5 (by decide)
    have q5 := (hg 5 _ rfl).trans g5
    simp only [Value.cells] at q0 q1 q2 q3 q4 q5
    obtain ⟨x0, r0⟩ := str_at Tryz.underlying9 q0
    cases r0
    obtain ⟨x1, r1⟩ := str_at Tryz.underlying9 q1
    cases r1
    obtain ⟨x2, r2⟩ := str_at Tryz.underlying9 q2
    cases r2
    obtain ⟨x3, r3⟩ := str_at Tryz.underlying9 q3
    cases r3
    obtain ⟨x4, r4, _, w4⟩ := DataW.trod_int Tryz.underlying3 q4
    cases r4
    obtain ⟨x5, r5⟩ := bool_at Tryz.underlying4 q5
    cases r5
    exact law_all (fun w => alive_yes w) x0 x1 x2 x3 x4 x5 ⟨of_decide_eq_true (Bool.and_eq_true_iff.1 w4).1, of_decide_eq_true (Bool.and_eq_true_iff.1 w4).2⟩ a ha b W
end Go.Proofs.YtjjhphjbmllhhaaGreatDoor.Wk
