/-
  Part of the proof of a statement of this seat: walks of its functions and the closed run; no condition but those written in each theorem.
-/
import Derived.Test.YtlfgcganjbmjfaaGreatDoorGA
import Derived.Test.YtlfgcganjbmjfaaGreatDoorGB
import Derived.Test.YtlfgcganjbmjfaaGreatDoorYAt
namespace Go.Proofs.YtlfgcganjbmjfaaGreatDoor.Wk
set_option maxRecDepth 100000
open Go.RowKit Go.VmK
open Go.ChangeShapes Go.WideShapes
variable {H : Type} {enc : TypeId × Value → H}
theorem cR : Tryz.prog.cellsOf 23 = 6 := by kernel_rfl
theorem walk {W : World} {base : Nat} {v0 : Value} {d0 : DataW H} {p0 : List MemPlace} (hv0 : Value.okWide Tryz.prog W .any base 23 v0)
    (h0 : DataW.Trod enc Tryz.prog W 0 (fun _ => true) true 23 v0 d0 p0) :
    Calls Tryz.prog 3 #[v0] W fun e W' => e = .returned (.bool true) ∧ Stands W W' := by
  obtain ⟨cs, rfl, hsz⟩ := agg_of Tryz.underlying23 hv0
  rw [cR] at hsz
  obtain ⟨l⟩ := cs
  match l, hsz with
  | [c0, c1, c2, c3, c4, c5], _ =>
    obtain ⟨fuel, ht⟩ := h0
    obtain ⟨zs, m, _, _, hl4, hzl, hg⟩ := DataW.trod_struct Tryz.underlying23 ht
    have zsome : ∀ i, i < 6 → ∃ y, zs[i]? = some y := fun i hi => ⟨_, List.getElem?_eq_getElem (by simp at hzl; omega)⟩
    obtain ⟨z0, g0⟩ := zsome 0 (by decide)
    have q0 := (hg 0 _ rfl).trans g0
    obtain ⟨z1, g1⟩ := zsome 1 (by decide)
    have q1 := (hg 1 _ rfl).trans g1
    obtain ⟨z2, g2⟩ := zsome 2 (by decide)
    have q2 := (hg 2 _ rfl).trans g2
    obtain ⟨z3, g3⟩ := zsome 3 (by decide)
    have q3 := (hg 3 _ rfl).trans g3
    obtain ⟨z4, g4⟩ := zsome 4 (by decide)
    have q4 := (hg 4 _ rfl).trans g4
    obtain ⟨z5, g5⟩ := zsome 5 (by decide)
    have q5 := (hg 5 _ rfl).trans g5
    simp only [Value.cells] at q0 q1 q2 q3 q4 q5
    obtain ⟨x0, r0⟩ := str_at Tryz.underlying9 q0
    cases r0
    obtain ⟨x1, r1⟩ := str_at Tryz.underlying9 q1
    cases r1
    obtain ⟨x2, r2⟩ := str_at Tryz.underlying9 q2
    cases r2
    obtain ⟨x3, r3⟩ := str_at Tryz.underlying9 q3
    cases r3
    obtain ⟨x4, r4⟩ := int_at Tryz.underlying3 q4
    cases r4
    obtain ⟨x5, r5⟩ := bool_at Tryz.underlying4 q5
    cases r5
    have hB : ∀ p ∈ consB, ConOK Tryz.prog (Outer W (fun i => [Value.string x0, .string x1, .string x2, .string x3, .int .i64 x4][i]?) fun b => b < W.heap.size) p.1 p.2 := by
      intro q hq
      simp only [consB, List.mem_cons, List.mem_nil_iff, or_false] at hq
      subst hq
      exact yes_ok rfl fun w _ => alive_yes w
    have hσ : ∀ i, 5 ≤ i → (fun i => [Value.string x0, .string x1, .string x2, .string x3, .int .i64 x4][i]?) i = none := fun i hi => by
      obtain ⟨k, rfl⟩ : ∃ k, i = k + 5 := ⟨i - 5, by omega⟩
      rfl
    cases x5 with
    | true => exact calls_yes (P := Tryz.prog) (ctx_ok [5] hB) mixed (by rw [← runF_eq]; exact runBt) hσ rfl
    | false => exact calls_yes (P := Tryz.prog) (ctx_ok [5] hB) mixed (by rw [← runF_eq]; exact runBf) hσ rfl
end Go.Proofs.YtlfgcganjbmjfaaGreatDoor.Wk
