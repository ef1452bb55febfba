/-
  Part of the proof of a statement of this seat: walks of its functions and the closed run; no condition but those written in each theorem.
-/
import Derived.Test.YtigmccdncelmfaaGreatDoorBA
import Derived.Test.YtigmccdncelmfaaGreatDoorBB
import Derived.Test.YtigmccdncelmfaaGreatDoorYDelta
import Derived.Test.YtigmccdncelmfaaGreatDoorYAt
import Derived.ChangeMaps5
namespace Go.Proofs.YtigmccdncelmfaaGreatDoor.Wk
set_option maxRecDepth 100000
open Go.RowKit Go.VmK
open Go.ChangeShapes Go.WideShapes
variable {H : Type} {enc : TypeId × Value → H}
theorem cD : Tryz.prog.cellsOf 25 = 5 := by kernel_rfl
theorem cIT : Tryz.prog.cellsOf 62 = 7 := by kernel_rfl
theorem c_str : Tryz.prog.cellsOf 9 = 1 := by kernel_rfl
theorem delta_any {k : Int} {nm : ByteArray} {x : Value} {so go : Option Addr} {sl sc gl gc : Nat} {w : World} (h : Texts 7 0 6 w x) :
    Calls Tryz.prog 4 #[.agg #[.int .i64 k, .string nm, x, .slice so sl sc, .slice go gl gc]] w fun e w' => IsBool e ∧ Stands w w' := by
  rcases h with ⟨ao, cap, rfl⟩ | ⟨bk, off, len, cap, fs, ls, rfl, h1, h2, h3⟩
  · exact (smallDelta0 k nm ao so go cap sl sc gl gc w).mono fun e w' ⟨h1, h2⟩ => ⟨h1, stands_of_grown h2⟩
  · exact smallDelta1 k nm so go sl sc gl gc bk off len cap fs ls w h1 h2 h3
theorem walk {W : World} {base : Nat} {v0 v1 : Value} {d0 d1 : DataW H} {p0 p1 : List MemPlace} (hv0 : Value.okWide Tryz.prog W .any base 9 v0) (hv1 : Value.okWide Tryz.prog W .any base 25 v1)
    (h0 : DataW.Trod enc Tryz.prog W 0 (fun _ => true) true 9 v0 d0 p0) (h1 : DataW.Trod enc Tryz.prog W 0 (fun _ => true) true 25 v1 d1 p1) :
    Calls Tryz.prog 3 #[v0, v1] W fun e W' => e = .returned (.bool true) ∧ Stands W W' := by
  obtain ⟨s, rfl, _⟩ := Go.ChangeMaps.open_string Tryz.underlying9 hv0 h0
  obtain ⟨cs, rfl, hsz⟩ := agg_of Tryz.underlying25 hv1
  rw [cD] at hsz
  obtain ⟨l⟩ := cs
  match l, hsz with
  | [c0, c1, c2, c3, c4], _ =>
    obtain ⟨fuel, ht⟩ := h1
    obtain ⟨zs, m, _, _, hl4, hzl, hg⟩ := DataW.trod_struct Tryz.underlying25 ht
    have zsome : ∀ i, i < 5 → ∃ y, zs[i]? = some y := fun i hi => ⟨_, List.getElem?_eq_getElem (by simp at hzl; omega)⟩
    obtain ⟨z0, g0⟩ := zsome 0 (by decide)
    have q0 := (hg 0 _ rfl).trans g0
    obtain ⟨z1, g1⟩ := zsome 1 (by decide)
    have q1 := (hg 1 _ rfl).trans g1
    obtain ⟨z2, g2⟩ := zsome 2 (by decide)
    have q2 := (hg 2 _ rfl).trans g2
    obtain ⟨z3, g3⟩ := zsome 3 (by decide)
    have q3 := (hg 3 _ rfl).trans g3
    obtain ⟨z4, g4⟩ := zsome 4 (by decide)
    have q4 := (hg 4 _ rfl).trans g4
    simp only [Value.cells] at q0 q1 q2 q3 q4
    obtain ⟨dk, r0⟩ := int_at Tryz.underlying3 q0
    cases r0
    obtain ⟨dn, r1⟩ := str_at Tryz.underlying9 q1
    cases r1
    obtain ⟨dp, r2, hdp⟩ := texts_at (i := 0) (j := 2) Tryz.underlying22 Tryz.underlying62 Tryz.underlying9 c_str cIT (by decide) rfl rfl rfl rfl (by decide) (by decide) q2
    cases r2
    obtain ⟨so, sl, sc, r3⟩ := slice_at Tryz.underlying23 q3
    cases r3
    obtain ⟨go, gl, gc, r4⟩ := slice_at Tryz.underlying23 q4
    cases r4
    refine calls_yes (P := Tryz.prog) (C := ctx consB [4]) (σ0 := fun i => [Value.string s, .int .i64 dk, .string dn, c2, .slice so sl sc, .slice go gl gc][i]?) (ctx_ok [4] ?_) mixed (by rw [← runF_eq]; exact runB) (fun i hi => by
      have hi : 6 ≤ i := hi
      obtain ⟨k, rfl⟩ : ∃ k, i = k + 6 := ⟨i - 6, by omega⟩
      rfl) rfl
    intro q hq
    simp only [consB, List.mem_cons, List.mem_nil_iff, or_false] at hq
    rcases hq with rfl | rfl
    · refine flag_ok rfl fun w st => (delta_any (k := dk) (nm := dn) (so := so) (go := go) (sl := sl) (sc := sc) (gl := gl) (gc := gc) (hdp.stands st)).mono fun e w' ⟨h1, h2⟩ => ?_
      obtain ⟨v, rfl⟩ := h1
      exact ⟨v, rfl, h2⟩
    · exact yes_ok rfl fun w _ => alive_yes w
end Go.Proofs.YtigmccdncelmfaaGreatDoor.Wk
