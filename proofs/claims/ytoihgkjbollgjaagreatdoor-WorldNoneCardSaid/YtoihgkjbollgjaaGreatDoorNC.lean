/-
  Part of the proof of a statement of this seat: walks of its functions and the closed run; no condition but those written in each theorem.
-/
import Derived.Test.YtoihgkjbollgjaaGreatDoorWA
import Derived.Test.YtoihgkjbollgjaaGreatDoorNB
import Derived.Test.YtoihgkjbollgjaaGreatDoorYAt
import Derived.ChangeMaps5
namespace Go.Proofs.YtoihgkjbollgjaaGreatDoor.Wk
set_option maxRecDepth 100000
open Go.RowKit Go.VmK
open Go.ChangeShapes Go.WideShapes
variable {H : Type} {enc : TypeId × Value → H}
theorem cP : Tryz.prog.cellsOf 25 = 3 := by kernel_rfl
theorem cI : Tryz.prog.cellsOf 3 = 1 := by kernel_rfl
theorem cS : Tryz.prog.cellsOf 9 = 1 := by kernel_rfl
theorem ints_of {W : World} {base : Nat} {spare : Nat → Bool} {held : Bool} {fuel : Nat} {v : Value} {x : DataW H × List MemPlace} (h : DataW.trod enc Tryz.prog W base spare held fuel 22 [v] = some x) : ∃ (no : Option Addr) (nl nc : Nat) (zs : Nat → Int), v = .slice no nl nc ∧ Ints W no nl nc zs := by
  obtain ⟨no, nl, nc, he, h1, h2, h3⟩ := open_ones Tryz.underlying22 cI h
  have key : ∀ j, j < nl → ∃ bk off z, no = some ⟨bk, off, none⟩ ∧ W.cell? ⟨bk, off + j, none⟩ = some (.int .i64 z) := fun j hj => by
    obtain ⟨bk, off, c, n, y, g1, g2, g3⟩ := h3 j hj
    obtain ⟨z, g4, _⟩ := DataW.trod_int Tryz.underlying3 g3
    cases g4
    exact ⟨bk, off, z, g1, g2⟩
  refine ⟨no, nl, nc, fun j => if hj : j < nl then (key j hj).choose_spec.choose_spec.choose else 0, by simpa using he, h1, by unfold maxLen at h2; omega, fun j hj => ?_⟩
  have hs := (key j hj).choose_spec.choose_spec.choose_spec
  exact ⟨_, _, hs.1, by simp only [dif_pos hj]; exact hs.2⟩
theorem txts_of {W : World} {base : Nat} {spare : Nat → Bool} {held : Bool} {fuel : Nat} {v : Value} {x : DataW H × List MemPlace} (h : DataW.trod enc Tryz.prog W base spare held fuel 23 [v] = some x) : ∃ (to : Option Addr) (tl tc : Nat) (fs : Nat → ByteArray), v = .slice to tl tc ∧ tl ≤ 9223372036854775807 ∧ Txts W to tl fs := by
  obtain ⟨no, nl, nc, he, h1, h2, h3⟩ := open_ones Tryz.underlying23 cS h
  have key : ∀ j, j < nl → ∃ bk off z, no = some ⟨bk, off, none⟩ ∧ W.cell? ⟨bk, off + j, none⟩ = some (.string z) := fun j hj => by
    obtain ⟨bk, off, c, n, y, g1, g2, g3⟩ := h3 j hj
    obtain ⟨z, g4, _⟩ := DataW.trod_string Tryz.underlying9 g3
    cases g4
    exact ⟨bk, off, z, g1, g2⟩
  refine ⟨no, nl, nc, fun j => if hj : j < nl then (key j hj).choose_spec.choose_spec.choose else ByteArray.empty, by simpa using he, by unfold maxLen at h2; omega, fun j hj => ?_⟩
  have hs := (key j hj).choose_spec.choose_spec.choose_spec
  exact ⟨_, _, hs.1, by simp only [dif_pos hj]; exact hs.2⟩
theorem walk {W : World} {base : Nat} {v0 v1 : Value} {d0 d1 : DataW H} {p0 p1 : List MemPlace} (hv0 : Value.okWide Tryz.prog W .any base 25 v0) (hv1 : Value.okWide Tryz.prog W .any base 3 v1)
    (h0 : DataW.Trod enc Tryz.prog W 0 (fun _ => true) true 25 v0 d0 p0) (h1 : DataW.Trod enc Tryz.prog W 0 (fun _ => true) true 3 v1 d1 p1) :
    Calls Tryz.prog 3 #[v0, v1] W fun e W' => e = .returned (.bool true) ∧ Stands W W' := by
  obtain ⟨a, rfl⟩ : ∃ a, v1 = .int .i64 a := by
    obtain ⟨a, h, _⟩ := Go.ChangeShapes.open_int Tryz.underlying3 hv1 h1
    exact ⟨a, h⟩
  obtain ⟨cs, rfl, hsz⟩ := agg_of Tryz.underlying25 hv0
  rw [cP] at hsz
  obtain ⟨l⟩ := cs
  match l, hsz with
  | [c0, c1, c2], _ =>
    obtain ⟨fuel, ht⟩ := h0
    obtain ⟨zs, m, _, _, hl4, hzl, hg⟩ := DataW.trod_struct Tryz.underlying25 ht
    have zsome : ∀ i, i < 3 → ∃ y, zs[i]? = some y := fun i hi => ⟨_, List.getElem?_eq_getElem (by simp at hzl; omega)⟩
    obtain ⟨z0, g0⟩ := zsome 0 (by decide)
    have q0 := (hg 0 _ rfl).trans g0
    obtain ⟨z1, g1⟩ := zsome 1 (by decide)
    have q1 := (hg 1 _ rfl).trans g1
    obtain ⟨z2, g2⟩ := zsome 2 (by decide)
    have q2 := (hg 2 _ rfl).trans g2
    simp only [Value.cells] at q0 q1 q2
    obtain ⟨x0, r0⟩ := str_at Tryz.underlying9 q0
    cases r0
    obtain ⟨no, nl, nc, zs', rfl, hi⟩ := ints_of q1
    obtain ⟨to, tl, tc, fs, rfl, ht63, hx⟩ := txts_of q2
    exact law_all (fun w => alive_yes w) x0 no to nl nc tl tc zs' fs ht63 a W hi hx
end Go.Proofs.YtoihgkjbollgjaaGreatDoor.Wk
