/-
  Part of the proof of a statement of this seat: walks of its functions and the closed run; no condition but those written in each theorem.
-/
import Derived.Test.YtoihgkjbollgjaaGreatDoorV7
import Derived.Test.YtoihgkjbollgjaaGreatDoorJKit
/- A slice of elements of one cell that is handed in: its cells. -/
namespace Go.VmK
open Go.RowKit Go.ChangeShapes Go.WideShapes
variable {H : Type} {enc : TypeId × Value → H} {P : Program}
theorem addr_add1 (bk off j : Nat) : (⟨bk, off, none⟩ : Addr).add j = ⟨bk, off + j, none⟩ := by unfold Addr.add; split <;> simp_all
theorem open_ones {w : World} {base : Nat} {spare : Nat → Bool} {held : Bool} {t e : TypeId} {fuel : Nat} {cs : List Value} {x : DataW H × List MemPlace} (ht : P.underlying t = some (.slice e)) (hc : P.cellsOf e = 1)
    (h : DataW.trod enc P w base spare held fuel t cs = some x) :
    ∃ (ao : Option Addr) (len cap : Nat), cs = [.slice ao len cap] ∧ len ≤ cap ∧ cap ≤ maxLen ∧ ∀ j, j < len → ∃ bk off c n y, ao = some ⟨bk, off, none⟩ ∧ w.cell? ⟨bk, off + j, none⟩ = some c ∧ DataW.trod enc P w base spare held n e [c] = some y := by
  rcases DataW.trod_slice ht h with ⟨rfl, _⟩ | ⟨a, len, cap, elems, rest, n, _, rfl, rfl, hb, hl, hm, hlen, hel, hsp, hns⟩
  · exact ⟨none, 0, 0, rfl, Nat.le_refl _, by simp [maxLen], fun j hj => absurd hj (Nat.not_lt_zero _)⟩
  · have key : ∀ j, j < len → ∃ cs' y, w.cells? base (a.add j) 1 = some cs' ∧ DataW.trod enc P w base spare held n e cs' = some y := by
      intro j hj
      have h1 := hel j hj
      rw [List.getElem?_eq_getElem (by omega), Option.bind_eq_some_iff] at h1
      obtain ⟨cs', h2, h3⟩ := h1
      rw [hc, Nat.mul_one] at h2
      exact ⟨cs', _, h2, h3⟩
    refine ⟨some a, len, cap, rfl, hl, hm, fun j hj => ?_⟩
    have hspot : a.spot = none := by
      obtain ⟨cs0, y0, q1, _⟩ := key 0 (by omega)
      obtain ⟨_, q3, q4⟩ := World.cells?_some q1
      have h5 := q4 0 (by omega)
      have hz : (a.add 0).add 0 = a := by simp [Addr.add]
      rw [hz] at h5
      cases hq : a.spot with
      | none => rfl
      | some s =>
        have : w.cell? a = none := by
          unfold World.cell?
          split <;> simp [hq]
        rw [this, List.getElem?_eq_getElem (by omega)] at h5
        cases h5
    obtain ⟨bk, off, sp⟩ := a
    cases hspot
    obtain ⟨cs', y, g1, g2⟩ := key j hj
    obtain ⟨_, g3, g4⟩ := World.cells?_some g1
    have y0 := g4 0 (by omega)
    rw [addr_add1, addr_add1, Nat.add_zero] at y0
    match cs', g3 with
    | [c], _ => exact ⟨bk, off, c, n, y, rfl, by simpa using y0, g2⟩
end Go.VmK
