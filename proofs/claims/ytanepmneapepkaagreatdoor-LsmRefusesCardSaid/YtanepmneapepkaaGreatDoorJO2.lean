/-
  Part of the proof of a statement of this seat: walks of its functions and the closed run; no condition but those written in each theorem.
-/
import Derived.Test.YtanepmneapepkaaGreatDoorV7
import Derived.Test.YtanepmneapepkaaGreatDoorJP
/- A slice of writes that is handed in: its cells. -/
namespace Go.VmK
open Go.RowKit Go.ChangeShapes Go.WideShapes
variable {H : Type} {enc : TypeId × Value → H} {P : Program}
theorem open_writes {w : World} {base : Nat} {spare : Nat → Bool} {held : Bool} {t e st bt : TypeId} {fs : Array Field} {fuel : Nat} {cs : List Value} {x : DataW H × List MemPlace} (ht : P.underlying t = some (.slice e)) (he : P.underlying e = some (.struct fs)) (hc : P.cellsOf e = 3)
    (hst : P.underlying st = some .string) (hbt : P.underlying bt = some .bool) (h1 : P.cellsOf st = 1) (h2 : P.cellsOf bt = 1) {f0 f1 f2 : Field} (hf0 : fs[0]? = some f0) (hf1 : fs[1]? = some f1) (hf2 : fs[2]? = some f2) (t0 : f0.type = st) (t1 : f1.type = st) (t2 : f2.type = bt) (o0 : f0.offset = 0) (o1 : f1.offset = 1) (o2 : f2.offset = 2)
    (h : DataW.trod enc P w base spare held fuel t cs = some x) :
    ∃ (ao : Option Addr) (len cap : Nat) (ks vs : Nat → ByteArray) (ds : Nat → Bool), cs = [.slice ao len cap] ∧ (ao = none → cap = 0) ∧ len ≤ cap ∧ cap ≤ maxLen ∧ Rows3 w ao len ks vs ds := by
  rcases DataW.trod_slice ht h with ⟨rfl, _⟩ | ⟨a, len, cap, elems, rest, n, _, rfl, rfl, hb, hl, hm, hlen, hel, hsp, hns⟩
  · exact ⟨none, 0, 0, fun _ => ByteArray.empty, fun _ => ByteArray.empty, fun _ => false, rfl, fun _ => rfl, Nat.le_refl _, by simp [maxLen], fun j hj => absurd hj (Nat.not_lt_zero _)⟩
  · have key : ∀ j, j < len → ∃ cs' y, w.cells? base (a.add (j * 3)) 3 = some cs' ∧ DataW.trod enc P w base spare held n e cs' = some y := by
      intro j hj
      have h1 := hel j hj
      rw [List.getElem?_eq_getElem (by omega), Option.bind_eq_some_iff] at h1
      obtain ⟨cs', h2, h3⟩ := h1
      rw [hc] at h2
      exact ⟨cs', _, h2, h3⟩
    have cell : ∀ j, j < len → ∃ bk off k v d, a = ⟨bk, off, none⟩ ∧ w.cell? ⟨bk, off + j * 3, none⟩ = some (.string k) ∧ w.cell? ⟨bk, off + j * 3 + 1, none⟩ = some (.string v) ∧ w.cell? ⟨bk, off + j * 3 + 2, none⟩ = some (.bool d) := by
      intro j hj
      obtain ⟨cs', y, g1, g2⟩ := key j hj
      obtain ⟨_, g3, g4⟩ := World.cells?_some g1
      have hspot : a.spot = none := by
        obtain ⟨cs0, y0, q1, _⟩ := key 0 (by omega)
        obtain ⟨_, q3, q4⟩ := World.cells?_some q1
        have h5 := q4 0 (by omega)
        have hz : (a.add (0 * 3)).add 0 = a := by simp [Addr.add]
        rw [hz] at h5
        cases hq : a.spot with
        | none => rfl
        | some s =>
          have : w.cell? a = none := by
            unfold World.cell?
            split <;> simp [hq]
          rw [this, List.getElem?_eq_getElem (by omega)] at h5
          cases h5
      obtain ⟨bk, off, sp⟩ := a
      cases hspot
      obtain ⟨xs, m, _, _, h5, hxl, h6⟩ := DataW.trod_struct he g2
      have hn3 : 3 ≤ fs.size := (Array.getElem?_eq_some_iff.1 hf2).1
      have hxs : xs.length = fs.size := by assumption
      have hadd : ∀ i, ((⟨bk, off, none⟩ : Addr).add (j * 3)).add i = ⟨bk, off + j * 3 + i, none⟩ := fun i => by rw [addr_add, addr_add]
      have e0 := h6 0 f0 hf0
      have e1 := h6 1 f1 hf1
      have e2 := h6 2 f2 hf2
      rw [List.getElem?_eq_getElem (by omega)] at e0 e1 e2
      obtain ⟨k, z0, _⟩ := DataW.trod_string (by rw [t0]; exact hst) e0
      obtain ⟨v, z1, _⟩ := DataW.trod_string (by rw [t1]; exact hst) e1
      obtain ⟨d, z2, _⟩ := DataW.trod_bool (by rw [t2]; exact hbt) e2
      rw [t0, h1, o0] at z0
      rw [t1, h1, o1] at z1
      rw [t2, h2, o2] at z2
      have y0 := g4 0 (by omega)
      have y1 := g4 1 (by omega)
      have y2 := g4 2 (by omega)
      rw [hadd] at y0 y1 y2
      refine ⟨bk, off, k, v, d, rfl, ?_, ?_, ?_⟩
      · rw [Nat.add_zero] at y0
        rw [y0]
        have := congrArg (·[0]?) z0
        simpa using this
      · rw [y1]
        have := congrArg (·[0]?) z1
        simpa using this
      · rw [y2]
        have := congrArg (·[0]?) z2
        simpa using this
    refine ⟨some a, len, cap, fun j => if hj : j < len then (cell j hj).choose_spec.choose_spec.choose else ByteArray.empty, fun j => if hj : j < len then (cell j hj).choose_spec.choose_spec.choose_spec.choose else ByteArray.empty, fun j => if hj : j < len then (cell j hj).choose_spec.choose_spec.choose_spec.choose_spec.choose else false, rfl, fun h => (by cases h), hl, hm, fun j hj => ?_⟩
    have hs := (cell j hj).choose_spec.choose_spec.choose_spec.choose_spec.choose_spec
    exact ⟨(cell j hj).choose, (cell j hj).choose_spec.choose, congrArg some hs.1, by simp only [dif_pos hj]; exact hs.2.1, by simp only [dif_pos hj]; exact hs.2.2.1, by simp only [dif_pos hj]; exact hs.2.2.2⟩
end Go.VmK
