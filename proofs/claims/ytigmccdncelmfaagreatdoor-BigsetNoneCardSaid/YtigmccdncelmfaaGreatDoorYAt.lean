/-
  Part of the proof of a statement of this seat: walks of its functions and the closed run; no condition but those written in each theorem.
-/
import Derived.Test.YtigmccdncelmfaaGreatDoorY1
namespace Go.Proofs.YtigmccdncelmfaaGreatDoor.Wk
set_option maxRecDepth 100000
open Go.RowKit Go.VmK Go.ChangeShapes Go.WideShapes
/-- a slice of texts -/
def Strs (w : World) (v : Value) : Prop := (∃ ao cap, v = .slice ao 0 cap) ∨ ∃ (bk off len cap : Nat) (fs : Nat → ByteArray), v = .slice (some ⟨bk, off, none⟩) len cap ∧ len ≤ 9223372036854775807 ∧ ∀ j, j < len → w.cell? ⟨bk, off + j, none⟩ = some (.string (fs j))
theorem Strs.stands {w w' : World} {x : Value} (h : Strs w x) (hg : Stands w w') : Strs w' x := by
  rcases h with h | ⟨bk, off, len, cap, fs, rfl, h1, h2⟩
  · exact .inl h
  · exact .inr ⟨bk, off, len, cap, fs, rfl, h1, fun j hj => stands_cell hg (h2 j hj)⟩
variable {H : Type} {enc : TypeId × Value → H} {W : World} {base : Nat} {spare : Nat → Bool} {held : Bool} {n : Nat}
theorem agg_of {P : Program} {t : TypeId} {fs : Array Field} {v : Value} (ht : P.underlying t = some (.struct fs)) (h : Value.okWide P W .any base t v) : ∃ cs, v = .agg cs ∧ cs.size = P.cellsOf t := by
  unfold Value.okWide at h
  rw [ht] at h
  obtain ⟨cs, h1, h2, _⟩ := h
  exact ⟨cs, h1, h2⟩
theorem int_at {P : Program} {t : TypeId} {k : IntKind} {cs : List Value} {x : DataW H × List MemPlace} (ht : P.underlying t = some (.int k)) (h : DataW.trod enc P W base spare held n t cs = some x) : ∃ m, cs = [.int k m] := by
  obtain ⟨m, h1, _⟩ := DataW.trod_int ht h; exact ⟨m, h1⟩
theorem str_at {P : Program} {t : TypeId} {cs : List Value} {x : DataW H × List MemPlace} (ht : P.underlying t = some .string) (h : DataW.trod enc P W base spare held n t cs = some x) : ∃ s, cs = [.string s] := by
  obtain ⟨m, h1, _⟩ := DataW.trod_string ht h; exact ⟨m, h1⟩
theorem bool_at {P : Program} {t : TypeId} {cs : List Value} {x : DataW H × List MemPlace} (ht : P.underlying t = some .bool) (h : DataW.trod enc P W base spare held n t cs = some x) : ∃ b, cs = [.bool b] := by
  obtain ⟨m, h1, _⟩ := DataW.trod_bool ht h; exact ⟨m, h1⟩
theorem slice_at {P : Program} {t e : TypeId} {cs : List Value} {x : DataW H × List MemPlace} (ht : P.underlying t = some (.slice e)) (h : DataW.trod enc P W base spare held n t cs = some x) : ∃ ao len cap, cs = [.slice ao len cap] := by
  rcases DataW.trod_slice ht h with ⟨h1, _⟩ | ⟨a, len, cap, _, _, _, _, h1, _⟩
  · exact ⟨_, _, _, h1⟩
  · exact ⟨_, _, _, h1⟩
theorem texts_at {P : Program} {t e st : TypeId} {fs : Array Field} {i j : Nat} {f g : Field} {sz : Nat} {cs : List Value} {x : DataW H × List MemPlace} (ht : P.underlying t = some (.slice e)) (he : P.underlying e = some (.struct fs)) (hs : P.underlying st = some .string) (hc : P.cellsOf st = 1)
    (hz : P.cellsOf e = sz) (hp : 0 < sz) (h1 : fs[i]? = some f) (h2 : fs[j]? = some g) (t1 : f.type = st) (t2 : g.type = st) (o1 : f.offset < sz) (o2 : g.offset < sz) (h : DataW.trod enc P W base spare held n t cs = some x) : ∃ v, cs = [v] ∧ Texts sz f.offset g.offset W v := by
  subst hz
  rcases open_rows ht he hp h with ⟨ao, cap, rfl⟩ | ⟨bk, off, len, cap, rfl, h4, h5⟩
  · exact ⟨_, rfl, .inl ⟨ao, cap, rfl⟩⟩
  · have a := h5 i f h1 (by rw [t1]; exact hs) (by rw [t1]; exact hc) o1
    have b := h5 j g h2 (by rw [t2]; exact hs) (by rw [t2]; exact hc) o2
    refine ⟨_, rfl, .inr ⟨bk, off, len, cap, fun j => if hj : j < len then (a j hj).choose else ByteArray.empty, fun j => if hj : j < len then (b j hj).choose else ByteArray.empty, rfl, by unfold maxLen at h4; omega, fun j hj => ?_, fun j hj => ?_⟩⟩
    · simp only [dif_pos hj]; exact (a j hj).choose_spec
    · simp only [dif_pos hj]; exact (b j hj).choose_spec
theorem strs_at {P : Program} {t e : TypeId} {cs : List Value} {x : DataW H × List MemPlace} (ht : P.underlying t = some (.slice e)) (he : P.underlying e = some .string) (hc : P.cellsOf e = 1) (h : DataW.trod enc P W base spare held n t cs = some x) : ∃ v, cs = [v] ∧ Strs W v := by
  rcases open_strings ht he hc h with ⟨rfl, _⟩ | ⟨a, len, cap, ss, rfl, hb, hl, hm, hlen, _, hcell, _⟩
  · exact ⟨_, rfl, .inl ⟨none, 0, rfl⟩⟩
  · refine ⟨_, rfl, ?_⟩
    by_cases h0 : len = 0
    · subst h0; exact .inl ⟨_, _, rfl⟩
    · have hle : len ≤ ss.length := by rw [hlen]; split <;> omega
      have hspot : a.spot = none := by
        have h1 := hcell 0 (by omega)
        have hz : a.add 0 = a := by simp [Addr.add]
        rw [hz] at h1
        cases hq : a.spot with
        | none => rfl
        | some s =>
          have : W.cell? a = none := by
            unfold World.cell?
            split <;> simp [hq]
          rw [this] at h1
          cases h1
      obtain ⟨bk, off, sp⟩ := a
      cases hspot
      refine .inr ⟨bk, off, len, cap, fun i => ss.getD i ByteArray.empty, rfl, by unfold maxLen at hm; omega, fun j hj => ?_⟩
      have h1 := hcell j (by omega)
      have hadd : (⟨bk, off, none⟩ : Addr).add j = ⟨bk, off + j, none⟩ := by
        unfold Addr.add
        split <;> simp_all
      rw [hadd] at h1
      exact h1
end Go.Proofs.YtigmccdncelmfaaGreatDoor.Wk
