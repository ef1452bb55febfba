/-
  Part of the proof of a statement of this seat: walks of its functions and the closed run; no condition but those written in each theorem.
-/
import Derived.Test.YtdpjmgaenpaefaaGreatDoorM2
namespace Go.Proofs.YtdpjmgaenpaefaaGreatDoor.Wk
set_option maxRecDepth 100000
open Go.RowKit Go.VmK Go.ChangeShapes Go.WideShapes
variable {H : Type} {enc : TypeId × Value → H}
theorem agg_of {P : Program} {W : World} {base : Nat} {t : TypeId} {fs : Array Field} {v : Value} (ht : P.underlying t = some (.struct fs)) (h : Value.okWide P W .any base t v) : ∃ cs, v = .agg cs ∧ cs.size = P.cellsOf t := by
  unfold Value.okWide at h
  rw [ht] at h
  obtain ⟨cs, h1, h2, _⟩ := h
  exact ⟨cs, h1, h2⟩
theorem int_at {P : Program} {W : World} {base : Nat} {spare : Nat → Bool} {held : Bool} {n : Nat} {t : TypeId} {k : IntKind} {cs : List Value} {o : Option (DataW H × List MemPlace)} (ht : P.underlying t = some (.int k)) (h : DataW.trod enc P W base spare held n t cs = o) (ho : o.isSome = true) : ∃ m, cs = [.int k m] := by
  cases o with
  | none => cases ho
  | some x => obtain ⟨m, h1, _⟩ := DataW.trod_int ht h; exact ⟨m, h1⟩
theorem listOk_of {W : World} {base : Nat} {spare : Nat → Bool} {held : Bool} {n : Nat} {v : Value} {x : DataW H × List MemPlace} (h : DataW.trod enc Tryz.prog W base spare held n 27 [v] = some x) : ListOk W v := by
  rcases open_rows Tryz.underlying27 Tryz.underlying34 (by rw [cells34]; decide) h with ⟨ao, cap, h1⟩ | ⟨bk, off, len, cap, h1, h2, h3⟩
  · cases h1; exact .inl ⟨ao, cap, rfl⟩
  · cases h1
    have a := h3 3 _ rfl Tryz.underlying9 cells9 (by rw [cells34]; decide)
    have b := h3 4 _ rfl Tryz.underlying9 cells9 (by rw [cells34]; decide)
    rw [cells34] at a b
    refine .inr ⟨bk, off, len, cap, fun j => if hj : j < len then (a j hj).choose else ByteArray.empty, fun j => if hj : j < len then (b j hj).choose else ByteArray.empty, rfl, by unfold maxLen at h2; omega, fun j hj => ?_, fun j hj => ?_⟩
    · simp only [dif_pos hj]; exact (a j hj).choose_spec
    · simp only [dif_pos hj]; exact (b j hj).choose_spec
theorem slice_at {P : Program} {W : World} {base : Nat} {spare : Nat → Bool} {held : Bool} {n : Nat} {t e : TypeId} {v : Value} {x : DataW H × List MemPlace} (ht : P.underlying t = some (.slice e)) (h : DataW.trod enc P W base spare held n t [v] = some x) : ∃ ao len cap, v = .slice ao len cap := by
  rcases DataW.trod_slice ht h with ⟨h1, _⟩ | ⟨a, len, cap, _, _, _, _, h1, _⟩
  · cases h1; exact ⟨_, _, _, rfl⟩
  · cases h1; exact ⟨_, _, _, rfl⟩
theorem walk {W : World} {base : Nat} {v : Value} {d : DataW H} {p : List MemPlace} (hv : Value.okWide Tryz.prog W .any base 37 v) (h : DataW.Trod enc Tryz.prog W 0 (fun _ => true) true 37 v d p) :
    Calls Tryz.prog 4 #[v] W fun e W' => e = .returned (.bool true) ∧ Stands W W' := by
  obtain ⟨cs, rfl, hsz⟩ := agg_of Tryz.underlying37 hv
  rw [cells37] at hsz
  obtain ⟨l⟩ := cs
  match l, hsz with
  | [c0, c1, c2, c3, c4], _ =>
    obtain ⟨fuel, ht⟩ := h
    obtain ⟨xs, n, _, _, hl, hxl, hf⟩ := DataW.trod_struct Tryz.underlying37 ht
    have hsome : ∀ i, i < 5 → (xs[i]?).isSome = true := fun i hi => by
      rw [List.getElem?_eq_getElem (by simp at hxl; omega)]; rfl
    have f0 := hf 0 _ rfl
    have f1 := hf 1 _ rfl
    have f2 := hf 2 _ rfl
    have f3 := hf 3 _ rfl
    have f4 := hf 4 _ rfl
    simp only [Value.cells] at f0 f1 f2 f3 f4
    obtain ⟨a, ha⟩ := int_at Tryz.underlying3 f0 (hsome 0 (by decide))
    obtain ⟨b, hb⟩ := int_at Tryz.underlying3 f1 (hsome 1 (by decide))
    obtain ⟨c, hc⟩ := int_at Tryz.underlying26 f2 (hsome 2 (by decide))
    cases ha; cases hb; cases hc
    obtain ⟨y3, h3⟩ := Option.isSome_iff_exists.1 (hsome 3 (by decide))
    obtain ⟨y4, h4⟩ := Option.isSome_iff_exists.1 (hsome 4 (by decide))
    rw [h3] at f3
    rw [h4] at f4
    have hL : ListOk W c3 := listOk_of f3
    obtain ⟨ao, len, cap, rfl⟩ := slice_at Tryz.underlying35 f4
    refine calls_yes (P := Tryz.prog) (C := theC) (σ0 := fun i => [Value.int .i64 a, .int .i64 b, .int .u64 c, c3, .slice ao len cap][i]?) (mkCtx_ok types_ok names_ok exts_ok ?_) mixed run_yes (fun i hi => by simpa using hi) rfl
    intro q hq
    simp only [List.mem_cons, List.mem_nil_iff, or_false] at hq
    subst hq
    refine flag_ok rfl fun w st => (light a b c c3 ao len cap w (listOk_stands hL st)).mono fun e w' ⟨h1, h2⟩ => ?_
    obtain ⟨v, rfl⟩ := h1
    exact ⟨v, rfl, h2⟩
end Go.Proofs.YtdpjmgaenpaefaaGreatDoor.Wk
