/-
  A machine that runs the model with abstract blocks, and lemmas on it: whatever it answers of a call is what the model does (ProgOK, Base: the conditions).
-/
import Derived.Test.YthcnhdiipbpdgaaGreatDoorR7c
import Derived.WalkKit
import Derived.ProofKit
import Derived.OpenShut
import Derived.WideKeyArgs
import Derived.Laws.Externs
import Derived.MapKept
namespace Go.VmK
open Go.RowKit Go.ChangeShapes Go.WideShapes
variable {H : Type} {enc : TypeId × Value → H} {P : Program}

/-- a slice of structs: the texts in it -/
theorem open_rows {w : World} {base : Nat} {spare : Nat → Bool} {held : Bool} {t e : TypeId} {fs : Array Field} {fuel : Nat} {cs : List Value} {x : DataW H × List MemPlace} (ht : P.underlying t = some (.slice e)) (he : P.underlying e = some (.struct fs)) (hp : 0 < P.cellsOf e)
    (h : DataW.trod enc P w base spare held fuel t cs = some x) :
    (∃ ao cap, cs = [.slice ao 0 cap]) ∨ ∃ (bk off len cap : Nat), cs = [.slice (some ⟨bk, off, none⟩) len cap] ∧ len ≤ maxLen ∧
      ∀ (i : Nat) (f : Field), fs[i]? = some f → P.underlying f.type = some .string → P.cellsOf f.type = 1 → f.offset < P.cellsOf e → ∀ j, j < len → ∃ s, w.cell? ⟨bk, off + j * P.cellsOf e + f.offset, none⟩ = some (.string s) := by
  rcases DataW.trod_slice ht h with ⟨rfl, _⟩ | ⟨a, len, cap, elems, rest, n, _, rfl, rfl, hb, hl, hm, hlen, hel, hsp, hns⟩
  · exact .inl ⟨none, 0, rfl⟩
  · by_cases h0 : len = 0
    · subst h0; exact .inl ⟨some a, cap, rfl⟩
    · have key : ∀ j, j < len → ∃ cs' y, w.cells? base (a.add (j * P.cellsOf e)) (P.cellsOf e) = some cs' ∧ DataW.trod enc P w base spare held n e cs' = some y := by
        intro j hj
        have h1 := hel j hj
        rw [List.getElem?_eq_getElem (by omega), Option.bind_eq_some_iff] at h1
        obtain ⟨cs', h2, h3⟩ := h1
        exact ⟨cs', _, h2, h3⟩
      have hspot : a.spot = none := by
        obtain ⟨cs', y, h1, _⟩ := key 0 (by omega)
        obtain ⟨_, h3, h4⟩ := World.cells?_some h1
        have h5 := h4 0 hp
        have hz : (a.add (0 * P.cellsOf e)).add 0 = a := by simp [Addr.add]
        rw [hz] at h5
        cases hq : a.spot with
        | none => rfl
        | some s =>
          have : w.cell? a = none := by
            unfold World.cell?
            split <;> simp [hq]
          rw [this, List.getElem?_eq_getElem (by omega)] at h5
          cases h5
      obtain ⟨bk, off, sp⟩ := a
      cases hspot
      refine .inr ⟨bk, off, len, cap, rfl, by omega, fun i f hf hs hc1 hof j hj => ?_⟩
      obtain ⟨cs', y, h1, h2⟩ := key j hj
      obtain ⟨_, h3, h4⟩ := World.cells?_some h1
      obtain ⟨xs, m, _, _, h5, _, h6⟩ := DataW.trod_struct he h2
      have h7 := h6 i f hf
      have hxl : xs.length = fs.size := by assumption
      have hi : i < xs.length := by rw [hxl]; exact (Array.getElem?_eq_some_iff.1 hf).1
      rw [List.getElem?_eq_getElem hi] at h7
      obtain ⟨s, h8, _⟩ := DataW.trod_string hs h7
      refine ⟨s, ?_⟩
      have h9 := h4 f.offset hof
      have hadd : ((⟨bk, off, none⟩ : Addr).add (j * P.cellsOf e)).add f.offset = ⟨bk, off + j * P.cellsOf e + f.offset, none⟩ := by
        unfold Addr.add
        split <;> split <;> simp_all
      rw [hadd] at h9
      rw [h9]
      rw [hc1] at h8
      have := congrArg (·[0]?) h8
      simpa using this
theorem Stands.same {w w' : World} (h : Stands w w') {p : MemPlace} (hp : p.block < w.heap.size) : w.sameAt w' p := by
  cases p with
  | cell b o => simp only [World.sameAt, World.cell?]; rw [h.blocks b hp]
  | map b => exact h.blocks b hp
theorem Stands.kept {w w' : World} (h : Stands w w') (may : MemPlace → Prop) : w.keptBut w' may := by
  refine ⟨h.os, h.output, fun i hi => ?_⟩
  rw [h.blocks i hi]
  cases w.heap[i]? with
  | none => trivial
  | some o => cases o <;> simp
theorem trodAll_stays {W W' : World} {sp' : Nat → Bool} (hl : laidOutB P = true) : ∀ (ts : List TypeId) (vs : List Value) (ds : List (DataW H)) (ps : List MemPlace), (∀ t ∈ ts, P.readableRec t = true ∧ t < P.types.size) →
    DataW.TrodAll enc P W 0 (fun _ => true) true ts vs ds ps → (∀ p ∈ ps, W.sameAt W' p) → (∀ p ∈ ps, sp' p.block = true) → DataW.TrodAll enc P W' 0 sp' true ts vs ds ps
  | [], vs, ds, ps, _, h, _, _ => by
    obtain ⟨rfl, rfl, rfl⟩ := trodAll_nil h
    rfl
  | t :: ts, vs, ds, ps, ht, h, h1, h2 => by
    obtain ⟨v, vs', d, ds', p, q, rfl, rfl, rfl, hd, hr⟩ := trodAll_cons h
    refine ⟨p, q, WideElems.Trod_stays hl (ht t (by simp)).1 (ht t (by simp)).2 hd (fun x hx => h1 x (by simp [hx])) (fun x hx => h2 x (by simp [hx])), trodAll_stays hl ts vs' ds' q (fun t' h' => ht t' (by simp [h'])) hr (fun x hx => h1 x (by simp [hx])) (fun x hx => h2 x (by simp [hx])), rfl⟩
/-- what a statement says behind a call that answers yes and leaves what stood -/
theorem post_yes {f : Func} {s : ChangeSpec} {apart fresh handsOn : Bool} {W W' : World} {args : Array Value} {ds gs : List (DataW H)} {before : List MemPlace} {tb : TypeId} (hl : laidOutB P = true) (hr : ∀ t ∈ f.params.toList, P.readableRec t = true ∧ t < P.types.size)
    (hW : DataW.Whole enc P f.params.toList s.vars apart W args.toList ds gs before) (hv : s.vars = []) (hrt : f.resultTypes = #[tb]) (htb : P.underlying tb = some .bool)
    (hres : (s.fn H (ds ++ gs)).results = [.lit (.bool true)]) (hargs : (s.fn H (ds ++ gs)).args = ds) (hvars : (s.fn H (ds ++ gs)).vars = []) (st : Stands W W') :
    s.post enc P f apart fresh handsOn false W args (.bool true) W' := by
  have hlt := hW.lt
  have hW' := hW
  obtain ⟨p, q, hA, hV, rfl, hfz, hnd⟩ := hW
  rw [hv] at hV
  have hq : gs = [] ∧ q = [] := by
    cases gs with
    | nil => exact ⟨rfl, hV⟩
    | cons => exact hV.elim
  obtain ⟨rfl, rfl⟩ := hq
  refine ⟨ds, [], p ++ [], [], p, [], hW', ?_, ?_, ?_, st.kept _, fun h => by cases h⟩
  · rw [hres, hrt]
    exact trodAll_cons_mk (shut_bool htb _) trodAll_mk0
  · rw [hargs]
    exact trodAll_stays hl _ _ _ _ hr hA (fun x hx => st.same (hlt x (by simp [hx]))) (fun x hx => by simpa using hlt x (by simp [hx]))
  · rw [hv, hvars]; rfl
theorem ext_same_ok {f : FuncId} {fn : Func} (hf : P.funcs[f]? = some fn) (h1 : (fn.name == "runtime.NumGoroutine") = false) (h2 : fn.body.isNone = true) (h3 : Extern.findNext fn = none) (h4 : Extern.find fn = some Extern.AbiNoEscape.same) : ExtOK P f .same :=
  fun x w => by rw [run_callFunc_extern hf h1 h2 h3 h4]; rfl
theorem ext_clone_ok {f : FuncId} {fn : Func} (hf : P.funcs[f]? = some fn) (h1 : (fn.name == "runtime.NumGoroutine") = false) (h2 : fn.body.isNone = true) (h3 : Extern.findNext fn = none) (h4 : Extern.find fn = some Extern.MapsClone.clone) : ExtOK P f .mapsClone :=
  fun t b es c w hb => by
    rw [run_callFunc_extern hf h1 h2 h3 h4]
    have e : Extern.MapsClone.clone #[.iface t (.map (some b))] = (getObj b >>= fun o => match o with
      | .map entries clock => (newObj (.map entries clock) >>= fun n => pure (.iface t (.map (some n))))
      | _ => stuck "maps.clone: a map expected") := rfl
    rw [e]
    simp [MapKept.run_getObj_map hb, Result.andThen, go_sem]
end Go.VmK
