/-
  A machine that runs the model with abstract blocks, and lemmas on it: whatever it answers of a call is what the model does (ProgOK, Base: the conditions).
-/
import Derived.Test.YtfahplfgamgoaaaGreatDoorR6c
namespace Go.VmK
variable {P : Program} {O : Env → Heap → World → Prop}

def typesOk (P : Program) : Bool := P.types.toList.all fun t => match t.desc with
  | .named _ u => (P.types[u]?).isSome
  | _ => true
def namesOk (P : Program) : Bool := P.funcs.toList.all fun f => !(f.name == "runtime.NumGoroutine")
theorem foldSet_get {α : Type} : ∀ (l : List (Nat × α)) (t : Tr α) (f : Nat) (e : α), (l.foldl (fun t (p : Nat × α) => t.set p.1 p.2) t).get f = some e → (f, e) ∈ l ∨ t.get f = some e
  | [], t, f, e, h => .inr h
  | (g, x) :: r, t, f, e, h => by
    simp only [List.foldl_cons] at h
    rcases foldSet_get r _ f e h with h1 | h1
    · exact .inl (List.mem_cons_of_mem _ h1)
    · rw [Tr.get_set] at h1
      by_cases he : f = g
      · subst he; simp at h1; subst h1; exact .inl List.mem_cons_self
      · rw [if_neg he] at h1; exact .inr h1
theorem info_of {t : Nat} {inf : TypeInfo} (h : P.types[t]? = some inf) : P.info? t = some inf := by
  have hlt : t < P.types.size := (Array.getElem?_eq_some_iff.1 h).1
  show (if t < P.types.size then P.types[t]? else Made.infoAt P.toTables Made.depth t) = some inf
  rw [if_pos hlt, h]
theorem mkTI_ok (h : typesOk P = true) {t : Nat} {inf : TypeInfo} (hi : P.types[t]? = some inf) : TypeOK P t (mkTI P inf) := by
  have hinf : P.info? t = some inf := info_of hi
  refine ⟨?_, inf, hinf, rfl, rfl, fun z hz => ?_⟩
  · have hm : inf ∈ P.types.toList := by
      rw [Array.mem_toList_iff]; exact Array.mem_of_getElem? hi
    have := List.all_eq_true.1 h inf hm
    unfold Program.underlying mkTI
    rw [hinf]
    obtain ⟨desc, size, bytes, zr⟩ := inf
    cases desc <;> try rfl
    rename_i n u
    simp only at this ⊢
    obtain ⟨x, hx⟩ := Option.isSome_iff_exists.1 this
    rw [hx]
    have : P.info? u = some x := info_of hx
    rw [this]; rfl
  · simp only [mkTI] at hz
    cases hq : inf.zero with
    | none => rw [hq] at hz; cases hz
    | some v =>
      rw [hq] at hz
      exact ⟨v, rfl, fun η => ofVal_conc η 4 v z hz⟩
def keysOk (P : Program) (keys : List (TypeId × Nat)) : Bool := keys.all fun p => decide (p.2 ≤ 10000) && P.keyTypeAt p.2 p.1
theorem mkCtx_ok {exts : List (FuncId × Ext)} {cons : List (FuncId × Con)} {apart : List FuncId} {keys : List (TypeId × Nat)} (h1 : typesOk P = true) (h2 : namesOk P = true) (hx : ∀ p ∈ exts, ExtOK P p.1 p.2) (hc : ∀ p ∈ cons, ConOK P O p.1 p.2) (hk : keysOk P keys = true) : ProgOK P (mkCtx P exts cons apart keys) O := by
  refine ⟨⟨fun t i h => ?_, fun f i h => ?_, fun f fn hf _ => ?_, fun f e h => ?_, fun t m h => ?_⟩, fun f c h => ?_⟩
  · have := Tr.build_get _ _ _ _ h
    rw [List.getElem?_map] at this
    cases hq : P.types.toList[t]? with
    | none => rw [hq] at this; cases this
    | some inf =>
      rw [hq] at this; cases this
      exact mkTI_ok h1 (by simpa using hq)
  · have := Tr.build_get _ _ _ _ h
    rw [List.getElem?_map] at this
    cases hq : P.funcs.toList[f]? with
    | none => rw [hq] at this; cases this
    | some fn =>
      rw [hq] at this; cases this
      exact ⟨fn, by simpa using hq, rfl, rfl, rfl⟩
  · have hm : fn ∈ P.funcs.toList := by
      rw [Array.mem_toList_iff]; exact Array.mem_of_getElem? hf
    have := List.all_eq_true.1 h2 fn hm
    simpa using this
  · rcases foldSet_get exts .lf f e h with h | h
    · exact hx _ h
    · simp [Tr.get_lf] at h
  · rcases foldSet_get keys .lf t m h with h | h
    · have := List.all_eq_true.1 hk _ h
      simpa using this
    · simp [Tr.get_lf] at h
  · rcases foldSet_get cons .lf f c h with h | h
    · exact hc _ h
    · simp [Tr.get_lf] at h
end Go.VmK
