/-
  A machine that runs the model with abstract blocks, and lemmas on it: whatever it answers of a call is what the model does (ProgOK, Base: the conditions).
-/
import Derived.Test.YthcnhdiipbpdgaaGreatDoorR6c
namespace Go.VmK
variable {P : Program} {O : Env → Heap → World → Prop}

def typesOk (P : Program) : Bool := P.types.toList.all fun t => match t.desc with
  | .named _ u => (P.types[u]?).isSome
  | _ => true
def namesOk (P : Program) : Bool := P.funcs.toList.all fun f => !(f.name == "runtime.NumGoroutine")
theorem foldSet_get {α : Type} : ∀ (l : List (Nat × α)) (t : Tr α) (f : Nat) (e : α), (l.foldl (fun t (p : Nat × α) => t.set p.1 p.2) t).get f = some e → (f, e) ∈ l ∨ t.get f = some e
  | [], t, f, e, h => .inr h
  | (g, x) :: r, t, f, e, h => by
    simp only [List.foldl_cons] at h
    rcases foldSet_get r _ f e h with h1 | h1
    · exact .inl (List.mem_cons_of_mem _ h1)
    · rw [Tr.get_set] at h1
      by_cases he : f = g
      · subst he; simp at h1; subst h1; exact .inl List.mem_cons_self
      · rw [if_neg he] at h1; exact .inr h1
theorem info_of {t : Nat} {inf : TypeInfo} (h : P.types[t]? = some inf) : P.info? t = some inf := by
  have hlt : t < P.types.size := (Array.getElem?_eq_some_iff.1 h).1
  show (if t < P.types.size then P.types[t]? else Made.infoAt P.toTables Made.depth t) = some inf
  rw [if_pos hlt, h]
theorem mkTI_ok (h : typesOk P = true) {t : Nat} {inf : TypeInfo} (hi : P.types[t]? = some inf) : TypeOK P t (mkTI P inf) := by
  have hinf : P.info? t = some inf := info_of hi
  refine ⟨?_, inf, hinf, rfl, rfl, fun z hz => ?_⟩
  · have hm : inf ∈ P.types.toList := by
      rw [Array.mem_toList_iff]; exact Array.mem_of_getElem? hi
    have := List.all_eq_true.1 h inf hm
    unfold Program.underlying mkTI
    rw [hinf]
    obtain ⟨desc, size, bytes, zr⟩ := inf
    cases desc <;> try rfl
    rename_i n u
    simp only at this ⊢
    obtain ⟨x, hx⟩ := Option.isSome_iff_exists.1 this
    rw [hx]
    have : P.info? u = some x := info_of hx
    rw [this]; rfl
  · simp only [mkTI] at hz
    cases hq : inf.zero with
    | none => rw [hq] at hz; cases hz
    | some v =>
      rw [hq] at hz
      exact ⟨v, rfl, fun η => ofVal_conc η 4 v z hz⟩
theorem mkMeth_find {t : TypeInfo} {name q : String} {f : FuncId} {r : Recv} (h : (mkMeth t).find? (fun m => m.1 == name) = some (q, some (f, r))) : ∃ m e, t.methods.find? (fun m => m.name == name) = some m ∧ m.path.isEmpty = true ∧ t.desc = .pointer e ∧ ((m.func = some (f, true) ∧ r = .ptr) ∨ (m.func = some (f, false) ∧ r = .load e)) := by
  unfold mkMeth at h
  rw [List.find?_map] at h
  obtain ⟨m, hm, h⟩ := Option.map_eq_some_iff.1 h
  simp only [Prod.mk.injEq] at h
  obtain ⟨_, h⟩ := h
  have hf : t.methods.find? (fun m => m.name == name) = some m := by
    rw [← Array.find?_toList]
    exact hm
  split at h
  · rename_i e g h1 h2 h3
    cases h
    exact ⟨m, e, hf, h3, h1, .inl ⟨h2, rfl⟩⟩
  · rename_i e g h1 h2 h3
    cases h
    exact ⟨m, e, hf, h3, h1, .inr ⟨h2, rfl⟩⟩
  · cases h
theorem wrap_ok (ts : Array TypeId) (t : TypeId) (a : Addr) (x y : ByteArray) (w : World) : (Builtin.ssaWrapNilChk_ ts t #[.pointer (some a), .string x, .string y]).run P w = .ok (.pointer (some a)) w := rfl
theorem mkMeth_ok {t : Nat} {inf : TypeInfo} (hi : P.types[t]? = some inf) {name q : String} {f : FuncId} {r : Recv} (h : (mkMeth inf).find? (fun m => m.1 == name) = some (q, some (f, r))) : MethOK P t name f r := by
  obtain ⟨m, e, hf, hp, hd, hr⟩ := mkMeth_find h
  have hinf : P.info? t = some inf := info_of hi
  have hu : P.underlying t = some (.pointer e) := by
    unfold Program.underlying
    rw [hinf]
    obtain ⟨desc, size, bytes, zr⟩ := inf
    simp only at hd
    subst hd
    rfl
  have hpath : m.path.toList = [] := by simpa using hp
  obtain ⟨k, hk⟩ : ∃ k, P.types.size + Made.depth = k + 1 := ⟨P.types.size + 99, rfl⟩
  have hti : ∀ w : World, (Go.typeInfo t).run P w = .ok inf w := fun w => by simp [Go.typeInfo, hinf]
  have hun : ∀ w : World, (Go.underlying t).run P w = .ok (.pointer e) w := fun w => by simp [Go.underlying, hu]
  rcases hr with ⟨h1, rfl⟩ | ⟨h1, rfl⟩
  · intro x w
    rw [hk]
    simp [method, hti, hf, hpath, follow, h1, receiverAt, hun, Place.get]
  · intro a y w hl
    rw [hk]
    have hpe : m.path = #[] := by simpa using hp
    simp [method, hti, hf, follow, h1, receiverAt, hun, Place.get, hpe, strVal, wrap_ok, asAddr, hl]
def keysOk (P : Program) (keys : List (TypeId × Nat)) : Bool := keys.all fun p => decide (p.2 ≤ 10000) && P.keyTypeAt p.2 p.1 && !P.eqGuardType P.depth p.1
theorem mkCtx_ok {exts : List (FuncId × Ext)} {cons : List (FuncId × Con)} {apart : List FuncId} {keys frames : List (TypeId × Nat)} (h1 : typesOk P = true) (h2 : namesOk P = true) (hx : ∀ p ∈ exts, ExtOK P p.1 p.2) (hc : ∀ p ∈ cons, ConOK P O p.1 p.2) (hk : keysOk P keys = true) : ProgOK P (mkCtx P exts cons apart keys frames) O := by
  refine ⟨⟨fun t i h => ?_, fun f i h => ?_, fun f fn hf _ => ?_, fun f e h => ?_, fun t m h => ?_, fun t l h name q f r hfind => ?_⟩, fun f c h => ?_⟩
  · have := Tr.build_get _ _ _ _ h
    rw [List.getElem?_map] at this
    cases hq : P.types.toList[t]? with
    | none => rw [hq] at this; cases this
    | some inf =>
      rw [hq] at this; cases this
      exact mkTI_ok h1 (by simpa using hq)
  · have := Tr.build_get _ _ _ _ h
    rw [List.getElem?_map] at this
    cases hq : P.funcs.toList[f]? with
    | none => rw [hq] at this; cases this
    | some fn =>
      rw [hq] at this; cases this
      exact ⟨fn, by simpa using hq, rfl, rfl, rfl⟩
  · have hm : fn ∈ P.funcs.toList := by
      rw [Array.mem_toList_iff]; exact Array.mem_of_getElem? hf
    have := List.all_eq_true.1 h2 fn hm
    simpa using this
  · rcases foldSet_get exts .lf f e h with h | h
    · exact hx _ h
    · simp [Tr.get_lf] at h
  · rcases foldSet_get keys .lf t m h with h | h
    · have := List.all_eq_true.1 hk _ h
      simpa using this
    · simp [Tr.get_lf] at h
  · have := Tr.build_get _ _ _ _ h
    rw [List.getElem?_map] at this
    cases hq : P.types.toList[t]? with
    | none => rw [hq] at this; cases this
    | some inf =>
      rw [hq] at this; cases this
      exact mkMeth_ok (by simpa using hq) hfind
  · rcases foldSet_get cons .lf f c h with h | h
    · exact hc _ h
    · simp [Tr.get_lf] at h
end Go.VmK
