/-
  A machine that runs the model with abstract blocks, and lemmas on it: whatever it answers of a call is what the model does (ProgOK, Base: the conditions).
-/
import Derived.Test.YtdebmmpojnlfkaaGreatDoorR4k
import Derived.Laws.StructEq
namespace Go.VmK
variable {P : Program} {C : Ctx} {E : List LoopInfo} {η : Env} {H : Heap} {w : World}

theorem makeSlice_sound (hC : CtxOK P C) (hr : HRel P η E H w) (hf : Fresh η H H.next) {t : TypeId} {a b : AV} {x y : Value} (hx : conc η a = some x) (hy : conc η b = some y) {v : AV} {H' : Heap} (h : makeSlice C H t a b = some (v, H')) :
    SimS P E η H w (Instr.makeSlice t x y) v H' := by
  unfold makeSlice at h
  split at h
  · rename_i e k1 l k2 c hu
    rw [conc_int hx, conc_int hy]
    unfold makeRow at h
    split at h
    · cases h
    · rename_i te hte
      split at h
      · cases h
      · rename_i z hz
        cases hq : (Nat.ble l c && Nat.ble (c * te.bytes) 1048576 && Nat.ble c 1048576) with
        | false => rw [hq] at h; cases h
        | true =>
          rw [hq] at h; simp only [cond_true] at h
          simp only [Bool.and_eq_true] at hq
          obtain ⟨⟨q1, q2⟩, q3⟩ := hq
          have q1 := ble_le q1; have q2 := ble_le q2; have q3 := ble_le q3
          have hT := ti_ok hC hte
          obtain ⟨inf, i1, i2, i3, _⟩ := hT.info
          obtain ⟨zv, hzv, hzc⟩ := zero_cells hT hz w
          obtain ⟨cs, hfill, hc, htr, hg⟩ := rowOf_sound (P := P) hr hf (PartsRel.nil) (hzc η) q1 h
          simp only [Instr.fill, Option.some.injEq] at hfill
          have w1 : IntKind.i64.wrap (l : Int) = l := IntWalk.i64_in _ (by omega)
          have w2 : IntKind.i64.wrap (c : Int) = c := IntWalk.i64_in _ (by omega)
          have two48 : (2 : Int) ^ 48 = 281474976710656 := by decide
          have hcb : ((inf.bytes : Int) * (c : Int)) = ((c * te.bytes : Nat) : Int) := by rw [i3]; push_cast; exact Int.mul_comm _ _
          refine ⟨_, _, _, ?_, hc, htr, hg⟩
          have n1 : ¬ ((c : Int) < 0) := by omega
          have n2 : ¬ ((inf.bytes : Int) * (c : Int) > 281474976710656) := by rw [hcb]; omega
          have n3 : ¬ ((l : Int) < 0) := by omega
          have n4 : ¬ ((c : Int) < (l : Int)) := by omega
          have hti : ∀ w, (Go.typeInfo e).run P w = .ok inf w := fun w => by simp [Go.typeInfo, i1]
          by_cases h0 : c * te.size = 0
          · have e0 : ∀ f : Nat → Value, (Array.range 0).map f = #[] := fun f => by simp
            rw [h0, e0] at hfill
            subst hfill
            simp [Instr.makeSlice, run_und hC hu, asInt, asIntOf, hti, w1, w2, n1, n2, n3, n4, hT.sizeOf, h0, newRow]
            rw [e0]
          · simp [Instr.makeSlice, run_und hC hu, asInt, asIntOf, hti, w1, w2, n1, n2, n3, n4, hT.sizeOf, h0, newRow, hzv, hfill]
  · cases h

/-! maps -/
theorem newObj_sound (hr : HRel P η E H w) (hf : Fresh η H H.next) (o : AObj) (ob : Obj) (ho : ORel P (η.bind H.next w.heap.size) E H.next o ob) :
    Trans P E η H w (η.bind H.next w.heap.size) (H.new o) (w.alloc ob) ∧ Grow η (η.bind H.next w.heap.size) H (H.new o) :=
  ⟨Trans.new hr hf o ob (Env.le_bind hf.ρ) (fun _i => rfl) ho (fun _j => Heap.get_new _ _ _) rfl rfl rfl, Grow.new (Only.bind _ _ _) (fun _j => Heap.get_new _ _ _) rfl⟩
theorem doMap_sound {tmps : Tr AV} {ρ : Operand → Value} (hr : HRel P η E H w) (hf : Fresh η H H.next) {t : TypeId} {r : Option Operand} {v : AV} {H' : Heap} (h : doMap C H tmps t r = some (.val v H')) :
    SimS P E η H w (Instr.makeMap t (r.map ρ)) v H' := by
  unfold doMap at h
  split at h
  · cases h
    obtain ⟨h1, h2⟩ := newObj_sound (P := P) hr hf (.map [] 0) (.map #[] 0) ⟨rfl, trivial⟩
    exact ⟨_, .map (some w.heap.size), _, by simp [Instr.makeMap]; rfl, by simp [conc, Env.bind], by simpa using h1, h2⟩
  · split at h <;> cases h

theorem getMap (hr : HRel P η E H w) {b : Nat} {es : List (AV × AV × Nat)} {clock : Nat} (hg : H.get b = some (.map es clock)) : ∃ r ces, η.ρ b = some r ∧ w.heap[r]? = some (.map ces clock) ∧ EsRel η es ces.toList := by
  obtain ⟨r, ob, hb, hob, hrel⟩ := hr.obj b _ hg
  cases ob with
  | map ces clock' => obtain ⟨h1, h2⟩ := hrel; subst h1; exact ⟨r, ces, hb, hob, h2⟩
  | _ => exact hrel.elim

theorem keyKind_ok (hC : CtxOK P C) {t : TypeId} {u : TypeDesc} (h : keyKind C t = some u) : P.underlying t = some u ∧ ((∃ k, u = .int k) ∨ u = .string ∨ u = .bool) := by
  unfold keyKind at h
  split at h
  · rename_i k hu; cases h; exact ⟨und_ok hC hu, .inl ⟨_, rfl⟩⟩
  · rename_i hu; cases h; exact ⟨und_ok hC hu, .inr (.inl rfl)⟩
  · rename_i hu; cases h; exact ⟨und_ok hC hu, .inr (.inr rfl)⟩
  · cases h
theorem keyEq_sound {u : TypeDesc} {a b : AV} {x y : Value} {r : Bool} (hx : conc η a = some x) (hy : conc η b = some y) (h : keyEq u a b = some r) : Instr.sameNow u x y = some r := by
  unfold keyEq at h
  split at h
  · rename_i k0 k a k' b
    cases hq : Nat.beq (kindNo k) (kindNo k') with
    | false => rw [hq] at h; cases h
    | true =>
      rw [hq] at h; simp only [cond_true, Option.some.injEq] at h; subst h
      have := kindNo_inj hq; subst this
      rw [conc_int hx, conc_int hy]; simp [Instr.sameNow, eqI_eq]
  · rename_i a b
    cases h; rw [conc_str hx, conc_str hy]
    simp only [Instr.sameNow, beqL_eq, beq_toListBytes, ByteArray.toList_mk]
  · rename_i a b; cases h; rw [conc_bool hx, conc_bool hy]; rfl
  · cases h
theorem findK_sound {u : TypeDesc} {k : AV} {x : Value} (hx : conc η k = some x) : ∀ {es : List (AV × AV × Nat)} {ces : List MapEntry} {i : Nat} {r : Option (Nat × AV × Nat)}, EsRel η es ces → findK u k es i = some r →
    Instr.findNow u x ces i = some (match r with | none => none | some (j, _, _) => (ces[j - i]?).map fun e => (j, e.val)) ∧
    (∀ j v b, r = some (j, v, b) → i ≤ j ∧ ∃ k0 e, es[j - i]? = some (k0, v, b) ∧ ces[j - i]? = some e ∧ conc η v = some e.val ∧ conc η k0 = some e.key ∧ Instr.sameNow u x e.key = some true)
  | [], [], i, r, _, h => by simp [findK] at h; subst h; exact ⟨rfl, fun j v b e => by cases e⟩
  | [], _ :: _, _, _, hr, _ => hr.elim
  | _ :: _, [], _, _, hr, _ => hr.elim
  | (k', v', b') :: es, e :: ces, i, r, ⟨h1, h2, h3, h4⟩, h => by
    simp only [findK] at h
    split at h
    · cases h
    · rename_i hq
      cases h
      have := keyEq_sound hx h1 hq
      refine ⟨by simp [Instr.findNow, this], fun j v b he => ?_⟩
      cases he
      exact ⟨Nat.le_refl _, k', e, by simp, by simp, h2, h1, this⟩
    · rename_i hq
      have hs := keyEq_sound hx h1 hq
      obtain ⟨g1, g2⟩ := findK_sound hx h4 h
      refine ⟨?_, fun j v b he => ?_⟩
      · simp only [Instr.findNow, hs, g1]
        cases r with
        | none => rfl
        | some p =>
          obtain ⟨j, v, b⟩ := p
          obtain ⟨hij, _⟩ := g2 j v b rfl
          simp only []
          rw [show j - i = (j - (i + 1)) + 1 from by omega, List.getElem?_cons_succ]
      · obtain ⟨hij, k0, e0, a1, a2, a3⟩ := g2 j v b he
        refine ⟨by omega, k0, e0, ?_, ?_, a3⟩
        · rw [show j - i = (j - (i + 1)) + 1 from by omega, List.getElem?_cons_succ]; exact a1
        · rw [show j - i = (j - (i + 1)) + 1 from by omega, List.getElem?_cons_succ]; exact a2

theorem plain_key {u : TypeDesc} (hu : (∃ k, u = .int k) ∨ u = .string ∨ u = .bool) {t : TypeId} (ht : P.underlying t = some u) (empty : Bool) (x : Value) (w : World) : (Instr.checkKey empty 10000 t x).run P w = .ok () w := by
  have : ∀ d, (Instr.checkKey empty (d + 1) t x).run P w = .ok () w := fun d => by
    simp only [Instr.checkKey, Sem.run_bind, Go.underlying, run_program, Result.andThen_ok, ht, Sem.run_pure]
    rcases hu with ⟨k, rfl⟩ | rfl | rfl <;> (cases x <;> rfl)
  exact this 9999
theorem findKey_sound (hC : CtxOK P C) {kt : TypeId} {k : AV} {x : Value} (hx : conc η k = some x) {es : List (AV × AV × Nat)} {ces : Array MapEntry} (he : EsRel η es ces.toList) {r : Option (Nat × AV × Nat)} (h : findKey C kt k es = some r) (w : World) :
    (∀ empty, (Instr.checkKey empty 10000 kt x).run P w = .ok () w) ∧
    (Instr.findKey kt x ces.toList).run P w = .ok (match r with | none => none | some (j, _, _) => (ces[j]?).map fun e => (j, e.val)) w ∧
    (∀ j v b, r = some (j, v, b) → ∃ k0 e, es[j]? = some (k0, v, b) ∧ ces[j]? = some e ∧ conc η v = some e.val ∧ conc η k0 = some e.key ∧ ∃ u, P.underlying kt = some u ∧ Instr.sameNow u x e.key = some true) := by
  unfold findKey at h
  split at h
  · cases h
  · rename_i u hu
    obtain ⟨h1, h2⟩ := keyKind_ok hC hu
    obtain ⟨g1, g2⟩ := findK_sound (u := u) hx he h
    refine ⟨fun e => plain_key h2 h1 e x w, ?_, ?_⟩
    · simp only [Instr.findKey, Sem.run_bind, Go.underlying, run_program, Result.andThen_ok, h1, Sem.run_pure, g1]
      cases r with
      | none => rfl
      | some p => simp
    · intro j v b hr
      obtain ⟨_, k0, e, a1, a2, a3, a4, a5⟩ := g2 j v b hr
      exact ⟨k0, e, by simpa using a1, by simpa using a2, a3, a4, u, h1, a5⟩

theorem mapLookup_sound (hC : CtxOK P C) (hr : HRel P η E H w) {t : TypeId} {m k : AV} {x y : Value} (hx : conc η m = some x) (hy : conc η k = some y) {ok : Bool} {v : AV} (h : mapLookup C H t m k ok = some v) :
    ∃ u, conc η v = some u ∧ (Instr.lookup t x y ok).run P w = .ok u w := by
  unfold mapLookup at h
  split at h
  · rename_i kt et hu
    split at h
    · rename_i b
      split at h
      · rename_i es clock hg
        obtain ⟨r, ces, hb, hh, he⟩ := getMap hr hg
        obtain ⟨r2, hb2, rfl⟩ := conc_map hx
        rw [hb] at hb2; cases hb2
        split at h
        · rename_i i v' b' hf
          cases h
          obtain ⟨a1, a2, a3⟩ := findKey_sound (P := P) hC hy he hf w
          obtain ⟨k0, e, _, he2, hv, _⟩ := a3 _ _ _ rfl
          simp only [he2, Option.map_some] at a2
          cases ok with
          | true => exact ⟨.tuple #[e.val, .bool true], by simp [conc, concL, hv], by simp [Instr.lookup, run_und hC hu, getObj, Sem.run, hh, a1, a2]⟩
          | false => exact ⟨e.val, hv, by simp [Instr.lookup, run_und hC hu, getObj, Sem.run, hh, a1, a2]⟩
        · rename_i hf
          obtain ⟨a1, a2, _⟩ := findKey_sound (P := P) hC hy he hf w
          split at h
          · rename_i z hz
            cases h
            obtain ⟨zv, hzv, hzc⟩ := (ti_ok hC (i := _) hz).zeroValue rfl w
            cases ok with
            | true => exact ⟨.tuple #[zv, .bool false], by simp [conc, concL, hzc η], by simp [Instr.lookup, run_und hC hu, getObj, Sem.run, hh, a1, a2, hzv]⟩
            | false => exact ⟨zv, hzc η, by simp [Instr.lookup, run_und hC hu, getObj, Sem.run, hh, a1, a2, hzv]⟩
          · cases h
        · cases h
      · cases h
    · cases h
  · cases h
end Go.VmK
