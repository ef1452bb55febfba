/-
  A machine that runs the model with abstract blocks, and lemmas on it: whatever it answers of a call is what the model does (ProgOK, Base: the conditions).
-/
import Derived.Test.YthcnhdiipbpdgaaGreatDoorR4d
namespace Go.VmK
variable {P : Program} {C : Ctx} {E : List LoopInfo} {η : Env} {H : Heap} {w : World}

theorem HRel.weaken {H' : Heap} (h : HRel P η E H w) (g : ∀ id o, H'.get id = some o → H.get id = some o) : HRel P η E H' w :=
  ⟨fun id o ho => h.obj id o (g id o ho), fun i j oi oj b hi hj => h.inj i j oi oj b (g _ _ hi) (g _ _ hj)⟩
theorem Trans.weaken {η' : Env} {H' H'' : Heap} {w' : World} (h : Trans P E η H w η' H' w') (g : ∀ id o, H''.get id = some o → H'.get id = some o) : Trans P E η H w η' H'' w' :=
  ⟨h.le, h.rel.weaken g, h.frame, fun b hb ⟨id, o, ho, hr⟩ => h.shr b hb ⟨id, o, g _ _ ho, hr⟩, h.keeps⟩

/-- the second argument of append is no whole number (append(x, make(..)...) is another thing) -/
def NoZeros (P : Program) (at_ : Array TypeId) : Prop := at_[1]? = none ∨ ∃ t u, at_[1]? = some t ∧ P.underlying t = some u ∧ (∀ k, u ≠ .int k)
theorem noZeros_false {u : TypeDesc} (h : ∀ k, u ≠ .int k) : (match u with | .int _ => true | _ => false) = false := by
  cases u <;> first | rfl | exact absurd rfl (h _)

theorem append_fits (hC : CtxOK P C) {at_ : Array TypeId} {sT e : TypeId} {te : TI} {type : TypeId} {x' : Value} {sLen sCap : Nat} {base : Option Addr}
    (h0 : at_[0]? = some sT) (hu : und C sT = some (.slice e)) (hte : ti C e = some te) (hz : NoZeros P at_) {n : Nat} (hn : (Builtin.lenOf x').run P w = .ok n w)
    (hle : sLen + n ≤ sCap) {xs : Array Value} (hx : (Builtin.firstCells te.size n x').run P w = .ok xs w) {w' : World}
    (hs : match base with | some a => (storeCells (a.add (sLen * te.size)) xs.toList 0).run P w = .ok () w' | none => w' = w) :
    (Builtin.append_ at_ type #[.slice base sLen sCap, x']).run P w = .ok (.slice base (sLen + n) sCap) w' := by
  have hT := ti_ok hC hte
  obtain ⟨inf, hi1, hi2, hi3, _⟩ := hT.info
  have hti : ∀ w, (Go.typeInfo e).run P w = .ok inf w := fun w => by simp [Go.typeInfo, hi1]
  unfold Builtin.append_
  rw [h0]
  simp only [List.getElem?_toArray, List.getElem?_cons_zero, List.getElem?_cons_succ, Sem.run_bind, run_und hC hu, Result.andThen_ok, hT.sizeOf]
  rcases hz with hz | ⟨t, u, h1, h2, h3⟩
  · simp only [hz]
    cases base with
    | none => simp only at hs; subst hs; simp [hn, hle, hx]
    | some a => simp only at hs; simp [hn, hle, hx, hs]
  · have hu2 : ∀ w, (Go.underlying t).run P w = .ok u w := fun w => by simp [Go.underlying, h2]
    simp only [h1]
    cases base with
    | none => simp only at hs; subst hs; simp [hn, hle, hx, hu2]
    | some a => simp only at hs; simp [hn, hle, hx, hs, hu2]
theorem append_grows (hC : CtxOK P C) {at_ : Array TypeId} {sT e : TypeId} {te : TI} {type : TypeId} {x' : Value} {sLen sCap : Nat} {base : Option Addr}
    (h0 : at_[0]? = some sT) (hu : und C sT = some (.slice e)) (hte : ti C e = some te) (hz : NoZeros P at_) {n : Nat} (hn : (Builtin.lenOf x').run P w = .ok n w)
    (hle : ¬ sLen + n ≤ sCap) (hroom : roomOk (sLen + n) te.bytes = true) (hsmall : sLen + n < 2 ^ 62) {old new : Array Value} (ho : (Builtin.firstCells te.size sLen (.slice base sLen sCap)).run P w.drew = .ok old w.drew)
    (hx : (Builtin.firstCells te.size n x').run P w.drew = .ok new w.drew) {z : Value} (hzv : (Go.zeroValue e).run P w.drew = .ok z w.drew) :
    ∃ k, sLen + n ≤ k ∧ k < 2 ^ 63 ∧ (Builtin.append_ at_ type #[.slice base sLen sCap, x']).run P w = .ok (.slice (some ⟨w.heap.size, 0, none⟩) (sLen + n) k) (w.drew.alloc (.cells (old ++ new ++ Builtin.zeroCells z.cells (k - (sLen + n))) e)) := by
  have hT := ti_ok hC hte
  obtain ⟨inf, hi1, hi2, hi3, _⟩ := hT.info
  have hti : ∀ w, (Go.typeInfo e).run P w = .ok inf w := fun w => by simp [Go.typeInfo, hi1]
  have hr := room_no hroom (Nat.lt_of_not_le hle)
  have two48 : (2 : Nat) ^ 48 = 281474976710656 := by decide
  have two62 : (2 : Nat) ^ 62 = 4611686018427387904 := by decide
  have hr' : ¬ (281474976710656 < Builtin.nextslicecap (sLen + n) sCap * inf.bytes) := by rw [hi3]; omega
  have hb : ¬ (9223372036854775807 < (sLen : Int) + (n : Int) ∧ inf.bytes = 0) := by omega
  have hf : (Question.appendCap (sLen + n) sCap e).forced = false := rfl
  obtain ⟨c1, c2⟩ := cut_cap (sLen + n) sCap e (w.tape w.drawn (.appendCap (sLen + n) sCap e)) (by omega)
  refine ⟨_, c1, c2, ?_⟩
  unfold Builtin.append_
  rw [h0]
  simp only [List.getElem?_toArray, List.getElem?_cons_zero, List.getElem?_cons_succ, Sem.run_bind, run_und hC hu, Result.andThen_ok, hT.sizeOf]
  rcases hz with hz | ⟨t, u, h1, h2, h3⟩
  · simp only [hz]
    simp [hn, hle, hti, hr', hb, hf, ho, hx, hzv, newRow]
  · have hu2 : ∀ w, (Go.underlying t).run P w = .ok u w := fun w => by simp [Go.underlying, h2]
    simp only [h1]
    simp [hn, hle, hti, hr', hb, hf, ho, hx, hzv, newRow, hu2]
end Go.VmK
