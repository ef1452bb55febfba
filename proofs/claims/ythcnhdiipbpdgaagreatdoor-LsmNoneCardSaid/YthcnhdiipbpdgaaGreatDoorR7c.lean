/-
  A machine that runs the model with abstract blocks, and lemmas on it: whatever it answers of a call is what the model does (ProgOK, Base: the conditions).
-/
import Derived.Test.YthcnhdiipbpdgaaGreatDoorR7b
import Derived.RowKit3
namespace Go.VmK
variable {P : Program}
open Go.RowKit

/-- the blocks of w stand in w' -/
structure Stands (w w' : World) : Prop where
  os : w'.os = w.os
  output : w'.output = w.output
  size : w.heap.size ≤ w'.heap.size
  blocks : ∀ b, b < w.heap.size → w'.heap[b]? = w.heap[b]?
theorem stands_of_grown {w w' : World} (h : Grown w w') : Stands w w' := by
  obtain ⟨⟨h1, h2, h3⟩, h4, h5⟩ := h
  refine ⟨h1, h2, h5, fun b hb => ?_⟩
  have := h3 b hb
  split at this
  · rename_i c t fr c' t' fr' e1 e2
    obtain ⟨rfl, rfl, hs, hc⟩ := this
    rw [e1, e2]
    have : c' = c := Array.ext_getElem? fun j => hc j (fun x => x)
    rw [this]
  · rename_i es c es' c' e1 e2
    rcases this with h | ⟨rfl, rfl⟩
    · exact h.elim
    · rw [e1, e2]
  · exact this
theorem HRel.stands {E : List LoopInfo} {η : Env} {H : Heap} {w w' : World} (h : HRel P η E H w) (g : Stands w w') : HRel P η E H w' :=
  ⟨fun id o ho => by obtain ⟨b, ob, h1, h2, h3⟩ := h.obj id o ho; exact ⟨b, ob, h1, (g.blocks b (lt_of_get h2)).trans h2, h3⟩, h.inj⟩
theorem Trans.stands {E : List LoopInfo} {η : Env} {H : Heap} {w w' : World} (h : HRel P η E H w) (g : Stands w w') : Trans P E η H w η H w' :=
  ⟨Env.le.refl _, h.stands g, fun b hb _ => g.blocks b hb, fun _ _ x => x, ⟨g.os, g.output, g.size⟩⟩

/-- a function that says yes or no of what is handed -/
theorem flag_ok {w0 : World} {σ0 : Nat → Option Value} {f : FuncId} {es : List AV} {xs : List Value} (hx : concL (env0 σ0) es = some xs)
    (h : ∀ w : World, Stands w0 w → Calls P f xs.toArray w fun e w' => ∃ b, e = .returned (.bool b) ∧ Stands w w') : ConOK P (Outer w0 σ0 fun b => b < w0.heap.size) f (.flag es) := by
  intro E η H w args ys l b hy hl cs
  simp only [conRun] at hl
  cases ha : eqAVs args es with
  | false => rw [ha] at hl; cases hl
  | true =>
    rw [ha] at hl
    have he := eqAVs_eq _ _ ha
    subst he
    have hle : (env0 σ0).le η := ⟨fun _ _ h => (by cases h), fun _ _ h => (by cases h), b.inv.σ⟩
    have hxy : xs = ys := by have := concL_mono hle args xs hx; rw [this] at hy; exact Option.some.inj hy
    subst hxy
    obtain ⟨e, w', fr, ⟨v, rfl, hs⟩, h1, h2, h3⟩ := h w ⟨b.inv.os, b.inv.output, b.inv.size, fun b' hb' => (b.inv.blocks b' hb').2.1⟩ cs
    have hl' : l = [(.bool true, H), (.bool false, H)] := (Option.some.inj hl).symm
    refine ⟨(.bool v, H), by rw [hl']; cases v <;> simp, η, .bool v, w', ⟨fr, h1, h2, h3⟩, rfl, Trans.stands b.rel hs, b.above, Below.refl _ _ _⟩

/-- a function that says yes of what is handed -/
theorem yes_ok {w0 : World} {σ0 : Nat → Option Value} {f : FuncId} {es : List AV} {xs : List Value} (hx : concL (env0 σ0) es = some xs)
    (h : ∀ w : World, Stands w0 w → Calls P f xs.toArray w fun e w' => e = .returned (.bool true) ∧ Stands w w') : ConOK P (Outer w0 σ0 fun b => b < w0.heap.size) f (.yes es) := by
  intro E η H w args ys l b hy hl cs
  simp only [conRun] at hl
  cases ha : eqAVs args es with
  | false => rw [ha] at hl; cases hl
  | true =>
    rw [ha] at hl
    have he := eqAVs_eq _ _ ha
    subst he
    have hle : (env0 σ0).le η := ⟨fun _ _ h => (by cases h), fun _ _ h => (by cases h), b.inv.σ⟩
    have hxy : xs = ys := by have := concL_mono hle args xs hx; rw [this] at hy; exact Option.some.inj hy
    subst hxy
    obtain ⟨e, w', fr, ⟨rfl, hs⟩, h1, h2, h3⟩ := h w ⟨b.inv.os, b.inv.output, b.inv.size, fun b' hb' => (b.inv.blocks b' hb').2.1⟩ cs
    have hl' : l = [(.bool true, H)] := (Option.some.inj hl).symm
    exact ⟨(.bool true, H), by rw [hl']; simp, η, .bool true, w', ⟨fr, h1, h2, h3⟩, rfl, Trans.stands b.rel hs, b.above, Below.refl _ _ _⟩

def allTrue (l : List (AV × Heap)) : Bool := l.all fun p => match p.1 with | .bool b => b | _ => false
def saysYes (o : Option (List (AV × Heap))) : Bool := match o with | some l => allTrue l | none => false
/-- A RUN THAT SAYS YES ON ALL ITS WAYS IS A CALL THAT ANSWERS YES AND LEAVES WHAT STOOD. -/
theorem calls_yes {C : Ctx} {w0 : World} {σ0 : Nat → Option Value} (hC : ProgOK P C (Outer w0 σ0 fun b => b < w0.heap.size)) (hmix : P.follows .mixedOrders = true) {n k : Nat} {f : FuncId} {args : List AV} {xs : List Value}
    (hr : saysYes (runCall C n f args (heap0 k)) = true) (hσ : ∀ i, k ≤ i → σ0 i = none) (hx : concL (env0 σ0) args = some xs) :
    Calls P f xs.toArray w0 fun e w' => e = .returned (.bool true) ∧ Stands w0 w' := by
  cases ho : runCall C n f args (heap0 k) with
  | none => rw [ho] at hr; cases hr
  | some outs =>
    rw [ho] at hr
    refine (runCall_sound hC hmix ho (Base.start w0 σ0 _ k (fun _ h => h) hσ) hx).mono fun e w' ⟨p, hp, η', x, he, hc, ht⟩ => ?_
    have hb := List.all_eq_true.1 hr p hp
    have : x = .bool true := by
      obtain ⟨v, H'⟩ := p
      cases v <;> simp at hb
      subst hb
      exact (Option.some.inj hc).symm
    subst this
    exact ⟨he, ht.keeps.os, ht.keeps.output, ht.keeps.size, fun b hb => ht.frame b hb fun ⟨id, o, h, _⟩ => by simp [heap0, Heap.get, Tr.get_lf] at h⟩
end Go.VmK
