/-
  A machine that runs the model with abstract blocks, and lemmas on it: whatever it answers of a call is what the model does (ProgOK, Base: the conditions).
-/
import Derived.Test.YthcnhdiipbpdgaaGreatDoorR7a
namespace Go.VmK
variable {P : Program}

/-- what stands outside: the blocks Q of the world w0 are as they were, and none of them is the run's own; the handed values are what they were -/
structure Outer (w0 : World) (σ0 : Nat → Option Value) (Q : Nat → Prop) (η : Env) (H : Heap) (w : World) : Prop where
  σ : ∀ i x, σ0 i = some x → η.σ i = some x
  os : w.os = w0.os
  output : w.output = w0.output
  size : w0.heap.size ≤ w.heap.size
  blocks : ∀ b, Q b → b < w0.heap.size ∧ w.heap[b]? = w0.heap[b]? ∧ ¬ Live η H b
theorem Outer.stable (w0 : World) (σ0 : Nat → Option Value) (Q : Nat → Prop) : Stable P (Outer w0 σ0 Q) := by
  intro E η H w η' H' w' h t
  refine ⟨fun i x hx => t.le.σ _ _ (h.σ i x hx), t.keeps.os.trans h.os, t.keeps.output.trans h.output, Nat.le_trans h.size t.keeps.size, fun b hb => ?_⟩
  obtain ⟨h1, h2, h3⟩ := h.blocks b hb
  have hlt : b < w.heap.size := Nat.lt_of_lt_of_le h1 h.size
  exact ⟨h1, (t.frame b hlt h3).trans h2, fun x => h3 (t.shr b hlt x)⟩
def env0 (σ0 : Nat → Option Value) : Env := ⟨fun _ => none, fun _ => none, σ0⟩
def heap0 (n : Nat) : Heap := { objs := .lf, next := n }
theorem Base.start (w0 : World) (σ0 : Nat → Option Value) (Q : Nat → Prop) (n : Nat) (hQ : ∀ b, Q b → b < w0.heap.size) (hσ : ∀ i, n ≤ i → σ0 i = none) : Base P (Outer w0 σ0 Q) [] (env0 σ0) (heap0 n) w0 :=
  ⟨empty_rel P _ _ n w0, fun id h => ⟨rfl, rfl, rfl, hσ id h⟩, fun _ _ => rfl, Outer.stable _ _ _, ⟨fun _ _ h => h, rfl, rfl, Nat.le_refl _, fun b hb => ⟨hQ b hb, rfl, fun ⟨id, o, h, _⟩ => by simp [heap0, Heap.get, Tr.get_lf] at h⟩⟩⟩
end Go.VmK
