/-
  A machine that runs the model with abstract blocks, and lemmas on it: whatever it answers of a call is what the model does (ProgOK, Base: the conditions).
-/
import Derived.Test.YthcnhdiipbpdgaaGreatDoorR7c
namespace Go.VmK
variable {P : Program} {O : Env → Heap → World → Prop}

theorem eqOp_eq {α : Type} {f : α → α → Bool} (hf : ∀ a b, f a b = true → a = b) : ∀ (a b : Option α), eqOp f a b = true → a = b
  | none, none, _ => rfl
  | some a, some b, h => by rw [hf a b h]
  | none, some _, h => by cases h
  | some _, none, h => by cases h
theorem eqTr_eq {α : Type} {f : α → α → Bool} (hf : ∀ a b, f a b = true → a = b) : ∀ (s t : Tr α), eqTr f s t = true → s = t
  | .lf, .lf, _ => rfl
  | .nd l v r, .nd l' v' r', h => by
    simp only [eqTr, Bool.and_eq_true] at h
    rw [eqOp_eq hf _ _ h.1.1, eqTr_eq hf _ _ h.1.2, eqTr_eq hf _ _ h.2]
  | .lf, .nd _ _ _, h => by cases h
  | .nd _ _ _, .lf, h => by cases h
theorem eqNs_eq' : ∀ (a b : List Nat), eqNs a b = true → a = b
  | [], [], _ => rfl
  | a :: x, b :: y, h => by
    simp only [eqNs, Bool.and_eq_true] at h
    rw [beq_eq h.1, eqNs_eq' _ _ h.2]
  | [], _ :: _, h => by cases h
  | _ :: _, [], h => by cases h
theorem eqObj_eq (a b : AObj) (h : eqObj a b = true) : a = b := by
  cases a <;> cases b <;> simp only [eqObj, Bool.and_eq_true, Bool.false_eq_true] at h
  · obtain ⟨⟨⟨⟨⟨⟨h1, h2⟩, h3⟩, h4⟩, h5⟩, h6⟩, h7⟩ := h
    rw [beq_eq h1, beq_eq h2, eq_of_beq h3, beq_eq h4, beq_eq h5, eq_of_beq h6, eqTr_eq eqAV_eq _ _ h7]
  · rw [eqEs_eq _ _ h.1, beq_eq h.2]
  · obtain ⟨⟨⟨h1, h2⟩, h3⟩, h4⟩ := h
    rw [eq_of_beq h1, beq_eq h2, eqNs_eq' _ _ h3, beq_eq h4]
  · rw [beqL_eq' h.1, beq_eq h.2]
  · rw [eq_of_beq h.1, eq_of_beq h.2]
  · rw [eq_of_beq h]
theorem eqHeap_eq (H K : Heap) (h : eqHeap H K = true) : H = K := by
  obtain ⟨a, b⟩ := H
  obtain ⟨c, d⟩ := K
  simp only [eqHeap, Bool.and_eq_true] at h
  rw [show b = d from beq_eq h.1, show a = c from eqTr_eq eqObj_eq _ _ h.2]
theorem knownIn_some {H : Heap} {args : List AV} {l : List (AV × Heap)} : ∀ (rs : List (List AV × Heap × List (AV × Heap))), knownIn H args rs = some l → (args, H, l) ∈ rs
  | [], h => by cases h
  | (as, K, o) :: rs, h => by
    unfold knownIn at h
    cases hb : (eqAVs args as && eqHeap H K) with
    | true =>
      rw [hb] at h
      simp only [Bool.and_eq_true] at hb
      have h1 := eqAVs_eq _ _ hb.1
      have h2 := eqHeap_eq _ _ hb.2
      simp only [cond_true, Option.some.injEq] at h
      subst h1; subst h2; subst h
      exact List.mem_cons_self
    | false =>
      rw [hb] at h
      exact List.mem_cons_of_mem _ (knownIn_some rs h)
def eqOuts : List (AV × Heap) → List (AV × Heap) → Bool
  | [], [] => true
  | p :: x, q :: y => eqAV p.1 q.1 && eqHeap p.2 q.2 && eqOuts x y
  | _, _ => false
theorem eqOuts_eq : ∀ (x y : List (AV × Heap)), eqOuts x y = true → x = y
  | [], [], _ => rfl
  | p :: x, q :: y, h => by
    simp only [eqOuts, Bool.and_eq_true] at h
    have h1 := eqAV_eq _ _ h.1.1
    have h2 := eqHeap_eq _ _ h.1.2
    rw [eqOuts_eq x y h.2, show p = q from Prod.ext h1 h2]
  | [], _ :: _, h => by cases h
  | _ :: _, [], h => by cases h
def isOuts (o : Option (List (AV × Heap))) (l : List (AV × Heap)) : Bool := match o with | some m => eqOuts m l | none => false
theorem isOuts_eq {o : Option (List (AV × Heap))} {l : List (AV × Heap)} (h : isOuts o l = true) : o = some l := by
  cases o with
  | none => cases h
  | some m => rw [eqOuts_eq m l h]
/-- A FUNCTION BY CALLS OF IT WHOSE ENDS ARE KNOWN. -/
theorem known_ok {f : FuncId} {rs : List (List AV × Heap × List (AV × Heap))} (hmix : P.follows .mixedOrders = true) (h : ∀ r ∈ rs, ∃ (C : Ctx) (n : Nat), ProgOK P C O ∧ runCall C n f r.1 r.2.1 = some r.2.2) : ConOK P O f (.known rs) := by
  intro E η H w args xs l b hx hl cs
  simp only [conRun] at hl
  cases E with
  | cons => cases hl
  | nil =>
    obtain ⟨C, n, hC, hr⟩ := h _ (knownIn_some rs hl)
    exact callIn_sound hC (exec_ok hC hmix n) hr b hx cs
end Go.VmK
