/-
  A machine that runs the model with abstract blocks, and lemmas on it: whatever it answers of a call is what the model does (ProgOK, Base: the conditions).
-/
import Derived.Test.YthcnhdiipbpdgaaGreatDoorR4p
namespace Go.VmK

theorem eqEs_eq : ∀ (a b : List (AV × AV × Nat)), eqEs a b = true → a = b
  | [], b => by intro h; cases b <;> simp only [eqEs, Bool.false_eq_true] at h; rfl
  | (x, y, n) :: r, b => by
    intro h
    cases b with
    | nil => simp only [eqEs, Bool.false_eq_true] at h
    | cons p s =>
      obtain ⟨x', y', n'⟩ := p
      simp only [eqEs, Bool.and_eq_true] at h
      rw [eqAV_eq _ _ h.1.1.1, eqAV_eq _ _ h.1.1.2, beq_eq h.1.2, eqEs_eq _ _ h.2]
theorem eqNs_eq : ∀ (a b : List Nat), eqNs a b = true → a = b
  | [], b => by intro h; cases b <;> simp only [eqNs, Bool.false_eq_true] at h; rfl
  | x :: r, b => by
    intro h; cases b <;> simp only [eqNs, Bool.false_eq_true] at h
    simp only [Bool.and_eq_true] at h; rw [beq_eq h.1, eqNs_eq _ _ h.2]

theorem joinTr_get {α : Type} (f : α → α → Option α) : ∀ (a b : Tr α) (i : Nat) (x : α), (joinTr f a b).get i = some x → ∃ u v, a.get i = some u ∧ b.get i = some v ∧ f u v = some x
  | .lf, b, i, x, h => by cases b <;> (simp only [joinTr, Tr.get_lf] at h; cases h)
  | .nd l v r, .lf, i, x, h => by simp only [joinTr, Tr.get_lf] at h; cases h
  | .nd l v r, .nd l' v' r', i, x, h => by
    simp only [joinTr, Tr.get_nd] at h ⊢
    by_cases h0 : i = 0
    · simp only [h0] at h ⊢
      cases v with
      | none => simp at h
      | some u => cases v' with
        | none => simp at h
        | some u' => simp at h; exact ⟨u, u', by simp, by simp, h⟩
    · by_cases h1 : i % 2 = 1
      · simp only [h0, h1] at h ⊢
        simp at h ⊢
        obtain ⟨u, v, h1, h2, h3⟩ := joinTr_get f l l' _ x h
        exact ⟨u, h1, v, h2, h3⟩
      · simp only [h0, h1] at h ⊢
        simp at h ⊢
        obtain ⟨u, v, h1, h2, h3⟩ := joinTr_get f r r' _ x h
        exact ⟨u, h1, v, h2, h3⟩
theorem joinAV_eq {a b c : AV} (h : joinAV a b = some c) : c = a ∧ a = b := by
  unfold joinAV at h
  cases hq : eqAV a b with
  | false => rw [hq] at h; cases h
  | true => rw [hq] at h; simp only [cond_true, Option.some.injEq] at h; exact ⟨h.symm, eqAV_eq _ _ hq⟩

/-- knows no more -/
def WeakO (o o' : AObj) : Prop := ∀ (P : Program) (η : Env) (E : List LoopInfo) (id : Nat) (ob : Obj), ORel P η E id o ob → ORel P η E id o' ob
theorem WeakO.refl (o : AObj) : WeakO o o := fun _ _ _ _ _ h => h
theorem weak_cells {t t' : Tr AV} {n : Nat} {e : TypeId} {o : Bool} {lo hi : Nat} {mk : Bool} (h : ∀ i v, t'.get i = some v → t.get i = some v) : WeakO (.cells t n e o lo hi mk) (.cells t' n e o lo hi mk) := by
  intro P η E id ob g
  cases ob <;> try exact g.elim
  exact ⟨g.elem, fun i v hv hi => g.get i v (h i v hv) hi, g.le, g.shut, g.opened, g.fzle, g.cover, g.small⟩
theorem joinObj_weak {a b o : AObj} (h : joinObj a b = some o) : WeakO a o ∧ WeakO b o := by
  unfold joinObj at h
  split at h
  · rename_i t n e o1 lo hi mk t' n' e' o1' lo' hi' mk'
    cases hq : (Nat.beq n n' && Nat.beq e e' && (o1 == o1') && Nat.beq lo lo' && Nat.beq hi hi' && (mk == mk')) with
    | false => rw [hq] at h; cases h
    | true =>
      rw [hq] at h; simp only [cond_true, Option.some.injEq] at h; subst h
      simp only [Bool.and_eq_true] at hq
      obtain ⟨⟨⟨⟨⟨q1, q2⟩, q3⟩, q4⟩, q5⟩, q6⟩ := hq
      have q1 := beq_eq q1; have q2 := beq_eq q2; have q3 := eq_of_beq q3; have q4 := beq_eq q4; have q5 := beq_eq q5; have q6 := eq_of_beq q6
      subst q1; subst q2; subst q3; subst q4; subst q5; subst q6
      exact ⟨weak_cells fun i v hv => let ⟨u, u', h1, h2, h3⟩ := joinTr_get _ _ _ _ _ hv; by rw [h1, (joinAV_eq h3).1],
        weak_cells fun i v hv => let ⟨u, u', h1, h2, h3⟩ := joinTr_get _ _ _ _ _ hv; by rw [h2, (joinAV_eq h3).1, (joinAV_eq h3).2]⟩
  · rename_i es c es' c'
    cases hq : (eqEs es es' && Nat.beq c c') with
    | false => rw [hq] at h; cases h
    | true =>
      rw [hq] at h; simp only [cond_true, Option.some.injEq] at h; subst h
      simp only [Bool.and_eq_true] at hq
      have q1 := eqEs_eq _ _ hq.1; have q2 := beq_eq hq.2
      subst q1; subst q2
      exact ⟨WeakO.refl _, WeakO.refl _⟩
  · rename_i m s l k m' s' l' k'
    cases hq : ((m == m') && Nat.beq s s' && eqNs l l' && Nat.beq k k') with
    | false => rw [hq] at h; cases h
    | true =>
      rw [hq] at h; simp only [cond_true, Option.some.injEq] at h; subst h
      simp only [Bool.and_eq_true] at hq
      have q1 := eq_of_beq hq.1.1.1; have q2 := beq_eq hq.1.1.2; have q3 := eqNs_eq _ _ hq.1.2; have q4 := beq_eq hq.2
      subst q1; subst q2; subst q3; subst q4
      exact ⟨WeakO.refl _, WeakO.refl _⟩
  · rename_i s p s' p'
    cases hq : (beqL s s' && Nat.beq p p') with
    | false => rw [hq] at h; cases h
    | true =>
      rw [hq] at h; simp only [cond_true, Option.some.injEq] at h; subst h
      simp only [Bool.and_eq_true] at hq
      have q1 := beqL_eq' hq.1; have q2 := beq_eq hq.2
      subst q1; subst q2
      exact ⟨WeakO.refl _, WeakO.refl _⟩
  · rename_i s p s' p'
    cases hq : ((s == s') && (p == p')) with
    | false => rw [hq] at h; cases h
    | true =>
      rw [hq] at h; simp only [cond_true, Option.some.injEq] at h; subst h
      simp only [Bool.and_eq_true] at hq
      have q1 : s = s' := by have := hq.1; cases s <;> cases s' <;> first | rfl | (exact absurd this (by decide))
      have q2 := eq_of_beq hq.2
      subst q1; subst q2
      exact ⟨WeakO.refl _, WeakO.refl _⟩
  · rename_i a b
    cases hq : (a == b) with
    | false => rw [hq] at h; cases h
    | true =>
      rw [hq] at h; simp only [cond_true, Option.some.injEq] at h; subst h
      have q1 := eq_of_beq hq
      subst q1
      exact ⟨WeakO.refl _, WeakO.refl _⟩
  · cases h

def Weak (H H' : Heap) : Prop := H.next ≤ H'.next ∧ ∀ id o, H'.get id = some o → ∃ o', H.get id = some o' ∧ WeakO o' o
theorem Weak.refl (H : Heap) : Weak H H := ⟨Nat.le_refl _, fun _id o h => ⟨o, h, WeakO.refl _⟩⟩
theorem Weak.trans {H1 H2 H3 : Heap} (h : Weak H1 H2) (g : Weak H2 H3) : Weak H1 H3 :=
  ⟨Nat.le_trans h.1 g.1, fun id o ho => let ⟨o', h1, h2⟩ := g.2 id o ho; let ⟨o'', h3, h4⟩ := h.2 id o' h1; ⟨o'', h3, fun P η E i ob x => h2 P η E i ob (h4 P η E i ob x)⟩⟩
theorem joinHeap_weak (a b : Heap) : Weak a (joinHeap a b) ∧ Weak b (joinHeap a b) := by
  refine ⟨⟨Nat.le_max_left _ _, fun id o h => ?_⟩, ⟨Nat.le_max_right _ _, fun id o h => ?_⟩⟩ <;>
    obtain ⟨u, v, h1, h2, h3⟩ := joinTr_get joinObj _ _ _ _ h
  · exact ⟨u, h1, (joinObj_weak h3).1⟩
  · exact ⟨v, h2, (joinObj_weak h3).2⟩
variable {P : Program} {C : Ctx} {E : List LoopInfo} {η : Env} {H : Heap} {w : World}
theorem HRel.weak {H' : Heap} (h : HRel P η E H w) (g : Weak H H') : HRel P η E H' w :=
  ⟨fun id o ho => let ⟨o', h1, h2⟩ := g.2 id o ho; let ⟨b, ob, h3, h4, h5⟩ := h.obj id o' h1; ⟨b, ob, h3, h4, h2 _ _ _ _ _ h5⟩,
   fun i j oi oj b hi hj hbi hbj => let ⟨oi', hi', _⟩ := g.2 i oi hi; let ⟨oj', hj', _⟩ := g.2 j oj hj; h.inj i j oi' oj' b hi' hj' hbi hbj⟩
theorem Live.weak {H' : Heap} (g : Weak H H') {b : Nat} (h : Live η H' b) : Live η H b :=
  let ⟨id, o, h1, h2⟩ := h; let ⟨o', h3, _⟩ := g.2 id o h1; ⟨id, o', h3, h2⟩
theorem Trans.weak {η' : Env} {H' H'' : Heap} {w' : World} (h : Trans P E η H w η' H' w') (g : Weak H' H'') : Trans P E η H w η' H'' w' :=
  ⟨h.le, h.rel.weak g, h.frame, fun b hb hl => h.shr b hb (Live.weak g hl), h.keeps⟩

def Above (η : Env) (H : Heap) : Prop := ∀ id, H.next ≤ id → Fresh η H id
theorem Above.weak {H' : Heap} (h : Above η H) (g : Weak H H') : Above η H' := fun id hid =>
  let f := h id (Nat.le_trans g.1 hid)
  have hn : H'.get id = none := by
    cases hq : H'.get id with
    | none => rfl
    | some o => obtain ⟨o', ho', _⟩ := g.2 id o hq; rw [f.get] at ho'; cases ho'
  ⟨hn, f.ρ, f.κ, f.σ⟩
theorem Above.grow {η' : Env} {H' : Heap} (h : Above η H) (g : Grow η η' H H') : Above η' H' ∧ H.next ≤ H'.next := by
  rcases g.next with ⟨h1, h2, h3⟩ | h1
  · subst h2
    refine ⟨fun id hid => ?_, Nat.le_of_eq h1.symm⟩
    rw [h1] at hid
    have f := h id hid
    refine ⟨?_, f.ρ, f.κ, f.σ⟩
    by_cases e : id = H.next
    · subst e; exact h3 f.get
    · exact g.objs id e f.get
  · refine ⟨fun id hid => ?_, by omega⟩
    have hne : id ≠ H.next := by omega
    have f := h id (by omega)
    exact ⟨g.objs id hne f.get, by rw [g.only.ρ id hne]; exact f.ρ, by rw [g.only.κ id hne]; exact f.κ, by rw [g.only.σ id hne]; exact f.σ⟩

theorem joinOuts_sound : ∀ {l : List (AV × Heap)} {v : AV} {H : Heap}, joinOuts l = some (v, H) → ∀ p ∈ l, p.1 = v ∧ Weak p.2 H
  | [], v, H, h => by simp [joinOuts] at h
  | [x], v, H, h => by
    simp only [joinOuts, Option.some.injEq] at h; subst h
    intro p hp; simp at hp; subst hp; exact ⟨rfl, Weak.refl _⟩
  | (v1, H1) :: y :: r, v, H, h => by
    simp only [joinOuts] at h
    split at h
    · rename_i v' H' hr
      cases hq : eqAV v1 v' with
      | false => rw [hq] at h; cases h
      | true =>
        rw [hq] at h; simp only [cond_true, Option.some.injEq, Prod.mk.injEq] at h
        obtain ⟨rfl, rfl⟩ := h
        have he := eqAV_eq _ _ hq
        obtain ⟨g1, g2⟩ := joinHeap_weak H1 H'
        intro p hp
        rcases List.mem_cons.1 hp with rfl | hp
        · exact ⟨rfl, g1⟩
        · obtain ⟨e1, e2⟩ := joinOuts_sound hr p hp
          exact ⟨by rw [e1, he], e2.trans g2⟩
    · cases h
def WeakT (t t' : Tr AV) : Prop := ∀ i v, t'.get i = some v → t.get i = some v
theorem joinRegs_sound : ∀ {l : List (Tr AV × Heap)} {t : Tr AV} {H : Heap}, joinRegs l = some (t, H) → ∀ p ∈ l, WeakT p.1 t ∧ Weak p.2 H
  | [], v, H, h => by simp [joinRegs] at h
  | [x], v, H, h => by
    simp only [joinRegs, Option.some.injEq] at h; subst h
    intro p hp; simp at hp; subst hp; exact ⟨fun _ _ h => h, Weak.refl _⟩
  | (v1, H1) :: y :: r, v, H, h => by
    simp only [joinRegs] at h
    split at h
    · rename_i v' H' hr
      simp only [Option.some.injEq, Prod.mk.injEq] at h
      obtain ⟨rfl, rfl⟩ := h
      obtain ⟨g1, g2⟩ := joinHeap_weak H1 H'
      intro p hp
      rcases List.mem_cons.1 hp with rfl | hp
      · exact ⟨fun i u hu => let ⟨a, b, h1, h2, h3⟩ := joinTr_get _ _ _ _ _ hu; by rw [h1, (joinAV_eq h3).1], g1⟩
      · obtain ⟨e1, e2⟩ := joinRegs_sound hr p hp
        exact ⟨fun i u hu => e1 i u (let ⟨a, b, h1, h2, h3⟩ := joinTr_get _ _ _ _ _ hu; by rw [h2, (joinAV_eq h3).1, (joinAV_eq h3).2]), e2.trans g2⟩
    · cases h
end Go.VmK
