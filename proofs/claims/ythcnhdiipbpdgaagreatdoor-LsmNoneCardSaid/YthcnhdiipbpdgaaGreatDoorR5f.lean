/-
  A machine that runs the model with abstract blocks, and lemmas on it: whatever it answers of a call is what the model does (ProgOK, Base: the conditions).
-/
import Derived.Test.YthcnhdiipbpdgaaGreatDoorR5e
namespace Go.VmK
variable {P : Program} {C : Ctx} {O : Env → Heap → World → Prop} {E : List LoopInfo} {η : Env} {H : Heap} {w : World}

def Has (tmps : Tr AV) (d : Option Tmp) (v : AV) : Prop := ∀ j, d = some j → tmps.get j = some v
/-- what an operation that is ahead of its time has come to -/
inductive Work (C : Ctx) (ops : Array Oper) (base : Nat) (D : Made) (L : Reads) (tmps tmps0 : Tr AV) (H : Heap) (i : Nat) (o : Oper) : Prop
  | off : wantedG ops.toList tmps0 o = some false → Has tmps o.dst undefV → (∀ ob, (i, base + i, ob) ∉ D) → Work C ops base D L tmps tmps0 H i o
  | free {v : AV} {H' : Heap} : wantedG ops.toList tmps0 o = some true → Has tmps o.dst v → opStep C ⟨.lf, base + i⟩ tmps0 o.op = some (.val v H') → (∀ ob, (i, base + i, ob) ∉ D) → Work C ops base D L tmps tmps0 H i o
  | made {v : AV} {H' : Heap} {ob : AObj} : wantedG ops.toList tmps0 o = some true → Has tmps o.dst v → opStep C ⟨.lf, base + i⟩ tmps0 o.op = some (.val v H') → H'.get (base + i) = some ob → (i, base + i, ob) ∈ D → Work C ops base D L tmps tmps0 H i o
  | read {v : AV} {H' : Heap} : wantedG ops.toList tmps0 o = some true → Has tmps o.dst v → kin C o.op = .read → (o, i) ∈ L → opStep C H tmps0 o.op = some (.val v H') → (∀ ob, (i, base + i, ob) ∉ D) → Work C ops base D L tmps tmps0 H i o
structure Lag (C : Ctx) (ops : Array Oper) (base n S A : Nat) (D : Made) (L : Reads) (tmps : Tr AV) (H : Heap) (i : Nat) (o : Oper) : Prop where
  own : ∀ d, o.dst = some d → d < n ∧ d ∉ useTmps ops.toList o
  one : ∀ d, o.dst = some d → ∀ j o', ops[j]? = some o' → S.testBit j = false → j ≠ i → o'.dst ≠ some d ∧ (d ∈ useTmps ops.toList o' → (mask ops j).testBit i = true)
  two : ∀ p o', ops[p]? = some o' → A.testBit p = false → ∀ d, o'.dst = some d → d ∉ useTmps ops.toList o
  work : ∃ tmps0 : Tr AV, (∀ u ∈ useTmps ops.toList o, tmps0.get u = tmps.get u) ∧ Work C ops base D L tmps tmps0 H i o
def Ahead (ops : Array Oper) (S A d : Nat) : Prop := ∃ i o, ops[i]? = some o ∧ A.testBit i = true ∧ S.testBit i = false ∧ o.dst = some d
structure DS (P : Program) (C : Ctx) (O : Env → Heap → World → Prop) (E : List LoopInfo) (ops : Array Oper) (base n : Nat) (η : Env) (S A : Nat) (pend : List (Oper × Nat)) (D : Made) (L : Reads) (tmps : Tr AV) (H : Heap) (w : World) (t : Array Value) : Prop where
  pend : ∀ o i, (o, i) ∈ pend ↔ ops[i]? = some o ∧ A.testBit i = false
  sub : ∀ i, S.testBit i = true → A.testBit i = true
  bnd : ∀ i, A.testBit i = true → i < ops.size
  closed : Closed ops S
  ranked : Ranked ops A
  rel : HRel P η E (commit S H D) w
  dist : Dist D
  dform : ∀ d ∈ D, d.2.1 = base + d.1 ∧ A.testBit d.1 = true ∧ H.get d.2.1 = none
  fresh : ∀ i, i < ops.size → S.testBit i = false → Fresh η H (base + i)
  above : Above η H
  le : base + ops.size ≤ H.next
  eb : ∀ id, H.next ≤ id → findLoop id E = none
  tr : TRelX η tmps n t (Ahead ops S A)
  lag : ∀ i o, ops[i]? = some o → A.testBit i = true → S.testBit i = false → Lag C ops base n S A D L tmps H i o
  st : Stable P O
  inv : O η (commit S H D) w

section
variable {ops : Array Oper} {base n S A : Nat} {pend : List (Oper × Nat)} {D : Made} {L : Reads} {tmps : Tr AV} {t : Array Value}

theorem elemB_iff {l : List Nat} {n : Nat} : elemB l n = true ↔ n ∈ l := by
  unfold elemB
  rw [List.any_eq_true]
  constructor
  · rintro ⟨x, h1, h2⟩; rw [beq_eq h2]; exact h1
  · intro h; exact ⟨n, h, by simp⟩
theorem not_elemB {l : List Nat} {n : Nat} (h : notB (elemB l n) = true) : n ∉ l := by
  intro hn
  rw [elemB_iff.2 hn] at h; cases h

/-- what an operation that is next in order reads stands -/
theorem DS.uses (s : DS P C O E ops base n η S A pend D L tmps H w t) {i : Nat} {o : Oper} (ho : ops[i]? = some o) (hS : S.testBit i = false) (hr : readyIn S o = true) : ∀ u ∈ useTmps ops.toList o, ¬ Ahead ops S A u := by
  rintro u hu ⟨j, o', ho', hA, hSj, hd⟩
  by_cases e : j = i
  · subst e
    rw [ho] at ho'; cases ho'
    exact ((s.lag j o ho hA hSj).own u hd).2 hu
  · have := ((s.lag j o' ho' hA hSj).one u hd i o ho hS (Ne.symm e)).2 hu
    have := s.closed.ready ho hr this
    rw [hSj] at this; cases this
theorem commit_base (hd : Dist D) (hf : ∀ d ∈ D, d.2.1 = base + d.1 ∧ A.testBit d.1 = true ∧ H.get d.2.1 = none) {S' : Nat} {id : Nat} (hid : id < base) : (commit S' H D).get id = H.get id := by
  cases hq : (commit S' H D).get id with
  | some o =>
    rcases (commit_get hd id o).1 hq with ⟨d, h1, h2, h3, h4⟩ | ⟨_, h⟩
    · have := (hf d h1).1; omega
    · exact h.symm
  | none =>
    cases hh : H.get id with
    | none => rfl
    | some o =>
      have := (commit_get (m := S') hd id o).2 (.inr ⟨fun d hd' _ => by have := (hf d hd').1; omega, hh⟩)
      rw [hq] at this; cases this
theorem commit_up (hd : Dist D) (hf : ∀ d ∈ D, d.2.1 = base + d.1 ∧ A.testBit d.1 = true ∧ H.get d.2.1 = none) {m S' : Nat} (hm : ∀ j, m.testBit j = true → S'.testBit j = true) {id : Nat} {o : AObj} (h : (commit m H D).get id = some o) : (commit S' H D).get id = some o := by
  rcases (commit_get hd id o).1 h with ⟨d, h1, h2, h3⟩ | ⟨h1, h2⟩
  · exact (commit_get hd id o).2 (.inl ⟨d, h1, hm _ h2, h3⟩)
  · refine (commit_get hd id o).2 (.inr ⟨fun d hd' _ e => ?_, h2⟩)
    have := (hf d hd').2.2; rw [e, h2] at this; cases this
theorem commit_H (hd : Dist D) (hf : ∀ d ∈ D, d.2.1 = base + d.1 ∧ A.testBit d.1 = true ∧ H.get d.2.1 = none) {S' : Nat} {id : Nat} {o : AObj} (h : H.get id = some o) : (commit S' H D).get id = some o := by
  refine (commit_get hd id o).2 (.inr ⟨fun d hd' _ e => ?_, h⟩)
  have := (hf d hd').2.2; rw [e, h] at this; cases this

/-- one that was ahead is caught up with -/
theorem DS.catchUp (s : DS P C O E ops base n η S A pend D L tmps H w t) {i : Nat} {o : Oper} (ho : ops[i]? = some o) (hA : A.testBit i = true) (hS : S.testBit i = false) (hr : readyIn S o = true) {η' : Env} {w' : World} {v : AV} {x : Value} (hv : Has tmps o.dst v) (hx : conc η' v = some x)
    (tr : Trans P E η (commit S H D) w η' (commit (S ||| 2 ^ i) H D) w') (only : Only (· = base + i) η η') :
    DS P C O E ops base n η' (S ||| 2 ^ i) A pend D L tmps H w' (putA t o.dst x) ∧ Below base η η' (commit S H D) (commit (S ||| 2 ^ i) H D) := by
  have hlt := s.bnd i hA
  refine ⟨⟨s.pend, fun j hj => ?_, s.bnd, s.closed.add ho hr, s.ranked, tr.rel, s.dist, s.dform, fun j hj hSj => ?_, fun id hid => ?_, s.le, s.eb, ?_, fun j o' ho' hAj hSj => ?_, s.st, s.st _ _ _ _ _ _ _ s.inv tr⟩, ?_⟩
  · rcases tb_true hj with h | h
    · exact s.sub j h
    · rw [h]; exact hA
  · obtain ⟨h1, h2⟩ := tb_false hSj
    have f := s.fresh j hj h1
    have hne : base + j ≠ base + i := by omega
    exact ⟨f.get, by rw [only.ρ _ hne]; exact f.ρ, by rw [only.κ _ hne]; exact f.κ, by rw [only.σ _ hne]; exact f.σ⟩
  · have f := s.above id hid
    have hne : id ≠ base + i := by have := s.le; omega
    exact ⟨f.get, by rw [only.ρ _ hne]; exact f.ρ, by rw [only.κ _ hne]; exact f.κ, by rw [only.σ _ hne]; exact f.σ⟩
  · refine (s.tr.mono tr.le).catchUp (fun j hj _ v' hv' => ?_) (fun j v' hj _ => ((s.lag i o ho hA hS).own j hj).1) fun j hn hd hah => ?_
    · rw [hv j hj] at hv'; cases hv'; exact hx
    · obtain ⟨k, o', h1, h2, h3, h4⟩ := hah
      by_cases e : k = i
      · subst e; rw [ho] at h1; cases h1; exact hd h4
      · exact hn ⟨k, o', h1, h2, by rw [tb_ne e]; exact h3, h4⟩
  · obtain ⟨h1, h2⟩ := tb_false hSj
    have l := s.lag j o' ho' hAj h1
    exact ⟨l.own, fun d hd k o2 ho2 hSk hne => l.one d hd k o2 ho2 (tb_false hSk).1 hne, l.two, l.work⟩
  · refine ⟨only.mono fun j hj => by omega, fun id hid hn => ?_, by rw [commit_next, commit_next]; exact Nat.le_refl _⟩
    rw [commit_base s.dist s.dform hid] at hn ⊢; exact hn

theorem commit_none (s : DS P C O E ops base n η S A pend D L tmps H w t) {i : Nat} (hn : ∀ ob, (i, base + i, ob) ∉ D) {id : Nat} {o : AObj} (h : (commit (S ||| 2 ^ i) H D).get id = some o) : (commit S H D).get id = some o := by
  rcases (commit_get s.dist id o).1 h with ⟨d, h1, h2, h3⟩ | ⟨h1, h2⟩
  · rcases tb_true h2 with h4 | h4
    · exact (commit_get s.dist id o).2 (.inl ⟨d, h1, h4, h3⟩)
    · obtain ⟨a, b, c⟩ := d
      have := (s.dform _ h1).1
      simp only at h4 this; subst h4; subst this
      exact absurd h1 (hn c)
  · exact (commit_get s.dist id o).2 (.inr ⟨fun d hd ht => h1 d hd (tb_old ht), h2⟩)
theorem commit_one (s : DS P C O E ops base n η S A pend D L tmps H w t) {i : Nat} {ob : AObj} (hn : (i, base + i, ob) ∈ D) {id : Nat} {o : AObj} (h : (commit (S ||| 2 ^ i) H D).get id = some o) : (id = base + i ∧ o = ob) ∨ (commit S H D).get id = some o := by
  rcases (commit_get s.dist id o).1 h with ⟨d, h1, h2, h3, h4⟩ | ⟨h1, h2⟩
  · rcases tb_true h2 with h5 | h5
    · exact .inr ((commit_get s.dist id o).2 (.inl ⟨d, h1, h5, h3, h4⟩))
    · have := (s.dform _ h1).1
      have e := s.dist d h1 _ hn (by rw [this, h5])
      subst e
      exact .inl ⟨h3.symm, h4.symm⟩
  · exact .inr ((commit_get s.dist id o).2 (.inr ⟨fun d hd ht => h1 d hd (tb_old ht), h2⟩))

variable {fn : FuncId} {rd : Option Nat} {ds : List Deferred} {k : List Item} {cs : List Frame} {rest : List Nat}

theorem empty_rel (P : Program) (η : Env) (E : List LoopInfo) (b : Nat) (w : World) : HRel P η E ⟨.lf, b⟩ w := ⟨fun id o h => by simp [Heap.get, Tr.get_lf] at h, fun i j oi oj b h => by simp [Heap.get, Tr.get_lf] at h⟩

/-- the machine takes an operation that was ahead -/
theorem DS.take (hC : ProgOK P C O) (s : DS P C O E ops base n η S A pend D L tmps H w t) {i : Nat} {o : Oper} (ho : ops[i]? = some o) (hA : A.testBit i = true) (hS : S.testBit i = false) (hr : readyIn S o = true) :
    ∃ η' w' t', Steps P (mR fn rd ds k cs ops (i :: rest) t w) (mR fn rd ds k cs ops rest t' w') ∧ Trans P E η (commit S H D) w η' (commit (S ||| 2 ^ i) H D) w' ∧ Below base η η' (commit S H D) (commit (S ||| 2 ^ i) H D) ∧
      DS P C O E ops base n η' (S ||| 2 ^ i) A pend D L tmps H w' t' := by
  have l := s.lag i o ho hA hS
  obtain ⟨tmps0, hag, hw⟩ := l.work
  have hX := s.uses ho hS hr
  have ht0 : TRelX η tmps0 n t (fun j => j ∉ useTmps ops.toList o) := ⟨s.tr.size, fun j v hj hv => by
    have hj : j ∈ useTmps ops.toList o := Classical.not_not.1 hj
    rw [hag j hj] at hv
    exact s.tr.get j v (hX j hj) hv⟩
  have hX0 : ∀ j ∈ useTmps ops.toList o, ¬ (fun j => j ∉ useTmps ops.toList o) j := fun j hj x => x hj
  have hlt := s.bnd i hA
  have hf := s.fresh i hlt hS
  cases hw with
  | off h1 h2 h3 =>
    have tr : Trans P E η (commit S H D) w η (commit (S ||| 2 ^ i) H D) w :=
      (Trans.refl s.rel).weak ⟨by rw [commit_next, commit_next]; exact Nat.le_refl _, fun id o' h => ⟨o', commit_none s h3 h, WeakO.refl _⟩⟩
    obtain ⟨g1, g2⟩ := s.catchUp ho hA hS hr h2 (undef_conc η) tr (Only.refl _ _)
    exact ⟨η, w, _, .one (st_unwanted ho (wantedG_sound ht0 hX0 h1)), tr, g2, g1⟩
  | free h1 h2 h3 h4 =>
    obtain ⟨η', x, w', e1, e2, e3, e4⟩ := opStep_sound (P := P) (E := E) hC.toCtxOK (empty_rel P η E (base + i) w) ⟨rfl, hf.ρ, hf.κ, hf.σ⟩ (ops_ok ht0 hX0) h3
    have tr := glue (G' := commit (S ||| 2 ^ i) H D) s.rel (fun id o' h => by simp [Heap.get, Tr.get_lf] at h) e3 fun id o' h => .inr ⟨commit_none s h4 h, rfl⟩
    obtain ⟨g1, g2⟩ := s.catchUp ho hA hS hr h2 e2 tr e4.only
    exact ⟨η', w', _, .one (st_value ho (wantedG_sound ht0 hX0 h1) (not_defer h3) e1), tr, g2, g1⟩
  | made h1 h2 h3 h4 h5 =>
    rename_i v H' ob
    obtain ⟨η', x, w', e1, e2, e3, e4⟩ := opStep_sound (P := P) (E := E) hC.toCtxOK (empty_rel P η E (base + i) w) ⟨rfl, hf.ρ, hf.κ, hf.σ⟩ (ops_ok ht0 hX0) h3
    have tr := glue (G' := commit (S ||| 2 ^ i) H D) s.rel (fun id o' h => by simp [Heap.get, Tr.get_lf] at h) e3 fun id o' h => by
      rcases commit_one s h5 h with ⟨rfl, rfl⟩ | h
      · exact .inl h4
      · exact .inr ⟨h, rfl⟩
    obtain ⟨g1, g2⟩ := s.catchUp ho hA hS hr h2 e2 tr e4.only
    exact ⟨η', w', _, .one (st_value ho (wantedG_sound ht0 hX0 h1) (not_defer h3) e1), tr, g2, g1⟩
  | read h1 h2 h3 h4 h5 h6 =>
    rename_i v H1
    have hrel : HRel P η E H w := s.rel.weak ⟨by rw [commit_next]; exact Nat.le_refl _, fun id o' h => ⟨o', commit_H s.dist s.dform h, WeakO.refl _⟩⟩
    obtain ⟨η', x, w', e1, e2, e3, e4⟩ := opStep_sound (P := P) (E := E) hC.toCtxOK hrel (s.above _ (Nat.le_refl _)) (ops_ok ht0 hX0) h5
    have := read_same h3 h5
    subst this
    have hη : η' = η := by rcases e4.next with ⟨_, h, _⟩ | h; · exact h
                           · omega
    subst hη
    have tr := glue (G' := commit (S ||| 2 ^ i) H1 D) s.rel (fun id o' h => commit_H s.dist s.dform h) e3 fun id o' h => by
      have h := commit_none s h6 h
      cases hq : H1.get id with
      | none => exact .inr ⟨h, rfl⟩
      | some o2 => rw [commit_H s.dist s.dform hq] at h; cases h; exact .inl rfl
    obtain ⟨g1, g2⟩ := s.catchUp ho hA hS hr h2 e2 tr (Only.refl _ _)
    exact ⟨η', w', _, .one (st_value ho (wantedG_sound ht0 hX0 h1) (not_defer h5) e1), tr, g2, g1⟩

/-- all that is ahead, as far as the order has it next -/
theorem DS.drain (hC : ProgOK P C O) : ∀ {l : List Nat} {η : Env} {S : Nat} {w : World} {t : Array Value}, DS P C O E ops base n η S A pend D L tmps H w t → Lin ops S l →
    ∃ η' S' w' t' l', Steps P (mR fn rd ds k cs ops l t w) (mR fn rd ds k cs ops l' t' w') ∧ Trans P E η (commit S H D) w η' (commit S' H D) w' ∧ Below base η η' (commit S H D) (commit S' H D) ∧
      DS P C O E ops base n η' S' A pend D L tmps H w' t' ∧ Lin ops S' l' ∧ ∀ i r, l' = i :: r → A.testBit i = false
  | [], η, S, w, t, s, hl => ⟨η, S, w, t, [], .refl _ _, Trans.refl s.rel, Below.refl _ _ _, s, hl, fun i r h => by cases h⟩
  | i :: r, η, S, w, t, s, hl => by
    cases hA : A.testBit i with
    | false => exact ⟨η, S, w, t, i :: r, .refl _ _, Trans.refl s.rel, Below.refl _ _ _, s, hl, fun j r' h => by cases h; exact hA⟩
    | true =>
      cases hl with
      | cons ho hS hr hl' =>
        obtain ⟨η1, w1, t1, a1, a2, a3, a4⟩ := s.take (fn := fn) (rd := rd) (ds := ds) (k := k) (cs := cs) (rest := r) hC ho hA hS hr
        obtain ⟨η2, S2, w2, t2, l2, b1, b2, b3, b4, b5, b6⟩ := DS.drain hC a4 hl'
        exact ⟨η2, S2, w2, t2, l2, a1.trans b1, a2.trans b2, a3.trans b3 (Nat.le_refl _), b4, b5, b6⟩
end
end Go.VmK
