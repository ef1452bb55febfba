/-
  A machine that runs the model with abstract blocks, and lemmas on it: whatever it answers of a call is what the model does (ProgOK, Base: the conditions).
-/
import Derived.Test.YtbanldnjpnfgkaaGreatDoorV4
import Derived.Defers
import Derived.Orders
namespace Go.VmK

theorem eqEs_eq : ∀ (a b : List (AV × AV × Nat)), eqEs a b = true → a = b
  | [], b => by intro h; cases b <;> simp only [eqEs, Bool.false_eq_true] at h; rfl
  | (x, y, n) :: r, b => by
    intro h
    cases b with
    | nil => simp only [eqEs, Bool.false_eq_true] at h
    | cons p s =>
      obtain ⟨x', y', n'⟩ := p
      simp only [eqEs, Bool.and_eq_true] at h
      rw [eqAV_eq _ _ h.1.1.1, eqAV_eq _ _ h.1.1.2, beq_eq h.1.2, eqEs_eq _ _ h.2]
theorem eqNs_eq : ∀ (a b : List Nat), eqNs a b = true → a = b
  | [], b => by intro h; cases b <;> simp only [eqNs, Bool.false_eq_true] at h; rfl
  | x :: r, b => by
    intro h; cases b <;> simp only [eqNs, Bool.false_eq_true] at h
    simp only [Bool.and_eq_true] at h; rw [beq_eq h.1, eqNs_eq _ _ h.2]

theorem joinTr_get {α : Type} (f : α → α → Option α) : ∀ (a b : Tr α) (i : Nat) (x : α), (joinTr f a b).get i = some x → ∃ u v, a.get i = some u ∧ b.get i = some v ∧ f u v = some x
  | .lf, b, i, x, h => by cases b <;> (simp only [joinTr, Tr.get_lf] at h; cases h)
  | .nd l v r, .lf, i, x, h => by simp only [joinTr, Tr.get_lf] at h; cases h
  | .nd l v r, .nd l' v' r', i, x, h => by
    simp only [joinTr, Tr.get_nd] at h ⊢
    by_cases h0 : i = 0
    · simp only [h0] at h ⊢
      cases v with
      | none => simp at h
      | some u => cases v' with
        | none => simp at h
        | some u' => simp at h; exact ⟨u, u', by simp, by simp, h⟩
    · by_cases h1 : i % 2 = 1
      · simp only [h0, h1] at h ⊢
        simp at h ⊢
        obtain ⟨u, v, h1, h2, h3⟩ := joinTr_get f l l' _ x h
        exact ⟨u, h1, v, h2, h3⟩
      · simp only [h0, h1] at h ⊢
        simp at h ⊢
        obtain ⟨u, v, h1, h2, h3⟩ := joinTr_get f r r' _ x h
        exact ⟨u, h1, v, h2, h3⟩
theorem joinAV_eq {a b c : AV} (h : joinAV a b = some c) : c = a ∧ a = b := by
  unfold joinAV at h
  cases hq : eqAV a b with
  | false => rw [hq] at h; cases h
  | true => rw [hq] at h; simp only [cond_true, Option.some.injEq] at h; exact ⟨h.symm, eqAV_eq _ _ hq⟩

/-- knows no more -/
def WeakO (o o' : AObj) : Prop := ∀ (P : Program) (η : Env) (E : List LoopInfo) (id : Nat) (ob : Obj), ORel P η E id o ob → ORel P η E id o' ob
theorem WeakO.refl (o : AObj) : WeakO o o := fun _ _ _ _ _ h => h
theorem weak_cells {t t' : Tr AV} {n : Nat} {e : TypeId} {o : Bool} {lo hi : Nat} {mk : Bool} (h : ∀ i v, t'.get i = some v → t.get i = some v) : WeakO (.cells t n e o lo hi mk) (.cells t' n e o lo hi mk) := by
  intro P η E id ob g
  cases ob <;> try exact g.elim
  exact ⟨g.elem, fun i v hv hi => g.get i v (h i v hv) hi, g.le, g.shut, g.opened, g.fzle, g.cover, g.small⟩
theorem joinObj_weak {a b o : AObj} (h : joinObj a b = some o) : WeakO a o ∧ WeakO b o := by
  unfold joinObj at h
  split at h
  · rename_i t n e o1 lo hi mk t' n' e' o1' lo' hi' mk'
    cases hq : (Nat.beq n n' && Nat.beq e e' && (o1 == o1') && Nat.beq lo lo' && Nat.beq hi hi' && (mk == mk')) with
    | false => rw [hq] at h; cases h
    | true =>
      rw [hq] at h; simp only [cond_true, Option.some.injEq] at h; subst h
      simp only [Bool.and_eq_true] at hq
      obtain ⟨⟨⟨⟨⟨q1, q2⟩, q3⟩, q4⟩, q5⟩, q6⟩ := hq
      have q1 := beq_eq q1; have q2 := beq_eq q2; have q3 := eq_of_beq q3; have q4 := beq_eq q4; have q5 := beq_eq q5; have q6 := eq_of_beq q6
      subst q1; subst q2; subst q3; subst q4; subst q5; subst q6
      exact ⟨weak_cells fun i v hv => let ⟨u, u', h1, h2, h3⟩ := joinTr_get _ _ _ _ _ hv; by rw [h1, (joinAV_eq h3).1],
        weak_cells fun i v hv => let ⟨u, u', h1, h2, h3⟩ := joinTr_get _ _ _ _ _ hv; by rw [h2, (joinAV_eq h3).1, (joinAV_eq h3).2]⟩
  · rename_i es c es' c'
    cases hq : (eqEs es es' && Nat.beq c c') with
    | false => rw [hq] at h; cases h
    | true =>
      rw [hq] at h; simp only [cond_true, Option.some.injEq] at h; subst h
      simp only [Bool.and_eq_true] at hq
      have q1 := eqEs_eq _ _ hq.1; have q2 := beq_eq hq.2
      subst q1; subst q2
      exact ⟨WeakO.refl _, WeakO.refl _⟩
  · rename_i m s l k m' s' l' k'
    cases hq : ((m == m') && Nat.beq s s' && eqNs l l' && Nat.beq k k') with
    | false => rw [hq] at h; cases h
    | true =>
      rw [hq] at h; simp only [cond_true, Option.some.injEq] at h; subst h
      simp only [Bool.and_eq_true] at hq
      have q1 := eq_of_beq hq.1.1.1; have q2 := beq_eq hq.1.1.2; have q3 := eqNs_eq _ _ hq.1.2; have q4 := beq_eq hq.2
      subst q1; subst q2; subst q3; subst q4
      exact ⟨WeakO.refl _, WeakO.refl _⟩
  · rename_i s p s' p'
    cases hq : (beqL s s' && Nat.beq p p') with
    | false => rw [hq] at h; cases h
    | true =>
      rw [hq] at h; simp only [cond_true, Option.some.injEq] at h; subst h
      simp only [Bool.and_eq_true] at hq
      have q1 := beqL_eq' hq.1; have q2 := beq_eq hq.2
      subst q1; subst q2
      exact ⟨WeakO.refl _, WeakO.refl _⟩
  · rename_i s p s' p'
    cases hq : ((s == s') && (p == p')) with
    | false => rw [hq] at h; cases h
    | true =>
      rw [hq] at h; simp only [cond_true, Option.some.injEq] at h; subst h
      simp only [Bool.and_eq_true] at hq
      have q1 : s = s' := by have := hq.1; cases s <;> cases s' <;> first | rfl | (exact absurd this (by decide))
      have q2 := eq_of_beq hq.2
      subst q1; subst q2
      exact ⟨WeakO.refl _, WeakO.refl _⟩
  · rename_i a b
    cases hq : (a == b) with
    | false => rw [hq] at h; cases h
    | true =>
      rw [hq] at h; simp only [cond_true, Option.some.injEq] at h; subst h
      have q1 := eq_of_beq hq
      subst q1
      exact ⟨WeakO.refl _, WeakO.refl _⟩
  · cases h

def Weak (H H' : Heap) : Prop := H.next ≤ H'.next ∧ ∀ id o, H'.get id = some o → ∃ o', H.get id = some o' ∧ WeakO o' o
theorem Weak.refl (H : Heap) : Weak H H := ⟨Nat.le_refl _, fun _id o h => ⟨o, h, WeakO.refl _⟩⟩
theorem Weak.trans {H1 H2 H3 : Heap} (h : Weak H1 H2) (g : Weak H2 H3) : Weak H1 H3 :=
  ⟨Nat.le_trans h.1 g.1, fun id o ho => let ⟨o', h1, h2⟩ := g.2 id o ho; let ⟨o'', h3, h4⟩ := h.2 id o' h1; ⟨o'', h3, fun P η E i ob x => h2 P η E i ob (h4 P η E i ob x)⟩⟩
theorem joinHeap_weak (a b : Heap) : Weak a (joinHeap a b) ∧ Weak b (joinHeap a b) := by
  refine ⟨⟨Nat.le_max_left _ _, fun id o h => ?_⟩, ⟨Nat.le_max_right _ _, fun id o h => ?_⟩⟩ <;>
    obtain ⟨u, v, h1, h2, h3⟩ := joinTr_get joinObj _ _ _ _ h
  · exact ⟨u, h1, (joinObj_weak h3).1⟩
  · exact ⟨v, h2, (joinObj_weak h3).2⟩
variable {P : Program} {C : Ctx} {E : List LoopInfo} {η : Env} {H : Heap} {w : World}
theorem HRel.weak {H' : Heap} (h : HRel P η E H w) (g : Weak H H') : HRel P η E H' w :=
  ⟨fun id o ho => let ⟨o', h1, h2⟩ := g.2 id o ho; let ⟨b, ob, h3, h4, h5⟩ := h.obj id o' h1; ⟨b, ob, h3, h4, h2 _ _ _ _ _ h5⟩,
   fun i j oi oj b hi hj hbi hbj => let ⟨oi', hi', _⟩ := g.2 i oi hi; let ⟨oj', hj', _⟩ := g.2 j oj hj; h.inj i j oi' oj' b hi' hj' hbi hbj⟩
theorem Live.weak {H' : Heap} (g : Weak H H') {b : Nat} (h : Live η H' b) : Live η H b :=
  let ⟨id, o, h1, h2⟩ := h; let ⟨o', h3, _⟩ := g.2 id o h1; ⟨id, o', h3, h2⟩
theorem Trans.weak {η' : Env} {H' H'' : Heap} {w' : World} (h : Trans P E η H w η' H' w') (g : Weak H' H'') : Trans P E η H w η' H'' w' :=
  ⟨h.le, h.rel.weak g, h.frame, fun b hb hl => h.shr b hb (Live.weak g hl), h.keeps⟩

def Above (η : Env) (H : Heap) : Prop := ∀ id, H.next ≤ id → Fresh η H id
theorem Above.weak {H' : Heap} (h : Above η H) (g : Weak H H') : Above η H' := fun id hid =>
  let f := h id (Nat.le_trans g.1 hid)
  have hn : H'.get id = none := by
    cases hq : H'.get id with
    | none => rfl
    | some o => obtain ⟨o', ho', _⟩ := g.2 id o hq; rw [f.get] at ho'; cases ho'
  ⟨hn, f.ρ, f.κ, f.σ⟩
theorem Above.grow {η' : Env} {H' : Heap} (h : Above η H) (g : Grow η η' H H') : Above η' H' ∧ H.next ≤ H'.next := by
  rcases g.next with ⟨h1, h2, h3⟩ | h1
  · subst h2
    refine ⟨fun id hid => ?_, Nat.le_of_eq h1.symm⟩
    rw [h1] at hid
    have f := h id hid
    refine ⟨?_, f.ρ, f.κ, f.σ⟩
    by_cases e : id = H.next
    · subst e; exact h3 f.get
    · exact g.objs id e f.get
  · refine ⟨fun id hid => ?_, by omega⟩
    have hne : id ≠ H.next := by omega
    have f := h id (by omega)
    exact ⟨g.objs id hne f.get, by rw [g.only.ρ id hne]; exact f.ρ, by rw [g.only.κ id hne]; exact f.κ, by rw [g.only.σ id hne]; exact f.σ⟩

theorem joinOuts_sound : ∀ {l : List (AV × Heap)} {v : AV} {H : Heap}, joinOuts l = some (v, H) → ∀ p ∈ l, p.1 = v ∧ Weak p.2 H
  | [], v, H, h => by simp [joinOuts] at h
  | [x], v, H, h => by
    simp only [joinOuts, Option.some.injEq] at h; subst h
    intro p hp; simp at hp; subst hp; exact ⟨rfl, Weak.refl _⟩
  | (v1, H1) :: y :: r, v, H, h => by
    simp only [joinOuts] at h
    split at h
    · rename_i v' H' hr
      cases hq : eqAV v1 v' with
      | false => rw [hq] at h; cases h
      | true =>
        rw [hq] at h; simp only [cond_true, Option.some.injEq, Prod.mk.injEq] at h
        obtain ⟨rfl, rfl⟩ := h
        have he := eqAV_eq _ _ hq
        obtain ⟨g1, g2⟩ := joinHeap_weak H1 H'
        intro p hp
        rcases List.mem_cons.1 hp with rfl | hp
        · exact ⟨rfl, g1⟩
        · obtain ⟨e1, e2⟩ := joinOuts_sound hr p hp
          exact ⟨by rw [e1, he], e2.trans g2⟩
    · cases h
def WeakT (t t' : Tr AV) : Prop := ∀ i v, t'.get i = some v → t.get i = some v
theorem joinRegs_sound : ∀ {l : List (Tr AV × Heap)} {t : Tr AV} {H : Heap}, joinRegs l = some (t, H) → ∀ p ∈ l, WeakT p.1 t ∧ Weak p.2 H
  | [], v, H, h => by simp [joinRegs] at h
  | [x], v, H, h => by
    simp only [joinRegs, Option.some.injEq] at h; subst h
    intro p hp; simp at hp; subst hp; exact ⟨fun _ _ h => h, Weak.refl _⟩
  | (v1, H1) :: y :: r, v, H, h => by
    simp only [joinRegs] at h
    split at h
    · rename_i v' H' hr
      simp only [Option.some.injEq, Prod.mk.injEq] at h
      obtain ⟨rfl, rfl⟩ := h
      obtain ⟨g1, g2⟩ := joinHeap_weak H1 H'
      intro p hp
      rcases List.mem_cons.1 hp with rfl | hp
      · exact ⟨fun i u hu => let ⟨a, b, h1, h2, h3⟩ := joinTr_get _ _ _ _ _ hu; by rw [h1, (joinAV_eq h3).1], g1⟩
      · obtain ⟨e1, e2⟩ := joinRegs_sound hr p hp
        exact ⟨fun i u hu => e1 i u (let ⟨a, b, h1, h2, h3⟩ := joinTr_get _ _ _ _ _ hu; by rw [h2, (joinAV_eq h3).1, (joinAV_eq h3).2]), e2.trans g2⟩
    · cases h
end Go.VmK
namespace Go.VmK
variable {P : Program} {C : Ctx} {E : List LoopInfo} {η : Env} {H : Heap} {w : World}
variable {kd : CallKind}

/-! a frame that runs -/
def kindOf (kd : CallKind) (rd : Option Nat) : CallKind := match rd with | none => kd | some _ => .normal
def fm (kd : CallKind) (fn : FuncId) (rd : Option Nat) (ds : List Deferred) (t : Array Value) (todo : List Item) : Frame := { fn, tmps := t, todo, defers := ds, mode := .run, kind := kindOf kd rd, roundOf := rd }
def evT (t : Array Value) : Operand → Value := Act.eval ⟨t, []⟩
def putA (t : Array Value) (d : Option Tmp) (v : Value) : Array Value := match d with | some d => t.setIfInBounds d v | none => t
section
variable {fn : FuncId} {rd : Option Nat} {ds : List Deferred} {t : Array Value} {k todo : List Item} {cs : List Frame}
theorem fm_eval : (fm kd fn rd ds t todo).eval = evT t := by funext x; cases x <;> rfl
theorem fm_finish (ops : Array Oper) (i : Nat) (rest : List Nat) (v : Value) :
    (fm kd fn rd ds t (.inRegion ops (i :: rest) :: k)).finish v = fm kd fn rd ds (putA t ((ops[i]?).bind (·.dst)) v) (.inRegion ops rest :: k) := by
  cases h : (ops[i]?).bind (·.dst) <;> simp [Frame.finish, fm, putA, h]

theorem st_skip : Go.step P (lone (fm kd fn rd ds t (.code .skip :: k)) cs w) = .next (lone (fm kd fn rd ds t k) cs w) := step_lone_go (by simp [stepG, stepG.exec, fm])
theorem st_label {l : Nat} : Go.step P (lone (fm kd fn rd ds t (.code (.label l) :: k)) cs w) = .next (lone (fm kd fn rd ds t k) cs w) := step_lone_go (by simp [stepG, stepG.exec, fm])
theorem st_inBlock {l : Nat} : Go.step P (lone (fm kd fn rd ds t (.inBlock l :: k)) cs w) = .next (lone (fm kd fn rd ds t k) cs w) := step_lone_go (by simp [stepG, stepG.exec, fm])
theorem st_inScope {c : Code} : Go.step P (lone (fm kd fn rd ds t (.inScope c :: k)) cs w) = .next (lone (fm kd fn rd ds t k) cs w) := step_lone_go (by simp [stepG, stepG.exec, fm])
theorem st_seq {a b : Code} : Go.step P (lone (fm kd fn rd ds t (.code (.seq a b) :: k)) cs w) = .next (lone (fm kd fn rd ds t (.code a :: .code b :: k)) cs w) := step_lone_go (by simp [stepG, stepG.exec, fm])
theorem st_cond {c : Operand} {a b : Code} {x : Bool} (h : evT t c = .bool x) : Go.step P (lone (fm kd fn rd ds t (.code (.cond c a b) :: k)) cs w) = .next (lone (fm kd fn rd ds t (.code (if x then a else b) :: k)) cs w) :=
  step_lone_go (by
    have := congrFun (fm_eval (kd := kd) (fn := fn) (rd := rd) (ds := ds) (t := t) (todo := .code (.cond c a b) :: k)) c
    simp only [fm] at this
    simp [stepG, stepG.exec, fm, this, h])
theorem st_block {l : Nat} {c : Code} : Go.step P (lone (fm kd fn rd ds t (.code (.block l c) :: k)) cs w) = .next (lone (fm kd fn rd ds t (.code c :: .inBlock l :: k)) cs w) := step_lone_go (by simp [stepG, stepG.exec, fm])
theorem st_loop {c : Code} : Go.step P (lone (fm kd fn rd ds t (.code (.loop c) :: k)) cs w) = .next (lone (fm kd fn rd ds t (.code c :: .inLoop c :: k)) cs w) := step_lone_go (by simp [stepG, stepG.exec, fm])
theorem st_inLoop {c : Code} : Go.step P (lone (fm kd fn rd ds t (.inLoop c :: k)) cs w) = .next (lone (fm kd fn rd ds t (.code c :: .inLoop c :: k)) cs w) := step_lone_go (by simp [stepG, stepG.exec, fm])
theorem st_scope {c : Code} : Go.step P (lone (fm kd fn rd ds t (.code (.scope c) :: k)) cs w) = .next (lone (fm kd fn rd ds t (.code c :: .inScope c :: k)) cs w) := step_lone_go (by simp [stepG, stepG.exec, fm])
theorem st_exit {l : Nat} {k' : List Item} (h : Go.exitTo l k = some k') : Go.step P (lone (fm kd fn rd ds t (.code (.exit l) :: k)) cs w) = .next (lone (fm kd fn rd ds t k') cs w) := step_lone_go (by simp [stepG, stepG.exec, fm, h])
theorem st_goto {l : Nat} {k' : List Item} (h : Go.gotoIn l k = some k') : Go.step P (lone (fm kd fn rd ds t (.code (.goto l) :: k)) cs w) = .next (lone (fm kd fn rd ds t k') cs w) := step_lone_go (by simp [stepG, stepG.exec, fm, h])
theorem st_region {id : Nat} {ops : Array Oper} : Go.step P (lone (fm kd fn rd ds t (.code (.region id ops false) :: k)) cs w) = .next (lone (fm kd fn rd ds t (.inRegion ops (List.range ops.size) :: k)) cs w) := step_lone_go (by simp [stepG, stepG.exec, fm])
theorem st_draw {id : Nat} {ops : Array Oper} : Go.step P (lone (fm kd fn rd ds t (.code (.region id ops true) :: k)) cs w) =
    .next (lone (fm kd fn rd ds t (.inRegion ops (Region.schedule (P.follows .mixedOrders) ops (w.tape w.drawn (.order fn id))) :: k)) cs { w with drawn := w.drawn + 1 }) :=
  step_lone_go (by simp [stepG, stepG.exec, fm, choose, Sem.run, Question.forced, Question.cut])
theorem st_regionEnd {ops : Array Oper} : Go.step P (lone (fm kd fn rd ds t (.inRegion ops [] :: k)) cs w) = .next (lone (fm kd fn rd ds t k) cs w) := step_lone_go (by simp [stepG, stepG.exec, fm])

theorem st_unwanted {ops : Array Oper} {i : Nat} {rest : List Nat} {o : Oper} (ho : ops[i]? = some o) (h : Region.wanted o (yielded ops t) = false) :
    Go.step P (lone (fm kd fn rd ds t (.inRegion ops (i :: rest) :: k)) cs w) = .next (lone (fm kd fn rd ds (putA t o.dst undef) (.inRegion ops rest :: k)) cs w) := by
  have e : putA t o.dst undef = putA t ((ops[i]?).bind (·.dst)) undef := by rw [ho]; rfl
  rw [e, ← fm_finish]
  exact step_lone_go (by simp [stepG, stepG.exec, fm, ho, h])
theorem stepG_fm {ops : Array Oper} {i : Nat} {rest : List Nat} {o : Oper} (ho : ops[i]? = some o) (hw : Region.wanted o (yielded ops t) = true) (hd : ∀ c, o.op ≠ .defer c) :
    stepG P true { frame := fm kd fn rd ds t (.inRegion ops (i :: rest) :: k), callers := cs, status := .running, dying := none } w =
      stepG.apply P true (fm kd fn rd ds t (.inRegion ops (i :: rest) :: k)) cs none (execOp (evT t) o) w := by
  have he := fm_eval (kd := kd) (fn := fn) (rd := rd) (ds := ds) (t := t) (todo := .inRegion ops (i :: rest) :: k)
  simp only [fm] at he
  simp only [stepG, stepG.exec, stepG.oper, Frame.oper?, fm, ho, hw, he, Option.map_some, Option.getD_some, if_true]
  cases rd with
  | none => rfl
  | some l =>
    cases hop : o.op <;> first | rfl | exact absurd hop (hd _)
theorem st_value {ops : Array Oper} {i : Nat} {rest : List Nat} {o : Oper} {x : Value} {w' : World} (ho : ops[i]? = some o) (hw : Region.wanted o (yielded ops t) = true) (hd : ∀ c, o.op ≠ .defer c)
    (hr : (execOp (evT t) o).run P w = .ok (.value x) w') :
    Go.step P (lone (fm kd fn rd ds t (.inRegion ops (i :: rest) :: k)) cs w) = .next (lone (fm kd fn rd ds (putA t o.dst x) (.inRegion ops rest :: k)) cs w') := by
  have e : putA t o.dst x = putA t ((ops[i]?).bind (·.dst)) x := by rw [ho]; rfl
  rw [e, ← fm_finish]
  exact step_lone_go (by rw [stepG_fm ho hw hd]; simp [stepG.apply, hr])
theorem st_done {ops : Array Oper} {i : Nat} {rest : List Nat} {o : Oper} {w' : World} (ho : ops[i]? = some o) (hw : Region.wanted o (yielded ops t) = true) (hd : ∀ c, o.op ≠ .defer c)
    (hr : (execOp (evT t) o).run P w = .ok .skip w') :
    Go.step P (lone (fm kd fn rd ds t (.inRegion ops (i :: rest) :: k)) cs w) = .next (lone (fm kd fn rd ds (putA t o.dst undef) (.inRegion ops rest :: k)) cs w') := by
  have e : putA t o.dst undef = putA t ((ops[i]?).bind (·.dst)) undef := by rw [ho]; rfl
  rw [e, ← fm_finish]
  exact step_lone_go (by rw [stepG_fm ho hw hd]; simp [stepG.apply, hr])
theorem st_enter {ops : Array Oper} {i : Nat} {rest : List Nat} {o : Oper} {f : FuncId} {args : Array Value} {w' : World} (ho : ops[i]? = some o) (hw : Region.wanted o (yielded ops t) = true) (hd : ∀ c, o.op ≠ .defer c)
    (hr : (execOp (evT t) o).run P w = .ok (.enter f args) w') :
    Go.step P (lone (fm kd fn rd ds t (.inRegion ops (i :: rest) :: k)) cs w) = .next (lone (Frame.enter P f args .normal) (fm kd fn rd ds t (.inRegion ops (i :: rest) :: k) :: cs) w') :=
  step_lone_go (by rw [stepG_fm ho hw hd]; simp [stepG.apply, hr, fm])
theorem st_round {ops : Array Oper} {i : Nat} {rest : List Nat} {o : Oper} {l : Nat} {f : FuncId} {tm : Array Value} {a b : Code} {w' : World} (ho : ops[i]? = some o) (hw : Region.wanted o (yielded ops t) = true) (hd : ∀ c, o.op ≠ .defer c)
    (hr : (execOp (evT t) o).run P w = .ok (.round l f tm a b) w') :
    Go.step P (lone (fm kd fn rd ds t (.inRegion ops (i :: rest) :: k)) cs w) = .next (lone (Frame.round l f tm a b .normal) (fm kd fn rd ds t (.inRegion ops (i :: rest) :: k) :: cs) w') :=
  step_lone_go (by rw [stepG_fm ho hw hd]; simp [stepG.apply, hr])
theorem enter_fm {f : FuncId} {fn' : Func} {c : Code} (hf : P.funcs[f]? = some fn') (hb : fn'.body = some c) (args : Array Value) :
    Frame.enter P f args kd = fm kd f none [] (args ++ Array.replicate (fn'.ntmps - args.size) undef) [.code c] := by
  simp [Frame.enter, fm, kindOf, hf, hb]
theorem round_fm (l : Nat) (f : FuncId) (tm : Array Value) (a b : Code) : Frame.round l f tm a b .normal = fm kd f (some l) [] tm [.code a, .beginRound, .code b] := rfl
end

/-! temporaries: X are those that are ahead of their time -/
structure TRelX (η : Env) (t : Tr AV) (n : Nat) (c : Array Value) (X : Nat → Prop) : Prop where
  size : c.size = n
  get : ∀ j v, ¬ X j → t.get j = some v → ∃ x, c[j]? = some x ∧ conc η v = some x
def noX : Nat → Prop := fun _ => False
theorem TRel.toX {t : Tr AV} {n : Nat} {c : Array Value} (h : TRel η t n c) : TRelX η t n c noX := ⟨h.size, fun j v _ hv => h.get j v hv⟩
theorem TRelX.toR {t : Tr AV} {n : Nat} {c : Array Value} {X : Nat → Prop} (h : TRelX η t n c X) (hX : ∀ j, ¬ X j) : TRel η t n c := ⟨h.size, fun j v hv => h.get j v (hX j) hv⟩
theorem TRelX.mono {η' : Env} (h : η.le η') {t : Tr AV} {n : Nat} {c : Array Value} {X : Nat → Prop} (g : TRelX η t n c X) : TRelX η' t n c X :=
  ⟨g.size, fun j v hj hv => let ⟨x, hx, hc⟩ := g.get j v hj hv; ⟨x, hx, conc_mono h _ _ hc⟩⟩
theorem TRelX.put {t t' : Tr AV} {n : Nat} {c : Array Value} {X : Nat → Prop} (g : TRelX η t n c X) {d : Option Tmp} {v : AV} {x : Value} (hx : conc η v = some x) (h : putO n t d v = some t') : TRelX η t' n (putA c d x) X := by
  cases d with
  | none => simp only [putO, Option.some.injEq] at h; subst h; exact g
  | some d =>
    simp only [putO] at h
    cases hb : Nat.blt d n with
    | false => rw [hb] at h; cases h
    | true =>
      rw [hb] at h; simp only [Option.some.injEq] at h; subst h
      have hb := blt_lt hb
      refine ⟨by simp [putA, g.size], fun j u hj hu => ?_⟩
      rw [Tr.get_set] at hu
      simp only [putA, Array.getElem?_setIfInBounds]
      by_cases e : j = d
      · subst e; simp at hu; subst hu; exact ⟨x, by simp [g.size, hb], hx⟩
      · rw [if_neg e] at hu; rw [if_neg (Ne.symm e)]; exact g.get j u hj hu
/-- a temporary that was ahead is caught up with -/
theorem TRelX.catchUp {t : Tr AV} {n : Nat} {c : Array Value} {X Y : Nat → Prop} (g : TRelX η t n c X) {d : Option Tmp} {x : Value} (hd : ∀ j, d = some j → j < n → ∀ v, t.get j = some v → conc η v = some x)
    (hn : ∀ j v, d = some j → t.get j = some v → j < n) (hY : ∀ j, ¬ Y j → d ≠ some j → ¬ X j) : TRelX η t n (putA c d x) Y := by
  cases d with
  | none => exact ⟨g.size, fun j v hj hv => g.get j v (hY j hj (by simp)) hv⟩
  | some d =>
    refine ⟨by simp [putA, g.size], fun j v hj hv => ?_⟩
    simp only [putA, Array.getElem?_setIfInBounds]
    by_cases e : j = d
    · subst e
      have := hn j v rfl hv
      exact ⟨x, by simp [g.size, this], hd j rfl this v hv⟩
    · rw [if_neg (Ne.symm e)]; exact g.get j v (hY j hj (by simpa using Ne.symm e)) hv

theorem evT_sound {t : Tr AV} {n : Nat} {c : Array Value} {X : Nat → Prop} (g : TRelX η t n c X) {x : Operand} (hx : ∀ j, x = .tmp j → ¬ X j) {v : AV} (h : ev t x = some v) : conc η v = some (evT c x) := by
  cases x with
  | tmp j =>
    obtain ⟨y, hy, hc⟩ := g.get j v (hx j rfl) h
    rw [hc]
    obtain ⟨hlt, he⟩ := Array.getElem?_eq_some_iff.1 hy
    simp [evT, Act.eval, Array.getD, hlt, he]
  | const c => exact evC_conc η c v h
  | global g => simp [ev] at h; subst h; rfl
  | func f => simp [ev] at h; subst h; simp [conc, concL, evT, Act.eval]
theorem mem_opTmps {o : Oper} {j : Nat} : j ∈ opTmps o ↔ Operand.tmp j ∈ o.op.operands.toList := by
  unfold opTmps
  rw [List.mem_filterMap]
  constructor
  · rintro ⟨x, hx, he⟩
    cases x <;> simp at he
    subst he; exact hx
  · intro h; exact ⟨_, h, rfl⟩
theorem opTmps_use {ops : List Oper} {o : Oper} {j : Nat} (h : j ∈ opTmps o) : j ∈ useTmps ops o := by
  unfold useTmps
  split
  · exact h
  · split
    · exact h
    · split
      · exact h
      · exact List.mem_cons_of_mem _ h
theorem ops_ok {t : Tr AV} {n : Nat} {c : Array Value} {X : Nat → Prop} (g : TRelX η t n c X) {ops : List Oper} {o : Oper} (hX : ∀ j ∈ useTmps ops o, ¬ X j) : EvOK η t o.op.operands.toList (evT c) :=
  fun _x hx _v hv => evT_sound g (fun j e => hX j (opTmps_use (mem_opTmps.2 (e ▸ hx)))) hv
/-- the guard -/
theorem wantedG_sound {t : Tr AV} {n : Nat} {c : Array Value} {X : Nat → Prop} (g : TRelX η t n c X) {ops : Array Oper} {o : Oper} (hX : ∀ j ∈ useTmps ops.toList o, ¬ X j) {b : Bool} (h : wantedG ops.toList t o = some b) :
    Region.wanted o (yielded ops c) = b := by
  unfold wantedG at h
  unfold Region.wanted
  split at h
  · rename_i hg
    rw [hg]; simpa using h
  · rename_i j want hg
    rw [hg]
    simp only
    split at h
    · rename_i o' ho'
      have ho2 : ops[j]? = some o' := by simpa using ho'
      split at h
      · rename_i d hd
        have hu : ¬ X d := hX d (by unfold useTmps; rw [hg]; simp only [ho', hd]; exact List.mem_cons_self)
        split at h
        · rename_i b' hb
          obtain ⟨y, hy, hc⟩ := g.get d _ hu hb
          have := conc_bool hc; subst this
          simp only [yielded, ho2, Option.bind_some, hd, hy]
          simp only [Option.some.injEq] at h
          rw [← h]
          cases b' <;> cases want <;> rfl
        · rename_i vs hb
          obtain ⟨y, hy, hc⟩ := g.get d _ hu hb
          obtain ⟨xs, _, rfl⟩ := conc_tuple hc
          simp only [yielded, ho2, Option.bind_some, hd, hy]
          simp only [Option.some.injEq] at h
          rw [← h]
          rfl
        · cases h
      · cases h
    · cases h
theorem undef_conc (η : Env) : conc η undefV = some undef := rfl
end Go.VmK
namespace Go.VmK
variable {P : Program} {C : Ctx} {O : Env → Heap → World → Prop} {E : List LoopInfo} {η : Env} {H : Heap} {w : World}
variable {kd : CallKind}

/-- what no step turns -/
def Stable (P : Program) (O : Env → Heap → World → Prop) : Prop := ∀ (E : List LoopInfo) (η : Env) (H : Heap) (w : World) (η' : Env) (H' : Heap) (w' : World), O η H w → Trans P E η H w η' H' w' → O η' H' w'
structure Base (P : Program) (O : Env → Heap → World → Prop) (E : List LoopInfo) (η : Env) (H : Heap) (w : World) : Prop where
  rel : HRel P η E H w
  above : Above η H
  eb : ∀ id, H.next ≤ id → findLoop id E = none
  st : Stable P O
  inv : O η H w
theorem Base.step {η' : Env} {H' : Heap} {w' : World} (b : Base P O E η H w) (t : Trans P E η H w η' H' w') (a : Above η' H') (h : H.next ≤ H'.next) : Base P O E η' H' w' :=
  ⟨t.rel, a, fun id hid => b.eb id (Nat.le_trans h hid), b.st, b.st _ _ _ _ _ _ _ b.inv t⟩
/-- what lies below a number stays as it was -/
structure Below (b : Nat) (η η' : Env) (H H' : Heap) : Prop where
  only : Only (fun i => b ≤ i) η η'
  objs : ∀ id, id < b → H.get id = none → H'.get id = none
  next : H.next ≤ H'.next
theorem Below.refl (b : Nat) (η : Env) (H : Heap) : Below b η η H H := ⟨Only.refl _ _, fun _ _ h => h, Nat.le_refl _⟩
theorem Below.trans {b b1 : Nat} {η1 η2 : Env} {H1 H2 : Heap} (h : Below b η η1 H H1) (g : Below b1 η1 η2 H1 H2) (hb : b ≤ b1) : Below b η η2 H H2 :=
  ⟨h.only.trans (g.only.mono fun _i hi => Nat.le_trans hb hi), fun id hid hn => g.objs id (Nat.lt_of_lt_of_le hid hb) (h.objs id hid hn), Nat.le_trans h.next g.next⟩
theorem Below.weak {b : Nat} {η1 : Env} {H1 H2 : Heap} (h : Below b η η1 H H1) (g : Weak H1 H2) : Below b η η1 H H2 := by
  refine ⟨h.only, fun id hid hn => ?_, Nat.le_trans h.next g.1⟩
  cases hq : H2.get id with
  | none => rfl
  | some o => obtain ⟨o', ho', _⟩ := g.2 id o hq; rw [h.objs id hid hn] at ho'; cases ho'
theorem Below.grow {η1 : Env} {H1 : Heap} (g : Grow η η1 H H1) : Below H.next η η1 H H1 :=
  ⟨g.only.mono fun i hi => Nat.le_of_eq hi.symm, fun id hid hn => g.objs id (Nat.ne_of_lt hid) hn, by rcases g.next with ⟨h, _, _⟩ | h <;> omega⟩
theorem Base.fresh (b : Base P O E η H w) : Fresh η H H.next := b.above _ (Nat.le_refl _)

def RdR (η : Env) : Option Nat → Option Nat → Prop
  | none, none => True
  | some l, some r => η.ρ l = some r
  | _, _ => False
/-- calls that a frame has deferred -/
def LR (P : Program) (η : Env) : List (FuncId × List AV) → List Deferred → Prop
  | [], [] => True
  | (f, a) :: r, D :: s => (∃ (fv : Fn) (cap : Array Value) (xs : List Value), D.target = .fn fv cap ∧ concL η a = some xs ∧ ∀ w : World, (invoke D.target D.args).run P w = (callFunc f xs.toArray).run P w) ∧ LR P η r s
  | _, _ => False
def DR (P : Program) (η : Env) : List Nat → List (FuncId × List AV) → List Deferred → Prop
  | [], l, ds => LR P η l ds
  | d :: r, l, D :: s => (∃ b, η.ρ d = some b ∧ D = { target := .collected b, args := #[] }) ∧ DR P η r l s
  | _ :: _, _, [] => False
def ItemR (η : Env) : AItem → Item → Prop
  | .code c, .code c' => c' = c
  | .inBlock i, .inBlock j => j = i
  | .inLoop c, .inLoop c' => c' = c
  | .inScope c, .inScope c' => c' = c
  | .endRangeFunc l, .endRangeFunc r => η.ρ l = some r
  | .beginRound, .beginRound => True
  | _, _ => False
def TodoR (η : Env) : List AItem → List Item → Prop
  | [], [] => True
  | a :: r, b :: s => ItemR η a b ∧ TodoR η r s
  | _, _ => False
theorem RdR.mono {η' : Env} (h : η.le η') {a b : Option Nat} (g : RdR η a b) : RdR η' a b := by
  cases a <;> cases b <;> first | exact g | exact h.ρ _ _ g
theorem LR.mono {η' : Env} (h : η.le η') : ∀ {a : List (FuncId × List AV)} {b : List Deferred}, LR P η a b → LR P η' a b
  | [], [], _ => trivial
  | [], _ :: _, g => g.elim
  | _ :: _, [], g => g.elim
  | (_, _) :: _, _ :: _, ⟨⟨fv, cap, xs, h1, h2, h3⟩, g⟩ => ⟨⟨fv, cap, xs, h1, concL_mono h _ _ h2, h3⟩, LR.mono h g⟩
theorem DR.mono {η' : Env} (h : η.le η') : ∀ {a : List Nat} {l : List (FuncId × List AV)} {b : List Deferred}, DR P η a l b → DR P η' a l b
  | [], _, _, g => LR.mono h g
  | _ :: _, _, [], g => g.elim
  | _ :: _, _, _ :: _, ⟨⟨b, h1, h2⟩, g⟩ => ⟨⟨b, h.ρ _ _ h1, h2⟩, DR.mono h g⟩
theorem ItemR.mono {η' : Env} (h : η.le η') {a : AItem} {b : Item} (g : ItemR η a b) : ItemR η' a b := by
  cases a <;> cases b <;> first | exact g | exact h.ρ _ _ g
theorem TodoR.mono {η' : Env} (h : η.le η') : ∀ {a : List AItem} {b : List Item}, TodoR η a b → TodoR η' a b
  | [], [], _ => trivial
  | [], _ :: _, g => g.elim
  | _ :: _, [], g => g.elim
  | _ :: _, _ :: _, ⟨g1, g2⟩ => ⟨g1.mono h, TodoR.mono h g2⟩

/-- a frame comes to its end -/
def Ends (kd : CallKind) (P : Program) (fn : FuncId) (rd : Option Nat) (cs : List Frame) (m : Machine) (x : Value) (w' : World) : Prop :=
  match rd with
  | none => ∃ fr, Steps P m (lone fr cs w') ∧ fr.fn = fn ∧ fr.kind = kd ∧ fr.going P w' (.returned x)
  | some _ => ∀ c cs', cs = c :: cs' → Steps P m (lone (c.finish x) cs' w')
theorem leaving_of {fr : Frame} {w' : World} {x : Value} (h : fr.kind = .normal) (g : fr.going P w' (.returned x)) : fr.leaving P w' (.returned x) := ⟨g.1, g.2.1, h, g.2.2⟩
theorem going_of {fr : Frame} {w' : World} {x : Value} (h : fr.leaving P w' (.returned x)) : fr.kind = .normal ∧ fr.going P w' (.returned x) := ⟨h.2.2.1, h.1, h.2.1, h.2.2.2⟩
theorem Ends.of_steps {kd : CallKind} {fn : FuncId} {rd : Option Nat} {cs : List Frame} {m m1 : Machine} {x : Value} {w' : World} (h : Steps P m m1) (g : Ends kd P fn rd cs m1 x w') : Ends kd P fn rd cs m x w' := by
  cases rd with
  | none => obtain ⟨fr, h1, h2⟩ := g; exact ⟨fr, h.trans h1, h2⟩
  | some r => exact fun c cs' e => h.trans (g c cs' e)
theorem Ends.finish {fn : FuncId} {rd : Option Nat} {c : Frame} {cs : List Frame} {m : Machine} {x : Value} {w' : World} (g : Ends .normal P fn rd (c :: cs) m x w') : Steps P m (lone (c.finish x) cs w') := by
  cases rd with
  | none => obtain ⟨fr, h1, _, h3, h4⟩ := g; exact h1.trans (.one (step_leave_returned (leaving_of h3 h4)))
  | some r => exact g c cs rfl

def Res (kd : CallKind) (P : Program) (E : List LoopInfo) (η : Env) (H : Heap) (w : World) (fn : FuncId) (rd : Option Nat) (cs : List Frame) (m : Machine) (p : AV × Heap) : Prop :=
  ∃ η' x w', Ends kd P fn rd cs m x w' ∧ conc η' p.1 = some x ∧ Trans P E η H w η' p.2 w' ∧ Above η' p.2 ∧ Below H.next η η' H p.2
theorem Res.of {fn : FuncId} {rd : Option Nat} {cs : List Frame} {m m1 : Machine} {p : AV × Heap} {η1 : Env} {H1 : Heap} {w1 : World} (h : Steps P m m1) (t : Trans P E η H w η1 H1 w1) (hn : Below H.next η η1 H H1)
    (g : Res kd P E η1 H1 w1 fn rd cs m1 p) : Res kd P E η H w fn rd cs m p :=
  let ⟨η', x, w', h1, h2, h3, h4, h5⟩ := g; ⟨η', x, w', h1.of_steps h, h2, t.trans h3, h4, hn.trans h5 hn.next⟩

def SelfOK (P : Program) (O : Env → Heap → World → Prop) (self : Self) : Prop := ∀ (E : List LoopInfo) (I : FInfo) (todo : List AItem) (tmps : Tr AV) (H : Heap) (outs : List (AV × Heap)), self E I todo tmps H = some outs →
  ∀ (η : Env) (w : World) (rd : Option Nat) (ds : List Deferred) (t : Array Value) (k : List Item) (cs : List Frame) ⦃kd : CallKind⦄, Base P O E η H w → RdR η I.round rd → DR P η I.defers I.later ds → TRel η tmps I.n t → TodoR η todo k →
    ∃ p ∈ outs, Res kd P E η H w I.fn rd cs (lone (fm kd I.fn rd ds t k) cs w) p

/-- what is taken of a function -/
def ConOK (P : Program) (O : Env → Heap → World → Prop) (f : FuncId) (c : Con) : Prop := ∀ (E : List LoopInfo) (η : Env) (H : Heap) (w : World) (args : List AV) (xs : List Value) (l : List (AV × Heap)), Base P O E η H w → concL η args = some xs → conRun c E H args = some l →
  ∀ cs, ∃ p ∈ l, Res .normal P E η H w f none cs (lone (Frame.enter P f xs.toArray .normal) cs w) p
structure ProgOK (P : Program) (C : Ctx) (O : Env → Heap → World → Prop) : Prop extends CtxOK P C where
  cons : ∀ (f : Nat) (c : Con), C.cons.get f = some c → ConOK P O f c
  fit : ∀ (η : Env) (H : Heap) (w : World), O η H w → Fit C η w

theorem enter_rel {args : List AV} {xs : List Value} (hx : concL η args = some xs) (m : Nat) : TRel η (Tr.ofL args) (max m args.length) (xs.toArray ++ Array.replicate (m - xs.toArray.size) undef) := by
  have hl := concL_length hx
  refine ⟨by simp [hl]; omega, fun j v hv => ?_⟩
  rw [Tr.get_ofL] at hv
  obtain ⟨y, hy, hc⟩ := concL_get hx j v hv
  refine ⟨y, ?_, hc⟩
  have hlt : j < xs.length := (List.getElem?_eq_some_iff.1 hy).1
  rw [Array.getElem?_append]
  simp [hlt]
  simpa [hlt] using hy

theorem callFun_sound {self : Self} (hC : CtxOK P C) (hself : SelfOK P O self) {f : FuncId} {args : List AV} {xs : List Value} {l : List (AV × Heap)} (h : callFun C self E H f args = some l) (b : Base P O E η H w) (hx : concL η args = some xs) (cs : List Frame) :
    ∃ p ∈ l, Res kd P E η H w f none cs (lone (Frame.enter P f xs.toArray kd) cs w) p := by
  unfold callFun at h
  split at h
  · cases h
  · rename_i i hi
    unfold enterK at h
    split at h
    · cases h
    · rename_i c hb
      obtain ⟨fn, hf, hb', hn, _⟩ := hC.funcs f i hi
      rw [enter_fm hf (by rw [hb', hb])]
      refine hself _ _ _ _ _ _ h η w none [] _ _ cs b trivial trivial ?_ ⟨rfl, trivial⟩
      rw [hn]
      exact enter_rel hx i.ntmps
theorem callPlain_sound {self : Self} (hC : ProgOK P C O) (hself : SelfOK P O self) {f : FuncId} {args : List AV} {xs : List Value} {l : List (AV × Heap)} (h : callPlain C self E H f args = some l) (b : Base P O E η H w) (hx : concL η args = some xs) (cs : List Frame) :
    ∃ p ∈ l, Res .normal P E η H w f none cs (lone (Frame.enter P f xs.toArray .normal) cs w) p := by
  unfold callPlain at h
  split at h
  · rename_i c hc
    split at h
    · exact callFun_sound hC.toCtxOK hself h b hx cs
    · rename_i p hp
      cases h
      exact hC.cons f c hc E η H w args xs _ b hx hp cs
  · exact callFun_sound hC.toCtxOK hself h b hx cs

/-! a call in a part of the memory -/
def Part (s h : Tr AObj) : Prop := ∀ id o, s.get id = some o → h.get id = some o
theorem levelUp_part (h : Tr AObj) : ∀ (ids : List Nat) (acc : Tr AObj) (nx : List Nat), Part acc h → Part (levelUp h ids acc nx).1 h
  | [], acc, nx, hp => hp
  | i :: r, acc, nx, hp => by
    unfold levelUp
    split
    · exact levelUp_part h r acc nx hp
    · split
      · exact levelUp_part h r acc nx hp
      · rename_i o ho
        refine levelUp_part h r _ _ fun id u hu => ?_
        rw [Tr.get_set] at hu
        by_cases he : id = i
        · subst he; simp at hu; subst hu; exact ho
        · rw [if_neg he] at hu; exact hp id u hu
theorem reach_part (h : Tr AObj) : ∀ (d : Nat) (ids : List Nat) (acc : Tr AObj), Part acc h → Part (reach h d ids acc) h
  | 0, _, _, hp => hp
  | d + 1, ids, acc, hp => by
    have := levelUp_part h ids acc [] hp
    unfold reach
    split
    · rename_i a he; rw [he] at this; exact this
    · rename_i a nx _ he; rw [he] at this; exact reach_part h d nx a this
theorem reach_lf (h : Tr AObj) (d : Nat) (ids : List Nat) : Part (reach h d ids .lf) h := reach_part h d ids .lf fun id o ho => by rw [Tr.get_lf] at ho; cases ho
theorem get_parts {α : Type} (t : Tr α) (i : Nat) : t.get i = if i = 0 then vTr t else if i % 2 = 1 then (lTr t).get (i / 2) else (rTr t).get (i / 2 - 1) := by
  cases t with
  | lf => simp [Tr.get_lf, vTr, lTr, rTr]
  | nd l v r =>
    rw [Tr.get_nd]
    rfl
theorem isLf_eq {α : Type} {t : Tr α} (h : isLf t = true) : t = .lf := by cases t <;> first | rfl | cases h
theorem mergeTr_get {α : Type} : ∀ (h s n : Tr α) (i : Nat), (mergeTr h s n).get i = pickV (h.get i) (s.get i) (n.get i)
  | .lf, s, n, i => by
    show n.get i = pickV none (s.get i) (n.get i)
    unfold pickV
    cases s.get i <;> cases n.get i <;> rfl
  | .nd l v r, s, n, i => by
    simp only [mergeTr]
    cases hb : (isLf s && isLf n) with
    | true =>
      simp only [Bool.and_eq_true] at hb
      rw [isLf_eq hb.1, isLf_eq hb.2]
      simp [Tr.get_lf, pickV]
    | false =>
      simp only [cond_false]
      rw [get_parts (.nd (mergeTr l (lTr s) (lTr n)) (pickV v (vTr s) (vTr n)) (mergeTr r (rTr s) (rTr n))), get_parts (.nd l v r), get_parts s i, get_parts n i]
      simp only [vTr, lTr, rTr]
      by_cases h0 : i = 0
      · simp [h0]
      · by_cases h1 : i % 2 = 1
        · simp only [h0, h1, if_true, if_false]; exact mergeTr_get l _ _ _
        · simp only [h0, h1, if_false]; exact mergeTr_get r _ _ _

theorem Weak.part {H : Heap} {s : Tr AObj} (hp : Part s H.objs) : Weak H { objs := s, next := H.next } :=
  ⟨Nat.le_refl _, fun id o ho => ⟨o, hp id o ho, WeakO.refl _⟩⟩
theorem Res.weak {fn : FuncId} {rd : Option Nat} {cs : List Frame} {m : Machine} {v : AV} {K K' : Heap} (h : Res kd P E η H w fn rd cs m (v, K)) (g : Weak K K') : Res kd P E η H w fn rd cs m (v, K') := by
  obtain ⟨η', x, w', h1, h2, h3, h4, h5⟩ := h
  exact ⟨η', x, w', h1, h2, h3.weak g, h4.weak g, h5.weak g⟩
/-- what is done in a part of the memory is done in the whole -/
theorem Res.merge {fn : FuncId} {rd : Option Nat} {cs : List Frame} {m : Machine} {s : Tr AObj} {v : AV} {K : Heap} (hr : HRel P η [] H w) (ha : Above η H) (hp : Part s H.objs)
    (h : Res kd P [] η { objs := s, next := H.next } w fn rd cs m (v, K)) : Res kd P [] η H w fn rd cs m (v, mergeH H s K) := by
  obtain ⟨η', x, w', h1, h2, h3, h4, h5⟩ := h
  have hget : ∀ id, (mergeH H s K).get id = pickV (H.get id) (s.get id) (K.get id) := fun id => mergeTr_get _ _ _ _
  -- an object outside of the part
  have out : ∀ id o b, H.get id = some o → s.get id = none → η.ρ id = some b → ¬ Live η { objs := s, next := H.next } b := by
    intro id o b ho hs hb ⟨j, u, hj, hjb⟩
    have : id = j := hr.inj id j o u b ho (hp j u hj) hb hjb
    subst this
    have hj : s.get id = some u := hj
    rw [hs] at hj; cases hj
  have parts : ∀ id o, (mergeH H s K).get id = some o → K.get id = some o ∨ (H.get id = some o ∧ s.get id = none) := by
    intro id o ho
    rw [hget] at ho
    unfold pickV at ho
    split at ho
    · exact .inl ho
    · rename_i hs
      split at ho
      · rename_i u hu; cases ho; exact .inl hu
      · exact .inr ⟨ho, hs⟩
  have liveH : ∀ b, Live η { objs := s, next := H.next } b → Live η H b := fun b ⟨j, u, hj, hjb⟩ => ⟨j, u, hp j u hj, hjb⟩
  refine ⟨η', x, w', h1, h2, ⟨h3.le, ⟨fun id o ho => ?_, fun i j oi oj b hi hj hbi hbj => ?_⟩, fun b hb hl => h3.frame b hb fun hl' => hl (liveH b hl'), fun b hb hl => ?_, h3.keeps⟩, fun id hid => ?_, ⟨h5.only, fun id hid hn => ?_, h5.next⟩⟩
  · rcases parts id o ho with h | ⟨h, hs⟩
    · exact h3.rel.obj id o h
    · obtain ⟨b, ob, hb, hob, hrel⟩ := hr.obj id o h
      exact ⟨b, ob, h3.le.ρ _ _ hb, (h3.frame b (lt_of_get hob) (out id o b h hs hb)).trans hob, ORel_mono h3.le hrel⟩
  · have key : ∀ i j oi oj, K.get i = some oi → (H.get j = some oj ∧ s.get j = none) → η'.ρ i = some b → η'.ρ j = some b → False := by
      intro i j oi oj hi ⟨hj, hs⟩ hbi hbj
      obtain ⟨b0, ob, hb0, hob, _⟩ := hr.obj j oj hj
      have : b0 = b := by have := h3.le.ρ _ _ hb0; rw [hbj] at this; exact (Option.some.inj this).symm
      subst this
      exact out j oj b0 hj hs hb0 (h3.shr b0 (lt_of_get hob) ⟨i, oi, hi, hbi⟩)
    rcases parts i oi hi with h | h <;> rcases parts j oj hj with g | g
    · exact h3.rel.inj i j oi oj b h g hbi hbj
    · exact (key i j oi oj h g hbi hbj).elim
    · exact (key j i oj oi g h hbj hbi).elim
    · obtain ⟨b1, _, hb1, _, _⟩ := hr.obj i oi h.1
      obtain ⟨b2, _, hb2, _, _⟩ := hr.obj j oj g.1
      have e1 : b1 = b := by have := h3.le.ρ _ _ hb1; rw [hbi] at this; exact (Option.some.inj this).symm
      have e2 : b2 = b := by have := h3.le.ρ _ _ hb2; rw [hbj] at this; exact (Option.some.inj this).symm
      subst e1; subst e2
      exact hr.inj i j oi oj _ h.1 g.1 hb1 hb2
  · obtain ⟨id, o, ho, hib⟩ := hl
    rcases parts id o ho with h | ⟨h, hs⟩
    · exact liveH b (h3.shr b hb ⟨id, o, h, hib⟩)
    · obtain ⟨b1, _, hb1, _, _⟩ := hr.obj id o h
      have e1 : b1 = b := by have := h3.le.ρ _ _ hb1; rw [hib] at this; exact (Option.some.inj this).symm
      subst e1
      exact ⟨id, o, h, hb1⟩
  · have hid : K.next ≤ id := hid
    have f := h4 id hid
    have f0 := ha id (Nat.le_trans h5.next hid)
    refine ⟨?_, f.ρ, f.κ, f.σ⟩
    rw [hget, f.get, f0.get]
    unfold pickV
    cases s.get id <;> rfl
  · have hs : s.get id = none := by
      cases hq : s.get id with
      | none => rfl
      | some o => have : H.get id = some o := hp id o hq; rw [hn] at this; cases this
    have hk : K.get id = none := h5.objs id hid hs
    rw [hget, hs, hk, hn]; rfl

theorem mem_mergeAll {s : Tr AObj} : ∀ {l : List (AV × Heap)} {p : AV × Heap}, p ∈ l → mergeP H s (swept s p) ∈ mergeAll H s l
  | q :: r, p, h => by
    rcases List.mem_cons.1 h with rfl | h
    · exact List.mem_cons_self
    · exact List.mem_cons_of_mem _ (mem_mergeAll h)
theorem swept_weak (s : Tr AObj) (p : AV × Heap) : Weak p.2 (swept s p).2 := Weak.part (reach_lf _ _ _)
/-! what is new is numbered anew -/
def unI (b : Nat) (l : List Nat) (k : Nat) : Option Nat := if k < b then some k else l[k - b]?
theorem posN_some : ∀ {l : List Nat} {j k r : Nat}, posN l j k = some r → k ≤ r ∧ l[r - k]? = some j
  | [], _, _, _, h => by cases h
  | x :: l, j, k, r, h => by
    simp only [posN] at h
    cases hq : Nat.beq x j with
    | true =>
      rw [hq] at h; simp only [cond_true, Option.some.injEq] at h; subst h
      exact ⟨Nat.le_refl _, by rw [Nat.sub_self, List.getElem?_cons_zero, Nat.eq_of_beq_eq_true hq]⟩
    | false =>
      rw [hq] at h; simp only [cond_false] at h
      obtain ⟨h1, h2⟩ := posN_some h
      refine ⟨by omega, ?_⟩
      rw [show r - k = (r - (k + 1)) + 1 by omega, List.getElem?_cons_succ]; exact h2
theorem renI_some {b : Nat} {l : List Nat} {j k : Nat} (h : renI b l j = some k) : unI b l k = some j ∧ k < b + l.length ∧ (k < b → k = j) := by
  unfold renI at h
  cases hq : Nat.blt j b with
  | true =>
    rw [hq] at h; simp only [cond_true, Option.some.injEq] at h; subst h
    have hj : j < b := Nat.le_of_ble_eq_true hq
    exact ⟨if_pos hj, by omega, fun _ => rfl⟩
  | false =>
    rw [hq] at h; simp only [cond_false] at h
    obtain ⟨h1, h2⟩ := posN_some h
    have hl := (List.getElem?_eq_some_iff.1 h2).1
    exact ⟨by rw [unI, if_neg (by omega)]; exact h2, by omega, fun hk => by omega⟩
def Env.ren (η : Env) (b : Nat) (l : List Nat) : Env where
  ρ := fun k => match unI b l k with | none => none | some j => η.ρ j
  κ := fun k => match unI b l k with | none => none | some j => η.κ j
  σ := fun k => match unI b l k with | none => none | some j => η.σ j
section
variable {b : Nat} {l : List Nat}
theorem ren_ρ {j k : Nat} (h : renI b l j = some k) : (η.ren b l).ρ k = η.ρ j := by simp only [Env.ren, (renI_some h).1]
theorem ren_κ {j k : Nat} (h : renI b l j = some k) : (η.ren b l).κ k = η.κ j := by simp only [Env.ren, (renI_some h).1]
theorem ren_σ {j k : Nat} (h : renI b l j = some k) : (η.ren b l).σ k = η.σ j := by simp only [Env.ren, (renI_some h).1]
theorem ren_cap {c c' : Cap} (h : renCap b l c = some c') : capOf (η.ren b l) c' = capOf η c := by
  cases c with
  | lit n => simp only [renCap, Option.some.injEq] at h; subst h; rfl
  | var i k =>
    simp only [renCap] at h
    split at h
    · cases h
    · rename_i i' hi
      cases h
      simp only [capOf, ren_κ hi]
mutual
theorem ren_conc : ∀ {v v' : AV}, renAV b l v = some v' → conc (η.ren b l) v' = conc η v
  | .bool _, _, h | .int _ _, _, h | .str _, _, h | .nilp, _, h | .gptr _ _, _, h | .nils, _, h | .nilm, _, h | .nilFunc, _, h | .nilIface, _, h => by
    simp only [renAV, Option.some.injEq] at h; subst h; simp only [conc]
  | .ptr i off, _, h => by
    simp only [renAV] at h
    split at h
    · cases h
    · rename_i i' hi; cases h; simp only [conc, ren_ρ hi]
  | .slice i off n c, _, h => by
    simp only [renAV] at h
    split at h
    · rename_i i' c' hi hc; cases h; simp only [conc, ren_ρ hi, ren_cap hc]
    · cases h
  | .map i, _, h => by
    simp only [renAV] at h
    split at h
    · cases h
    · rename_i i' hi; cases h; simp only [conc, ren_ρ hi]
  | .func f x y, _, h => by
    simp only [renAV] at h
    split at h
    · rename_i x' y' hx hy; cases h; simp only [conc, ren_concL hx, ren_concL hy]
    · cases h
  | .yield i, _, h => by
    simp only [renAV] at h
    split at h
    · cases h
    · rename_i i' hi; cases h; simp only [conc, ren_ρ hi]
  | .iface t v, _, h => by
    simp only [renAV] at h
    split at h
    · cases h
    · rename_i v' hv; cases h; simp only [conc, ren_conc hv]
  | .agg x, _, h => by
    simp only [renAV] at h
    split at h
    · cases h
    · rename_i x' hx; cases h; simp only [conc, ren_concL hx]
  | .tuple x, _, h => by
    simp only [renAV] at h
    split at h
    · cases h
    · rename_i x' hx; cases h; simp only [conc, ren_concL hx]
  | .sym i, _, h => by
    simp only [renAV] at h
    split at h
    · cases h
    · rename_i i' hi; cases h; simp only [conc, ren_σ hi]
  | .slice0 i off off' k less, _, h => by
    simp only [renAV] at h
    split at h
    · rename_i i' k' hi hk; cases h; simp only [conc, ren_ρ hi, capOf, ren_κ hk]
    · cases h
  | .symStr i, _, h => by
    simp only [renAV] at h
    split at h
    · cases h
    · rename_i i' hi; cases h; simp only [conc, ren_σ hi]
  | .symLen i, _, h => by
    simp only [renAV] at h
    split at h
    · cases h
    · rename_i i' hi; cases h; simp only [conc, ren_σ hi]
  | .symInt k i, _, h => by
    simp only [renAV] at h
    split at h
    · cases h
    · rename_i i' hi; cases h; simp only [conc, ren_σ hi]
  | .symC i, _, h => by
    simp only [renAV] at h
    split at h
    · cases h
    · rename_i i' hi; cases h; simp only [conc, ren_σ hi]
theorem ren_concL : ∀ {x x' : List AV}, renAVs b l x = some x' → concL (η.ren b l) x' = concL η x
  | [], _, h => by simp only [renAVs, Option.some.injEq] at h; subst h; simp only [concL]
  | a :: r, _, h => by
    simp only [renAVs] at h
    split at h
    · rename_i a' r' ha hr; cases h; simp only [concL, ren_conc ha, ren_concL hr]
    · cases h
end
theorem renTr_get : ∀ {t t' : Tr AV} {i : Nat} {v' : AV}, renTr b l t = some t' → t'.get i = some v' → ∃ v, t.get i = some v ∧ renAV b l v = some v'
  | .lf, t', i, v', h, g => by simp only [renTr, Option.some.injEq] at h; subst h; rw [Tr.get_lf] at g; cases g
  | .nd x v y, t', i, v', h, g => by
    simp only [renTr] at h
    split at h
    · rename_i x' y' hx hy
      have key : ∀ u', t' = .nd x' u' y' → (∀ a, u' = some a → ∃ a0, v = some a0 ∧ renAV b l a0 = some a) → ∃ v0, (Tr.nd x v y).get i = some v0 ∧ renAV b l v0 = some v' := by
        intro u' e hu
        subst e
        rw [Tr.get_nd] at g ⊢
        by_cases h0 : i = 0
        · rw [if_pos h0] at g ⊢; exact hu v' g
        · rw [if_neg h0] at g ⊢
          by_cases h1 : i % 2 = 1
          · rw [if_pos h1] at g ⊢; exact renTr_get hx g
          · rw [if_neg h1] at g ⊢; exact renTr_get hy g
      split at h
      · cases h; exact key none rfl fun a e => by cases e
      · rename_i u
        split at h
        · cases h
        · rename_i u' hu
          cases h; exact key (some u') rfl fun a e => by cases e; exact ⟨u, rfl, hu⟩
    · cases h
theorem renEs_rel : ∀ {es es' : List (AV × AV × Nat)} {ces : List MapEntry}, renEs b l es = some es' → EsRel η es ces → EsRel (η.ren b l) es' ces
  | [], es', ces, h, g => by
    simp only [renEs, Option.some.injEq] at h; subst h
    cases ces with
    | nil => trivial
    | cons _ _ => exact g.elim
  | (k, v, n) :: r, es', ces, h, g => by
    simp only [renEs] at h
    split at h
    · rename_i k' v' r' hk hv hr
      cases h
      cases ces with
      | nil => exact g.elim
      | cons e ce => obtain ⟨h1, h2, h3, h4⟩ := g; exact ⟨(ren_conc hk).trans h1, (ren_conc hv).trans h2, h3, renEs_rel hr h4⟩
    · cases h
theorem renObj_rel {id k : Nat} {o o' : AObj} {ob : Obj} (hi : renI b l id = some k) (h : renObj b l o = some o') (g : ORel P η [] id o ob) : ORel P (η.ren b l) [] k o' ob := by
  cases o with
  | cells t n e op lo hi' mk =>
    simp only [renObj] at h
    split at h
    · cases h
    · rename_i t' ht
      cases h
      cases ob <;> try exact g.elim
      have g : CRel _ _ _ _ _ _ _ _ _ _ _ _ _ := g
      exact ⟨g.elem, fun i v' hv' hin => let ⟨v, hv, hr⟩ := renTr_get ht hv'; let ⟨x, hx, hc⟩ := g.get i v hv hin; ⟨x, hx, (ren_conc hr).trans hc⟩, g.le, g.shut,
        fun ho => let ⟨c, hc, h1, h2⟩ := g.opened ho; ⟨c, (ren_κ hi).trans hc, h1, h2⟩, g.fzle, g.cover, g.small⟩
  | map es c =>
    simp only [renObj] at h
    split at h
    · cases h
    · rename_i es' he
      cases h
      cases ob <;> try exact g.elim
      exact ⟨g.1, renEs_rel he g.2⟩
  | mapIter m s x st =>
    cases m with
    | none =>
      simp only [renObj, Option.some.injEq] at h; subst h
      cases ob <;> try exact g.elim
      exact g
    | some m =>
      simp only [renObj] at h
      split at h
      · cases h
      · rename_i m' hm
        cases h
        cases ob <;> try exact g.elim
        obtain ⟨⟨r, h1, h2⟩, h3⟩ := g
        exact ⟨⟨r, (ren_ρ hm).trans h1, h2⟩, h3⟩
  | striter s p =>
    simp only [renObj, Option.some.injEq] at h; subst h
    cases ob <;> try exact g.elim
    exact g
  | loop s p =>
    simp only [renObj, Option.some.injEq] at h; subst h
    cases ob <;> try exact g.elim
    exact ⟨g.1, g.2.1, fun i hi => by cases hi⟩
  | deferred d =>
    simp only [renObj, Option.some.injEq] at h; subst h
    cases ob <;> try exact g.elim
    exact g
theorem renObjs_get {h : Tr AObj} : ∀ {ids : List Nat} {acc t : Tr AObj}, renObjs b l h ids acc = some t → ∀ k o', t.get k = some o' → acc.get k = some o' ∨ ∃ i o, renI b l i = some k ∧ h.get i = some o ∧ renObj b l o = some o'
  | [], acc, t, hq, k, o', g => by simp only [renObjs, Option.some.injEq] at hq; subst hq; exact .inl g
  | i :: r, acc, t, hq, k, o', g => by
    simp only [renObjs] at hq
    split at hq
    · exact renObjs_get hq k o' g
    · rename_i o ho
      split at hq
      · exact renObjs_get hq k o' g
      · rename_i i' hi
        split at hq
        · cases hq
        · rename_i u hu
          rcases renObjs_get hq k o' g with h1 | h1
          · rw [Tr.get_set] at h1
            by_cases e : k = i'
            · rw [if_pos e] at h1; cases h1; subst e; exact .inr ⟨i, o, hi, ho, hu⟩
            · rw [if_neg e] at h1; exact .inl h1
          · exact .inr h1
end
theorem Res.ren {fn : FuncId} {rd : Option Nat} {cs : List Frame} {m : Machine} {S : Heap} {l : List Nat} {p q : AV × Heap} (ha : Above η S) (hq : renEnd S.next l p = some q)
    (h : Res kd P [] η S w fn rd cs m p) : Res kd P [] η S w fn rd cs m q := by
  obtain ⟨η', x, w', h1, h2, h3, h4, h5⟩ := h
  unfold renEnd at hq
  split at hq
  · cases hq
  · rename_i v hv
    split at hq
    · cases hq
    · rename_i t ht
      cases hq
      have get : ∀ k o', t.get k = some o' → ∃ i o, renI S.next l i = some k ∧ p.2.get i = some o ∧ renObj S.next l o = some o' := fun k o' g => by
        rcases renObjs_get ht k o' g with h | h
        · rw [Tr.get_lf] at h; cases h
        · exact h
      have low : ∀ i, i < S.next → unI S.next l i = some i := fun i hi => if_pos hi
      have lowρ : ∀ i, i < S.next → (η'.ren S.next l).ρ i = η'.ρ i := fun i hi => by simp only [Env.ren, low i hi]
      have lowκ : ∀ i, i < S.next → (η'.ren S.next l).κ i = η'.κ i := fun i hi => by simp only [Env.ren, low i hi]
      have lowσ : ∀ i, i < S.next → (η'.ren S.next l).σ i = η'.σ i := fun i hi => by simp only [Env.ren, low i hi]
      have le : η.le (η'.ren S.next l) := by
        refine ⟨fun i r hr => ?_, fun i r hr => ?_, fun i r hr => ?_⟩ <;> by_cases hi : i < S.next
        · rw [lowρ i hi]; exact h3.le.ρ i r hr
        · rw [(ha i (by omega)).ρ] at hr; cases hr
        · rw [lowκ i hi]; exact h3.le.κ i r hr
        · rw [(ha i (by omega)).κ] at hr; cases hr
        · rw [lowσ i hi]; exact h3.le.σ i r hr
        · rw [(ha i (by omega)).σ] at hr; cases hr
      have live : ∀ b, Live (η'.ren S.next l) { objs := t, next := S.next + l.length } b → Live η' p.2 b := by
        intro b ⟨k, o', hk, hb⟩
        obtain ⟨i, o, hi, ho, _⟩ := get k o' hk
        exact ⟨i, o, ho, (ren_ρ hi).symm.trans hb⟩
      refine ⟨η'.ren S.next l, x, w', h1, (ren_conc hv).trans h2, ⟨le, ⟨fun k o' hk => ?_, fun k j ok oj b hk hj hbk hbj => ?_⟩, h3.frame, fun b hb hl => h3.shr b hb (live b hl), h3.keeps⟩, fun k hk => ?_, ⟨⟨fun i hi => ?_, fun i hi => ?_, fun i hi => ?_⟩, fun k hk hn => ?_, Nat.le_add_right _ _⟩⟩
      · obtain ⟨i, o, hi, ho, hr⟩ := get k o' hk
        obtain ⟨b, ob, hb, hob, hrel⟩ := h3.rel.obj i o ho
        exact ⟨b, ob, (ren_ρ hi).trans hb, hob, renObj_rel hi hr hrel⟩
      · obtain ⟨i, o, hi, ho, _⟩ := get k ok hk
        obtain ⟨i2, o2, hi2, ho2, _⟩ := get j oj hj
        have e := h3.rel.inj i i2 o o2 b ho ho2 ((ren_ρ hi).symm.trans hbk) ((ren_ρ hi2).symm.trans hbj)
        subst e
        rw [hi] at hi2; exact Option.some.inj hi2
      · have hk : S.next + l.length ≤ k := hk
        have hu : unI S.next l k = none := by rw [unI, if_neg (by omega)]; exact List.getElem?_eq_none (by omega)
        refine ⟨?_, by simp only [Env.ren, hu], by simp only [Env.ren, hu], by simp only [Env.ren, hu]⟩
        show t.get k = none
        cases hg : t.get k with
        | none => rfl
        | some o' => obtain ⟨i, o, hi, _, _⟩ := get k o' hg; have := (renI_some hi).2.1; omega
      · have hi : i < S.next := Nat.lt_of_not_le hi
        rw [lowρ i hi]; exact h5.only.ρ i (by omega)
      · have hi : i < S.next := Nat.lt_of_not_le hi
        rw [lowκ i hi]; exact h5.only.κ i (by omega)
      · have hi : i < S.next := Nat.lt_of_not_le hi
        rw [lowσ i hi]; exact h5.only.σ i (by omega)
      · show t.get k = none
        cases hg : t.get k with
        | none => rfl
        | some o' =>
          obtain ⟨i, o, hi, ho, _⟩ := get k o' hg
          have e := (renI_some hi).2.2 hk
          subst e
          have := h5.objs k hk hn
          rw [ho] at this; cases this
theorem Res.tidy {fn : FuncId} {rd : Option Nat} {cs : List Frame} {m : Machine} {S : Heap} {p : AV × Heap} (ha : Above η S) (h : Res kd P [] η S w fn rd cs m p) : Res kd P [] η S w fn rd cs m (tidy S p) := by
  unfold VmK.tidy
  split
  · rename_i q hq; exact h.ren ha hq
  · exact h
theorem mem_tidyAll {S : Heap} : ∀ {l : List (AV × Heap)} {p : AV × Heap}, p ∈ l → tidy S p ∈ tidyAll S l
  | q :: r, p, h => by
    rcases List.mem_cons.1 h with rfl | h
    · exact List.mem_cons_self
    · exact List.mem_cons_of_mem _ (mem_tidyAll h)
theorem tidyMany_sound {fn : FuncId} {rd : Option Nat} {cs : List Frame} {m : Machine} {S : Heap} {l : List (AV × Heap)} (ha : Above η S) (h : ∃ p ∈ l, Res kd P [] η S w fn rd cs m p) : ∃ p ∈ tidyMany S l, Res kd P [] η S w fn rd cs m p := by
  obtain ⟨p, hp, hr⟩ := h
  unfold tidyMany
  split
  · cases hp
  · exact ⟨p, hp, hr⟩
  · exact ⟨_, mem_tidyAll hp, hr.tidy ha⟩
theorem framed_sound {fn : FuncId} {cs : List Frame} {m : Machine} {s : Tr AObj} {o : Option (List (AV × Heap))} {l : List (AV × Heap)} (hr : HRel P η [] H w) (ha : Above η H) (hp : Part s H.objs) (h : framed H s o = some l)
    (g : ∀ l0, o = some l0 → ∃ p ∈ l0, Res kd P [] η { objs := s, next := H.next } w fn none cs m p) : ∃ p ∈ l, Res kd P [] η H w fn none cs m p := by
  have hw : Weak H { objs := s, next := H.next } := Weak.part hp
  unfold framed at h
  split at h
  · cases h
  · rename_i l0
    split at h
    · rename_i q hq
      cases h
      obtain ⟨p, hpm, hres⟩ := tidyMany_sound (ha.weak hw) (g l0 rfl)
      obtain ⟨e0, hw⟩ := joinOuts_sound (v := q.1) (H := q.2) hq p hpm
      obtain ⟨v, K⟩ := p
      simp only at e0 hw
      subst e0
      exact ⟨_, List.mem_cons_self, Res.merge hr ha hp ((hres.weak hw).weak (swept_weak s q))⟩
    · cases h
      obtain ⟨p, hpm, hres⟩ := g l0 rfl
      obtain ⟨v, K⟩ := p
      exact ⟨_, mem_mergeAll hpm, Res.merge hr ha hp (hres.weak (swept_weak s (v, K)))⟩
theorem callIn_sound {self : Self} (hC : ProgOK P C O) (hself : SelfOK P O self) {f : FuncId} {args : List AV} {xs : List Value} {l : List (AV × Heap)} (h : callIn C self E H f args = some l) (b : Base P O E η H w) (hx : concL η args = some xs) (cs : List Frame) :
    ∃ p ∈ l, Res .normal P E η H w f none cs (lone (Frame.enter P f xs.toArray .normal) cs w) p := by
  unfold callIn at h
  split at h
  · exact callPlain_sound hC hself h b hx cs
  · rename_i d hd
    split at h
    · have hp : Part (reach H.objs d (idsAVs args []) .lf) H.objs := reach_lf _ _ _
      refine framed_sound b.rel b.above hp h fun l0 hl0 => ?_
      have hw : Weak H { objs := reach H.objs d (idsAVs args []) .lf, next := H.next } := Weak.part hp
      exact callPlain_sound hC hself hl0 (b.step ((Trans.refl b.rel).weak hw) (b.above.weak hw) (Nat.le_refl _)) hx cs
    · exact callPlain_sound hC hself h b hx cs

/-! a round of a loop over a function -/
theorem findLoop_id : ∀ {E : List LoopInfo} {l : Nat} {i : LoopInfo}, findLoop l E = some i → i.id = l
  | [], l, i, h => by simp [findLoop] at h
  | j :: r, l, i, h => by
    simp only [findLoop] at h
    cases hb : Nat.beq j.id l with
    | true => rw [hb] at h; simp at h; subst h; exact beq_eq hb
    | false => rw [hb] at h; exact findLoop_id h
theorem getLoop' (hr : HRel P η E H w) {l : Nat} {s : LoopState} {p : Option Jump} (hg : H.get l = some (.loop s p)) : ∃ r L, η.ρ l = some r ∧ w.heap[r]? = some (.loop L) ∧ L.state = s ∧ L.pending = p.map Jump.code ∧
    ∀ i, findLoop l E = some i → L.fn = i.fn ∧ TRel η i.tmps i.n L.tmps ∧ L.params.toList = i.params ∧ L.assign = i.assign ∧ L.body = i.body ∧ η.ρ i.defers = some L.defers := by
  obtain ⟨r, ob, h1, h2, h3⟩ := hr.obj l _ hg
  cases ob <;> try exact h3.elim
  rename_i L
  exact ⟨r, L, h1, h2, h3⟩
theorem setParams_sound : ∀ {ps : List Tmp} {args : List AV} {xs : List Value} {t t' : Tr AV} {n : Nat} {c : Array Value}, TRel η t n c → concL η args = some xs → setParams n t ps args = some t' → ps.length = xs.length ∧
    TRel η t' n ((ps.zip xs).foldl (fun c (p : Tmp × Value) => c.setIfInBounds p.1 p.2) c)
  | [], [], xs, t, t', n, c, g, hx, h => by
    simp [concL] at hx; subst hx
    simp [setParams] at h; subst h
    exact ⟨rfl, g⟩
  | [], _ :: _, xs, t, t', n, c, g, hx, h => by simp [setParams] at h
  | _ :: _, [], xs, t, t', n, c, g, hx, h => by simp [setParams] at h
  | p :: ps, v :: vs, xs, t, t', n, c, g, hx, h => by
    simp only [concL] at hx
    split at hx
    · rename_i y ys hy hys
      cases hx
      simp only [setParams] at h
      cases hb : Nat.blt p n with
      | false => rw [hb] at h; cases h
      | true =>
        rw [hb] at h; simp only [cond_true] at h
        have g' : TRel η (t.set p v) n (c.setIfInBounds p y) := (g.toX.put (d := some p) hy (by simp [putO, hb])).toR (fun _ x => x)
        obtain ⟨h1, h2⟩ := setParams_sound g' hys h
        exact ⟨by simp [h1], h2⟩
    · cases hx
theorem roundIn_sound {self : Self} (hself : SelfOK P O self) {l r : Nat} (hl : η.ρ l = some r) {args : List AV} {xs : List Value} {outs : List (AV × Heap)} (h : roundIn self E H l args = some outs) (b : Base P O E η H w) (hx : concL η args = some xs) (cs : List Frame) :
    ∃ f tm a bd, (Instr.yield r xs.toArray).run P w = .ok (.round r f tm a bd) w ∧ ∃ p ∈ outs, Res .normal P E η H w f (some r) cs (lone (Frame.round r f tm a bd .normal) cs w) p := by
  unfold roundIn at h
  split at h
  · cases h
  · rename_i i hi
    split at h
    · rename_i s pd hg
      split at h
      · cases h
      · rename_i t ht
        obtain ⟨r', L, hr', hh, _, _, hL⟩ := getLoop' b.rel hg
        rw [hl] at hr'; cases hr'
        obtain ⟨h1, h2, h3, h4, h5, h6⟩ := hL i hi
        obtain ⟨g1, g2⟩ := setParams_sound h2 hx ht
        have e : (L.params.zip xs.toArray).foldl (fun tmps (t, a) => tmps.setIfInBounds t a) L.tmps = (i.params.zip xs).foldl (fun c (p : Tmp × Value) => c.setIfInBounds p.1 p.2) L.tmps := by
          rw [← Array.foldl_toList, Array.toList_zip, h3]
        refine ⟨L.fn, (L.params.zip xs.toArray).foldl (fun tmps (t, a) => tmps.setIfInBounds t a) L.tmps, L.assign, L.body, ?_, ?_⟩
        · have hsz : ¬ xs.toArray.size ≠ L.params.size := by
            have : L.params.size = i.params.length := by rw [← h3]; simp
            simp [this, g1]
          simp only [Instr.yield, Instr.getLoop, Sem.run_bind, getObj, Sem.run, hh, Result.andThen_ok, Sem.run_pure]
          rw [if_neg hsz]
          simp
        · rw [e, round_fm (kd := .normal), h1, h4, h5]
          have hid := findLoop_id hi
          have := hself _ _ _ _ _ _ h η w (some r) [] _ [.code i.assign, .beginRound, .code i.body] cs (kd := .normal) b (by simp only [roundOf, hid]; exact hl) trivial g2 ⟨rfl, trivial, rfl, trivial⟩
          exact this
    · cases h

/-! one operation of a region -/
def GoesX (P : Program) (E : List LoopInfo) (η : Env) (H : Heap) (w : World) (n : Nat) (X : Nat → Prop) (m : Machine) (mk : Array Value → World → Machine) (tmps' : Tr AV) (H' : Heap) : Prop :=
  ∃ η' w' t', Steps P m (mk t' w') ∧ Trans P E η H w η' H' w' ∧ Above η' H' ∧ Below H.next η η' H H' ∧ TRelX η' tmps' n t' X
theorem bindL_mem {α β : Type} {f : α → Option (List β)} : ∀ {l : List α} {outs : List β}, bindL f l = some outs → ∀ p ∈ l, ∃ o, f p = some o ∧ ∀ q ∈ o, q ∈ outs
  | [], _, _, p, hp => by simp at hp
  | x :: xs, outs, h, p, hp => by
    simp only [bindL] at h
    split at h
    · cases h
    · rename_i a ha
      split at h
      · cases h
      · rename_i bs hb
        cases h
        rcases List.mem_cons.1 hp with rfl | hp
        · exact ⟨a, ha, fun q hq => List.mem_append.2 (.inl hq)⟩
        · obtain ⟨o, h1, h2⟩ := bindL_mem hb p hp
          exact ⟨o, h1, fun q hq => List.mem_append.2 (.inr (h2 q hq))⟩
theorem putK_some {β : Type} {n : Nat} {tmps : Tr AV} {d : Option Tmp} {K : Knt β} {v : AV} {H' : Heap} {outs : List β} (h : putK n tmps d K v H' = some outs) : ∃ t', putO n tmps d v = some t' ∧ K t' H' = some outs := by
  unfold putK at h
  cases hq : putO n tmps d v with
  | none => rw [hq] at h; cases h
  | some t' => rw [hq] at h; exact ⟨t', rfl, h⟩

/-- what K is asked, and what has happened -/
def Asks {β : Type} (P : Program) (E : List LoopInfo) (η : Env) (H : Heap) (w : World) (n : Nat) (X : Nat → Prop) (m : Machine) (mk : Array Value → World → Machine) (T : Tr AV → Prop) (K : Knt β) (outs : List β) : Prop :=
  ∃ tmps' H' outs', K tmps' H' = some outs' ∧ (∀ q ∈ outs', q ∈ outs) ∧ T tmps' ∧ GoesX P E η H w n X m mk tmps' H'

/-- behind a call -/
theorem afterCall_sound {β : Type} {n : Nat} {X : Nat → Prop} {tmps : Tr AV} {t : Array Value} {d : Option Tmp} {K : Knt β} {ap : Bool} {o : Option (List (AV × Heap))} {outs : List β} (h : afterCall ap n tmps d K o = some outs) (_b : Base P O E η H w) (ht : TRelX η tmps n t X)
    {m : Machine} {mk : Array Value → World → Machine} (ho : ∀ l, o = some l → ∃ p ∈ l, ∃ η' x w', Steps P m (mk (putA t d x) w') ∧ conc η' p.1 = some x ∧ Trans P E η H w η' p.2 w' ∧ Above η' p.2 ∧ Below H.next η η' H p.2) :
    Asks P E η H w n X m mk (fun t' => ∃ v, putO n tmps d v = some t') K outs := by
  unfold afterCall at h
  split at h
  · cases h
  · cases h
  · rename_i p
    obtain ⟨q, hq, η', x, w', h1, h2, h3, h4, h5⟩ := ho _ rfl
    simp only [List.mem_singleton] at hq; subst hq
    obtain ⟨t', e1, e2⟩ := putK_some h
    exact ⟨t', q.2, outs, e2, fun _ h => h, ⟨_, e1⟩, η', w', _, h1, h3, h4, h5, (ht.mono h3.le).put h2 e1⟩
  · rename_i l _ _
    obtain ⟨q, hq, η', x, w', h1, h2, h3, h4, h5⟩ := ho _ rfl
    cases ap with
    | true =>
      simp only [cond_true] at h
      obtain ⟨o, ho1, ho2⟩ := bindL_mem h q hq
      obtain ⟨t', e1, e2⟩ := putK_some ho1
      exact ⟨t', q.2, o, e2, ho2, ⟨_, e1⟩, η', w', _, h1, h3, h4, h5, (ht.mono h3.le).put h2 e1⟩
    | false =>
      simp only [cond_false] at h
      split at h
      · rename_i p hp
        obtain ⟨v, Hj⟩ := p
        obtain ⟨e0, hw⟩ := joinOuts_sound hp q hq
        obtain ⟨t', e1, e2⟩ := putK_some h
        exact ⟨t', Hj, outs, e2, fun _ h => h, ⟨_, e1⟩, η', w', _, h1, h3.weak hw, h4.weak hw, h5.weak hw, (ht.mono h3.le).put (e0 ▸ h2) e1⟩
      · cases h

theorem not_defer {tmps : Tr AV} {o : Oper} {out : Out} (h : opStep C H tmps o.op = some out) : ∀ c, o.op ≠ .defer c := by
  intro c e; rw [e] at h; simp [opStep, opStep0, orFact, opFact, okey] at h

section
variable {β : Type} {fn : FuncId} {rd : Option Nat} {ds : List Deferred} {k : List Item} {cs : List Frame} {ops : Array Oper} {i : Nat} {rest : List Nat} {o : Oper} {n : Nat} {X : Nat → Prop} {tmps : Tr AV} {t : Array Value} {K : Knt β} {outs : List β} {self : Self}
def mR (kd : CallKind) (fn : FuncId) (rd : Option Nat) (ds : List Deferred) (k : List Item) (cs : List Frame) (ops : Array Oper) (l : List Nat) (t : Array Value) (w : World) : Machine := lone (fm kd fn rd ds t (.inRegion ops l :: k)) cs w

theorem operK_sound (hC : ProgOK P C O) (hself : SelfOK P O self) (h : operK C self E n H tmps o K = some outs) (b : Base P O E η H w) (ht : TRelX η tmps n t X) (hX : ∀ j ∈ useTmps ops.toList o, ¬ X j) (ho : ops[i]? = some o) (hw : Region.wanted o (yielded ops t) = true) :
    Asks P E η H w n X (mR kd fn rd ds k cs ops (i :: rest) t w) (mR kd fn rd ds k cs ops rest) (fun t' => ∃ v, putO n tmps o.dst v = some t') K outs := by
  unfold operK at h
  cases hq : opStep C H tmps o.op with
  | none => rw [hq] at h; cases h
  | some out =>
    rw [hq] at h
    have hd := not_defer hq
    have hs := opStep_sound (P := P) (E := E) hC.toCtxOK (hC.fit _ _ _ b.inv) b.rel b.fresh (ops_ok ht hX) hq
    cases out with
    | val v H' =>
      obtain ⟨η', x, w', h1, h2, h3, h4⟩ := hs
      obtain ⟨t', e1, e2⟩ := putK_some h
      obtain ⟨a1, a2⟩ := b.above.grow h4
      exact ⟨t', H', outs, e2, fun _ h => h, ⟨_, e1⟩, η', w', _, .one (st_value ho hw hd h1), h3, a1, .grow h4, (ht.mono h3.le).put h2 e1⟩
    | skip H' =>
      obtain ⟨η', w', h1, h3, h4⟩ := hs
      obtain ⟨t', e1, e2⟩ := putK_some h
      obtain ⟨a1, a2⟩ := b.above.grow h4
      exact ⟨t', H', outs, e2, fun _ h => h, ⟨_, e1⟩, η', w', _, .one (st_done ho hw hd h1), h3, a1, .grow h4, (ht.mono h3.le).put (undef_conc _) e1⟩
    | enter f args =>
      obtain ⟨_, xs, hx, h1⟩ := hs
      refine afterCall_sound h b ht fun l hl => ?_
      obtain ⟨p, hp, η', x, w', g1, g2, g3, g4, g5⟩ := callIn_sound hC hself hl b hx (fm kd fn rd ds t (.inRegion ops (i :: rest) :: k) :: cs)
      refine ⟨p, hp, η', x, w', .head (st_enter ho hw hd h1) ?_, g2, g3, g4, g5⟩
      have := g1.finish
      rw [fm_finish, ho] at this
      exact this
    | round l args =>
      obtain ⟨xs, r, hx, hl, h1⟩ := hs
      refine afterCall_sound h b ht fun l' hl' => ?_
      obtain ⟨f, tm, a, bd, hy, p, hp, η', x, w', g1, g2, g3, g4, g5⟩ := roundIn_sound hself hl hl' b hx (fm kd fn rd ds t (.inRegion ops (i :: rest) :: k) :: cs)
      refine ⟨p, hp, η', x, w', .head (st_round ho hw hd (h1.trans hy)) ?_, g2, g3, g4, g5⟩
      have := g1.finish
      rw [fm_finish, ho] at this
      exact this
    | ways l =>
      obtain ⟨p, hp, η', x, w', h1, h2, h3, h4⟩ := hs
      obtain ⟨o', ho1, ho2⟩ := bindL_mem h p hp
      obtain ⟨t', e1, e2⟩ := putK_some ho1
      obtain ⟨a1, a2⟩ := b.above.grow h4
      exact ⟨t', p.2, o', e2, ho2, ⟨_, e1⟩, η', w', _, .one (st_value ho hw hd h1), h3, a1, .grow h4, (ht.mono h3.le).put h2 e1⟩
theorem guardK_sound (hC : ProgOK P C O) (hself : SelfOK P O self) (h : guardK C self E n ops.toList H tmps o K o.guard = some outs) (b : Base P O E η H w) (ht : TRelX η tmps n t X) (hX : ∀ j ∈ useTmps ops.toList o, ¬ X j) (ho : ops[i]? = some o) :
    Asks P E η H w n X (mR kd fn rd ds k cs ops (i :: rest) t w) (mR kd fn rd ds k cs ops rest) (fun t' => ∃ v, putO n tmps o.dst v = some t') K outs := by
  unfold guardK at h
  cases hg : o.guard with
  | none =>
    rw [hg] at h
    exact operK_sound hC hself h b ht hX ho (by simp [Region.wanted, hg])
  | some g =>
    rw [hg] at h
    simp only at h
    split at h
    · cases h
    · rename_i hq
      exact operK_sound hC hself h b ht hX ho (wantedG_sound ht hX hq)
    · rename_i hq
      obtain ⟨t', e1, e2⟩ := putK_some h
      exact ⟨t', H, outs, e2, fun _ h => h, ⟨_, e1⟩, η, w, _, .one (st_unwanted ho (wantedG_sound ht hX hq)), Trans.refl b.rel, b.above, Below.refl _ _ _, ht.put (undef_conc _) e1⟩

/-- a region in the text's order -/
theorem regGo_sound' (hC : ProgOK P C O) (hself : SelfOK P O self) {rest : List Nat} {sfx : List Oper} : ∀ (l : List Oper) (j : Nat) (tmps : Tr AV) (H : Heap) (outs : List β), regGo C self E n ops.toList K l tmps H = some outs → ops.toList.drop j = l ++ sfx →
    ∀ (η : Env) (w : World) (t : Array Value), Base P O E η H w → TRel η tmps n t → Asks P E η H w n noX (mR kd fn rd ds k cs ops (List.range' j l.length ++ rest) t w) (mR kd fn rd ds k cs ops rest) (fun _ => True) K outs
  | [], j, tmps, H, outs, h, _, η, w, t, b, ht => ⟨tmps, H, outs, h, fun _ h => h, trivial, η, w, t, .refl _ _, Trans.refl b.rel, b.above, Below.refl _ _ _, ht.toX⟩
  | o :: r, j, tmps, H, outs, h, hdrop, η, w, t, b, ht => by
    have ho : ops[j]? = some o := by
      have : (ops.toList.drop j)[0]? = some o := by rw [hdrop]; rfl
      rw [List.getElem?_drop] at this
      simpa using this
    have hdrop' : ops.toList.drop (j + 1) = r ++ sfx := by
      rw [← List.drop_drop, hdrop]; rfl
    obtain ⟨tmps', H', outs', hk, hsub, _, η', w', t', s1, s2, s3, s4, s5⟩ := guardK_sound (fn := fn) (rd := rd) (ds := ds) (k := k) (cs := cs) (rest := List.range' (j + 1) r.length ++ rest) hC hself h b ht.toX (fun _ _ x => x) ho
    obtain ⟨tmps2, H2, outs2, hk2, hsub2, _, η2, w2, t2, u1, u2, u3, u4, u5⟩ := regGo_sound' hC hself r (j + 1) tmps' H' outs' hk hdrop' η' w' t' (b.step s2 s3 s4.next) (s5.toR fun _ x => x)
    exact ⟨tmps2, H2, outs2, hk2, fun q hq => hsub q (hsub2 q hq), trivial, η2, w2, t2, s1.trans u1, s2.trans u2, u3, s4.trans u4 s4.next, u5⟩
theorem regGo_sound (hC : ProgOK P C O) (hself : SelfOK P O self) : ∀ (l : List Oper) (j : Nat) (tmps : Tr AV) (H : Heap) (outs : List β), regGo C self E n ops.toList K l tmps H = some outs → ops.toList.drop j = l →
    ∀ (η : Env) (w : World) (t : Array Value), Base P O E η H w → TRel η tmps n t → Asks P E η H w n noX (mR kd fn rd ds k cs ops (List.range' j l.length) t w) (mR kd fn rd ds k cs ops []) (fun _ => True) K outs := by
  intro l j tmps H outs h hdrop η w t b ht
  have := regGo_sound' (kd := kd) (fn := fn) (rd := rd) (ds := ds) (k := k) (cs := cs) (rest := []) (sfx := []) hC hself l j tmps H outs h (by rw [hdrop]; simp) η w t b ht
  simpa using this
end
end Go.VmK
namespace Go.VmK

theorem tb_or (S i j : Nat) : (S ||| 2 ^ i).testBit j = (S.testBit j || decide (i = j)) := by rw [Nat.testBit_or, Nat.testBit_two_pow]
theorem tb_true {S i j : Nat} (h : (S ||| 2 ^ i).testBit j = true) : S.testBit j = true ∨ j = i := by
  rw [tb_or, Bool.or_eq_true] at h
  exact h.imp id fun x => (of_decide_eq_true x).symm
theorem tb_false {S i j : Nat} (h : (S ||| 2 ^ i).testBit j = false) : S.testBit j = false ∧ j ≠ i := by
  rw [tb_or, Bool.or_eq_false_iff] at h
  exact ⟨h.1, fun e => by have := h.2; simp [e] at this⟩
theorem tb_old {S i j : Nat} (h : S.testBit j = true) : (S ||| 2 ^ i).testBit j = true := by rw [tb_or, h]; rfl
theorem tb_new (S i : Nat) : (S ||| 2 ^ i).testBit i = true := by rw [tb_or]; simp
theorem tb_ne {S i j : Nat} (h : j ≠ i) : (S ||| 2 ^ i).testBit j = S.testBit j := by rw [tb_or, decide_eq_false (Ne.symm h), Bool.or_false]

/-- a list of operations that may be an order of what is left behind S -/
inductive Lin (ops : Array Oper) : Nat → List Nat → Prop
  | nil {S : Nat} : (∀ (i : Nat) (o : Oper), ops[i]? = some o → S.testBit i = false → readyIn S o = false) → Lin ops S []
  | cons {S i : Nat} {o : Oper} {l : List Nat} : ops[i]? = some o → S.testBit i = false → readyIn S o = true → Lin ops (S ||| 2 ^ i) l → Lin ops S (i :: l)
theorem binds_any (e : Edge) : Region.binds .any e = bindsAny e := by
  unfold Region.binds bindsAny
  cases e.ground <;> rfl
theorem readyIn_iff {S : Nat} {o : Oper} : readyIn S o = true ↔ ∀ e ∈ o.after, bindsAny e = true → S.testBit e.on = true := by
  unfold readyIn
  rw [List.all_eq_true]
  constructor
  · intro h e he hb
    have := h e (by simpa using he)
    simpa [hb] using this
  · intro h e he
    cases hb : bindsAny e with
    | false => rfl
    | true => simp [h e (by simpa using he) hb]
theorem filter_lt {S i n : Nat} (hi : i < n) (h : S.testBit i = false) : ((List.range n).filter fun j => !(S ||| 2 ^ i).testBit j).length < ((List.range n).filter fun j => !S.testBit j).length := by
  have e : ((List.range n).filter fun j => !(S ||| 2 ^ i).testBit j) = ((List.range n).filter fun j => !S.testBit j).filter fun j => !decide (i = j) := by
    rw [List.filter_filter]
    congr 1; funext j
    rw [tb_or]
    cases S.testBit j <;> cases decide (i = j) <;> rfl
  rw [e]
  refine List.length_filter_lt_length_iff_exists.2 ⟨i, ?_, by simp⟩
  rw [List.mem_filter]
  exact ⟨List.mem_range.2 hi, by simp [h]⟩
theorem lin_go {ops : Array Oper} : ∀ (fuel t : Nat) (listed : Array Bool) (S : Nat), listed.size = ops.size → (∀ j, listed.getD j false = S.testBit j) →
    ((List.range ops.size).filter fun j => !S.testBit j).length ≤ fuel → Lin ops S (Region.linearise.go .any ops fuel t listed [])
  | 0, t, listed, S, hs, hl, hf => by
    refine .nil fun i o ho hi => ?_
    have hlt : i < ops.size := (Array.getElem?_eq_some_iff.1 ho).1
    have h0 : ((List.range ops.size).filter fun j => !S.testBit j) = [] := List.length_eq_zero_iff.1 (by omega)
    have : i ∈ ((List.range ops.size).filter fun j => !S.testBit j) := List.mem_filter.2 ⟨List.mem_range.2 hlt, by simp [hi]⟩
    rw [h0] at this; cases this
  | fuel + 1, t, listed, S, hs, hl, hf => by
    simp only [Region.linearise.go]
    change Lin ops S (match (Region.ready .any ops listed)[t % (Region.ready .any ops listed).length]? with
      | some i => Region.linearise.go .any ops fuel (t / (Region.ready .any ops listed).length) (listed.setIfInBounds i true) [i]
      | none => [].reverse)
    have hget : ∀ j, j < ops.size → listed.getD j true = S.testBit j := fun j hj => by
      rw [← hl j]; simp [Array.getD, hs, hj]
    cases hi : (Region.ready .any ops listed)[t % (Region.ready .any ops listed).length]? with
    | none =>
      have hnil : Region.ready .any ops listed = [] := by
        cases hr : Region.ready .any ops listed with
        | nil => rfl
        | cons x xs =>
          rw [hr] at hi
          have hlt : t % (x :: xs).length < (x :: xs).length := Nat.mod_lt _ (by simp)
          simp at hi
          simp at hlt
          omega
      refine .nil fun i o ho hS => ?_
      have hlt : i < ops.size := (Array.getElem?_eq_some_iff.1 ho).1
      cases hq : readyIn S o with
      | false => rfl
      | true =>
        have : i ∈ Region.ready .any ops listed := mem_ready.2 ⟨by rw [hget i hlt, hS], o, ho, fun e he hb => by rw [hl]; exact readyIn_iff.1 hq e he (by rw [← binds_any]; exact hb)⟩
        rw [hnil] at this; cases this
    | some i =>
      simp only []
      rw [linearise_go_acc, List.reverse_singleton, List.singleton_append]
      obtain ⟨h0, o, ho, h1⟩ := mem_ready.1 (List.mem_of_getElem? hi)
      have hlt : i < ops.size := (Array.getElem?_eq_some_iff.1 ho).1
      have hS : S.testBit i = false := by rw [← hget i hlt]; exact h0
      refine .cons ho hS (readyIn_iff.2 fun e he hb => by rw [← hl]; exact h1 e he (by rw [binds_any]; exact hb)) (lin_go fuel _ _ _ (by simp [hs]) ?_ ?_)
      · intro j
        by_cases e : j = i
        · subst e; rw [tb_new]; simp [Array.getD, hs, hlt]
        · rw [getD_set_ne _ (Ne.symm e), hl, tb_ne e]
      · have := filter_lt hlt hS
        omega
theorem lin_all (ops : Array Oper) (t : Nat) : Lin ops 0 (Region.linearise .any ops t) := by
  unfold Region.linearise
  refine lin_go ops.size t _ 0 (by simp) (fun j => ?_) ?_
  · rw [Nat.zero_testBit]
    simp only [Array.getD]
    split <;> simp
  · have := List.length_filter_le (fun j => !Nat.testBit 0 j) (List.range ops.size)
    simpa using this

/-! the masks -/
theorem mask_fold (acc : List Nat) : ∀ (l : List Edge) (s j : Nat), (l.foldl (fun s e => bif bindsAny e then s ||| 2 ^ e.on ||| acc.getD e.on 0 else s) s).testBit j = true →
    s.testBit j = true ∨ ∃ e ∈ l, bindsAny e = true ∧ (e.on = j ∨ (acc.getD e.on 0).testBit j = true)
  | [], s, j, h => .inl h
  | e :: l, s, j, h => by
    simp only [List.foldl_cons] at h
    rcases mask_fold acc l _ j h with h1 | ⟨e', he', h2⟩
    · cases hb : bindsAny e with
      | false => rw [hb] at h1; exact .inl h1
      | true =>
        rw [hb] at h1; simp only [cond_true] at h1
        rw [Nat.testBit_or, Bool.or_eq_true] at h1
        rcases h1 with h1 | h1
        · rcases tb_true h1 with h1 | h1
          · exact .inl h1
          · exact .inr ⟨e, by simp, hb, .inl h1.symm⟩
        · exact .inr ⟨e, by simp, hb, .inr h1⟩
    · exact .inr ⟨e', by simp [he'], h2⟩
theorem masks_spec : ∀ (l : List Oper) (acc : List Nat), (∀ i, i < acc.length → (masks l acc).getD i 0 = acc.getD i 0) ∧
    ∀ (i : Nat) (o : Oper), l[i]? = some o → ∀ j, ((masks l acc).getD (acc.length + i) 0).testBit j = true → ∃ e ∈ o.after, bindsAny e = true ∧ (e.on = j ∨ ((masks l acc).getD e.on 0).testBit j = true)
  | [], acc => ⟨fun i _ => rfl, fun i o h => by simp at h⟩
  | x :: r, acc => by
    obtain ⟨y, hy⟩ : ∃ y, y = x.after.toList.foldl (fun s e => bif bindsAny e then s ||| 2 ^ e.on ||| acc.getD e.on 0 else s) 0 := ⟨_, rfl⟩
    obtain ⟨h1, h2⟩ := masks_spec r (acc ++ [y])
    have hm : masks (x :: r) acc = masks r (acc ++ [y]) := by rw [hy]; rfl
    rw [hm]
    have hold : ∀ i, i < acc.length → (masks r (acc ++ [y])).getD i 0 = acc.getD i 0 := fun i hi => by
      rw [h1 i (by simp; omega)]
      simp [List.getD, List.getElem?_append_left hi]
    refine ⟨hold, fun i o ho j hj => ?_⟩
    cases i with
    | zero =>
      simp only [List.getElem?_cons_zero, Option.some.injEq] at ho; subst ho
      rw [Nat.add_zero, h1 _ (by simp)] at hj
      have e : (acc ++ [y]).getD acc.length 0 = y := by simp [List.getD]
      rw [e, hy] at hj
      rcases mask_fold acc _ _ _ hj with h3 | ⟨e', he', hb, h3⟩
      · simp at h3
      · refine ⟨e', by simpa using he', hb, h3.imp id fun h4 => ?_⟩
        by_cases hlt : e'.on < acc.length
        · rw [hold _ hlt]; exact h4
        · simp [List.getD, Nat.le_of_not_lt hlt] at h4
    | succ i =>
      simp only [List.getElem?_cons_succ] at ho
      have := h2 i o ho j (by
        have e : (acc ++ [y]).length + i = acc.length + (i + 1) := by simp; omega
        rw [e]; exact hj)
      exact this
def mask (ops : Array Oper) (i : Nat) : Nat := (masks ops.toList []).getD i 0
theorem mask_spec {ops : Array Oper} {i : Nat} {o : Oper} (ho : ops[i]? = some o) {j : Nat} (h : (mask ops i).testBit j = true) : ∃ e ∈ o.after, bindsAny e = true ∧ (e.on = j ∨ (mask ops e.on).testBit j = true) :=
  (masks_spec ops.toList []).2 i o (by simpa using ho) j (by simpa [mask] using h)
/-- whatever must be ahead of what is done, is done -/
def Closed (ops : Array Oper) (S : Nat) : Prop := ∀ i, S.testBit i = true → ∀ j, (mask ops i).testBit j = true → S.testBit j = true
theorem Closed.ready {ops : Array Oper} {S i : Nat} {o : Oper} (hc : Closed ops S) (ho : ops[i]? = some o) (hr : readyIn S o = true) {j : Nat} (h : (mask ops i).testBit j = true) : S.testBit j = true := by
  obtain ⟨e, he, hb, h1⟩ := mask_spec ho h
  have := readyIn_iff.1 hr e he hb
  rcases h1 with h1 | h1
  · rw [← h1]; exact this
  · exact hc _ this _ h1
theorem Closed.add {ops : Array Oper} {S i : Nat} {o : Oper} (hc : Closed ops S) (ho : ops[i]? = some o) (hr : readyIn S o = true) : Closed ops (S ||| 2 ^ i) := by
  intro j hj k hk
  rcases tb_true hj with h | h
  · exact tb_old (hc j h k hk)
  · subst h; exact tb_old (hc.ready ho hr hk)
theorem Closed.zero (ops : Array Oper) : Closed ops 0 := fun i h => by simp at h

/-- the order in which the machine's own run goes -/
def Ranked (ops : Array Oper) (A : Nat) : Prop := ∃ (rk : Nat → Nat) (c : Nat), ∀ i, A.testBit i = true → rk i < c ∧ ∀ o, ops[i]? = some o → ∀ e ∈ o.after, bindsAny e = true → A.testBit e.on = true ∧ rk e.on < rk i
theorem Ranked.zero (ops : Array Oper) : Ranked ops 0 := ⟨fun _ => 0, 0, fun i h => by simp at h⟩
theorem Ranked.add {ops : Array Oper} {A i : Nat} {o : Oper} (h : Ranked ops A) (ho : ops[i]? = some o) (hi : A.testBit i = false) (hr : readyIn A o = true) : Ranked ops (A ||| 2 ^ i) := by
  obtain ⟨rk, c, h⟩ := h
  refine ⟨fun j => if j = i then c else rk j, c + 1, fun j hj => ?_⟩
  rcases tb_true hj with h1 | h1
  · obtain ⟨g1, g2⟩ := h j h1
    have hne : j ≠ i := fun e => by subst e; rw [hi] at h1; cases h1
    simp only [hne, if_false]
    refine ⟨by omega, fun o' ho' e he hb => ?_⟩
    obtain ⟨k1, k2⟩ := g2 o' ho' e he hb
    have hne2 : e.on ≠ i := fun x => by rw [x, hi] at k1; cases k1
    exact ⟨tb_old k1, by simp only [hne2, if_false]; exact k2⟩
  · subst h1
    simp only [if_true]
    refine ⟨by omega, fun o' ho' e he hb => ?_⟩
    rw [ho] at ho'; cases ho'
    have k1 := readyIn_iff.1 hr e he hb
    have hne2 : e.on ≠ j := fun x => by rw [x, hi] at k1; cases k1
    exact ⟨tb_old k1, by simp only [hne2, if_false]; exact (h _ k1).1⟩
/-- where something is ahead, something of it is ready -/
theorem Ranked.first {ops : Array Oper} {A S : Nat} (h : Ranked ops A) (hb : ∀ i, A.testBit i = true → i < ops.size) {i : Nat} (hA : A.testBit i = true) (hS : S.testBit i = false) :
    ∃ j o, ops[j]? = some o ∧ S.testBit j = false ∧ readyIn S o = true := by
  obtain ⟨rk, c, h⟩ := h
  suffices H : ∀ r i, rk i = r → A.testBit i = true → S.testBit i = false → ∃ j o, ops[j]? = some o ∧ S.testBit j = false ∧ readyIn S o = true from H _ i rfl hA hS
  intro r
  induction r using Nat.strongRecOn with
  | _ r ih =>
    intro i hr hA hS
    obtain ⟨o, ho⟩ : ∃ o, ops[i]? = some o := ⟨_, Array.getElem?_eq_getElem (hb i hA)⟩
    cases hq : readyIn S o with
    | true => exact ⟨i, o, ho, hS, hq⟩
    | false =>
      obtain ⟨e, he, hbi, hn⟩ : ∃ e ∈ o.after, bindsAny e = true ∧ S.testBit e.on = false := by
        apply Classical.byContradiction
        intro hcon
        have : readyIn S o = true := readyIn_iff.2 fun e he hbi => by
          cases hn : S.testBit e.on with
          | true => rfl
          | false => exact absurd ⟨e, he, hbi, hn⟩ hcon
        rw [hq] at this; cases this
      obtain ⟨k1, k2⟩ := (h i hA).2 o ho e he hbi
      exact ih (rk e.on) (hr ▸ k2) e.on rfl k1 hn
end Go.VmK
namespace Go.VmK
variable {P : Program} {C : Ctx} {E : List LoopInfo} {η : Env} {H : Heap} {w : World}

/-! what is made, but not yet laid -/
def Dist (D : Made) : Prop := ∀ d ∈ D, ∀ d' ∈ D, d.2.1 = d'.2.1 → d = d'
theorem commit_next (m : Nat) (H : Heap) : ∀ D : Made, (commit m H D).next = H.next
  | [] => rfl
  | (i, id, ob) :: r => by
    simp only [commit]
    cases Nat.testBit m i with
    | true => exact commit_next m H r
    | false => exact commit_next m H r
theorem commit_get {m : Nat} {H : Heap} : ∀ {D : Made}, Dist D → ∀ (id : Nat) (o : AObj), (commit m H D).get id = some o ↔ (∃ d ∈ D, m.testBit d.1 = true ∧ d.2.1 = id ∧ d.2.2 = o) ∨ ((∀ d ∈ D, m.testBit d.1 = true → d.2.1 ≠ id) ∧ H.get id = some o)
  | [], _, id, o => by simp [commit]
  | (i, jd, ob) :: r, hd, id, o => by
    have ih := commit_get (m := m) (H := H) (D := r) (fun d h d' h' => hd d (by simp [h]) d' (by simp [h'])) id o
    simp only [commit]
    cases hb : Nat.testBit m i with
    | false =>
      simp only [cond_false]
      rw [ih]
      constructor
      · rintro (⟨d, h1, h2, h3⟩ | ⟨h1, h2⟩)
        · exact .inl ⟨d, by simp [h1], h2, h3⟩
        · refine .inr ⟨fun d hm ht => ?_, h2⟩
          rcases List.mem_cons.1 hm with rfl | hm
          · rw [hb] at ht; cases ht
          · exact h1 d hm ht
      · rintro (⟨d, h1, h2, h3⟩ | ⟨h1, h2⟩)
        · rcases List.mem_cons.1 h1 with rfl | hm
          · rw [hb] at h2; cases h2
          · exact .inl ⟨d, hm, h2, h3⟩
        · exact .inr ⟨fun d hm ht => h1 d (by simp [hm]) ht, h2⟩
    | true =>
      simp only [cond_true]
      rw [Heap.get_put]
      by_cases e : id = jd
      · subst e
        simp only [if_true]
        constructor
        · intro h; cases h
          exact .inl ⟨_, List.mem_cons_self, hb, rfl, rfl⟩
        · rintro (⟨d, h1, h2, h3, h4⟩ | ⟨h1, h2⟩)
          · have := hd d h1 (i, id, ob) List.mem_cons_self h3
            subst this; rw [← h4]
          · exact absurd rfl (h1 (i, id, ob) List.mem_cons_self hb)
      · rw [if_neg e, ih]
        constructor
        · rintro (⟨d, h1, h2, h3⟩ | ⟨h1, h2⟩)
          · exact .inl ⟨d, by simp [h1], h2, h3⟩
          · refine .inr ⟨fun d hm ht => ?_, h2⟩
            rcases List.mem_cons.1 hm with rfl | hm
            · exact fun x => e x.symm
            · exact h1 d hm ht
        · rintro (⟨d, h1, h2, h3, h4⟩ | ⟨h1, h2⟩)
          · rcases List.mem_cons.1 h1 with rfl | hm
            · exact absurd h3.symm e
            · exact .inl ⟨d, hm, h2, h3, h4⟩
          · exact .inr ⟨fun d hm ht => h1 d (by simp [hm]) ht, h2⟩

/-- a step of a part of memory is one of the whole -/
theorem glue {η' : Env} {K K' G G' : Heap} {w' : World} (hG : HRel P η E G w) (hK : ∀ id o, K.get id = some o → G.get id = some o) (t : Trans P E η K w η' K' w')
    (hG' : ∀ id o, G'.get id = some o → K'.get id = some o ∨ (G.get id = some o ∧ K.get id = none)) : Trans P E η G w η' G' w' := by
  have old : ∀ id o, G.get id = some o → K.get id = none → ∃ b ob, η.ρ id = some b ∧ η'.ρ id = some b ∧ b < w.heap.size ∧ ¬ Live η K b ∧ w'.heap[b]? = some ob ∧ ORel P η' E id o ob := by
    intro id o hg hk
    obtain ⟨b, ob, h1, h2, h3⟩ := hG.obj id o hg
    have hlt := lt_of_get h2
    have hnl : ¬ Live η K b := by
      rintro ⟨id', o', g1, g2⟩
      have := hG.inj _ _ _ _ _ (hK _ _ g1) hg g2 h1
      subst this; rw [hk] at g1; cases g1
    exact ⟨b, ob, h1, t.le.ρ _ _ h1, hlt, hnl, by rw [t.frame b hlt hnl]; exact h2, ORel_mono t.le h3⟩
  have kl : ∀ b, Live η K b → Live η G b := fun b ⟨id, o, h1, h2⟩ => ⟨id, o, hK _ _ h1, h2⟩
  refine ⟨t.le, ⟨fun id o ho => ?_, fun i j oi oj b hi hj hbi hbj => ?_⟩, fun b hb hl => t.frame b hb fun x => hl (kl b x), fun b hb hl => ?_, t.keeps⟩
  · rcases hG' id o ho with h | ⟨h1, h2⟩
    · exact t.rel.obj id o h
    · obtain ⟨b, ob, _, g2, _, _, g5, g6⟩ := old id o h1 h2
      exact ⟨b, ob, g2, g5, g6⟩
  · rcases hG' i oi hi with h | ⟨h1, h2⟩ <;> rcases hG' j oj hj with g | ⟨g1, g2⟩
    · exact t.rel.inj _ _ _ _ _ h g hbi hbj
    · obtain ⟨b', ob, k1, k2, k3, k4, _, _⟩ := old j oj g1 g2
      rw [hbj] at k2; cases k2
      exact absurd (t.shr b k3 ⟨i, oi, h, hbi⟩) k4
    · obtain ⟨b', ob, k1, k2, k3, k4, _, _⟩ := old i oi h1 h2
      rw [hbi] at k2; cases k2
      exact absurd (t.shr b k3 ⟨j, oj, g, hbj⟩) k4
    · obtain ⟨b', ob, k1, k2, _⟩ := old i oi h1 h2
      obtain ⟨b'', ob', l1, l2, _⟩ := old j oj g1 g2
      rw [hbi] at k2; cases k2
      rw [hbj] at l2; cases l2
      exact hG.inj _ _ _ _ _ h1 g1 k1 l1
  · obtain ⟨id, o, h1, h2⟩ := hl
    rcases hG' id o h1 with h | ⟨g1, g2⟩
    · exact kl b (t.shr b hb ⟨id, o, h, h2⟩)
    · obtain ⟨b', ob, k1, k2, _⟩ := old id o g1 g2
      rw [h2] at k2; cases k2
      exact ⟨id, o, g1, k1⟩

theorem read_same0 {tmps : Tr AV} {op : Op} {v : AV} {H' : Heap} (hk : kin C op = .read) (h : opStep0 C H tmps op = some (.val v H')) : H' = H := by
  cases op <;> simp only [kin] at hk <;> try (cases hk; done)
  case load t a =>
    obtain ⟨u, _, h⟩ := with1_some h
    obtain ⟨u, e⟩ := doLoad_val h
    cases e; rfl
  case convert s d x =>
    obtain ⟨u, _, h⟩ := with1_some h
    obtain ⟨u, H2, hv, e⟩ := pairO_some h
    cases e
    unfold convertOp at hv
    unfold kinConv at hk
    split at hk <;> try (cases hk; done)
    rename_i e1 e2
    rw [e1, e2] at hv
    simp only at hv
    split at hv
    · cases hv; rfl
    · split at hv
      · cases hq : asBytes _ with
        | none => rw [hq] at hv; cases hv
        | some s => rw [hq] at hv; cases hv; rfl
      · cases hv
    · cases hv
  case lookup t x i ok =>
    obtain ⟨a, b, _, _, h⟩ := with2_some h
    obtain ⟨u, _, e⟩ := valO_some h
    cases e; rfl
  case makeMap t r => cases r <;> cases hk
  case call c =>
    simp only [opStep0] at h
    unfold callOp at h
    split at h
    · cases h
    · rename_i args ha
      unfold callArgs at h
      split at h
      · rename_i b hb
        rw [hb] at hk
        unfold builtinOp at h
        split at h <;> try (cases hk; done)
        · simp only [Option.map_eq_some_iff] at h
          obtain ⟨u, _, e⟩ := h
          cases e; rfl
        · simp only [Option.map_eq_some_iff] at h
          obtain ⟨u, _, e⟩ := h
          cases e; rfl
        · simp only [Option.map_eq_some_iff] at h
          obtain ⟨u, _, e⟩ := h
          cases e; rfl
        · simp only [Option.map_eq_some_iff] at h
          obtain ⟨u, _, e⟩ := h
          cases e; rfl
        · simp only [Option.map_eq_some_iff] at h
          obtain ⟨u, _, e⟩ := h
          cases e; rfl
        · cases h
      · rename_i f hf
        rw [hf] at hk; cases hk
      · rename_i r m hf
        rw [hf] at hk; cases hk
theorem read_same {tmps : Tr AV} {op : Op} {v : AV} {H' : Heap} (hk : kin C op = .read) (h : opStep C H tmps op = some (.val v H')) : H' = H := by
  rcases opStep_cases h with h | ⟨u, e, _⟩
  · exact read_same0 hk h
  · cases e; rfl
end Go.VmK
namespace Go.VmK
variable {P : Program} {C : Ctx} {O : Env → Heap → World → Prop} {E : List LoopInfo} {η : Env} {H : Heap} {w : World}
variable {kd : CallKind}

def Has (tmps : Tr AV) (d : Option Tmp) (v : AV) : Prop := ∀ j, d = some j → tmps.get j = some v
/-- what an operation that is ahead of its time has come to -/
inductive Work (C : Ctx) (ops : Array Oper) (base : Nat) (D : Made) (L : Reads) (tmps tmps0 : Tr AV) (H : Heap) (i : Nat) (o : Oper) : Prop
  | off : wantedG ops.toList tmps0 o = some false → Has tmps o.dst undefV → (∀ ob, (i, base + i, ob) ∉ D) → Work C ops base D L tmps tmps0 H i o
  | free {v : AV} {H' : Heap} : wantedG ops.toList tmps0 o = some true → Has tmps o.dst v → opStep C ⟨.lf, base + i⟩ tmps0 o.op = some (.val v H') → (∀ ob, (i, base + i, ob) ∉ D) → Work C ops base D L tmps tmps0 H i o
  | made {v : AV} {H' : Heap} {ob : AObj} : wantedG ops.toList tmps0 o = some true → Has tmps o.dst v → opStep C ⟨.lf, base + i⟩ tmps0 o.op = some (.val v H') → H'.get (base + i) = some ob → (i, base + i, ob) ∈ D → Work C ops base D L tmps tmps0 H i o
  | read {v : AV} {H' : Heap} : wantedG ops.toList tmps0 o = some true → Has tmps o.dst v → kin C o.op = .read → (o, i) ∈ L → opStep C H tmps0 o.op = some (.val v H') → (∀ ob, (i, base + i, ob) ∉ D) → Work C ops base D L tmps tmps0 H i o
structure Lag (C : Ctx) (ops : Array Oper) (base n S A : Nat) (D : Made) (L : Reads) (tmps : Tr AV) (H : Heap) (i : Nat) (o : Oper) : Prop where
  own : ∀ d, o.dst = some d → d < n ∧ d ∉ useTmps ops.toList o
  one : ∀ d, o.dst = some d → ∀ j o', ops[j]? = some o' → S.testBit j = false → j ≠ i → o'.dst ≠ some d ∧ (d ∈ useTmps ops.toList o' → (mask ops j).testBit i = true)
  two : ∀ p o', ops[p]? = some o' → A.testBit p = false → ∀ d, o'.dst = some d → d ∉ useTmps ops.toList o
  work : ∃ tmps0 : Tr AV, (∀ u ∈ useTmps ops.toList o, tmps0.get u = tmps.get u) ∧ Work C ops base D L tmps tmps0 H i o
def Ahead (ops : Array Oper) (S A d : Nat) : Prop := ∃ i o, ops[i]? = some o ∧ A.testBit i = true ∧ S.testBit i = false ∧ o.dst = some d
structure DS (P : Program) (C : Ctx) (O : Env → Heap → World → Prop) (E : List LoopInfo) (ops : Array Oper) (base n : Nat) (η : Env) (S A : Nat) (pend : List (Oper × Nat)) (D : Made) (L : Reads) (tmps : Tr AV) (H : Heap) (w : World) (t : Array Value) : Prop where
  pend : ∀ o i, (o, i) ∈ pend ↔ ops[i]? = some o ∧ A.testBit i = false
  sub : ∀ i, S.testBit i = true → A.testBit i = true
  bnd : ∀ i, A.testBit i = true → i < ops.size
  closed : Closed ops S
  ranked : Ranked ops A
  rel : HRel P η E (commit S H D) w
  dist : Dist D
  dform : ∀ d ∈ D, d.2.1 = base + d.1 ∧ A.testBit d.1 = true ∧ H.get d.2.1 = none
  fresh : ∀ i, i < ops.size → S.testBit i = false → Fresh η H (base + i)
  above : Above η H
  le : base + ops.size ≤ H.next
  eb : ∀ id, H.next ≤ id → findLoop id E = none
  tr : TRelX η tmps n t (Ahead ops S A)
  lag : ∀ i o, ops[i]? = some o → A.testBit i = true → S.testBit i = false → Lag C ops base n S A D L tmps H i o
  st : Stable P O
  inv : O η (commit S H D) w

section
variable {ops : Array Oper} {base n S A : Nat} {pend : List (Oper × Nat)} {D : Made} {L : Reads} {tmps : Tr AV} {t : Array Value}

theorem elemB_iff {l : List Nat} {n : Nat} : elemB l n = true ↔ n ∈ l := by
  unfold elemB
  rw [List.any_eq_true]
  constructor
  · rintro ⟨x, h1, h2⟩; rw [beq_eq h2]; exact h1
  · intro h; exact ⟨n, h, by simp⟩
theorem not_elemB {l : List Nat} {n : Nat} (h : notB (elemB l n) = true) : n ∉ l := by
  intro hn
  rw [elemB_iff.2 hn] at h; cases h

/-- what an operation that is next in order reads stands -/
theorem DS.uses (s : DS P C O E ops base n η S A pend D L tmps H w t) {i : Nat} {o : Oper} (ho : ops[i]? = some o) (hS : S.testBit i = false) (hr : readyIn S o = true) : ∀ u ∈ useTmps ops.toList o, ¬ Ahead ops S A u := by
  rintro u hu ⟨j, o', ho', hA, hSj, hd⟩
  by_cases e : j = i
  · subst e
    rw [ho] at ho'; cases ho'
    exact ((s.lag j o ho hA hSj).own u hd).2 hu
  · have := ((s.lag j o' ho' hA hSj).one u hd i o ho hS (Ne.symm e)).2 hu
    have := s.closed.ready ho hr this
    rw [hSj] at this; cases this
theorem commit_base (hd : Dist D) (hf : ∀ d ∈ D, d.2.1 = base + d.1 ∧ A.testBit d.1 = true ∧ H.get d.2.1 = none) {S' : Nat} {id : Nat} (hid : id < base) : (commit S' H D).get id = H.get id := by
  cases hq : (commit S' H D).get id with
  | some o =>
    rcases (commit_get hd id o).1 hq with ⟨d, h1, h2, h3, h4⟩ | ⟨_, h⟩
    · have := (hf d h1).1; omega
    · exact h.symm
  | none =>
    cases hh : H.get id with
    | none => rfl
    | some o =>
      have := (commit_get (m := S') hd id o).2 (.inr ⟨fun d hd' _ => by have := (hf d hd').1; omega, hh⟩)
      rw [hq] at this; cases this
theorem commit_up (hd : Dist D) (hf : ∀ d ∈ D, d.2.1 = base + d.1 ∧ A.testBit d.1 = true ∧ H.get d.2.1 = none) {m S' : Nat} (hm : ∀ j, m.testBit j = true → S'.testBit j = true) {id : Nat} {o : AObj} (h : (commit m H D).get id = some o) : (commit S' H D).get id = some o := by
  rcases (commit_get hd id o).1 h with ⟨d, h1, h2, h3⟩ | ⟨h1, h2⟩
  · exact (commit_get hd id o).2 (.inl ⟨d, h1, hm _ h2, h3⟩)
  · refine (commit_get hd id o).2 (.inr ⟨fun d hd' _ e => ?_, h2⟩)
    have := (hf d hd').2.2; rw [e, h2] at this; cases this
theorem commit_H (hd : Dist D) (hf : ∀ d ∈ D, d.2.1 = base + d.1 ∧ A.testBit d.1 = true ∧ H.get d.2.1 = none) {S' : Nat} {id : Nat} {o : AObj} (h : H.get id = some o) : (commit S' H D).get id = some o := by
  refine (commit_get hd id o).2 (.inr ⟨fun d hd' _ e => ?_, h⟩)
  have := (hf d hd').2.2; rw [e, h] at this; cases this

/-- one that was ahead is caught up with -/
theorem DS.catchUp (s : DS P C O E ops base n η S A pend D L tmps H w t) {i : Nat} {o : Oper} (ho : ops[i]? = some o) (hA : A.testBit i = true) (hS : S.testBit i = false) (hr : readyIn S o = true) {η' : Env} {w' : World} {v : AV} {x : Value} (hv : Has tmps o.dst v) (hx : conc η' v = some x)
    (tr : Trans P E η (commit S H D) w η' (commit (S ||| 2 ^ i) H D) w') (only : Only (· = base + i) η η') :
    DS P C O E ops base n η' (S ||| 2 ^ i) A pend D L tmps H w' (putA t o.dst x) ∧ Below base η η' (commit S H D) (commit (S ||| 2 ^ i) H D) := by
  have hlt := s.bnd i hA
  refine ⟨⟨s.pend, fun j hj => ?_, s.bnd, s.closed.add ho hr, s.ranked, tr.rel, s.dist, s.dform, fun j hj hSj => ?_, fun id hid => ?_, s.le, s.eb, ?_, fun j o' ho' hAj hSj => ?_, s.st, s.st _ _ _ _ _ _ _ s.inv tr⟩, ?_⟩
  · rcases tb_true hj with h | h
    · exact s.sub j h
    · rw [h]; exact hA
  · obtain ⟨h1, h2⟩ := tb_false hSj
    have f := s.fresh j hj h1
    have hne : base + j ≠ base + i := by omega
    exact ⟨f.get, by rw [only.ρ _ hne]; exact f.ρ, by rw [only.κ _ hne]; exact f.κ, by rw [only.σ _ hne]; exact f.σ⟩
  · have f := s.above id hid
    have hne : id ≠ base + i := by have := s.le; omega
    exact ⟨f.get, by rw [only.ρ _ hne]; exact f.ρ, by rw [only.κ _ hne]; exact f.κ, by rw [only.σ _ hne]; exact f.σ⟩
  · refine (s.tr.mono tr.le).catchUp (fun j hj _ v' hv' => ?_) (fun j v' hj _ => ((s.lag i o ho hA hS).own j hj).1) fun j hn hd hah => ?_
    · rw [hv j hj] at hv'; cases hv'; exact hx
    · obtain ⟨k, o', h1, h2, h3, h4⟩ := hah
      by_cases e : k = i
      · subst e; rw [ho] at h1; cases h1; exact hd h4
      · exact hn ⟨k, o', h1, h2, by rw [tb_ne e]; exact h3, h4⟩
  · obtain ⟨h1, h2⟩ := tb_false hSj
    have l := s.lag j o' ho' hAj h1
    exact ⟨l.own, fun d hd k o2 ho2 hSk hne => l.one d hd k o2 ho2 (tb_false hSk).1 hne, l.two, l.work⟩
  · refine ⟨only.mono fun j hj => by omega, fun id hid hn => ?_, by rw [commit_next, commit_next]; exact Nat.le_refl _⟩
    rw [commit_base s.dist s.dform hid] at hn ⊢; exact hn

theorem commit_none (s : DS P C O E ops base n η S A pend D L tmps H w t) {i : Nat} (hn : ∀ ob, (i, base + i, ob) ∉ D) {id : Nat} {o : AObj} (h : (commit (S ||| 2 ^ i) H D).get id = some o) : (commit S H D).get id = some o := by
  rcases (commit_get s.dist id o).1 h with ⟨d, h1, h2, h3⟩ | ⟨h1, h2⟩
  · rcases tb_true h2 with h4 | h4
    · exact (commit_get s.dist id o).2 (.inl ⟨d, h1, h4, h3⟩)
    · obtain ⟨a, b, c⟩ := d
      have := (s.dform _ h1).1
      simp only at h4 this; subst h4; subst this
      exact absurd h1 (hn c)
  · exact (commit_get s.dist id o).2 (.inr ⟨fun d hd ht => h1 d hd (tb_old ht), h2⟩)
theorem commit_one (s : DS P C O E ops base n η S A pend D L tmps H w t) {i : Nat} {ob : AObj} (hn : (i, base + i, ob) ∈ D) {id : Nat} {o : AObj} (h : (commit (S ||| 2 ^ i) H D).get id = some o) : (id = base + i ∧ o = ob) ∨ (commit S H D).get id = some o := by
  rcases (commit_get s.dist id o).1 h with ⟨d, h1, h2, h3, h4⟩ | ⟨h1, h2⟩
  · rcases tb_true h2 with h5 | h5
    · exact .inr ((commit_get s.dist id o).2 (.inl ⟨d, h1, h5, h3, h4⟩))
    · have := (s.dform _ h1).1
      have e := s.dist d h1 _ hn (by rw [this, h5])
      subst e
      exact .inl ⟨h3.symm, h4.symm⟩
  · exact .inr ((commit_get s.dist id o).2 (.inr ⟨fun d hd ht => h1 d hd (tb_old ht), h2⟩))

variable {fn : FuncId} {rd : Option Nat} {ds : List Deferred} {k : List Item} {cs : List Frame} {rest : List Nat}

theorem empty_rel (P : Program) (η : Env) (E : List LoopInfo) (b : Nat) (w : World) : HRel P η E ⟨.lf, b⟩ w := ⟨fun id o h => by simp [Heap.get, Tr.get_lf] at h, fun i j oi oj b h => by simp [Heap.get, Tr.get_lf] at h⟩

/-- the machine takes an operation that was ahead -/
theorem DS.take (hC : ProgOK P C O) (s : DS P C O E ops base n η S A pend D L tmps H w t) {i : Nat} {o : Oper} (ho : ops[i]? = some o) (hA : A.testBit i = true) (hS : S.testBit i = false) (hr : readyIn S o = true) :
    ∃ η' w' t', Steps P (mR kd fn rd ds k cs ops (i :: rest) t w) (mR kd fn rd ds k cs ops rest t' w') ∧ Trans P E η (commit S H D) w η' (commit (S ||| 2 ^ i) H D) w' ∧ Below base η η' (commit S H D) (commit (S ||| 2 ^ i) H D) ∧
      DS P C O E ops base n η' (S ||| 2 ^ i) A pend D L tmps H w' t' := by
  have l := s.lag i o ho hA hS
  obtain ⟨tmps0, hag, hw⟩ := l.work
  have hX := s.uses ho hS hr
  have ht0 : TRelX η tmps0 n t (fun j => j ∉ useTmps ops.toList o) := ⟨s.tr.size, fun j v hj hv => by
    have hj : j ∈ useTmps ops.toList o := Classical.not_not.1 hj
    rw [hag j hj] at hv
    exact s.tr.get j v (hX j hj) hv⟩
  have hX0 : ∀ j ∈ useTmps ops.toList o, ¬ (fun j => j ∉ useTmps ops.toList o) j := fun j hj x => x hj
  have hlt := s.bnd i hA
  have hf := s.fresh i hlt hS
  cases hw with
  | off h1 h2 h3 =>
    have tr : Trans P E η (commit S H D) w η (commit (S ||| 2 ^ i) H D) w :=
      (Trans.refl s.rel).weak ⟨by rw [commit_next, commit_next]; exact Nat.le_refl _, fun id o' h => ⟨o', commit_none s h3 h, WeakO.refl _⟩⟩
    obtain ⟨g1, g2⟩ := s.catchUp ho hA hS hr h2 (undef_conc η) tr (Only.refl _ _)
    exact ⟨η, w, _, .one (st_unwanted ho (wantedG_sound ht0 hX0 h1)), tr, g2, g1⟩
  | free h1 h2 h3 h4 =>
    obtain ⟨η', x, w', e1, e2, e3, e4⟩ := opStep_sound (P := P) (E := E) hC.toCtxOK (hC.fit _ _ _ s.inv) (empty_rel P η E (base + i) w) ⟨rfl, hf.ρ, hf.κ, hf.σ⟩ (ops_ok ht0 hX0) h3
    have tr := glue (G' := commit (S ||| 2 ^ i) H D) s.rel (fun id o' h => by simp [Heap.get, Tr.get_lf] at h) e3 fun id o' h => .inr ⟨commit_none s h4 h, rfl⟩
    obtain ⟨g1, g2⟩ := s.catchUp ho hA hS hr h2 e2 tr e4.only
    exact ⟨η', w', _, .one (st_value ho (wantedG_sound ht0 hX0 h1) (not_defer h3) e1), tr, g2, g1⟩
  | made h1 h2 h3 h4 h5 =>
    rename_i v H' ob
    obtain ⟨η', x, w', e1, e2, e3, e4⟩ := opStep_sound (P := P) (E := E) hC.toCtxOK (hC.fit _ _ _ s.inv) (empty_rel P η E (base + i) w) ⟨rfl, hf.ρ, hf.κ, hf.σ⟩ (ops_ok ht0 hX0) h3
    have tr := glue (G' := commit (S ||| 2 ^ i) H D) s.rel (fun id o' h => by simp [Heap.get, Tr.get_lf] at h) e3 fun id o' h => by
      rcases commit_one s h5 h with ⟨rfl, rfl⟩ | h
      · exact .inl h4
      · exact .inr ⟨h, rfl⟩
    obtain ⟨g1, g2⟩ := s.catchUp ho hA hS hr h2 e2 tr e4.only
    exact ⟨η', w', _, .one (st_value ho (wantedG_sound ht0 hX0 h1) (not_defer h3) e1), tr, g2, g1⟩
  | read h1 h2 h3 h4 h5 h6 =>
    rename_i v H1
    have hrel : HRel P η E H w := s.rel.weak ⟨by rw [commit_next]; exact Nat.le_refl _, fun id o' h => ⟨o', commit_H s.dist s.dform h, WeakO.refl _⟩⟩
    obtain ⟨η', x, w', e1, e2, e3, e4⟩ := opStep_sound (P := P) (E := E) hC.toCtxOK (hC.fit _ _ _ s.inv) hrel (s.above _ (Nat.le_refl _)) (ops_ok ht0 hX0) h5
    have := read_same h3 h5
    subst this
    have hη : η' = η := by rcases e4.next with ⟨_, h, _⟩ | h; · exact h
                           · omega
    subst hη
    have tr := glue (G' := commit (S ||| 2 ^ i) H1 D) s.rel (fun id o' h => commit_H s.dist s.dform h) e3 fun id o' h => by
      have h := commit_none s h6 h
      cases hq : H1.get id with
      | none => exact .inr ⟨h, rfl⟩
      | some o2 => rw [commit_H s.dist s.dform hq] at h; cases h; exact .inl rfl
    obtain ⟨g1, g2⟩ := s.catchUp ho hA hS hr h2 e2 tr (Only.refl _ _)
    exact ⟨η', w', _, .one (st_value ho (wantedG_sound ht0 hX0 h1) (not_defer h5) e1), tr, g2, g1⟩

/-- all that is ahead, as far as the order has it next -/
theorem DS.drain (hC : ProgOK P C O) : ∀ {l : List Nat} {η : Env} {S : Nat} {w : World} {t : Array Value}, DS P C O E ops base n η S A pend D L tmps H w t → Lin ops S l →
    ∃ η' S' w' t' l', Steps P (mR kd fn rd ds k cs ops l t w) (mR kd fn rd ds k cs ops l' t' w') ∧ Trans P E η (commit S H D) w η' (commit S' H D) w' ∧ Below base η η' (commit S H D) (commit S' H D) ∧
      DS P C O E ops base n η' S' A pend D L tmps H w' t' ∧ Lin ops S' l' ∧ ∀ i r, l' = i :: r → A.testBit i = false
  | [], η, S, w, t, s, hl => ⟨η, S, w, t, [], .refl _ _, Trans.refl s.rel, Below.refl _ _ _, s, hl, fun i r h => by cases h⟩
  | i :: r, η, S, w, t, s, hl => by
    cases hA : A.testBit i with
    | false => exact ⟨η, S, w, t, i :: r, .refl _ _, Trans.refl s.rel, Below.refl _ _ _, s, hl, fun j r' h => by cases h; exact hA⟩
    | true =>
      cases hl with
      | cons ho hS hr hl' =>
        obtain ⟨η1, w1, t1, a1, a2, a3, a4⟩ := s.take (fn := fn) (rd := rd) (ds := ds) (k := k) (cs := cs) (rest := r) hC ho hA hS hr
        obtain ⟨η2, S2, w2, t2, l2, b1, b2, b3, b4, b5, b6⟩ := DS.drain hC a4 hl'
        exact ⟨η2, S2, w2, t2, l2, a1.trans b1, a2.trans b2, a3.trans b3 (Nat.le_refl _), b4, b5, b6⟩
end
end Go.VmK
namespace Go.VmK
variable {P : Program} {C : Ctx} {O : Env → Heap → World → Prop} {E : List LoopInfo} {η : Env} {H : Heap} {w : World}
variable {kd : CallKind}

theorem wantedG_congr {ops : List Oper} {t0 t1 : Tr AV} {o : Oper} (h : ∀ u ∈ useTmps ops o, t0.get u = t1.get u) : wantedG ops t0 o = wantedG ops t1 o := by
  unfold wantedG
  cases hg : o.guard with
  | none => rfl
  | some g =>
    obtain ⟨j, want⟩ := g
    simp only
    cases ho : ops[j]? with
    | none => rfl
    | some o' =>
      simp only
      cases hd : o'.dst with
      | none => rfl
      | some d =>
        have : d ∈ useTmps ops o := by unfold useTmps; rw [hg]; simp only [ho, hd]; exact List.mem_cons_self
        simp only [h d this]
theorem putO_get {n : Nat} {tmps t' : Tr AV} {d : Option Tmp} {v : AV} (h : putO n tmps d v = some t') : (∀ j, d = some j → j < n ∧ t'.get j = some v) ∧ ∀ j, d ≠ some j → t'.get j = tmps.get j := by
  cases d with
  | none => simp only [putO, Option.some.injEq] at h; subst h; exact ⟨fun j h => (by cases h), fun _ _ => rfl⟩
  | some d =>
    simp only [putO] at h
    cases hb : Nat.blt d n with
    | false => rw [hb] at h; cases h
    | true =>
      rw [hb] at h; simp only [Option.some.injEq] at h; subst h
      refine ⟨fun j h => ?_, fun j h => ?_⟩
      · cases h; exact ⟨blt_lt hb, by rw [Tr.get_set]; simp⟩
      · rw [Tr.get_set, if_neg]; exact fun e => h (by rw [e])

section
variable {β : Type} {ops : Array Oper} {base n S A : Nat} {pend : List (Oper × Nat)} {D : Made} {L : Reads} {tmps : Tr AV} {t : Array Value}
theorem dropI_mem {i : Nat} {l : List (Oper × Nat)} {p : Oper × Nat} : p ∈ dropI i l ↔ p ∈ l ∧ p.2 ≠ i := by
  unfold dropI
  rw [List.mem_filter]
  constructor
  · rintro ⟨h1, h2⟩; exact ⟨h1, fun e => by subst e; simp at h2⟩
  · rintro ⟨h1, h2⟩
    refine ⟨h1, ?_⟩
    cases hb : Nat.beq p.2 i with
    | true => exact absurd (beq_eq hb) h2
    | false => rfl
theorem DS.pend' (s : DS P C O E ops base n η S A pend D L tmps H w t) (i : Nat) : ∀ o j, (o, j) ∈ dropI i pend ↔ ops[j]? = some o ∧ (A ||| 2 ^ i).testBit j = false := by
  intro o j
  rw [dropI_mem, s.pend]
  constructor
  · rintro ⟨⟨h1, h2⟩, h3⟩; exact ⟨h1, by rw [tb_ne h3]; exact h2⟩
  · rintro ⟨h1, h2⟩; exact ⟨⟨h1, (tb_false h2).1⟩, (tb_false h2).2⟩

theorem DS.notS (s : DS P C O E ops base n η S A pend D L tmps H w t) {i : Nat} (hA : A.testBit i = false) : S.testBit i = false := by
  cases hq : S.testBit i with
  | false => rfl
  | true => rw [s.sub i hq] at hA; cases hA
theorem silent_spec {l : List Oper} {ms : List Nat} {o : Oper} {i : Nat} (h : silent l ms pend o i = true) :
    (∀ d, o.dst = some d → d ∉ useTmps l o ∧ ∀ p ∈ pend, p.2 ≠ i → p.1.dst ≠ some d ∧ (d ∈ useTmps l p.1 → (ms.getD p.2 0).testBit i = true)) ∧ ∀ p ∈ pend, p.2 ≠ i → ∀ d, p.1.dst = some d → d ∉ useTmps l o := by
  unfold silent at h
  rw [Bool.and_eq_true] at h
  obtain ⟨h1, h2⟩ := h
  refine ⟨fun d hd => ?_, fun p hp hne d hd => ?_⟩
  · rw [hd] at h1
    simp only [Bool.and_eq_true] at h1
    refine ⟨not_elemB h1.1, fun p hp hne => ?_⟩
    have := List.all_eq_true.1 h1.2 p hp
    rw [Bool.or_eq_true] at this
    rcases this with h | h
    · exact absurd (beq_eq h) hne
    · unfold apart1 at h
      split at h
      · rename_i hn
        refine ⟨by rw [hn]; simp, fun hm => ?_⟩
        rw [Bool.or_eq_true] at h
        exact h.resolve_left fun x => not_elemB x hm
      · rename_i d' hn
        rw [Bool.and_eq_true, Bool.or_eq_true] at h
        refine ⟨?_, fun hm => h.2.resolve_left fun x => not_elemB x hm⟩
        intro e
        rw [hn] at e; cases e
        have := h.1
        simp [notB] at this
  · have := List.all_eq_true.1 h2 p hp
    rw [Bool.or_eq_true] at this
    rcases this with h | h
    · exact absurd (beq_eq h) hne
    · unfold apart2 at h
      rw [hd] at h
      exact not_elemB h

/-- an operation is taken ahead of its time -/
theorem DS.ahead (s : DS P C O E ops base n η S A pend D L tmps H w t) {i : Nat} {o : Oper} (hp : (o, i) ∈ pend) (hr : readyIn A o = true) (hs : silent ops.toList (masks ops.toList []) pend o i = true) {v : AV} {tmps' : Tr AV} (hv : putO n tmps o.dst v = some tmps')
    {D' : Made} {L' : Reads} (hD : ∀ d ∈ D, d ∈ D') (hD' : ∀ d ∈ D', d ∈ D ∨ (d.1 = i ∧ d.2.1 = base + i)) (hd : Dist D') (hcm : commit S H D' = commit S H D) (hL : ∀ p ∈ L, p ∈ L') (hw : Work C ops base D' L' tmps' tmps H i o) :
    DS P C O E ops base n η S (A ||| 2 ^ i) (dropI i pend) D' L' tmps' H w t := by
  obtain ⟨ho, hA⟩ := (s.pend o i).1 hp
  have hlt : i < ops.size := (Array.getElem?_eq_some_iff.1 ho).1
  have hS : S.testBit i = false := s.notS hA
  obtain ⟨g1, g2⟩ := silent_spec hs
  obtain ⟨p1, p2⟩ := putO_get hv
  refine ⟨s.pend' i, fun j hj => tb_old (s.sub j hj), fun j hj => ?_, s.closed, s.ranked.add ho hA hr, by rw [hcm]; exact s.rel, hd, fun d hdm => ?_, s.fresh, s.above, s.le, s.eb, ⟨s.tr.size, fun j u hj hu => ?_⟩, fun j o' ho' hAj hSj => ?_, s.st, by rw [hcm]; exact s.inv⟩
  · rcases tb_true hj with h | h
    · exact s.bnd j h
    · rw [h]; exact hlt
  · rcases hD' d hdm with h | ⟨h1, h2⟩
    · obtain ⟨q1, q2, q3⟩ := s.dform d h; exact ⟨q1, tb_old q2, q3⟩
    · exact ⟨by rw [h1, h2], by rw [h1]; exact tb_new _ _, by rw [h2]; exact (s.fresh i hlt hS).get⟩
  · have hne : o.dst ≠ some j := fun e => hj ⟨i, o, ho, tb_new _ _, hS, e⟩
    rw [p2 j hne] at hu
    exact s.tr.get j u (fun ⟨i', o', q1, q2, q3, q4⟩ => hj ⟨i', o', q1, tb_old q2, q3, q4⟩) hu
  · by_cases e : j = i
    · subst e
      rw [ho] at ho'; cases ho'
      refine ⟨fun d hd => ⟨(p1 d hd).1, (g1 d hd).1⟩, fun d hd k ok hok hSk hne => ?_, fun p op hop hAp d hd => ?_, tmps, fun u hu => ?_, hw⟩
      · cases hAk : A.testBit k with
        | false => exact (g1 d hd).2 (ok, k) ((s.pend ok k).2 ⟨hok, hAk⟩) hne
        | true =>
          have l := s.lag k ok hok hAk hSk
          refine ⟨fun hdk => ((l.one d hdk j o ho hS (Ne.symm hne)).1 hd).elim, fun hm => absurd hm (l.two j o ho hA d hd)⟩
      · obtain ⟨q1, q2⟩ := tb_false hAp
        exact g2 (op, p) ((s.pend op p).2 ⟨hop, q1⟩) q2 d hd
      · exact (p2 u fun e => (g1 u e).1 hu).symm
    · have hAj' : A.testBit j = true := (tb_true hAj).resolve_right e
      have l := s.lag j o' ho' hAj' hSj
      refine ⟨l.own, l.one, fun p op hop hAp => l.two p op hop (tb_false hAp).1, ?_⟩
      obtain ⟨tmps0, q1, q2⟩ := l.work
      have hag : ∀ u ∈ useTmps ops.toList o', tmps0.get u = tmps'.get u := fun u hu => by
        rw [q1 u hu, p2 u]; exact fun e2 => l.two i o ho hA u e2 hu
      have hhas : ∀ v, Has tmps o'.dst v → Has tmps' o'.dst v := fun v hv d hd => by
        rw [p2 d]; · exact hv d hd
        · exact fun e2 => (l.one d hd i o ho hS (Ne.symm e)).1 e2
      have hnot : (∀ ob, (j, base + j, ob) ∉ D) → ∀ ob, (j, base + j, ob) ∉ D' := fun h ob hm => by
        rcases hD' _ hm with h1 | ⟨h1, _⟩
        · exact h ob h1
        · exact e h1
      refine ⟨tmps0, hag, ?_⟩
      cases q2 with
      | off h1 h2 h3 => exact .off h1 (hhas _ h2) (hnot h3)
      | free h1 h2 h3 h4 => exact .free h1 (hhas _ h2) h3 (hnot h4)
      | made h1 h2 h3 h4 h5 => exact .made h1 (hhas _ h2) h3 h4 (hD _ h5)
      | read h1 h2 h3 h4 h5 h6 => exact .read h1 (hhas _ h2) h3 (hL _ h4) h5 (hnot h6)

theorem DS.noD (s : DS P C O E ops base n η S A pend D L tmps H w t) {i : Nat} (hA : A.testBit i = false) : ∀ d ∈ D, d.1 ≠ i := fun d hd e => by
  have := (s.dform d hd).2.1; rw [e, hA] at this; cases this
theorem DS.silent (s : DS P C O E ops base n η S A pend D L tmps H w t) {i : Nat} {o : Oper} (hp : (o, i) ∈ pend) (hr : readyIn A o = true) (hs : VmK.silent ops.toList (masks ops.toList []) pend o i = true) {K : Made → Reads → Knt β} {outs : List β}
    (h : silentOp C n ops.toList H tmps (base + i) i o K D L = some outs) :
    ∃ D' L' tmps', K D' L' tmps' H = some outs ∧ commit S H D' = commit S H D ∧ DS P C O E ops base n η S (A ||| 2 ^ i) (dropI i pend) D' L' tmps' H w t := by
  obtain ⟨ho, hA⟩ := (s.pend o i).1 hp
  have hS : S.testBit i = false := s.notS hA
  have hno : ∀ ob, (i, base + i, ob) ∉ D := fun ob hm => s.noD hA _ hm rfl
  have hhas : ∀ {v tmps'}, putO n tmps o.dst v = some tmps' → Has tmps' o.dst v := fun h d hd => ((putO_get h).1 d hd).2
  unfold silentOp at h
  split at h
  · cases h
  · rename_i hg
    obtain ⟨t', e1, e2⟩ := putK_some h
    exact ⟨D, L, t', e2, rfl, s.ahead hp hr hs e1 (fun d h => h) (fun d h => .inl h) s.dist rfl (fun p h => h) (.off hg (hhas e1) hno)⟩
  · rename_i hg
    split at h
    · rename_i hk
      split at h
      · rename_i v H' hq
        obtain ⟨t', e1, e2⟩ := putK_some h
        exact ⟨D, (o, i) :: L, t', e2, rfl, s.ahead hp hr hs e1 (fun d h => h) (fun d h => .inl h) s.dist rfl (fun p h => by simp [h]) (.read hg (hhas e1) hk (by simp) hq hno)⟩
      · cases h
    · split at h
      · rename_i v H' hq
        split at h
        · rename_i ob hob
          obtain ⟨t', e1, e2⟩ := putK_some h
          refine ⟨(i, base + i, ob) :: D, L, t', e2, by simp [commit, hS], s.ahead hp hr hs e1 (fun d h => by simp [h]) (fun d h => ?_) ?_ (by simp [commit, hS]) (fun p h => h) (.made hg (hhas e1) hq hob (by simp))⟩
          · rcases List.mem_cons.1 h with rfl | h
            · exact .inr ⟨rfl, rfl⟩
            · exact .inl h
          · intro d hd d' hd' he
            rcases List.mem_cons.1 hd with rfl | hd <;> rcases List.mem_cons.1 hd' with rfl | hd'
            · rfl
            · have := (s.dform d' hd').1
              exact absurd (by simp only at he; omega) (s.noD hA d' hd')
            · have := (s.dform d hd).1
              exact absurd (by simp only at he; omega) (s.noD hA d hd)
            · exact s.dist d hd d' hd' he
        · obtain ⟨t', e1, e2⟩ := putK_some h
          exact ⟨D, L, t', e2, rfl, s.ahead hp hr hs e1 (fun d h => h) (fun d h => .inl h) s.dist rfl (fun p h => h) (.free hg (hhas e1) hq hno)⟩
      · cases h
theorem findSilent_spec {l : List Oper} {ms : List Nat} {pd : List (Oper × Nat)} : ∀ {q : List (Oper × Nat)} {o : Oper} {i : Nat}, findSilent C l ms A pd D tmps H q = some (o, i) → (o, i) ∈ q ∧ readyIn A o = true ∧ VmK.silent l ms pd o i = true
  | [], o, i, h => by simp [findSilent] at h
  | (o', j) :: r, o, i, h => by
    simp only [findSilent] at h
    cases hb : (readyIn A o' && kinOk C H tmps (ms.getD j 0) D o' && VmK.silent l ms pd o' j) with
    | true =>
      rw [hb] at h; simp only [cond_true, Option.some.injEq, Prod.mk.injEq] at h
      obtain ⟨rfl, rfl⟩ := h
      simp only [Bool.and_eq_true] at hb
      exact ⟨by simp, hb.1.1, hb.2⟩
    | false =>
      rw [hb] at h
      obtain ⟨h1, h2⟩ := findSilent_spec h
      exact ⟨by simp [h1], h2⟩
end
end Go.VmK
namespace Go.VmK
variable {P : Program} {C : Ctx} {O : Env → Heap → World → Prop} {E : List LoopInfo} {η : Env} {H : Heap} {w : World}
variable {kd : CallKind}

/-- what an operation of such a region may touch -/
structure Eff (id : Nat) (η η' : Env) (K H' : Heap) : Prop where
  only : Only (fun j => K.next ≤ j ∨ j = id) η η'
  objs : ∀ j, j < K.next → j ≠ id → K.get j = none → H'.get j = none
  next : K.next ≤ H'.next
  above : Above η' H'
theorem nextTo_get (H : Heap) (n j : Nat) : (nextTo H n).get j = H.get j := rfl
theorem HRel.get {H' : Heap} (h : HRel P η E H w) (g : ∀ id, H'.get id = H.get id) : HRel P η E H' w :=
  ⟨fun id o ho => h.obj id o (by rw [← g]; exact ho), fun i j oi oj b hi hj => h.inj i j oi oj b (by rw [← g]; exact hi) (by rw [← g]; exact hj)⟩
theorem Trans.get {η' : Env} {H1 H' H2 : Heap} {w' : World} (h : Trans P E η H w η' H' w') (g1 : ∀ id, H1.get id = H.get id) (g2 : ∀ id, H2.get id = H'.get id) : Trans P E η H1 w η' H2 w' :=
  ⟨h.le, h.rel.get g2, fun b hb hl => h.frame b hb fun ⟨id, o, x, y⟩ => hl ⟨id, o, by rw [g1]; exact x, y⟩,
   fun b hb ⟨id, o, x, y⟩ => let ⟨id', o', x', y'⟩ := h.shr b hb ⟨id, o, by rw [← g2]; exact x, y⟩; ⟨id', o', by rw [g1]; exact x', y'⟩, h.keeps⟩
theorem Eff.grow {id : Nat} {η' : Env} {K H' : Heap} (ha : Above η K) (hid : id < K.next) (g : Grow η η' (nextTo K id) H') : Eff id η η' K (nextTo H' K.next) :=
  ⟨g.only.mono fun j hj => .inr hj, fun j _ hne hn => g.objs j hne hn, Nat.le_refl _, fun j hj => by
    have f := ha j hj
    have hne : j ≠ id := by have : K.next ≤ j := hj; omega
    exact ⟨g.objs j hne f.get, by rw [g.only.ρ j hne]; exact f.ρ, by rw [g.only.κ j hne]; exact f.κ, by rw [g.only.σ j hne]; exact f.σ⟩⟩

section
variable {β : Type} {fn : FuncId} {rd : Option Nat} {ds : List Deferred} {k : List Item} {cs : List Frame} {ops : Array Oper} {i : Nat} {rest : List Nat} {o : Oper} {n : Nat} {X : Nat → Prop} {tmps : Tr AV} {t : Array Value} {K : Knt β} {outs : List β} {self : Self} {G : Heap} {id : Nat}

theorem drawOp_sound (hC : ProgOK P C O) (hself : SelfOK P O self) (h : drawOp C self E n ops.toList G tmps id o K = some outs) (hr : HRel P η E G w) (ha : Above η G) (hid : id < G.next) (hf : Fresh η G id) (eb : ∀ j, G.next ≤ j → findLoop j E = none) (hst : Stable P O) (hin : O η G w)
    (ht : TRelX η tmps n t X) (hX : ∀ j ∈ useTmps ops.toList o, ¬ X j) (ho : ops[i]? = some o) :
    ∃ tmps' H' outs' v, K tmps' H' = some outs' ∧ (∀ q ∈ outs', q ∈ outs) ∧ putO n tmps o.dst v = some tmps' ∧ ∃ η' w' t', Steps P (mR kd fn rd ds k cs ops (i :: rest) t w) (mR kd fn rd ds k cs ops rest t' w') ∧
      Trans P E η G w η' H' w' ∧ Eff id η η' G H' ∧ TRelX η' tmps' n t' X := by
  unfold drawOp at h
  cases hb : isCall o.op with
  | true =>
    rw [hb] at h; simp only [cond_true] at h
    obtain ⟨tmps', H', outs', h1, h2, ⟨v, h3⟩, η', w', t', h4, h5, h6, h7, h8⟩ := guardK_sound (fn := fn) (rd := rd) (ds := ds) (k := k) (cs := cs) (rest := rest) hC hself h ⟨hr, ha, eb, hst, hin⟩ ht hX ho
    exact ⟨tmps', H', outs', v, h1, h2, h3, η', w', t', h4, h5, ⟨h7.only.mono fun j hj => .inl hj, fun j hj _ hn => h7.objs j hj hn, h7.next, h6⟩, h8⟩
  | false =>
    rw [hb] at h; simp only [cond_false] at h
    unfold guardV at h
    split at h
    · cases h
    · rename_i hg
      have hw := wantedG_sound ht hX hg
      unfold operV at h
      split at h
      · cases h
      · rename_i out hq
        have hd := not_defer hq
        have hs := opStep_sound (P := P) (E := E) hC.toCtxOK (hC.fit _ _ _ hin) (hr.get (H' := nextTo G id) fun _ => rfl) (⟨hf.get, hf.ρ, hf.κ, hf.σ⟩ : Fresh η (nextTo G id) (nextTo G id).next) (ops_ok ht hX) hq
        cases out with
        | val v H' =>
          obtain ⟨η', x, w', h1, h2, h3, h4⟩ := hs
          obtain ⟨t', e1, e2⟩ := putK_some h
          exact ⟨t', _, outs, v, e2, fun _ h => h, e1, η', w', _, .one (st_value ho hw hd h1), h3.get (fun _ => rfl) (fun _ => rfl), Eff.grow ha hid h4, (ht.mono h3.le).put h2 e1⟩
        | skip H' =>
          obtain ⟨η', w', h1, h3, h4⟩ := hs
          obtain ⟨t', e1, e2⟩ := putK_some h
          exact ⟨t', _, outs, undefV, e2, fun _ h => h, e1, η', w', _, .one (st_done ho hw hd h1), h3.get (fun _ => rfl) (fun _ => rfl), Eff.grow ha hid h4, (ht.mono h3.le).put (undef_conc _) e1⟩
        | ways l =>
          obtain ⟨p, hp, η', x, w', h1, h2, h3, h4⟩ := hs
          obtain ⟨o', ho1, ho2⟩ := bindL_mem h p hp
          obtain ⟨t', e1, e2⟩ := putK_some ho1
          exact ⟨t', _, o', p.1, e2, ho2, e1, η', w', _, .one (st_value ho hw hd h1), h3.get (fun _ => rfl) (fun _ => rfl), Eff.grow ha hid h4, (ht.mono h3.le).put h2 e1⟩
        | enter f args => cases h
        | round l args => cases h
    · rename_i hg
      have hw := wantedG_sound ht hX hg
      obtain ⟨t', e1, e2⟩ := putK_some h
      exact ⟨t', _, outs, undefV, e2, fun _ h => h, e1, η, w, _, .one (st_unwanted ho hw), (Trans.refl hr).get (fun _ => rfl) (fun _ => rfl), Eff.grow ha hid (Grow.same η (nextTo G id)), ht.put (undef_conc _) e1⟩
end

section
variable {ops : Array Oper} {base n S A : Nat} {pend : List (Oper × Nat)} {D : Made} {L : Reads} {tmps : Tr AV} {t : Array Value}
variable {fn : FuncId} {rd : Option Nat} {ds : List Deferred} {k : List Item} {cs : List Frame} {rest : List Nat} {self : Self}

theorem still_mem {m : Nat} {d : Nat × Nat × AObj} : d ∈ still m D ↔ d ∈ D ∧ m.testBit d.1 = false := by
  unfold still
  rw [List.mem_filter]
  cases hq : Nat.testBit m d.1 <;> simp [notB]
theorem later_mem {m : Nat} {p : Oper × Nat} : p ∈ later m L ↔ p ∈ L ∧ m.testBit p.2 = false := by
  unfold later
  rw [List.mem_filter]
  cases hq : Nat.testBit m p.2 <;> simp [notB]
theorem reread_spec {H' : Heap} {o : Oper} {i : Nat} (h : reread C tmps H' (o, i) = true) : ∃ v H2, opStep C H' tmps o.op = some (.val v H2) ∧ Has tmps o.dst v := by
  unfold reread at h
  split at h
  · rename_i v H2 hq
    refine ⟨v, H2, hq, fun d hd => ?_⟩
    simp only at h
    rw [hd] at h
    simp only at h
    split at h
    · rename_i v' hv'
      rw [hv', eqAV_eq _ _ h]
    · cases h
  · cases h

/-- the machine takes one that is not ahead -/
theorem DS.cand {β : Type} {K : Knt β} {outs : List β} (hC : ProgOK P C O) (hself : SelfOK P O self) (s : DS P C O E ops base n η S A pend D L tmps H w t) {i : Nat} {o : Oper} (ho : ops[i]? = some o) (hA : A.testBit i = false) (hS : S.testBit i = false) (hr : readyIn S o = true)
    (h : drawOp C self E n ops.toList (commit (mask ops i) H D) tmps (base + i) o (rereadK C (later (mask ops i) L) K) = some outs) :
    ∃ tmps' H' outs' η' w' t', K tmps' H' = some outs' ∧ (∀ q ∈ outs', q ∈ outs) ∧ Steps P (mR kd fn rd ds k cs ops (i :: rest) t w) (mR kd fn rd ds k cs ops rest t' w') ∧
      Trans P E η (commit S H D) w η' (commit (S ||| 2 ^ i) H' (still (mask ops i) D)) w' ∧ Below base η η' (commit S H D) (commit (S ||| 2 ^ i) H' (still (mask ops i) D)) ∧
      DS P C O E ops base n η' (S ||| 2 ^ i) (A ||| 2 ^ i) (dropI i pend) (still (mask ops i) D) (later (mask ops i) L) tmps' H' w' t' := by
  obtain ⟨m, hm⟩ : ∃ m, m = mask ops i := ⟨_, rfl⟩
  rw [← hm] at h ⊢
  have hmS : ∀ j, m.testBit j = true → S.testBit j = true := fun j hj => s.closed.ready ho hr (by rw [← hm]; exact hj)
  have hlt : i < ops.size := (Array.getElem?_eq_some_iff.1 ho).1
  have hle := s.le
  have hrA : readyIn A o = true := readyIn_iff.2 fun e he hb => s.sub _ (readyIn_iff.1 hr e he hb)
  -- memory as the operation sees it
  have hKG : ∀ id o', (commit m H D).get id = some o' → (commit S H D).get id = some o' := fun id o' h => commit_up s.dist s.dform hmS h
  have hKr : HRel P η E (commit m H D) w := s.rel.weak ⟨by rw [commit_next, commit_next]; exact Nat.le_refl _, fun id o' h => ⟨o', hKG id o' h, WeakO.refl _⟩⟩
  have hKn : ∀ id, (∀ d ∈ D, m.testBit d.1 = true → d.2.1 ≠ id) → H.get id = none → (commit m H D).get id = none := fun id h1 h2 => by
    cases hq : (commit m H D).get id with
    | none => rfl
    | some o' =>
      rcases (commit_get s.dist id o').1 hq with ⟨d, g1, g2, g3, _⟩ | ⟨_, g⟩
      · exact absurd g3 (h1 d g1 g2)
      · rw [h2] at g; cases g
  have hKa : Above η (commit m H D) := fun id hid => by
    rw [commit_next] at hid
    have f := s.above id hid
    exact ⟨hKn id (fun d hd _ e => by have := (s.dform d hd).1; have := s.bnd _ (s.dform d hd).2.1; omega) f.get, f.ρ, f.κ, f.σ⟩
  have hKf : ∀ j, j < ops.size → S.testBit j = false → (commit m H D).get (base + j) = none := fun j hj hSj =>
    hKn _ (fun d hd hb e => by
      have h1 := (s.dform d hd).1
      have : d.1 = j := by omega
      rw [this] at hb; rw [hmS j hb] at hSj; cases hSj) (s.fresh j hj hSj).get
  have f0 := s.fresh i hlt hS
  obtain ⟨tmps', H', outs', v, h1, h2, h3, η', w', t', h4, h5, h6, h7⟩ := drawOp_sound (fn := fn) (rd := rd) (ds := ds) (k := k) (cs := cs) (rest := rest) hC hself h hKr hKa (by rw [commit_next]; omega) ⟨hKf i hlt hS, f0.ρ, f0.κ, f0.σ⟩
    (fun j hj => s.eb j (by rw [commit_next] at hj; exact hj)) s.st (s.st _ _ _ _ _ _ _ s.inv ((Trans.refl s.rel).weak ⟨by rw [commit_next, commit_next]; exact Nat.le_refl _, fun id o' h => ⟨o', hKG id o' h, WeakO.refl _⟩⟩)) s.tr (s.uses ho hS hr) ho
  unfold rereadK at h1
  cases hall : (later m L).all (reread C tmps' H') with
  | false => rw [hall] at h1; cases h1
  | true =>
    rw [hall] at h1; simp only [cond_true] at h1
    have hnx := h6.next
    rw [commit_next] at hnx
    -- what lies aside
    have hside : ∀ d ∈ still m D, (commit m H D).get d.2.1 = none := fun d hd => by
      obtain ⟨g1, g2⟩ := still_mem.1 hd
      refine hKn _ (fun d' hd' hb e => ?_) (s.dform d g1).2.2
      have := s.dist d' hd' d g1 e
      subst this; rw [g2] at hb; cases hb
    have hdist' : Dist (still m D) := fun d hd d' hd' => s.dist d (still_mem.1 hd).1 d' (still_mem.1 hd').1
    have hdf : ∀ d ∈ still m D, d.2.1 = base + d.1 ∧ (A ||| 2 ^ i).testBit d.1 = true ∧ H'.get d.2.1 = none := fun d hd => by
      have g := s.dform d (still_mem.1 hd).1
      have hlt' := s.bnd _ g.2.1
      refine ⟨g.1, tb_old g.2.1, h6.objs _ (by rw [commit_next]; omega) (fun e => s.noD hA d (still_mem.1 hd).1 (by omega)) (hside d hd)⟩
    have tr : Trans P E η (commit S H D) w η' (commit (S ||| 2 ^ i) H' (still m D)) w' := glue s.rel hKG h5 fun id o' hg => by
      rcases (commit_get hdist' id o').1 hg with ⟨d, g1, g2, g3, g4⟩ | ⟨_, g⟩
      · obtain ⟨k1, k2⟩ := still_mem.1 g1
        have hSd : S.testBit d.1 = true := (tb_true g2).resolve_right (s.noD hA d k1)
        exact .inr ⟨(commit_get s.dist id o').2 (.inl ⟨d, k1, hSd, g3, g4⟩), by rw [← g3]; exact hside d g1⟩
      · exact .inl g
    obtain ⟨p1, p2⟩ := putO_get h3
    refine ⟨tmps', H', outs', η', w', t', h1, h2, h4, tr, ?_, ?_⟩
    · refine ⟨h6.only.mono fun j hj => ?_, fun id hid hn => ?_, by rw [commit_next, commit_next]; exact hnx⟩
      · rcases hj with hj | hj
        · rw [commit_next] at hj; omega
        · omega
      · rw [commit_base hdist' hdf hid]
        rw [commit_base s.dist s.dform hid] at hn
        refine h6.objs id (by rw [commit_next]; omega) (by omega) ?_
        rw [commit_base s.dist s.dform hid]; exact hn
    · refine ⟨s.pend' i, fun j hj => ?_, fun j hj => ?_, s.closed.add ho hr, s.ranked.add ho hA hrA, tr.rel, hdist', hdf, fun j hj hSj => ?_, h6.above, by omega, fun j hj => s.eb j (by omega), ⟨h7.size, fun j u hj hu => ?_⟩, fun j o' ho' hAj hSj => ?_, s.st, s.st _ _ _ _ _ _ _ s.inv tr⟩
      · rcases tb_true hj with h | h
        · exact tb_old (s.sub j h)
        · rw [h]; exact tb_new _ _
      · rcases tb_true hj with h | h
        · exact s.bnd j h
        · rw [h]; exact hlt
      · obtain ⟨g1, g2⟩ := tb_false hSj
        have f := s.fresh j hj g1
        have hne : ¬ ((commit m H D).next ≤ base + j ∨ base + j = base + i) := by rw [commit_next]; omega
        exact ⟨h6.objs _ (by rw [commit_next]; omega) (by omega) (hKf j hj g1), by rw [h6.only.ρ _ hne]; exact f.ρ, by rw [h6.only.κ _ hne]; exact f.κ, by rw [h6.only.σ _ hne]; exact f.σ⟩
      · refine h7.get j u (fun ⟨i', o', q1, q2, q3, q4⟩ => hj ⟨i', o', q1, tb_old q2, ?_, q4⟩) hu
        rw [tb_ne]; · exact q3
        · intro e; rw [e, hA] at q2; cases q2
      · obtain ⟨g1, g2⟩ := tb_false hSj
        have hAj' : A.testBit j = true := (tb_true hAj).resolve_right g2
        have l := s.lag j o' ho' hAj' g1
        refine ⟨l.own, fun d hd k' ok hok hSk hne => l.one d hd k' ok hok (tb_false hSk).1 hne, fun p op hop hAp => l.two p op hop (tb_false hAp).1, ?_⟩
        obtain ⟨tmps0, q1, q2⟩ := l.work
        have hag : ∀ u ∈ useTmps ops.toList o', tmps0.get u = tmps'.get u := fun u hu => by
          rw [q1 u hu, p2 u]; exact fun e2 => l.two i o ho hA u e2 hu
        have hhas : ∀ v, Has tmps o'.dst v → Has tmps' o'.dst v := fun v hv d hd => by
          rw [p2 d]; · exact hv d hd
          · exact fun e2 => (l.one d hd i o ho hS (Ne.symm g2)).1 e2
        have hmj : m.testBit j = false := by
          cases hq : m.testBit j with
          | false => rfl
          | true => rw [hmS j hq] at g1; cases g1
        have hnot : (∀ ob, (j, base + j, ob) ∉ D) → ∀ ob, (j, base + j, ob) ∉ still m D := fun h ob hm => h ob (still_mem.1 hm).1
        cases q2 with
        | off h1 h2 h3 => exact ⟨tmps0, hag, .off h1 (hhas _ h2) (hnot h3)⟩
        | free h1 h2 h3 h4 => exact ⟨tmps0, hag, .free h1 (hhas _ h2) h3 (hnot h4)⟩
        | made h1 h2 h3 h4 h5 => exact ⟨tmps0, hag, .made h1 (hhas _ h2) h3 h4 (still_mem.2 ⟨h5, hmj⟩)⟩
        | read h1 h2 h3 h4 h5 h6 =>
          have hin : (o', j) ∈ later m L := later_mem.2 ⟨h4, hmj⟩
          obtain ⟨v2, H2, r1, r2⟩ := reread_spec (List.all_eq_true.1 hall _ hin)
          exact ⟨tmps', fun _ _ => rfl, .read (by rw [← wantedG_congr hag]; exact h1) r2 h3 hin r1 (hnot h6)⟩

theorem commit_above (s : DS P C O E ops base n η S A pend D L tmps H w t) (m : Nat) : Above η (commit m H D) := fun id hid => by
  rw [commit_next] at hid
  have f := s.above id hid
  refine ⟨?_, f.ρ, f.κ, f.σ⟩
  cases hq : (commit m H D).get id with
  | none => rfl
  | some o' =>
    rcases (commit_get s.dist id o').1 hq with ⟨d, g1, g2, g3, _⟩ | ⟨_, g⟩
    · have := (s.dform d g1).1; have := s.bnd _ (s.dform d g1).2.1; have := s.le; omega
    · rw [f.get] at g; cases g
/-- where the order has come to its end, all is done that is ahead -/
theorem DS.done (s : DS P C O E ops base n η S A pend D L tmps H w t) (hl : Lin ops S []) : S = A := by
  cases hl with
  | nil hn =>
    apply Nat.eq_of_testBit_eq
    intro i
    cases hS : S.testBit i with
    | true => rw [s.sub i hS]
    | false =>
      cases hA : A.testBit i with
      | false => rfl
      | true =>
        obtain ⟨j, o, h1, h2, h3⟩ := s.ranked.first s.bnd hA hS
        rw [hn j o h1 h2] at h3; cases h3

theorem drawGo_sound (hC : ProgOK P C O) (hself : SelfOK P O self) : ∀ (kf A : Nat) (pend : List (Oper × Nat)) (D : Made) (L : Reads) (tmps : Tr AV) (H : Heap) (outs : List (Tr AV × Heap)), drawGo C self E n base ops.toList (masks ops.toList []) kf A pend D L tmps H = some outs →
    ∀ (η : Env) (S : Nat) (w : World) (t : Array Value) (l : List Nat), DS P C O E ops base n η S A pend D L tmps H w t → Lin ops S l →
    ∃ q ∈ outs, ∃ η' w' t', Steps P (mR kd fn rd ds k cs ops l t w) (mR kd fn rd ds k cs ops [] t' w') ∧ Trans P E η (commit S H D) w η' q.2 w' ∧ Above η' q.2 ∧ Below base η η' (commit S H D) q.2 ∧ TRel η' q.1 n t'
  | 0, A, pend, D, L, tmps, H, outs, h => by simp [drawGo] at h
  | kf + 1, A, pend, D, L, tmps, H, outs, h => by
    intro η S w t l s hl
    simp only [drawGo] at h
    split at h
    · simp only [Option.some.injEq] at h; subst h
      obtain ⟨η1, S1, w1, t1, l1, a1, a2, a3, a4, a5, a6⟩ := s.drain (fn := fn) (rd := rd) (ds := ds) (k := k) (cs := cs) hC hl
      cases l1 with
      | cons i r =>
        cases a5 with
        | cons ho hS hr _ =>
          have := (a4.pend _ i).2 ⟨ho, a6 i r rfl⟩
          cases this
      | nil =>
        have := a4.done a5
        subst this
        refine ⟨_, List.mem_singleton.2 rfl, η1, w1, t1, a1, a2, commit_above a4 S1, a3, a4.tr.toR fun j hj => ?_⟩
        obtain ⟨i, o, _, h2, h3, _⟩ := hj
        rw [h2] at h3; cases h3
    · split at h
      · rename_i o i hq
        obtain ⟨g1, g2, g3⟩ := findSilent_spec hq
        obtain ⟨D', L', tmps', b1, b2, b3⟩ := s.silent g1 g2 g3 h
        obtain ⟨q, c1, η', w', t', c2, c3, c4, c5, c6⟩ := drawGo_sound hC hself kf _ _ _ _ _ _ _ b1 η S w t l b3 hl
        rw [b2] at c3 c5
        exact ⟨q, c1, η', w', t', c2, c3, c4, c5, c6⟩
      · split at h
        · cases h
        · rename_i hcands
          obtain ⟨η1, S1, w1, t1, l1, a1, a2, a3, a4, a5, a6⟩ := s.drain (fn := fn) (rd := rd) (ds := ds) (k := k) (cs := cs) hC hl
          cases l1 with
          | nil =>
            have := a4.done a5
            subst this
            exfalso
            cases hcl : (pend.filter fun p => readyIn S1 p.1) with
            | nil => exact hcands hcl
            | cons p r =>
              have hp : p ∈ pend.filter fun p => readyIn S1 p.1 := by rw [hcl]; exact List.mem_cons_self
              obtain ⟨k1, k2⟩ := List.mem_filter.1 hp
              obtain ⟨k3, k4⟩ := (a4.pend p.1 p.2).1 k1
              cases a5 with
              | nil hn => rw [hn p.2 p.1 k3 k4] at k2; cases k2
          | cons i r =>
            have hAi := a6 i r rfl
            cases a5 with
            | cons ho hS hr hl' =>
              rename_i o
              have hrA : readyIn A o = true := readyIn_iff.2 fun e he hb => a4.sub _ (readyIn_iff.1 hr e he hb)
              obtain ⟨o', d1, d2⟩ := bindL_mem h (o, i) (List.mem_filter.2 ⟨(a4.pend o i).2 ⟨ho, hAi⟩, hrA⟩)
              obtain ⟨tmps', H', outs', η2, w2, t2, b1, b2, b3, b4, b5, b6⟩ := a4.cand (fn := fn) (rd := rd) (ds := ds) (k := k) (cs := cs) (rest := r) hC hself ho hAi hS hr d1
              obtain ⟨q, c1, η', w', t', c2, c3, c4, c5, c6⟩ := drawGo_sound hC hself kf _ _ _ _ _ _ _ b1 η2 _ w2 t2 r b6 hl'
              exact ⟨q, d2 q (b2 q c1), η', w', t', (a1.trans b3).trans c2, (a2.trans b4).trans c3, c4, (a3.trans b5 (Nat.le_refl _)).trans c5 (Nat.le_refl _), c6⟩
end
end Go.VmK
