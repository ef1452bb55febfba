/-
  A machine that runs the model with abstract blocks, and lemmas on it: whatever it answers of a call is what the model does (ProgOK, Base: the conditions).
-/
import Derived.Test.YthcnhdiipbpdgaaGreatDoorR5h
namespace Go.VmK
variable {P : Program} {C : Ctx} {O : Env → Heap → World → Prop} {E : List LoopInfo} {η : Env} {H : Heap} {w : World}

theorem numb_mem : ∀ {l : List Oper} {j : Nat} {o : Oper} {i : Nat}, (o, i) ∈ numb l j ↔ j ≤ i ∧ l[i - j]? = some o
  | [], j, o, i => by simp [numb]
  | x :: r, j, o, i => by
    simp only [numb, List.mem_cons, Prod.mk.injEq]
    rw [numb_mem]
    constructor
    · rintro (⟨rfl, rfl⟩ | ⟨h1, h2⟩)
      · simp
      · refine ⟨by omega, ?_⟩
        have : i - j = (i - (j + 1)) + 1 := by omega
        rw [this, List.getElem?_cons_succ]; exact h2
    · rintro ⟨h1, h2⟩
      by_cases e : i = j
      · subst e; simp at h2; exact .inl ⟨h2.symm, rfl⟩
      · refine .inr ⟨by omega, ?_⟩
        have : i - j = (i - (j + 1)) + 1 := by omega
        rw [this, List.getElem?_cons_succ] at h2; exact h2
theorem Trans.toDrew (hr : HRel P η E H w) : Trans P E η H w η H w.drew := ⟨Env.le.refl _, hr.drew, fun _ _ _ => rfl, fun _ _ x => x, ⟨rfl, rfl, Nat.le_refl _⟩⟩
theorem DS.start {ops : Array Oper} {n : Nat} {tmps : Tr AV} {t : Array Value} (b : Base P O E η H w) (ht : TRel η tmps n t) :
    DS P C O E ops H.next n η 0 0 (numb ops.toList 0) [] [] tmps (nextTo H (H.next + ops.toList.length)) w t := by
  refine ⟨fun o i => ?_, fun i h => by simp at h, fun i h => by simp at h, Closed.zero _, Ranked.zero _, b.rel.get fun _ => rfl, fun d h => by simp at h, fun d h => by simp at h, fun i hi _ => ?_, fun id hid => ?_, ?_, fun id hid => ?_, ?_, fun i o _ h => by simp at h, b.st, b.st _ _ _ _ _ _ _ b.inv ((Trans.refl b.rel).get (fun _ => rfl) (fun _ => rfl))⟩
  · rw [numb_mem]; simp
  · have f := b.above (H.next + i) (by omega); exact ⟨f.get, f.ρ, f.κ, f.σ⟩
  · have hid : H.next + ops.toList.length ≤ id := hid
    have f := b.above id (by omega); exact ⟨f.get, f.ρ, f.κ, f.σ⟩
  · show H.next + ops.size ≤ H.next + ops.toList.length
    simp
  · have hid : H.next + ops.toList.length ≤ id := hid
    exact b.eb id (by omega)
  · exact ⟨ht.size, fun j v _ hv => ht.get j v hv⟩

section
variable {self : Self} {I : FInfo} {rd : Option Nat} {ds : List Deferred} {todo : List AItem} {k : List Item} {cs : List Frame} {tmps : Tr AV} {t : Array Value} {outs : List (AV × Heap)}

/-- what stands still of a frame -/
structure FOK (η : Env) (I : FInfo) (rd : Option Nat) (ds : List Deferred) : Prop where
  rd : RdR η I.round rd
  ds : DR η I.defers ds
theorem FOK.mono {η' : Env} (h : η.le η') (g : FOK η I rd ds) : FOK η' I rd ds := ⟨g.rd.mono h, g.ds.mono h⟩
/-- the frame goes on -/
theorem go_on (hself : SelfOK P O self) {m : Machine} {η1 : Env} {H1 : Heap} {w1 : World} {tm1 : Tr AV} {t1 : Array Value} (h : self E I todo tm1 H1 = some outs) (b : Base P O E η1 H1 w1) (hf : FOK η1 I rd ds) (ht : TRel η1 tm1 I.n t1) (hk : TodoR η1 todo k)
    (hs : Steps P m (lone (fm I.fn rd ds t1 k) cs w1)) (tr : Trans P E η H w η1 H1 w1) (bl : Below H.next η η1 H H1) : ∃ p ∈ outs, Res P E η H w I.fn rd cs m p := by
  obtain ⟨p, hp, r⟩ := hself E I todo tm1 H1 outs h η1 w1 rd ds t1 k cs b hf.rd hf.ds ht hk
  exact ⟨p, hp, r.of hs tr bl⟩
theorem go_same (hself : SelfOK P O self) {m : Machine} (h : self E I todo tmps H = some outs) (b : Base P O E η H w) (hf : FOK η I rd ds) (ht : TRel η tmps I.n t) (hk : TodoR η todo k)
    (hs : Go.step P m = .next (lone (fm I.fn rd ds t k) cs w)) : ∃ p ∈ outs, Res P E η H w I.fn rd cs m p :=
  go_on hself h b hf ht hk (.one hs) (Trans.refl b.rel) (Below.refl _ _ _)
theorem res_sub {outs' : List (AV × Heap)} {m : Machine} (hsub : ∀ q ∈ outs', q ∈ outs) (h : ∃ p ∈ outs', Res P E η H w I.fn rd cs m p) : ∃ p ∈ outs, Res P E η H w I.fn rd cs m p :=
  let ⟨p, hp, r⟩ := h; ⟨p, hsub p hp, r⟩

theorem region_sound (hC : ProgOK P C O) (hmix : P.follows .mixedOrders = true) (hself : SelfOK P O self) {id : Nat} {ops : Array Oper} {draw : Bool} (h : doRegion C self E I todo tmps H ops.toList draw = some outs) (b : Base P O E η H w) (hf : FOK η I rd ds)
    (ht : TRel η tmps I.n t) (hk : TodoR η todo k) : ∃ p ∈ outs, Res P E η H w I.fn rd cs (lone (fm I.fn rd ds t (.code (.region id ops draw) :: k)) cs w) p := by
  cases draw with
  | false =>
    simp only [doRegion] at h
    obtain ⟨tmps', H', outs', h1, h2, _, η', w', t', s1, s2, s3, s4, s5⟩ := regGo_sound (fn := I.fn) (rd := rd) (ds := ds) (k := k) (cs := cs) (ops := ops) hC hself ops.toList 0 tmps H outs h rfl η w t b ht
    refine res_sub h2 (go_on hself h1 (b.step s2 s3 s4.next) (hf.mono s2.le) (s5.toR fun _ x => x) (hk.mono s2.le) ?_ s2 s4)
    refine .head st_region (Steps.trans ?_ (.one (st_regionEnd (ops := ops))))
    have e : List.range ops.size = List.range' 0 ops.toList.length := by rw [List.range_eq_range']; simp
    rw [e]; exact s1
  | true =>
    simp only [doRegion] at h
    unfold behindDraw at h
    split at h
    · cases h
    · rename_i l hl
      split at h
      · rename_i tj Hj hj
        have b' : Base P O E η H w.drew := ⟨b.rel.drew, b.above, b.eb, b.st, b.st _ _ _ _ _ _ _ b.inv (Trans.toDrew b.rel)⟩
        have ds0 := DS.start (C := C) (ops := ops) b' ht
        have hlin := lin_all ops (w.tape w.drawn (.order I.fn id))
        obtain ⟨q, hq, η', w', t', c2, c3, c4, c5, c6⟩ := drawGo_sound (fn := I.fn) (rd := rd) (ds := ds) (k := k) (cs := cs) hC hself _ _ _ _ _ _ _ _ hl η 0 w.drew t _ ds0 hlin
        obtain ⟨j1, j2⟩ := joinRegs_sound hj q hq
        have tr : Trans P E η H w η' Hj w' := ((c3.get (H1 := H) (fun _ => rfl) (fun _ => rfl)).weak j2).drew
        have bl : Below H.next η η' H Hj := by
          have : Below H.next η η' H q.2 := ⟨c5.only, fun id hid hn => c5.objs id hid hn, Nat.le_trans (Nat.le_add_right _ _) c5.next⟩
          exact this.weak j2
        refine go_on hself h ⟨tr.rel, c4.weak j2, fun id hid => b.eb id (Nat.le_trans bl.next hid), b.st, b.st _ _ _ _ _ _ _ b.inv tr⟩ (hf.mono tr.le) ⟨c6.size, fun j v hv => c6.get j v (j1 j v hv)⟩ (hk.mono tr.le) ?_ tr bl
        refine .head st_draw (Steps.trans ?_ (.one (st_regionEnd (ops := ops))))
        have e : Region.schedule (P.follows .mixedOrders) ops (w.tape w.drawn (.order I.fn id)) = Region.linearise .any ops (w.tape w.drawn (.order I.fn id)) := by
          unfold Region.schedule; rw [hmix]; rfl
        rw [e]; exact c2
      · cases h

/-! jumps -/
theorem exit_some {id : Nat} : ∀ {todo todo' : List AItem} {k : List Item}, TodoR η todo k → exitTo id todo = some todo' → ∃ k', Go.exitTo id k = some k' ∧ TodoR η todo' k'
  | [], _, [], _, h => by simp [exitTo] at h
  | [], _, _ :: _, g, _ => g.elim
  | _ :: _, _, [], g, _ => g.elim
  | a :: r, todo', x :: k, ⟨g1, g2⟩, h => by
    cases a <;> cases x <;> try exact g1.elim
    case inBlock.inBlock i j =>
      have : j = i := g1
      subst this
      simp only [exitTo] at h
      simp only [Go.exitTo]
      cases hb : Nat.beq j id with
      | true =>
        rw [hb] at h; simp at h; subst h
        exact ⟨k, by simp [beq_eq hb], g2⟩
      | false =>
        rw [hb] at h
        have hne : j ≠ id := fun e => by subst e; simp at hb
        obtain ⟨k', h1, h2⟩ := exit_some g2 h
        exact ⟨k', by simp [hne, h1], h2⟩
    all_goals (simp only [exitTo] at h; simp only [Go.exitTo]; exact exit_some g2 h)
theorem exit_none {id : Nat} : ∀ {todo : List AItem} {k : List Item}, TodoR η todo k → exitTo id todo = none → Go.exitTo id k = none
  | [], [], _, h => rfl
  | [], _ :: _, g, _ => g.elim
  | _ :: _, [], g, _ => g.elim
  | a :: r, x :: k, ⟨g1, g2⟩, h => by
    cases a <;> cases x <;> try exact g1.elim
    case inBlock.inBlock i j =>
      have : j = i := g1
      subst this
      simp only [exitTo] at h
      simp only [Go.exitTo]
      cases hb : Nat.beq j id with
      | true => rw [hb] at h; simp at h
      | false =>
        rw [hb] at h
        have hne : j ≠ id := fun e => by subst e; simp at hb
        simp [hne, exit_none g2 h]
    all_goals (simp only [exitTo] at h; simp only [Go.exitTo]; exact exit_none g2 h)
theorem goto_some {l : Nat} : ∀ {todo todo' : List AItem} {k : List Item}, TodoR η todo k → gotoIn l todo = some todo' → ∃ k', Go.gotoIn l k = some k' ∧ TodoR η todo' k'
  | [], _, [], _, h => by simp [gotoIn] at h
  | [], _, _ :: _, g, _ => g.elim
  | _ :: _, _, [], g, _ => g.elim
  | a :: r, todo', x :: k, ⟨g1, g2⟩, h => by
    cases a <;> cases x <;> try exact g1.elim
    case inScope.inScope c d =>
      have : d = c := g1
      subst this
      simp only [gotoIn] at h
      simp only [Go.gotoIn]
      cases hb : Go.findLabel d l with
      | some rest =>
        rw [hb] at h; simp at h; subst h
        exact ⟨_, rfl, rfl, rfl, g2⟩
      | none =>
        rw [hb] at h
        exact goto_some g2 h
    all_goals (simp only [gotoIn] at h; simp only [Go.gotoIn]; exact goto_some g2 h)
theorem goto_none {l : Nat} : ∀ {todo : List AItem} {k : List Item}, TodoR η todo k → gotoIn l todo = none → Go.gotoIn l k = none
  | [], [], _, h => rfl
  | [], _ :: _, g, _ => g.elim
  | _ :: _, [], g, _ => g.elim
  | a :: r, x :: k, ⟨g1, g2⟩, h => by
    cases a <;> cases x <;> try exact g1.elim
    case inScope.inScope c d =>
      have : d = c := g1
      subst this
      simp only [gotoIn] at h
      simp only [Go.gotoIn]
      cases hb : Go.findLabel d l with
      | some rest => rw [hb] at h; simp at h
      | none =>
        rw [hb] at h
        exact goto_none g2 h
    all_goals (simp only [gotoIn] at h; simp only [Go.gotoIn]; exact goto_none g2 h)
end
end Go.VmK
