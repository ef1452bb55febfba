/-
  A machine that runs the model with abstract blocks, and lemmas on it: whatever it answers of a call is what the model does (ProgOK, Base: the conditions).
-/
import Derived.Test.YtbanldnjpnfgkaaGreatDoorV5
import Derived.RowKit3
namespace Go.VmK
variable {P : Program} {C : Ctx} {O : Env → Heap → World → Prop} {E : List LoopInfo} {η : Env} {H : Heap} {w : World}
variable {kd : CallKind}

theorem numb_mem : ∀ {l : List Oper} {j : Nat} {o : Oper} {i : Nat}, (o, i) ∈ numb l j ↔ j ≤ i ∧ l[i - j]? = some o
  | [], j, o, i => by simp [numb]
  | x :: r, j, o, i => by
    simp only [numb, List.mem_cons, Prod.mk.injEq]
    rw [numb_mem]
    constructor
    · rintro (⟨rfl, rfl⟩ | ⟨h1, h2⟩)
      · simp
      · refine ⟨by omega, ?_⟩
        have : i - j = (i - (j + 1)) + 1 := by omega
        rw [this, List.getElem?_cons_succ]; exact h2
    · rintro ⟨h1, h2⟩
      by_cases e : i = j
      · subst e; simp at h2; exact .inl ⟨h2.symm, rfl⟩
      · refine .inr ⟨by omega, ?_⟩
        have : i - j = (i - (j + 1)) + 1 := by omega
        rw [this, List.getElem?_cons_succ] at h2; exact h2
theorem Trans.toDrew (hr : HRel P η E H w) : Trans P E η H w η H w.drew := ⟨Env.le.refl _, hr.drew, fun _ _ _ => rfl, fun _ _ x => x, ⟨rfl, rfl, Nat.le_refl _⟩⟩
theorem DS.start {ops : Array Oper} {n : Nat} {tmps : Tr AV} {t : Array Value} (b : Base P O E η H w) (ht : TRel η tmps n t) :
    DS P C O E ops H.next n η 0 0 (numb ops.toList 0) [] [] tmps (nextTo H (H.next + ops.toList.length)) w t := by
  refine ⟨fun o i => ?_, fun i h => by simp at h, fun i h => by simp at h, Closed.zero _, Ranked.zero _, b.rel.get fun _ => rfl, fun d h => by simp at h, fun d h => by simp at h, fun i hi _ => ?_, fun id hid => ?_, ?_, fun id hid => ?_, ?_, fun i o _ h => by simp at h, b.st, b.st _ _ _ _ _ _ _ b.inv ((Trans.refl b.rel).get (fun _ => rfl) (fun _ => rfl))⟩
  · rw [numb_mem]; simp
  · have f := b.above (H.next + i) (by omega); exact ⟨f.get, f.ρ, f.κ, f.σ⟩
  · have hid : H.next + ops.toList.length ≤ id := hid
    have f := b.above id (by omega); exact ⟨f.get, f.ρ, f.κ, f.σ⟩
  · show H.next + ops.size ≤ H.next + ops.toList.length
    simp
  · have hid : H.next + ops.toList.length ≤ id := hid
    exact b.eb id (by omega)
  · exact ⟨ht.size, fun j v _ hv => ht.get j v hv⟩

section
variable {self : Self} {I : FInfo} {rd : Option Nat} {ds : List Deferred} {todo : List AItem} {k : List Item} {cs : List Frame} {tmps : Tr AV} {t : Array Value} {outs : List (AV × Heap)}

/-- what stands still of a frame -/
structure FOK (P : Program) (η : Env) (I : FInfo) (rd : Option Nat) (ds : List Deferred) : Prop where
  rd : RdR η I.round rd
  ds : DR P η I.defers I.later ds
theorem FOK.mono {η' : Env} (h : η.le η') (g : FOK P η I rd ds) : FOK P η' I rd ds := ⟨g.rd.mono h, g.ds.mono h⟩
/-- the frame goes on -/
theorem go_on (hself : SelfOK P O self) {m : Machine} {η1 : Env} {H1 : Heap} {w1 : World} {tm1 : Tr AV} {t1 : Array Value} (h : self E I todo tm1 H1 = some outs) (b : Base P O E η1 H1 w1) (hf : FOK P η1 I rd ds) (ht : TRel η1 tm1 I.n t1) (hk : TodoR η1 todo k)
    (hs : Steps P m (lone (fm kd I.fn rd ds t1 k) cs w1)) (tr : Trans P E η H w η1 H1 w1) (bl : Below H.next η η1 H H1) : ∃ p ∈ outs, Res kd P E η H w I.fn rd cs m p := by
  obtain ⟨p, hp, r⟩ := hself E I todo tm1 H1 outs h η1 w1 rd ds t1 k cs b hf.rd hf.ds ht hk
  exact ⟨p, hp, r.of hs tr bl⟩
theorem go_same (hself : SelfOK P O self) {m : Machine} (h : self E I todo tmps H = some outs) (b : Base P O E η H w) (hf : FOK P η I rd ds) (ht : TRel η tmps I.n t) (hk : TodoR η todo k)
    (hs : Go.step P m = .next (lone (fm kd I.fn rd ds t k) cs w)) : ∃ p ∈ outs, Res kd P E η H w I.fn rd cs m p :=
  go_on (kd := kd) hself h b hf ht hk (.one hs) (Trans.refl b.rel) (Below.refl _ _ _)
theorem res_sub {outs' : List (AV × Heap)} {m : Machine} (hsub : ∀ q ∈ outs', q ∈ outs) (h : ∃ p ∈ outs', Res kd P E η H w I.fn rd cs m p) : ∃ p ∈ outs, Res kd P E η H w I.fn rd cs m p :=
  let ⟨p, hp, r⟩ := h; ⟨p, hsub p hp, r⟩

theorem lastDefer_some : ∀ {l pre : List Oper} {c : Call}, lastDefer l = some (pre, c) → ∃ o, l = pre ++ [o] ∧ o.op = .defer c ∧ o.guard = none ∧ o.dst = none
  | [], _, _, h => by cases h
  | [o], pre, c, h => by
    simp only [lastDefer] at h
    split at h
    · rename_i c' h1 h2 h3
      cases h
      exact ⟨o, rfl, h1, h2, h3⟩
    · cases h
  | o :: o' :: r, pre, c, h => by
    simp only [lastDefer] at h
    split at h
    · rename_i l c' hl
      cases h
      obtain ⟨x, h1, h2, h3, h4⟩ := lastDefer_some hl
      exact ⟨x, by rw [h1]; rfl, h2, h3, h4⟩
    · cases h
/-- an operation that defers a call -/
theorem st_defer {fn : FuncId} {ops : Array Oper} {i : Nat} {rest : List Nat} {o : Oper} {c : Call} {D : Deferred} (ho : ops[i]? = some o) (hop : o.op = .defer c) (hg : o.guard = none) (hd : o.dst = none)
    (hr : (resolve (evT t) c o.type).run P w = .ok D w) :
    Go.step P (lone (fm kd fn none ds t (.inRegion ops (i :: rest) :: k)) cs w) = .next (lone (fm kd fn none (D :: ds) t (.inRegion ops rest :: k)) cs w) := by
  have hw : Region.wanted o (yielded ops t) = true := by simp [Region.wanted, hg]
  have he : (execOp (evT t) o).run P w = .ok (.defer D) w := by
    unfold execOp; rw [hop]; simp [hr]
  have hfin : ({ fm kd fn none ds t (.inRegion ops (i :: rest) :: k) with defers := D :: ds } : Frame).finish undef = fm kd fn none (D :: ds) t (.inRegion ops rest :: k) := by
    have e := fm_finish (kd := kd) (fn := fn) (rd := none) (ds := D :: ds) (t := t) (k := k) ops i rest undef
    rw [ho] at e
    simp only [Option.bind_some, hd, putA] at e
    exact e
  have hgo : stepG P true { frame := fm kd fn none ds t (.inRegion ops (i :: rest) :: k), callers := cs, status := .running, dying := none } w =
      stepG.apply P true (fm kd fn none ds t (.inRegion ops (i :: rest) :: k)) cs none (execOp (evT t) o) w := by
    have he := fm_eval (kd := kd) (fn := fn) (rd := none) (ds := ds) (t := t) (todo := .inRegion ops (i :: rest) :: k)
    simp only [fm] at he
    simp only [stepG, stepG.exec, stepG.oper, Frame.oper?, fm, ho, hw, he, Option.map_some, Option.getD_some, if_true]
  exact step_lone_go (by rw [hgo, ← hfin]; simp [stepG.apply, he]; rfl)
theorem deferRegion_sound (hC : ProgOK P C O) (hself : SelfOK P O self) {id : Nat} {ops : Array Oper} (h : deferRegion C self E I todo tmps H ops.toList = some outs) (b : Base P O E η H w) (hf : FOK P η I rd ds)
    (ht : TRel η tmps I.n t) (hk : TodoR η todo k) : ∃ p ∈ outs, Res kd P E η H w I.fn rd cs (lone (fm kd I.fn rd ds t (.code (.region id ops false) :: k)) cs w) p := by
  unfold deferRegion at h
  split at h
  · cases h
  · rename_i pre c hl
    obtain ⟨o, hops, hop, hg, hd⟩ := lastDefer_some hl
    split at h
    · rename_i hro hde
      obtain ⟨hrd, hds⟩ := hf
      rw [hro] at hrd
      rw [hde] at hds
      cases rd with
      | some r => exact hrd.elim
      | none =>
      have hlen : ops.size = pre.length + 1 := by have := congrArg List.length hops; simpa using this
      have ho : ops[pre.length]? = some o := by
        have : ops.toList[pre.length]? = some o := by rw [hops]; simp
        simpa using this
      obtain ⟨tmps', H', outs', h1, h2, _, η', w', t', s1, s2, s3, s4, s5⟩ := regGo_sound' (kd := kd) (fn := I.fn) (rd := none) (ds := ds) (k := k) (cs := cs) (ops := ops) (rest := [pre.length]) (sfx := [o]) hC hself pre 0 tmps H outs h (by rw [hops]; rfl) η w t b ht
      unfold pushLater at h1
      split at h1
      · cases h1
      · rename_i d hde2
        have ht' : TRel η' tmps' I.n t' := s5.toR fun _ x => x
        -- the call that is deferred
        unfold deferOf at hde2
        split at hde2
        · rename_i f hcal
          split at hde2
          · rename_i g first captured args hv ha
            cases hde2
            have hfv := evT_sound ht'.toX (fun _ _ x => x) hv
            obtain ⟨as, bs, e1, e2, hval⟩ := conc_func hfv
            have hargs : concL η' args = some (c.args.toList.map (evT t')) := mapO_evo (fun x _ v hv => evT_sound ht'.toX (fun _ _ x => x) hv) ha
            obtain ⟨D, hD⟩ : ∃ D : Deferred, D = { target := .fn (.func g) bs.toArray, args := as.toArray ++ c.args.map (evT t') } := ⟨_, rfl⟩
            have hres : (resolve (evT t') c o.type).run P w' = .ok D w' := by
              simp [resolve, hcal, hval, Deferred.ofValue, hD]
            have hLR : LR P η' ((g, first ++ args ++ captured) :: I.later) (D :: ds) := by
              refine ⟨⟨.func g, bs.toArray, as ++ c.args.toList.map (evT t') ++ bs, by rw [hD], concL_append (concL_append e1 hargs) e2, fun w => ?_⟩, LR.mono s2.le hds⟩
              rw [hD]
              have e0 : (as ++ c.args.toList.map (evT t') ++ bs).toArray = as.toArray ++ c.args.map (evT t') ++ bs.toArray := by simp
              rw [e0]
              rfl
            refine res_sub h2 (go_on (I := { I with later := (g, first ++ args ++ captured) :: I.later }) (ds := D :: ds) (rd := none) (kd := kd) hself h1 (b.step s2 s3 s4.next) ⟨by rw [hro]; trivial, by show DR P η' I.defers _ _; rw [hde]; exact hLR⟩ ht' (hk.mono s2.le) ?_ s2 s4)
            refine .head st_region (Steps.trans ?_ (.head (st_defer (kd := kd) ho hop hg hd hres) (.one (st_regionEnd (ops := ops)))))
            have e : List.range ops.size = List.range' 0 pre.length ++ [pre.length] := by rw [hlen, List.range_eq_range', List.range'_concat]; simp
            rw [e]; exact s1
          · cases hde2
        · cases hde2
    · cases h
theorem region_sound (hC : ProgOK P C O) (hmix : P.follows .mixedOrders = true) (hself : SelfOK P O self) {id : Nat} {ops : Array Oper} {draw : Bool} (h : doRegion C self E I todo tmps H ops.toList draw = some outs) (b : Base P O E η H w) (hf : FOK P η I rd ds)
    (ht : TRel η tmps I.n t) (hk : TodoR η todo k) : ∃ p ∈ outs, Res kd P E η H w I.fn rd cs (lone (fm kd I.fn rd ds t (.code (.region id ops draw) :: k)) cs w) p := by
  cases draw with
  | false =>
    simp only [doRegion, plainRegion] at h
    cases hen : endsDefer ops.toList with
    | true => rw [hen] at h; exact deferRegion_sound hC hself h b hf ht hk
    | false =>
    rw [hen] at h
    obtain ⟨tmps', H', outs', h1, h2, _, η', w', t', s1, s2, s3, s4, s5⟩ := regGo_sound (fn := I.fn) (rd := rd) (ds := ds) (k := k) (cs := cs) (ops := ops) hC hself ops.toList 0 tmps H outs h rfl η w t b ht
    refine res_sub h2 (go_on (kd := kd) hself h1 (b.step s2 s3 s4.next) (hf.mono s2.le) (s5.toR fun _ x => x) (hk.mono s2.le) ?_ s2 s4)
    refine .head st_region (Steps.trans ?_ (.one (st_regionEnd (ops := ops))))
    have e : List.range ops.size = List.range' 0 ops.toList.length := by rw [List.range_eq_range']; simp
    rw [e]; exact s1
  | true =>
    simp only [doRegion] at h
    unfold behindDraw at h
    split at h
    · cases h
    · rename_i l hl
      split at h
      · rename_i tj Hj hj
        have b' : Base P O E η H w.drew := ⟨b.rel.drew, b.above, b.eb, b.st, b.st _ _ _ _ _ _ _ b.inv (Trans.toDrew b.rel)⟩
        have ds0 := DS.start (C := C) (ops := ops) b' ht
        have hlin := lin_all ops (w.tape w.drawn (.order I.fn id))
        obtain ⟨q, hq, η', w', t', c2, c3, c4, c5, c6⟩ := drawGo_sound (fn := I.fn) (rd := rd) (ds := ds) (k := k) (cs := cs) hC hself _ _ _ _ _ _ _ _ hl η 0 w.drew t _ ds0 hlin
        obtain ⟨j1, j2⟩ := joinRegs_sound hj q hq
        have tr : Trans P E η H w η' Hj w' := ((c3.get (H1 := H) (fun _ => rfl) (fun _ => rfl)).weak j2).drew
        have bl : Below H.next η η' H Hj := by
          have : Below H.next η η' H q.2 := ⟨c5.only, fun id hid hn => c5.objs id hid hn, Nat.le_trans (Nat.le_add_right _ _) c5.next⟩
          exact this.weak j2
        refine go_on (kd := kd) hself h ⟨tr.rel, c4.weak j2, fun id hid => b.eb id (Nat.le_trans bl.next hid), b.st, b.st _ _ _ _ _ _ _ b.inv tr⟩ (hf.mono tr.le) ⟨c6.size, fun j v hv => c6.get j v (j1 j v hv)⟩ (hk.mono tr.le) ?_ tr bl
        refine .head st_draw (Steps.trans ?_ (.one (st_regionEnd (ops := ops))))
        have e : Region.schedule (P.follows .mixedOrders) ops (w.tape w.drawn (.order I.fn id)) = Region.linearise .any ops (w.tape w.drawn (.order I.fn id)) := by
          unfold Region.schedule; rw [hmix]; rfl
        rw [e]; exact c2
      · cases h

/-! jumps -/
theorem exit_some {id : Nat} : ∀ {todo todo' : List AItem} {k : List Item}, TodoR η todo k → exitTo id todo = some todo' → ∃ k', Go.exitTo id k = some k' ∧ TodoR η todo' k'
  | [], _, [], _, h => by simp [exitTo] at h
  | [], _, _ :: _, g, _ => g.elim
  | _ :: _, _, [], g, _ => g.elim
  | a :: r, todo', x :: k, ⟨g1, g2⟩, h => by
    cases a <;> cases x <;> try exact g1.elim
    case inBlock.inBlock i j =>
      have : j = i := g1
      subst this
      simp only [exitTo] at h
      simp only [Go.exitTo]
      cases hb : Nat.beq j id with
      | true =>
        rw [hb] at h; simp at h; subst h
        exact ⟨k, by simp [beq_eq hb], g2⟩
      | false =>
        rw [hb] at h
        have hne : j ≠ id := fun e => by subst e; simp at hb
        obtain ⟨k', h1, h2⟩ := exit_some g2 h
        exact ⟨k', by simp [hne, h1], h2⟩
    all_goals (simp only [exitTo] at h; simp only [Go.exitTo]; exact exit_some g2 h)
theorem exit_none {id : Nat} : ∀ {todo : List AItem} {k : List Item}, TodoR η todo k → exitTo id todo = none → Go.exitTo id k = none
  | [], [], _, h => rfl
  | [], _ :: _, g, _ => g.elim
  | _ :: _, [], g, _ => g.elim
  | a :: r, x :: k, ⟨g1, g2⟩, h => by
    cases a <;> cases x <;> try exact g1.elim
    case inBlock.inBlock i j =>
      have : j = i := g1
      subst this
      simp only [exitTo] at h
      simp only [Go.exitTo]
      cases hb : Nat.beq j id with
      | true => rw [hb] at h; simp at h
      | false =>
        rw [hb] at h
        have hne : j ≠ id := fun e => by subst e; simp at hb
        simp [hne, exit_none g2 h]
    all_goals (simp only [exitTo] at h; simp only [Go.exitTo]; exact exit_none g2 h)
theorem goto_some {l : Nat} : ∀ {todo todo' : List AItem} {k : List Item}, TodoR η todo k → gotoIn l todo = some todo' → ∃ k', Go.gotoIn l k = some k' ∧ TodoR η todo' k'
  | [], _, [], _, h => by simp [gotoIn] at h
  | [], _, _ :: _, g, _ => g.elim
  | _ :: _, _, [], g, _ => g.elim
  | a :: r, todo', x :: k, ⟨g1, g2⟩, h => by
    cases a <;> cases x <;> try exact g1.elim
    case inScope.inScope c d =>
      have : d = c := g1
      subst this
      simp only [gotoIn] at h
      simp only [Go.gotoIn]
      cases hb : Go.findLabel d l with
      | some rest =>
        rw [hb] at h; simp at h; subst h
        exact ⟨_, rfl, rfl, rfl, g2⟩
      | none =>
        rw [hb] at h
        exact goto_some g2 h
    all_goals (simp only [gotoIn] at h; simp only [Go.gotoIn]; exact goto_some g2 h)
theorem goto_none {l : Nat} : ∀ {todo : List AItem} {k : List Item}, TodoR η todo k → gotoIn l todo = none → Go.gotoIn l k = none
  | [], [], _, h => rfl
  | [], _ :: _, g, _ => g.elim
  | _ :: _, [], g, _ => g.elim
  | a :: r, x :: k, ⟨g1, g2⟩, h => by
    cases a <;> cases x <;> try exact g1.elim
    case inScope.inScope c d =>
      have : d = c := g1
      subst this
      simp only [gotoIn] at h
      simp only [Go.gotoIn]
      cases hb : Go.findLabel d l with
      | some rest => rw [hb] at h; simp at h
      | none =>
        rw [hb] at h
        exact goto_none g2 h
    all_goals (simp only [gotoIn] at h; simp only [Go.gotoIn]; exact goto_none g2 h)
end
end Go.VmK
namespace Go.VmK
variable {P : Program} {C : Ctx} {O : Env → Heap → World → Prop} {E : List LoopInfo} {η : Env} {H : Heap} {w : World}
variable {kd : CallKind}

/-- a frame that returns -/
def fmR (kd : CallKind) (fn : FuncId) (ds : List Deferred) (t : Array Value) (todo : List Item) : Frame := { fn, tmps := t, todo, defers := ds, mode := .returning, kind := kd, roundOf := none }
/-- where a frame comes to its end -/
inductive Stop : List Item → Option Jump → Prop
  | fall : Stop [] none
  | ret {k : List Item} : Stop (.code .ret :: k) (some .ret)
  | exit {k : List Item} {id : Nat} : Go.exitTo id k = none → Stop (.code (.exit id) :: k) (some (.exit id))
  | goto {k : List Item} {l : Nat} : Go.gotoIn l k = none → Stop (.code (.goto l) :: k) (some (.goto l))
section
variable {fn : FuncId} {ds : List Deferred} {t : Array Value} {k : List Item} {cs : List Frame} {c : Frame} {r : Nat}
theorem st_fall : Go.step P (lone (fm kd fn none ds t []) cs w) = .next (lone (fmR kd fn ds t []) cs w) := step_lone_go (by simp [stepG, stepG.exec, fm, fmR, kindOf])
theorem st_ret : Go.step P (lone (fm kd fn none ds t (.code .ret :: k)) cs w) = .next (lone (fmR kd fn ds t (.code .ret :: k)) cs w) := step_lone_go (by simp [stepG, stepG.exec, fm, fmR, kindOf])
theorem st_leaveRound {j : Option Jump} {v : Value} {w' : World} (hs : Stop k j) (h : (Instr.endRound r (j.map Jump.code)).run P w = .ok v w') :
    Go.step P (lone (fm kd fn (some r) ds t k) (c :: cs) w) = .next (lone (c.finish v) cs w') := by
  cases hs with
  | fall => exact step_lone_go (by simp only [Option.map_none] at h; simp [stepG, stepG.exec, fm, kindOf, h, doReturn])
  | ret => exact step_lone_go (by simp only [Option.map_some, Jump.code] at h; simp [stepG, stepG.exec, fm, kindOf, h, doReturn])
  | exit he => exact step_lone_go (by simp only [Option.map_some, Jump.code] at h; simp [stepG, stepG.exec, fm, kindOf, h, he, doReturn])
  | goto he => exact step_lone_go (by simp only [Option.map_some, Jump.code] at h; simp [stepG, stepG.exec, fm, kindOf, h, he, doReturn])
theorem st_unwind {b : Nat} {w' : World} {calls : List Deferred} (h : (Instr.takeDeferred b).run P w = .ok calls w') :
    Go.step P (lone (fmR kd fn ({ target := .collected b, args := #[] } :: ds) t k) cs w) = .next (lone (fmR kd fn (calls ++ ds) t k) cs w') :=
  step_lone_go (by simp [stepG, unwind, fmR, h])
theorem st_begin {w' : World} (h : (Instr.beginRound r).run P w = .ok () w') : Go.step P (lone (fm kd fn (some r) ds t (.beginRound :: k)) cs w) = .next (lone (fm kd fn (some r) ds t k) cs w') :=
  step_lone_go (by simp [stepG, stepG.exec, stepG.apply, fm, h, Frame.finish])
variable {rd : Option Nat}
theorem st_endLoop {l : Nat} {jump : Option Code} {w' : World} (h : (Instr.endLoop l).run P w = .ok jump w') : Go.step P (lone (fm kd fn rd ds t (.endRangeFunc l :: k)) cs w) = .next (lone (fm kd fn rd ds t ((jump.map Item.code).toList ++ k)) cs w') :=
  step_lone_go (by simp [stepG, stepG.exec, fm, h])
theorem st_rangeFunc {f : Operand} {params : Array Tmp} {assign body : Code} {l : Nat} {mark : List Deferred} {w1 : World} {g : FuncId} {first captured args : Array Value} (h : (Instr.enterLoop fn t params assign body rd).run P w = .ok (l, mark) w1)
    (hf : evT t f = .func (.func g) first captured) (hc : (callFunc g (first ++ #[.func (.yield l) #[] #[]] ++ captured)).run P w1 = .ok (.enter g args) w1) :
    Go.step P (lone (fm kd fn rd ds t (.code (.rangeFunc f params assign body) :: k)) cs w) = .next (lone (Frame.enter P g args .normal) (fm kd fn rd (mark ++ ds) t (.inRangeFunc l :: k) :: cs) w1) :=
  step_lone_go (by
    have he : ({ fn := fn, tmps := t, todo := .inRangeFunc l :: k, defers := mark ++ ds, mode := .run, kind := kindOf kd rd, roundOf := rd } : Frame).eval f = .func (.func g) first captured := by
      have := congrFun (fm_eval (kd := kd) (fn := fn) (rd := rd) (ds := mark ++ ds) (t := t) (todo := .inRangeFunc l :: k)) f
      simp only [fm] at this
      rw [this, hf]
    have hy : ({ fn := fn, tmps := t, todo := .inRangeFunc l :: k, defers := mark ++ ds, mode := .run, kind := kindOf kd rd, roundOf := rd } : Frame).eval (.const (.func (.yield l) #[] #[])) = .func (.yield l) #[] #[] := rfl
    have hc' : (callFunc g (first.push (.func (.yield l) #[] #[]) ++ captured)).run P w1 = .ok (.enter g args) w1 := by
      rw [← hc]; simp
    simp [stepG, stepG.exec, stepG.apply, fm, h, resolve, he, hy, Deferred.ofValue, invoke, hc'])
theorem fm_finishLoop {l : Nat} (v : Value) : (fm kd fn rd ds t (.inRangeFunc l :: k)).finish v = fm kd fn rd ds t (.endRangeFunc l :: k) := rfl
end

/-! leaving -/
theorem getDef (hr : HRel P η E H w) {d : Nat} {x : Bool} (hg : H.get d = some (.deferred x)) : ∃ r, η.ρ d = some r ∧ w.heap[r]? = some (.deferred (if x then some [] else none)) := by
  obtain ⟨r, ob, h1, h2, h3⟩ := hr.obj d _ hg
  cases ob <;> try exact h3.elim
  rename_i D
  have : D = if x then some [] else none := h3
  subst this
  exact ⟨r, h1, h2⟩
theorem Below.put {b : Nat} {o o' : AObj} {n : Nat} (hg : H.get b = some o) : Below n η η H (H.put b o') := by
  refine ⟨Only.refl _ _, fun id _ hn => ?_, Nat.le_refl _⟩
  rw [Heap.get_put, if_neg]; · exact hn
  · intro e; rw [e, hg] at hn; cases hn
theorem Above.put {b : Nat} {o o' : AObj} (ha : Above η H) (hg : H.get b = some o) : Above η (H.put b o') := fun id hid => by
  have f := ha id hid
  refine ⟨?_, f.ρ, f.κ, f.σ⟩
  rw [Heap.get_put, if_neg]; · exact f.get
  · intro e; have := f.get; rw [e, hg] at this; cases this
def resV (t : Array Value) : ResultVar → Sem Value
  | .tmp j => pure (t.getD j undef)
  | .cell a ty => do Go.loadVar ty (← asAddr (t.getD a undef))
theorem results_eq (f : Func) (t : Array Value) : results f t = (do
    let vs ← f.results.mapM (resV t)
    pure (if h : vs.size = 1 then vs[0] else .tuple vs)) := rfl
theorem takeDefers_sound {fn : FuncId} {t : Array Value} {k : List Item} {cs : List Frame} : ∀ {l : List Nat} {lt : List (FuncId × List AV)} {ds : List Deferred} {H H' : Heap} {w : World}, takeDefers H l = some H' → DR P η l lt ds → HRel P η E H w → Above η H →
    ∃ ds' w', Steps P (lone (fmR kd fn ds t k) cs w) (lone (fmR kd fn ds' t k) cs w') ∧ LR P η lt ds' ∧ Trans P E η H w η H' w' ∧ Above η H' ∧ Below H.next η η H H'
  | [], lt, ds, H, H', w, h, g, hr, ha => by
    simp only [takeDefers, Option.some.injEq] at h; subst h
    exact ⟨ds, w, .refl _ _, g, Trans.refl hr, ha, Below.refl _ _ _⟩
  | _ :: _, _, [], _, _, _, _, g, _, _ => g.elim
  | d :: l, lt, D :: ds, H, H', w, h, ⟨⟨b, hb, hD⟩, g⟩, hr, ha => by
    simp only [takeDefers] at h
    split at h
    · rename_i hg
      obtain ⟨r, h1, h2⟩ := getDef hr hg
      rw [hb] at h1; cases h1
      have tr := Trans.put hr hg hb (.deferred false) (.deferred none) rfl (w' := World.putBlock w b (.deferred none)) rfl
      obtain ⟨ds', w', s1, s5, s2, s3, s4⟩ := takeDefers_sound (fn := fn) (t := t) (k := k) (cs := cs) h g tr.rel (ha.put hg)
      have hrun : (Instr.takeDeferred b).run P w = .ok [] (World.putBlock w b (.deferred none)) := by
        simp [Instr.takeDeferred, getObj, setObj, Sem.run, h2, World.putBlock]
      subst hD
      exact ⟨ds', w', .head (st_unwind hrun) s1, s5, tr.trans s2, s3, (Below.put hg).trans s4 (Nat.le_refl _)⟩
    · cases h
/-- the deferred calls, one by one -/
theorem runLater_sound {self : Self} (hC : CtxOK P C) (hself : SelfOK P O self) {fn : FuncId} {t : Array Value} {k : List Item} {cs : List Frame} : ∀ {lt : List (FuncId × List AV)} {ds : List Deferred} {η : Env} {H : Heap} {w : World} {hs : List Heap}, runLater C self E lt H = some hs → LR P η lt ds → Base P O E η H w →
    ∃ H' ∈ hs, ∃ η' w', Steps P (lone (fmR kd fn ds t k) cs w) (lone (fmR kd fn [] t k) cs w') ∧ Trans P E η H w η' H' w' ∧ Above η' H' ∧ Below H.next η η' H H'
  | [], [], η, H, w, hs, h, _, b => by
    simp only [runLater, Option.some.injEq] at h; subst h
    exact ⟨H, List.mem_singleton.2 rfl, η, w, .refl _ _, Trans.refl b.rel, b.above, Below.refl _ _ _⟩
  | [], _ :: _, _, _, _, _, _, g, _ => g.elim
  | _ :: _, [], _, _, _, _, _, g, _ => g.elim
  | (f, a) :: r, D :: ds, η, H, w, hs, h, ⟨⟨fv, cap, xs, g1, g2, g3⟩, g⟩, b => by
    simp only [runLater] at h
    split at h
    · cases h
    · rename_i l hl
      have hl' := hl
      unfold callFun at hl'
      split at hl'
      · cases hl'
      · rename_i fi hfi
        unfold enterK at hl'
        split at hl'
        · cases hl'
        · rename_i c hc
          obtain ⟨p, hp, η2, x, w2, ⟨fr, q1, q2, q3, q4⟩, _, t1, t2, t3⟩ := callFun_sound (kd := .deferred) hC hself hl b g2 (fmR kd fn ds t k :: cs)
          obtain ⟨o, ho1, ho2⟩ := bindL_mem h p hp
          obtain ⟨H3, hH3, η3, w3, u1, u2, u3, u4⟩ := runLater_sound hC hself (fn := fn) (t := t) (k := k) (cs := cs) ho1 (LR.mono t1.le g) (b.step t1 t2 t3.next)
          have hi : (invoke D.target D.args).run P w = .ok (.enter f xs.toArray) w := by rw [g3, run_enter hC hfi hc]
          have s1 : Go.step P (lone (fmR kd fn (D :: ds) t k) cs w) = .next (lone (Frame.enter P f xs.toArray .deferred) (fmR kd fn ds t k :: cs) w) :=
            step_defer (fr := fmR kd fn (D :: ds) t k) (ds := ds) (by simp [fmR]) rfl g1 hi
          have s2 : Go.step P (lone fr (fmR kd fn ds t k :: cs) w2) = .next (lone (fmR kd fn ds t k) cs w2) := by
            have := step_going_returned (c := fmR kd fn ds t k) (cs := cs) q3 q4
            rw [this]; rfl
          exact ⟨H3, ho2 H3 hH3, η3, w3, .head s1 (q1.trans (.head s2 u1)), t1.trans u2, u3, t3.trans u4 t3.next⟩
theorem results_sound (hC : CtxOK P C) (hr : HRel P η E H w) {tmps : Tr AV} {n : Nat} {t : Array Value} (ht : TRel η tmps n t) : ∀ {l : List ResultVar} {vs : List AV}, resultsOf C H tmps l = some vs →
    ∃ xs, (l.mapM (resV t) : Sem (List Value)).run P w = .ok xs w ∧ concL η vs = some xs
  | [], vs, h => by simp only [resultsOf, Option.some.injEq] at h; subst h; exact ⟨[], rfl, rfl⟩
  | .tmp j :: r, vs, h => by
    simp only [resultsOf] at h
    split at h
    · cases h
    · rename_i v hv
      split at h
      · cases h
      · rename_i l hl
        cases h
        obtain ⟨xs, h1, h2⟩ := results_sound hC hr ht hl
        obtain ⟨y, hy, hc⟩ := ht.get j v hv
        refine ⟨y :: xs, ?_, by simp [concL, hc, h2]⟩
        obtain ⟨hlt, he⟩ := Array.getElem?_eq_some_iff.1 hy
        rw [List.mapM_cons]
        simp [h1, resV, Array.getD, hlt, he]
  | .cell a ty :: r, vs, h => by
    simp only [resultsOf] at h
    split at h
    · rename_i b off hv
      split at h
      · cases h
      · rename_i v hq
        split at h
        · cases h
        · rename_i l hl
          cases h
          obtain ⟨xs, h1, h2⟩ := results_sound hC hr ht hl
          obtain ⟨y, hy, hc⟩ := ht.get a _ hv
          obtain ⟨r', hb, rfl⟩ := conc_ptr hc
          obtain ⟨x, hx1, hx2⟩ := loadVar_sound hC hr hb hq
          refine ⟨x :: xs, ?_, by simp [concL, hx2, h2]⟩
          obtain ⟨hlt, he⟩ := Array.getElem?_eq_some_iff.1 hy
          rw [List.mapM_cons]
          simp [h1, resV, Array.getD, hlt, he, asAddr, hx1]
    · cases h
theorem leaveFn_sound (hC : CtxOK P C) {fn : FuncId} (hr : HRel P η E H w) (_ha : Above η H) {tmps : Tr AV} {n : Nat} {t : Array Value} (ht : TRel η tmps n t) {outs : List (AV × Heap)} (h : leaveFn C fn tmps H = some outs) {k : List Item} :
    ∃ v x, outs = [(v, H)] ∧ conc η v = some x ∧ (fmR kd fn [] t k).going P w (.returned x) := by
  unfold leaveFn at h
  split at h
  · cases h
  · rename_i fi hfi
    obtain ⟨f, hf, _, _, hres⟩ := hC.funcs fn fi hfi
    cases hq : resultsOf C H tmps fi.results with
    | none => rw [hq] at h; cases h
    | some vs =>
      rw [hq] at h
      obtain ⟨xs, h1, h2⟩ := results_sound (P := P) hC hr ht hq
      have hrun : (results f t).run P w = .ok (if h : xs.length = 1 then xs[0] else .tuple xs.toArray) w := by
        rw [results_eq, Array.mapM_eq_mapM_toList, hres]
        simp only [Sem.run_bind, Sem.run_map, h1, Result.andThen_ok, Sem.run_pure]
        simp
      have hl := concL_length h2
      cases vs with
      | nil =>
        simp only [retVals, one, Option.some.injEq] at h
        have : xs = [] := List.length_eq_zero_iff.1 (by simpa using hl)
        subst this
        exact ⟨_, .tuple #[], h.symm, by simp [conc, concL], rfl, rfl, f, hf, by rw [show (fmR kd fn [] t k).tmps = t from rfl, hrun]; rfl⟩
      | cons v r =>
        cases r with
        | nil =>
          simp only [retVals, one, Option.some.injEq] at h
          simp only [concL] at h2
          split at h2
          · rename_i y ys hy hys
            cases h2; cases hys
            exact ⟨v, y, h.symm, hy, rfl, rfl, f, hf, by rw [show (fmR kd fn [] t k).tmps = t from rfl, hrun]; rfl⟩
          · cases h2
        | cons u r =>
          simp only [retVals, one, Option.some.injEq] at h
          refine ⟨_, .tuple xs.toArray, h.symm, by simp only [conc, h2], rfl, rfl, f, hf, ?_⟩
          rw [show (fmR kd fn [] t k).tmps = t from rfl, hrun]
          have : ¬ xs.length = 1 := by rw [hl]; simp
          simp [this]

section
variable {self : Self} {I : FInfo} {rd : Option Nat} {ds : List Deferred} {todo : List AItem} {k : List Item} {cs : List Frame} {tmps : Tr AV} {t : Array Value} {outs : List (AV × Heap)}
theorem leave_sound (hC : CtxOK P C) (hself : SelfOK P O self) {j : Option Jump} (hst : Stop k j) (h : leave C self E I tmps H j = some outs) (b : Base P O E η H w) (hf : FOK P η I rd ds) (ht : TRel η tmps I.n t) :
    ∃ p ∈ outs, Res kd P E η H w I.fn rd cs (lone (fm kd I.fn rd ds t k) cs w) p := by
  unfold leave at h
  obtain ⟨hrd, hds⟩ := hf
  split at h
  · rename_i hro
    rw [hro] at hrd
    cases rd with
    | some r => exact hrd.elim
    | none =>
      have key : ∀ H', takeDefers H I.defers = some H' → (match I.later with
          | [] => leaveFn C I.fn tmps H'
          | later => leaveAll C I.fn tmps (runLater C self E later H')) = some outs → Go.step P (lone (fm kd I.fn none ds t k) cs w) = .next (lone (fmR kd I.fn ds t k) cs w) →
          ∃ p ∈ outs, Res kd P E η H w I.fn none cs (lone (fm kd I.fn none ds t k) cs w) p := by
        intro H' h1 h2 hs
        obtain ⟨ds', w', s1, s5, s2, s3, s4⟩ := takeDefers_sound (fn := I.fn) (t := t) (k := k) (cs := cs) h1 hds b.rel b.above
        have h2 : leaveAll C I.fn tmps (runLater C self E I.later H') = some outs := by
          cases hl : I.later with
          | nil => rw [hl] at h2; simp only at h2; simp only [runLater, leaveAll, bindL, h2]; simp
          | cons x r => rw [hl] at h2; exact h2
        unfold leaveAll at h2
        split at h2
        · cases h2
        · rename_i hs' hrl
          obtain ⟨H2, hH2, η2, w2, u1, u2, u3, u4⟩ := runLater_sound (kd := kd) (fn := I.fn) (t := t) (k := k) (cs := cs) hC hself hrl s5 (b.step s2 s3 s4.next)
          obtain ⟨o, ho1, ho2⟩ := bindL_mem h2 H2 hH2
          obtain ⟨v, x, e1, e2, e3⟩ := leaveFn_sound hC u2.rel u3 (ht.mono (s2.trans u2).le) ho1 (k := k)
          subst e1
          exact ⟨_, ho2 _ (List.mem_singleton.2 rfl), η2, x, w2, ⟨_, .head hs (s1.trans u1), rfl, rfl, e3⟩, e2, s2.trans u2, u3, s4.trans u4 s4.next⟩
      split at h
      · split at h
        · cases h
        · rename_i H' hH'
          cases hst
          exact key H' hH' h st_fall
      · split at h
        · cases h
        · rename_i H' hH'
          cases hst
          exact key H' hH' h st_ret
      · cases h
  · rename_i l hro
    rw [hro] at hrd
    cases rd with
    | none => exact hrd.elim
    | some r =>
      have hrd : η.ρ l = some r := hrd
      split at h
      · unfold leaveRound at h
        split at h
        · rename_i s pd hg
          obtain ⟨r', L, h1, h2, h3, h4, h5⟩ := getLoop' b.rel hg
          rw [hrd] at h1; cases h1
          simp only [one, Option.some.injEq] at h; subst h
          have hj : (j.map Jump.code).isNone = j.isNone := by cases j <;> rfl
          have hrun : (Instr.endRound r (j.map Jump.code)).run P w = .ok (.bool j.isNone) (World.putBlock w r (.loop { L with state := if j.isNone then .ready else .done, pending := j.map Jump.code })) := by
            simp [Instr.endRound, Instr.getLoop, getObj, setObj, Sem.run, h2, World.putBlock, hj]
          have tr := Trans.put b.rel hg hrd (.loop (if j.isNone then .ready else .done) j) (.loop { L with state := if j.isNone then .ready else .done, pending := j.map Jump.code }) ⟨rfl, rfl, h5⟩ (w' := _) rfl
          exact ⟨_, List.mem_singleton.2 rfl, η, .bool j.isNone, _, fun c cs' e => by subst e; exact .one (st_leaveRound hst hrun), rfl, tr, b.above.put hg, Below.put hg⟩
        · cases h
      · cases h
end
end Go.VmK
namespace Go.VmK
variable {P : Program} {C : Ctx} {O : Env → Heap → World → Prop} {E : List LoopInfo} {η : Env} {H : Heap} {w : World}
variable {kd : CallKind}

/-! loops over functions: one more loop, one less -/
theorem ORel.loops {E' : List LoopInfo} {id : Nat} {o : AObj} {ob : Obj} (hE : ∀ i, findLoop id E' = some i → findLoop id E = some i) (h : ORel P η E id o ob) : ORel P η E' id o ob := by
  cases o <;> cases ob <;> try exact h.elim
  case loop.loop s p L => exact ⟨h.1, h.2.1, fun i hi => h.2.2 i (hE i hi)⟩
  all_goals exact h
theorem HRel.loops {E' : List LoopInfo} (hE : ∀ id o i, H.get id = some o → findLoop id E' = some i → findLoop id E = some i) (h : HRel P η E H w) : HRel P η E' H w :=
  ⟨fun id o ho => let ⟨b, ob, h1, h2, h3⟩ := h.obj id o ho; ⟨b, ob, h1, h2, h3.loops fun i hi => hE id o i ho hi⟩, h.inj⟩
theorem findLoop_cons (i : LoopInfo) (E : List LoopInfo) (l : Nat) : findLoop l (i :: E) = if i.id = l then some i else findLoop l E := by
  simp only [findLoop]
  cases hb : Nat.beq i.id l with
  | true => rw [if_pos (beq_eq hb)]; rfl
  | false => rw [if_neg]; · rfl
             · intro e; subst e; simp at hb
/-- what holds with more loops holds with fewer -/
theorem Res.down {i : LoopInfo} {fn : FuncId} {rd : Option Nat} {cs : List Frame} {m : Machine} {p : AV × Heap} (hi : findLoop i.id E = none) (h : Res kd P (i :: E) η H w fn rd cs m p) : Res kd P E η H w fn rd cs m p := by
  obtain ⟨η', x, w', h1, h2, h3, h4, h5⟩ := h
  refine ⟨η', x, w', h1, h2, ⟨h3.le, h3.rel.loops fun id o j _ hj => ?_, h3.frame, h3.shr, h3.keeps⟩, h4, h5⟩
  rw [findLoop_cons]
  by_cases e : i.id = id
  · subst e; rw [hi] at hj; cases hj
  · rw [if_neg e]; exact hj

section
variable {self : Self} {I : FInfo} {rd : Option Nat} {ds : List Deferred} {todo : List AItem} {k : List Item} {cs : List Frame} {tmps : Tr AV} {t : Array Value} {outs : List (AV × Heap)}

theorem Base.new (b : Base P O E η H w) (o : AObj) (ob : Obj) (ho : ORel P (η.bind H.next w.heap.size) E H.next o ob) :
    Trans P E η H w (η.bind H.next w.heap.size) (H.new o) (w.alloc ob) ∧ Base P O E (η.bind H.next w.heap.size) (H.new o) (w.alloc ob) ∧ Below H.next η (η.bind H.next w.heap.size) H (H.new o) := by
  obtain ⟨h1, h2⟩ := newObj_sound (P := P) b.rel b.fresh o ob ho
  have h3 := Below.grow h2
  exact ⟨h1, b.step h1 (b.above.grow h2).1 h3.next, h3⟩

/-- the loop itself: its record stands, its blocks are there -/
theorem rangeIn_sound (hC : ProgOK P C O) (hself : SelfOK P O self) {f : Operand} {params : Array Tmp} {assign body : Code} {d : Nat} {defers : List Nat} (h : rangeIn C self E I todo tmps f params.toList assign body d defers H = some outs) (b : Base P O E η H w) {ds' : List Deferred} (hrd : RdR η I.round rd)
    (hds : DR P η defers I.later ds') (ht : TRel η tmps I.n t) (hk : TodoR η todo k) {rdf : Nat} (hd : η.ρ d = some rdf) {m : Machine}
    (hstep : ∀ (g : FuncId) (first captured args : Array Value), evT t f = .func (.func g) first captured →
      (callFunc g (first ++ #[.func (.yield w.heap.size) #[] #[]] ++ captured)).run P (w.alloc (.loop { state := .ready, pending := none, fn := I.fn, tmps := t, params, assign, body, defers := rdf })) = .ok (.enter g args) (w.alloc (.loop { state := .ready, pending := none, fn := I.fn, tmps := t, params, assign, body, defers := rdf })) →
      Go.step P m = .next (lone (Frame.enter P g args .normal) (fm kd I.fn rd ds' t (.inRangeFunc w.heap.size :: k) :: cs) (w.alloc (.loop { state := .ready, pending := none, fn := I.fn, tmps := t, params, assign, body, defers := rdf })))) :
    ∃ p ∈ outs, Res kd P E η H w I.fn rd cs m p := by
  unfold rangeIn at h
  simp only at h
  obtain ⟨i, hi⟩ : ∃ i : LoopInfo, i = { id := H.next, fn := I.fn, n := I.n, tmps := tmps, params := params.toList, assign := assign, body := body, defers := d } := ⟨_, rfl⟩
  rw [← hi] at h
  have hid : i.id = H.next := by rw [hi]
  have hEn : findLoop i.id E = none := by rw [hid]; exact b.eb _ (Nat.le_refl _)
  split at h
  · rename_i g first captured hv
    split at h
    · cases h
    · rename_i l hl
      have hfv := evT_sound ht.toX (fun _ _ x => x) hv
      obtain ⟨as, bs, h1, h2, hval⟩ := conc_func hfv
      obtain ⟨L, hL⟩ : ∃ L : Loop, L = { state := .ready, pending := none, fn := I.fn, tmps := t, params, assign, body, defers := rdf } := ⟨_, rfl⟩
      rw [← hL] at hstep
      have hup : HRel P η (i :: E) H w := b.rel.loops fun id o j ho hj => by
        rw [findLoop_cons] at hj
        rw [if_neg] at hj
        · exact hj
        · intro e
          have := b.fresh.get
          rw [← hid, e, ho] at this; cases this
      have hle := Env.le_bind (η := η) (id := H.next) (b := w.heap.size) b.fresh.ρ
      obtain ⟨n1, n2⟩ := newObj_sound (P := P) hup b.fresh (.loop .ready none) (.loop L) ⟨by rw [hL], by rw [hL]; rfl, fun j hj => by
        rw [findLoop_cons, if_pos hid] at hj
        cases hj
        rw [hL, hi]
        exact ⟨rfl, ht.mono hle, rfl, rfl, rfl, hle.ρ _ _ hd⟩⟩
      have b1 : Base P O (i :: E) (η.bind H.next w.heap.size) (H.new (.loop .ready none)) (w.alloc (.loop L)) := ⟨n1.rel, (b.above.grow n2).1, fun id hid' => by
        have hid' : H.next + 1 ≤ id := hid'
        rw [findLoop_cons, if_neg (by omega)]
        exact b.eb id (by omega), b.st, b.st _ _ _ _ _ _ _ b.inv n1⟩
      have hy : concL (η.bind H.next w.heap.size) [.yield H.next] = some [.func (.yield w.heap.size) #[] #[]] := by simp [concL, conc, Env.bind]
      have hx := concL_append (concL_append (concL_mono hle _ _ h1) hy) (concL_mono hle _ _ h2)
      have hl' := hl
      unfold callFun at hl'
      split at hl'
      · cases hl'
      · rename_i fi hfi
        unfold enterK at hl'
        split at hl'
        · cases hl'
        · rename_i c hc
          obtain ⟨p, hp, η2, x, w2, g1, g2, g3, g4, g5⟩ := callFun_sound hC.toCtxOK hself hl b1 hx (fm kd I.fn rd ds' t (.inRangeFunc w.heap.size :: k) :: cs)
          have hs1 := hstep g as.toArray bs.toArray _ hval (by
            have := run_enter hC.toCtxOK hfi hc (as.toArray ++ #[.func (.yield w.heap.size) #[] #[]] ++ bs.toArray) (w.alloc (.loop L))
            exact this)
          have e : as.toArray ++ #[Value.func (.yield w.heap.size) #[] #[]] ++ bs.toArray = (as ++ [Value.func (.yield w.heap.size) #[] #[]] ++ bs).toArray := by simp
          rw [e] at hs1
          have hfin := g1.finish
          rw [fm_finishLoop] at hfin
          obtain ⟨o, ho1, ho2⟩ := bindL_mem h p hp
          have b2 := b1.step g3 g4 g5.next
          have hle2 := hle.trans g3.le
          obtain ⟨q, hq, r⟩ := hself _ _ _ _ _ _ ho1 η2 w2 rd ds' t (.endRangeFunc w.heap.size :: k) cs b2 (hrd.mono hle2) (hds.mono hle2) (ht.mono hle2) ⟨g3.le.ρ _ _ (by simp [Env.bind]), hk.mono hle2⟩
          refine ⟨q, ho2 q hq, Res.down hEn ?_⟩
          exact r.of (.head hs1 hfin) (n1.trans g3) ((Below.grow n2).trans g5 (by show H.next ≤ H.next + 1; omega))
  · cases h

theorem rangeFunc_sound (hC : ProgOK P C O) (hself : SelfOK P O self) {f : Operand} {params : Array Tmp} {assign body : Code} (h : doRangeFunc C self E I todo tmps H f params.toList assign body = some outs) (b : Base P O E η H w) (hf : FOK P η I rd ds)
    (ht : TRel η tmps I.n t) (hk : TodoR η todo k) : ∃ p ∈ outs, Res kd P E η H w I.fn rd cs (lone (fm kd I.fn rd ds t (.code (.rangeFunc f params assign body) :: k)) cs w) p := by
  unfold doRangeFunc at h
  obtain ⟨hrd, hds⟩ := hf
  split at h
  · rename_i hro
    have hrd0 := hrd
    rw [hro] at hrd0
    cases rd with
    | some r => exact hrd0.elim
    | none =>
      obtain ⟨n1, n2, n3⟩ := b.new (.deferred true) (.deferred (some [])) rfl
      have hle := n1.le
      obtain ⟨p, hp, r⟩ := rangeIn_sound (rd := none) (ds' := { target := .collected w.heap.size, args := #[] } :: ds) (cs := cs) (rdf := w.heap.size) (m := lone (fm kd I.fn none ds t (.code (.rangeFunc f params assign body) :: k)) cs w) hC hself h n2 (hrd.mono hle) ⟨⟨w.heap.size, by simp [Env.bind], rfl⟩, hds.mono hle⟩ (ht.mono hle) (hk.mono hle) (by simp [Env.bind]) (fun g first captured args he hc => by
          have := st_rangeFunc (kd := kd) (P := P) (w := w) (fn := I.fn) (rd := none) (ds := ds) (t := t) (k := k) (cs := cs) (f := f) (params := params) (assign := assign) (body := body) (l := (w.alloc (.deferred (some []))).heap.size) (mark := [{ target := .collected w.heap.size, args := #[] }])
            (w1 := (w.alloc (.deferred (some []))).alloc (.loop { state := .ready, pending := none, fn := I.fn, tmps := t, params, assign, body, defers := w.heap.size })) (by
              simp [Instr.enterLoop]) he hc
          exact this)
      exact ⟨p, hp, r.of (.refl _ _) n1 n3⟩
  · rename_i l hro
    have hrd0 := hrd
    rw [hro] at hrd0
    cases rd with
    | none => exact hrd0.elim
    | some r =>
      have hrd0 : η.ρ l = some r := hrd0
      split at h
      · rename_i i hi
        split at h
        · rename_i s pd hg
          obtain ⟨r', L, h1, h2, h3, h4, h5⟩ := getLoop' b.rel hg
          rw [hrd0] at h1; cases h1
          have hdf := (h5 i hi).2.2.2.2.2
          exact rangeIn_sound (rd := some r) (ds' := ds) (cs := cs) (rdf := L.defers) (m := lone (fm kd I.fn (some r) ds t (.code (.rangeFunc f params assign body) :: k)) cs w) hC hself h b hrd hds ht hk hdf (fun g first captured args he hc => by
            have := st_rangeFunc (kd := kd) (P := P) (w := w) (fn := I.fn) (rd := some r) (ds := ds) (t := t) (k := k) (cs := cs) (f := f) (params := params) (assign := assign) (body := body) (l := w.heap.size) (mark := [])
              (w1 := w.alloc (.loop { state := .ready, pending := none, fn := I.fn, tmps := t, params, assign, body, defers := L.defers })) (by
                simp [Instr.enterLoop, Instr.getLoop, getObj, Sem.run, h2]) he hc
            exact this)
        · cases h
      · cases h

/-! one step -/
theorem stepC_sound (hC : ProgOK P C O) (hmix : P.follows .mixedOrders = true) (hself : SelfOK P O self) {c : Code} (h : stepC C self E I todo tmps H c = some outs) (b : Base P O E η H w) (hf : FOK P η I rd ds)
    (ht : TRel η tmps I.n t) (hk : TodoR η todo k) : ∃ p ∈ outs, Res kd P E η H w I.fn rd cs (lone (fm kd I.fn rd ds t (.code c :: k)) cs w) p := by
  cases c with
  | skip => exact go_same hself h b hf ht hk st_skip
  | region id ops draw => exact region_sound hC hmix hself h b hf ht hk
  | seq x y => exact go_same hself h b hf ht (k := .code x :: .code y :: k) ⟨rfl, rfl, hk⟩ st_seq
  | cond x y z =>
    have h : doCond self E I todo tmps H y z (ev tmps x) = some outs := h
    unfold doCond at h
    split at h
    · rename_i bb hv
      have hx := conc_bool (evT_sound ht.toX (fun _ _ x => x) hv)
      refine go_same hself h b hf ht (k := .code (if bb then y else z) :: k) ⟨?_, hk⟩ (st_cond hx)
      show (if bb then y else z) = _
      cases bb <;> rfl
    · cases h
  | block id body => exact go_same hself h b hf ht (k := .code body :: .inBlock id :: k) ⟨rfl, rfl, hk⟩ st_block
  | loop body => exact go_same hself h b hf ht (k := .code body :: .inLoop body :: k) ⟨rfl, rfl, hk⟩ st_loop
  | rangeFunc f params assign body => exact rangeFunc_sound hC hself h b hf ht hk
  | exit id =>
    have h : doExit C self E I tmps H (.exit id) (exitTo id todo) = some outs := h
    unfold doExit at h
    split at h
    · rename_i k' hk'
      obtain ⟨k2, h1, h2⟩ := exit_some hk hk'
      exact go_same hself h b hf ht h2 (st_exit h1)
    · rename_i hk'
      exact leave_sound hC.toCtxOK hself (.exit (exit_none hk hk')) h b hf ht
  | scope body => exact go_same hself h b hf ht (k := .code body :: .inScope body :: k) ⟨rfl, rfl, hk⟩ st_scope
  | label l => exact go_same hself h b hf ht hk st_label
  | goto l =>
    have h : doExit C self E I tmps H (.goto l) (gotoIn l todo) = some outs := h
    unfold doExit at h
    split at h
    · rename_i k' hk'
      obtain ⟨k2, h1, h2⟩ := goto_some hk hk'
      exact go_same hself h b hf ht h2 (st_goto h1)
    · rename_i hk'
      exact leave_sound hC.toCtxOK hself (.goto (goto_none hk hk')) h b hf ht
  | ret => exact leave_sound hC.toCtxOK hself .ret h b hf ht
  | refuse why => cases h
theorem doBegin_sound (hself : SelfOK P O self) (h : doBegin self E I todo tmps H = some outs) (b : Base P O E η H w) (hf : FOK P η I rd ds) (ht : TRel η tmps I.n t) (hk : TodoR η todo k) :
    ∃ p ∈ outs, Res kd P E η H w I.fn rd cs (lone (fm kd I.fn rd ds t (.beginRound :: k)) cs w) p := by
  unfold doBegin at h
  split at h
  · cases h
  · rename_i l hro
    have hrd := hf.rd
    rw [hro] at hrd
    cases rd with
    | none => exact hrd.elim
    | some r =>
      have hrd : η.ρ l = some r := hrd
      split at h
      · rename_i pd hg
        obtain ⟨r', L, h1, h2, h3, h4, h5⟩ := getLoop' b.rel hg
        rw [hrd] at h1; cases h1
        have hrun : (Instr.beginRound r).run P w = .ok () (World.putBlock w r (.loop { L with state := .busy })) := by
          simp [Instr.beginRound, Instr.getLoop, getObj, setObj, Sem.run, h2, World.putBlock, h3]
        have tr := Trans.put b.rel hg hrd (.loop .busy pd) (.loop { L with state := .busy }) ⟨rfl, h4, h5⟩ (w' := _) rfl
        exact go_on (kd := kd) hself h (b.step tr (b.above.put hg) (Nat.le_refl _)) hf ht hk (.one (st_begin hrun)) tr (Below.put hg)
      · cases h
theorem doEnd_sound (hself : SelfOK P O self) {l r : Nat} (hl : η.ρ l = some r) (h : doEnd self E I todo tmps H l = some outs) (b : Base P O E η H w) (hf : FOK P η I rd ds) (ht : TRel η tmps I.n t) (hk : TodoR η todo k) :
    ∃ p ∈ outs, Res kd P E η H w I.fn rd cs (lone (fm kd I.fn rd ds t (.endRangeFunc r :: k)) cs w) p := by
  unfold doEnd at h
  split at h
  · rename_i st pd hg
    obtain ⟨r', L, h1, h2, h3, h4, h5⟩ := getLoop' b.rel hg
    rw [hl] at h1; cases h1
    have key : st ≠ .busy → self E I (behindLoop todo pd) tmps (H.put l (.loop .exhausted pd)) = some outs → ∃ p ∈ outs, Res kd P E η H w I.fn rd cs (lone (fm kd I.fn rd ds t (.endRangeFunc r :: k)) cs w) p := by
      intro hne h
      have hrun : (Instr.endLoop r).run P w = .ok (pd.map Jump.code) (World.putBlock w r (.loop { L with state := .exhausted })) := by
        cases st <;> first | exact absurd rfl hne | simp [Instr.endLoop, Instr.getLoop, getObj, setObj, Sem.run, h2, World.putBlock, h3, h4]
      have tr := Trans.put b.rel hg hl (.loop .exhausted pd) (.loop { L with state := .exhausted }) ⟨rfl, h4, h5⟩ (w' := _) rfl
      refine go_on (kd := kd) hself h (b.step tr (b.above.put hg) (Nat.le_refl _)) hf ht ?_ (.one (st_endLoop hrun)) tr (Below.put hg)
      cases pd with
      | none => exact hk
      | some j => exact ⟨rfl, hk⟩
    split at h
    · cases h
    · rename_i hne
      exact key hne h
  · cases h
theorem stepI_sound (hC : ProgOK P C O) (hmix : P.follows .mixedOrders = true) (hself : SelfOK P O self) {a : AItem} {x : Item} (hx : ItemR η a x) (h : stepI C self E I todo tmps H a = some outs) (b : Base P O E η H w) (hf : FOK P η I rd ds)
    (ht : TRel η tmps I.n t) (hk : TodoR η todo k) : ∃ p ∈ outs, Res kd P E η H w I.fn rd cs (lone (fm kd I.fn rd ds t (x :: k)) cs w) p := by
  cases a <;> cases x <;> try exact hx.elim
  case code.code c c' =>
    have : c' = c := hx
    subst this
    exact stepC_sound hC hmix hself h b hf ht hk
  case inBlock.inBlock i j => exact go_same hself h b hf ht hk st_inBlock
  case inLoop.inLoop c c' =>
    have : c' = c := hx
    subst this
    exact go_same hself h b hf ht (k := .code c' :: .inLoop c' :: k) ⟨rfl, rfl, hk⟩ st_inLoop
  case inScope.inScope c c' => exact go_same hself h b hf ht hk st_inScope
  case endRangeFunc.endRangeFunc l r => exact doEnd_sound hself hx h b hf ht hk
  case beginRound.beginRound => exact doBegin_sound hself h b hf ht hk
end

theorem exec_ok (hC : ProgOK P C O) (hmix : P.follows .mixedOrders = true) : ∀ n, SelfOK P O (exec C n)
  | 0 => fun _ _ _ _ _ _ h => by cases h
  | n + 1 => fun E I todo tmps H outs h η w rd ds t k cs kd b hrd hds ht hk => by
    have hself := exec_ok hC hmix n
    have h : VmK.step C (exec C n) E I todo tmps H = some outs := h
    cases todo with
    | nil =>
      cases k with
      | cons x k => exact hk.elim
      | nil => exact leave_sound hC.toCtxOK hself .fall h b ⟨hrd, hds⟩ ht
    | cons a todo =>
      cases k with
      | nil => exact hk.elim
      | cons x k => exact stepI_sound hC hmix hself hk.1 h b ⟨hrd, hds⟩ ht hk.2

/-- THE MACHINE'S OWN RUN IS SOUND: a call comes to one of its ends. -/
theorem runCall_sound (hC : ProgOK P C O) (hmix : P.follows .mixedOrders = true) {n : Nat} {f : FuncId} {args : List AV} {xs : List Value} {H : Heap} {outs : List (AV × Heap)} (h : runCall C n f args H = some outs) {η : Env} {w : World} (b : Base P O [] η H w) (hx : concL η args = some xs) :
    Calls P f xs.toArray w fun e w' => ∃ p ∈ outs, ∃ η' x, e = .returned x ∧ conc η' p.1 = some x ∧ Trans P [] η H w η' p.2 w' := by
  intro cs
  obtain ⟨p, hp, η', x, w', ⟨fr, h1, h2, h3, h6⟩, h4, h5, _, _⟩ := callIn_sound hC (exec_ok hC hmix n) h b hx cs
  exact ⟨.returned x, w', fr, ⟨p, hp, η', x, rfl, h4, h5⟩, h1, h2, leaving_of h3 h6⟩
end Go.VmK
namespace Go.VmK
variable {P : Program} {O : Env → Heap → World → Prop}

def typesOk (P : Program) : Bool := P.types.toList.all fun t => match t.desc with
  | .named _ u => (P.types[u]?).isSome
  | _ => true
def namesOk (P : Program) : Bool := P.funcs.toList.all fun f => !(f.name == "runtime.NumGoroutine")
theorem foldSet_get {α : Type} : ∀ (l : List (Nat × α)) (t : Tr α) (f : Nat) (e : α), (l.foldl (fun t (p : Nat × α) => t.set p.1 p.2) t).get f = some e → (f, e) ∈ l ∨ t.get f = some e
  | [], t, f, e, h => .inr h
  | (g, x) :: r, t, f, e, h => by
    simp only [List.foldl_cons] at h
    rcases foldSet_get r _ f e h with h1 | h1
    · exact .inl (List.mem_cons_of_mem _ h1)
    · rw [Tr.get_set] at h1
      by_cases he : f = g
      · subst he; simp at h1; subst h1; exact .inl List.mem_cons_self
      · rw [if_neg he] at h1; exact .inr h1
theorem info_of {t : Nat} {inf : TypeInfo} (h : P.types[t]? = some inf) : P.info? t = some inf := by
  have hlt : t < P.types.size := (Array.getElem?_eq_some_iff.1 h).1
  show (if t < P.types.size then P.types[t]? else Made.infoAt P.toTables Made.depth t) = some inf
  rw [if_pos hlt, h]
theorem mkTI_ok (h : typesOk P = true) {t : Nat} {inf : TypeInfo} (hi : P.types[t]? = some inf) : TypeOK P t (mkTI P inf) := by
  have hinf : P.info? t = some inf := info_of hi
  refine ⟨?_, inf, hinf, rfl, rfl, fun z hz => ?_⟩
  · have hm : inf ∈ P.types.toList := by
      rw [Array.mem_toList_iff]; exact Array.mem_of_getElem? hi
    have := List.all_eq_true.1 h inf hm
    unfold Program.underlying mkTI
    rw [hinf]
    obtain ⟨desc, size, bytes, zr⟩ := inf
    cases desc <;> try rfl
    rename_i n u
    simp only at this ⊢
    obtain ⟨x, hx⟩ := Option.isSome_iff_exists.1 this
    rw [hx]
    have : P.info? u = some x := info_of hx
    rw [this]; rfl
  · simp only [mkTI] at hz
    cases hq : inf.zero with
    | none => rw [hq] at hz; cases hz
    | some v =>
      rw [hq] at hz
      exact ⟨v, rfl, fun η => ofVal_conc η 4 v z hz⟩
theorem mkMeth_find {t : TypeInfo} {name q : String} {f : FuncId} {r : Recv} (h : (mkMeth t).find? (fun m => m.1 == name) = some (q, some (f, r))) : ∃ m e, t.methods.find? (fun m => m.name == name) = some m ∧ m.path.isEmpty = true ∧ t.desc = .pointer e ∧ ((m.func = some (f, true) ∧ r = .ptr) ∨ (m.func = some (f, false) ∧ r = .load e)) := by
  unfold mkMeth at h
  rw [List.find?_map] at h
  obtain ⟨m, hm, h⟩ := Option.map_eq_some_iff.1 h
  simp only [Prod.mk.injEq] at h
  obtain ⟨_, h⟩ := h
  have hf : t.methods.find? (fun m => m.name == name) = some m := by
    rw [← Array.find?_toList]
    exact hm
  split at h
  · rename_i e g h1 h2 h3
    cases h
    exact ⟨m, e, hf, h3, h1, .inl ⟨h2, rfl⟩⟩
  · rename_i e g h1 h2 h3
    cases h
    exact ⟨m, e, hf, h3, h1, .inr ⟨h2, rfl⟩⟩
  · cases h
theorem wrap_ok (ts : Array TypeId) (t : TypeId) (a : Addr) (x y : ByteArray) (w : World) : (Builtin.ssaWrapNilChk_ ts t #[.pointer (some a), .string x, .string y]).run P w = .ok (.pointer (some a)) w := rfl
theorem mkMeth_ok {t : Nat} {inf : TypeInfo} (hi : P.types[t]? = some inf) {name q : String} {f : FuncId} {r : Recv} (h : (mkMeth inf).find? (fun m => m.1 == name) = some (q, some (f, r))) : MethOK P t name f r := by
  obtain ⟨m, e, hf, hp, hd, hr⟩ := mkMeth_find h
  have hinf : P.info? t = some inf := info_of hi
  have hu : P.underlying t = some (.pointer e) := by
    unfold Program.underlying
    rw [hinf]
    obtain ⟨desc, size, bytes, zr⟩ := inf
    simp only at hd
    subst hd
    rfl
  have hpath : m.path.toList = [] := by simpa using hp
  obtain ⟨k, hk⟩ : ∃ k, P.types.size + Made.depth = k + 1 := ⟨P.types.size + 99, rfl⟩
  have hti : ∀ w : World, (Go.typeInfo t).run P w = .ok inf w := fun w => by simp [Go.typeInfo, hinf]
  have hun : ∀ w : World, (Go.underlying t).run P w = .ok (.pointer e) w := fun w => by simp [Go.underlying, hu]
  rcases hr with ⟨h1, rfl⟩ | ⟨h1, rfl⟩
  · intro x w
    rw [hk]
    simp [method, hti, hf, hpath, follow, h1, receiverAt, hun, Place.get]
  · intro a y w hl
    rw [hk]
    have hpe : m.path = #[] := by simpa using hp
    simp [method, hti, hf, follow, h1, receiverAt, hun, Place.get, hpe, strVal, wrap_ok, asAddr, hl]
def keysOk (P : Program) (keys : List (TypeId × Nat)) : Bool := keys.all fun p => decide (p.2 ≤ 10000) && P.keyTypeAt p.2 p.1 && !P.eqGuardType P.depth p.1
theorem mkCtx_ok {exts : List (FuncId × Ext)} {cons : List (FuncId × Con)} {apart : List FuncId} {keys frames : List (TypeId × Nat)} (h1 : typesOk P = true) (h2 : namesOk P = true) (hx : ∀ p ∈ exts, ExtOK P p.1 p.2) (hc : ∀ p ∈ cons, ConOK P O p.1 p.2) (hk : keysOk P keys = true) : ProgOK P (mkCtx P exts cons apart keys frames) O := by
  refine ⟨⟨fun t i h => ?_, fun f i h => ?_, fun f fn hf _ => ?_, fun f e h => ?_, fun t m h => ?_, (fun f hf => by cases hf), (fun f hf => by cases hf), fun t l h name q f r hfind => ?_⟩, fun f c h => ?_, fun _ _ _ _ => ⟨fun i x (h : none = some x) => (by cases h), fun b o x (h : none = some x) => (by cases h)⟩⟩
  · have := Tr.build_get _ _ _ _ h
    rw [List.getElem?_map] at this
    cases hq : P.types.toList[t]? with
    | none => rw [hq] at this; cases this
    | some inf =>
      rw [hq] at this; cases this
      exact mkTI_ok h1 (by simpa using hq)
  · have := Tr.build_get _ _ _ _ h
    rw [List.getElem?_map] at this
    cases hq : P.funcs.toList[f]? with
    | none => rw [hq] at this; cases this
    | some fn =>
      rw [hq] at this; cases this
      exact ⟨fn, by simpa using hq, rfl, rfl, rfl⟩
  · have hm : fn ∈ P.funcs.toList := by
      rw [Array.mem_toList_iff]; exact Array.mem_of_getElem? hf
    have := List.all_eq_true.1 h2 fn hm
    simpa using this
  · rcases foldSet_get exts .lf f e h with h | h
    · exact hx _ h
    · simp [Tr.get_lf] at h
  · rcases foldSet_get keys .lf t m h with h | h
    · have := List.all_eq_true.1 hk _ h
      simpa using this
    · simp [Tr.get_lf] at h
  · have := Tr.build_get _ _ _ _ h
    rw [List.getElem?_map] at this
    cases hq : P.types.toList[t]? with
    | none => rw [hq] at this; cases this
    | some inf =>
      rw [hq] at this; cases this
      exact mkMeth_ok (by simpa using hq) hfind
  · rcases foldSet_get cons .lf f c h with h | h
    · exact hc _ h
    · simp [Tr.get_lf] at h
/-- the tables, and what is known of what is handed from outside -/
def withFacts (C : Ctx) (fs : List (BinOp × AV × AV × AV)) (σ0 : Nat → Option Value) : Ctx := { C with facts := fs, base := σ0 }
theorem withFacts_ok {C : Ctx} {fs : List (BinOp × AV × AV × AV)} {σ0 : Nat → Option Value} (h : ProgOK P C O) (h0 : C.ofacts = []) (h1 : C.mem = fun _ _ => none) (hO : ∀ (η : Env) (H : Heap) (w : World), O η H w → ∀ i x, σ0 i = some x → η.σ i = some x) (hf : ∀ f ∈ fs, FactOK P (withFacts C fs σ0) f) : ProgOK P (withFacts C fs σ0) O :=
  ⟨⟨h.types, h.funcs, h.named, h.exts, h.keys, hf, (fun f hf' => by have : f ∈ C.ofacts := hf'; rw [h0] at this; cases this), h.meths⟩, h.cons, fun η H w o => ⟨hO η H w o, fun b o x hx => by have : C.mem b o = some x := hx; rw [h1] at this; cases this⟩⟩
/-- the same, with operations, and with what lies outside -/
def withAll (C : Ctx) (fs : List (BinOp × AV × AV × AV)) (os : List ((Nat × Nat × Nat) × List AV × AV)) (σ0 : Nat → Option Value) (m : Nat → Nat → Option Value) : Ctx := { C with facts := fs, ofacts := os, base := σ0, mem := m }
theorem withAll_ok {C : Ctx} {fs : List (BinOp × AV × AV × AV)} {os : List ((Nat × Nat × Nat) × List AV × AV)} {σ0 : Nat → Option Value} {m : Nat → Nat → Option Value} (h : ProgOK P C O) (hO : ∀ (η : Env) (H : Heap) (w : World), O η H w → ∀ i x, σ0 i = some x → η.σ i = some x)
    (hM : ∀ (η : Env) (H : Heap) (w : World), O η H w → ∀ b o x, m b o = some x → w.cell? ⟨b, o, none⟩ = some x) (hf : ∀ f ∈ fs, FactOK P (withAll C fs os σ0 m) f) (ho : ∀ f ∈ os, OFactOK P (withAll C fs os σ0 m) f) : ProgOK P (withAll C fs os σ0 m) O :=
  ⟨⟨h.types, h.funcs, h.named, h.exts, h.keys, hf, ho, h.meths⟩, h.cons, fun η H w o => ⟨hO η H w o, hM η H w o⟩⟩
end Go.VmK
namespace Go.VmK
variable {P : Program}

/-- what stands outside: the blocks Q of the world w0 are as they were, and none of them is the run's own; the handed values are what they were -/
structure Outer (w0 : World) (σ0 : Nat → Option Value) (Q : Nat → Prop) (η : Env) (H : Heap) (w : World) : Prop where
  σ : ∀ i x, σ0 i = some x → η.σ i = some x
  os : w.os = w0.os
  output : w.output = w0.output
  size : w0.heap.size ≤ w.heap.size
  blocks : ∀ b, Q b → b < w0.heap.size ∧ w.heap[b]? = w0.heap[b]? ∧ ¬ Live η H b
theorem Outer.stable (w0 : World) (σ0 : Nat → Option Value) (Q : Nat → Prop) : Stable P (Outer w0 σ0 Q) := by
  intro E η H w η' H' w' h t
  refine ⟨fun i x hx => t.le.σ _ _ (h.σ i x hx), t.keeps.os.trans h.os, t.keeps.output.trans h.output, Nat.le_trans h.size t.keeps.size, fun b hb => ?_⟩
  obtain ⟨h1, h2, h3⟩ := h.blocks b hb
  have hlt : b < w.heap.size := Nat.lt_of_lt_of_le h1 h.size
  exact ⟨h1, (t.frame b hlt h3).trans h2, fun x => h3 (t.shr b hlt x)⟩
def env0 (σ0 : Nat → Option Value) : Env := ⟨fun _ => none, fun _ => none, σ0⟩
def heap0 (n : Nat) : Heap := { objs := .lf, next := n }
theorem Base.start (w0 : World) (σ0 : Nat → Option Value) (Q : Nat → Prop) (n : Nat) (hQ : ∀ b, Q b → b < w0.heap.size) (hσ : ∀ i, n ≤ i → σ0 i = none) : Base P (Outer w0 σ0 Q) [] (env0 σ0) (heap0 n) w0 :=
  ⟨empty_rel P _ _ n w0, fun id h => ⟨rfl, rfl, rfl, hσ id h⟩, fun _ _ => rfl, Outer.stable _ _ _, ⟨fun _ _ h => h, rfl, rfl, Nat.le_refl _, fun b hb => ⟨hQ b hb, rfl, fun ⟨id, o, h, _⟩ => by simp [heap0, Heap.get, Tr.get_lf] at h⟩⟩⟩
end Go.VmK
namespace Go.VmK
variable {P : Program}
open Go.RowKit

/-- the blocks of w stand in w' -/
structure Stands (w w' : World) : Prop where
  os : w'.os = w.os
  output : w'.output = w.output
  size : w.heap.size ≤ w'.heap.size
  blocks : ∀ b, b < w.heap.size → w'.heap[b]? = w.heap[b]?
theorem stands_of_grown {w w' : World} (h : Grown w w') : Stands w w' := by
  obtain ⟨⟨h1, h2, h3⟩, h4, h5⟩ := h
  refine ⟨h1, h2, h5, fun b hb => ?_⟩
  have := h3 b hb
  split at this
  · rename_i c t fr c' t' fr' e1 e2
    obtain ⟨rfl, rfl, hs, hc⟩ := this
    rw [e1, e2]
    have : c' = c := Array.ext_getElem? fun j => hc j (fun x => x)
    rw [this]
  · rename_i es c es' c' e1 e2
    rcases this with h | ⟨rfl, rfl⟩
    · exact h.elim
    · rw [e1, e2]
  · exact this
theorem HRel.stands {E : List LoopInfo} {η : Env} {H : Heap} {w w' : World} (h : HRel P η E H w) (g : Stands w w') : HRel P η E H w' :=
  ⟨fun id o ho => by obtain ⟨b, ob, h1, h2, h3⟩ := h.obj id o ho; exact ⟨b, ob, h1, (g.blocks b (lt_of_get h2)).trans h2, h3⟩, h.inj⟩
theorem Trans.stands {E : List LoopInfo} {η : Env} {H : Heap} {w w' : World} (h : HRel P η E H w) (g : Stands w w') : Trans P E η H w η H w' :=
  ⟨Env.le.refl _, h.stands g, fun b hb _ => g.blocks b hb, fun _ _ x => x, ⟨g.os, g.output, g.size⟩⟩

/-- a function that says yes or no of what is handed -/
theorem flag_ok {w0 : World} {σ0 : Nat → Option Value} {f : FuncId} {es : List AV} {xs : List Value} (hx : concL (env0 σ0) es = some xs)
    (h : ∀ w : World, Stands w0 w → Calls P f xs.toArray w fun e w' => ∃ b, e = .returned (.bool b) ∧ Stands w w') : ConOK P (Outer w0 σ0 fun b => b < w0.heap.size) f (.flag es) := by
  intro E η H w args ys l b hy hl cs
  simp only [conRun] at hl
  cases ha : eqAVs args es with
  | false => rw [ha] at hl; cases hl
  | true =>
    rw [ha] at hl
    have he := eqAVs_eq _ _ ha
    subst he
    have hle : (env0 σ0).le η := ⟨fun _ _ h => (by cases h), fun _ _ h => (by cases h), b.inv.σ⟩
    have hxy : xs = ys := by have := concL_mono hle args xs hx; rw [this] at hy; exact Option.some.inj hy
    subst hxy
    obtain ⟨e, w', fr, ⟨v, rfl, hs⟩, h1, h2, h3⟩ := h w ⟨b.inv.os, b.inv.output, b.inv.size, fun b' hb' => (b.inv.blocks b' hb').2.1⟩ cs
    have hl' : l = [(.bool true, H), (.bool false, H)] := (Option.some.inj hl).symm
    refine ⟨(.bool v, H), by rw [hl']; cases v <;> simp, η, .bool v, w', ⟨fr, h1, h2, going_of h3⟩, rfl, Trans.stands b.rel hs, b.above, Below.refl _ _ _⟩

/-- a function that says yes of what is handed -/
theorem yes_ok {w0 : World} {σ0 : Nat → Option Value} {f : FuncId} {es : List AV} {xs : List Value} (hx : concL (env0 σ0) es = some xs)
    (h : ∀ w : World, Stands w0 w → Calls P f xs.toArray w fun e w' => e = .returned (.bool true) ∧ Stands w w') : ConOK P (Outer w0 σ0 fun b => b < w0.heap.size) f (.yes es) := by
  intro E η H w args ys l b hy hl cs
  simp only [conRun] at hl
  cases ha : eqAVs args es with
  | false => rw [ha] at hl; cases hl
  | true =>
    rw [ha] at hl
    have he := eqAVs_eq _ _ ha
    subst he
    have hle : (env0 σ0).le η := ⟨fun _ _ h => (by cases h), fun _ _ h => (by cases h), b.inv.σ⟩
    have hxy : xs = ys := by have := concL_mono hle args xs hx; rw [this] at hy; exact Option.some.inj hy
    subst hxy
    obtain ⟨e, w', fr, ⟨rfl, hs⟩, h1, h2, h3⟩ := h w ⟨b.inv.os, b.inv.output, b.inv.size, fun b' hb' => (b.inv.blocks b' hb').2.1⟩ cs
    have hl' : l = [(.bool true, H)] := (Option.some.inj hl).symm
    exact ⟨(.bool true, H), by rw [hl']; simp, η, .bool true, w', ⟨fr, h1, h2, going_of h3⟩, rfl, Trans.stands b.rel hs, b.above, Below.refl _ _ _⟩

theorem answerOf_some {args : List AV} {v : AV} : ∀ (l : List (List AV × AV)), answerOf args l = some v → (args, v) ∈ l
  | [], h => by cases h
  | (as, v') :: l, h => by
    unfold answerOf at h
    cases hb : eqAVs args as with
    | true =>
      rw [hb] at h; simp only [cond_true, Option.some.injEq] at h
      rw [eqAVs_eq _ _ hb, ← h]; exact List.mem_cons_self
    | false => rw [hb] at h; exact List.mem_cons_of_mem _ (answerOf_some l h)
/-- a function that answers this of that -/
theorem ans_ok {w0 : World} {σ0 : Nat → Option Value} {f : FuncId} {rs : List (List AV × AV)}
    (h : ∀ r ∈ rs, ∃ xs y, concL (env0 σ0) r.1 = some xs ∧ conc (env0 σ0) r.2 = some y ∧ ∀ w : World, Stands w0 w → Calls P f xs.toArray w fun e w' => e = .returned y ∧ Stands w w') : ConOK P (Outer w0 σ0 fun b => b < w0.heap.size) f (.ans rs) := by
  intro E η H w args ys l b hy hl cs
  simp only [conRun] at hl
  split at hl
  · rename_i v hv
    cases hl
    obtain ⟨xs, y, h1, h2, h3⟩ := h _ (answerOf_some rs hv)
    have hle : (env0 σ0).le η := ⟨fun _ _ h => (by cases h), fun _ _ h => (by cases h), b.inv.σ⟩
    have hxy : xs = ys := by have := concL_mono hle args xs h1; rw [this] at hy; exact Option.some.inj hy
    subst hxy
    obtain ⟨e, w', fr, ⟨rfl, hs⟩, g1, g2, g3⟩ := h3 w ⟨b.inv.os, b.inv.output, b.inv.size, fun b' hb' => (b.inv.blocks b' hb').2.1⟩ cs
    exact ⟨(v, H), List.mem_cons_self, η, y, w', ⟨fr, g1, g2, going_of g3⟩, conc_mono hle _ _ h2, Trans.stands b.rel hs, b.above, Below.refl _ _ _⟩
  · cases hl
def allTrue (l : List (AV × Heap)) : Bool := l.all fun p => match p.1 with | .bool b => b | _ => false
def saysYes (o : Option (List (AV × Heap))) : Bool := match o with | some l => allTrue l | none => false
/-- A RUN THAT SAYS YES ON ALL ITS WAYS IS A CALL THAT ANSWERS YES AND LEAVES WHAT STOOD. -/
theorem calls_yes {C : Ctx} {w0 : World} {σ0 : Nat → Option Value} (hC : ProgOK P C (Outer w0 σ0 fun b => b < w0.heap.size)) (hmix : P.follows .mixedOrders = true) {n k : Nat} {f : FuncId} {args : List AV} {xs : List Value}
    (hr : saysYes (runCall C n f args (heap0 k)) = true) (hσ : ∀ i, k ≤ i → σ0 i = none) (hx : concL (env0 σ0) args = some xs) :
    Calls P f xs.toArray w0 fun e w' => e = .returned (.bool true) ∧ Stands w0 w' := by
  cases ho : runCall C n f args (heap0 k) with
  | none => rw [ho] at hr; cases hr
  | some outs =>
    rw [ho] at hr
    refine (runCall_sound hC hmix ho (Base.start w0 σ0 _ k (fun _ h => h) hσ) hx).mono fun e w' ⟨p, hp, η', x, he, hc, ht⟩ => ?_
    have hb := List.all_eq_true.1 hr p hp
    have : x = .bool true := by
      obtain ⟨v, H'⟩ := p
      cases v <;> simp at hb
      subst hb
      exact (Option.some.inj hc).symm
    subst this
    exact ⟨he, ht.keeps.os, ht.keeps.output, ht.keeps.size, fun b hb => ht.frame b hb fun ⟨id, o, h, _⟩ => by simp [heap0, Heap.get, Tr.get_lf] at h⟩
end Go.VmK
namespace Go.VmK
variable {P : Program} {O : Env → Heap → World → Prop}

theorem eqOp_eq {α : Type} {f : α → α → Bool} (hf : ∀ a b, f a b = true → a = b) : ∀ (a b : Option α), eqOp f a b = true → a = b
  | none, none, _ => rfl
  | some a, some b, h => by rw [hf a b h]
  | none, some _, h => by cases h
  | some _, none, h => by cases h
theorem eqTr_eq {α : Type} {f : α → α → Bool} (hf : ∀ a b, f a b = true → a = b) : ∀ (s t : Tr α), eqTr f s t = true → s = t
  | .lf, .lf, _ => rfl
  | .nd l v r, .nd l' v' r', h => by
    simp only [eqTr, Bool.and_eq_true] at h
    rw [eqOp_eq hf _ _ h.1.1, eqTr_eq hf _ _ h.1.2, eqTr_eq hf _ _ h.2]
  | .lf, .nd _ _ _, h => by cases h
  | .nd _ _ _, .lf, h => by cases h
theorem eqNs_eq' : ∀ (a b : List Nat), eqNs a b = true → a = b
  | [], [], _ => rfl
  | a :: x, b :: y, h => by
    simp only [eqNs, Bool.and_eq_true] at h
    rw [beq_eq h.1, eqNs_eq' _ _ h.2]
  | [], _ :: _, h => by cases h
  | _ :: _, [], h => by cases h
theorem eqObj_eq (a b : AObj) (h : eqObj a b = true) : a = b := by
  cases a <;> cases b <;> simp only [eqObj, Bool.and_eq_true, Bool.false_eq_true] at h
  · obtain ⟨⟨⟨⟨⟨⟨h1, h2⟩, h3⟩, h4⟩, h5⟩, h6⟩, h7⟩ := h
    rw [beq_eq h1, beq_eq h2, eq_of_beq h3, beq_eq h4, beq_eq h5, eq_of_beq h6, eqTr_eq eqAV_eq _ _ h7]
  · rw [eqEs_eq _ _ h.1, beq_eq h.2]
  · obtain ⟨⟨⟨h1, h2⟩, h3⟩, h4⟩ := h
    rw [eq_of_beq h1, beq_eq h2, eqNs_eq' _ _ h3, beq_eq h4]
  · rw [beqL_eq' h.1, beq_eq h.2]
  · rw [eq_of_beq h.1, eq_of_beq h.2]
  · rw [eq_of_beq h]
theorem eqHeap_eq (H K : Heap) (h : eqHeap H K = true) : H = K := by
  obtain ⟨a, b⟩ := H
  obtain ⟨c, d⟩ := K
  simp only [eqHeap, Bool.and_eq_true] at h
  rw [show b = d from beq_eq h.1, show a = c from eqTr_eq eqObj_eq _ _ h.2]
theorem knownIn_some {H : Heap} {args : List AV} {l : List (AV × Heap)} : ∀ (rs : List (List AV × Heap × List (AV × Heap))), knownIn H args rs = some l → (args, H, l) ∈ rs
  | [], h => by cases h
  | (as, K, o) :: rs, h => by
    unfold knownIn at h
    cases hb : (eqAVs args as && eqHeap H K) with
    | true =>
      rw [hb] at h
      simp only [Bool.and_eq_true] at hb
      have h1 := eqAVs_eq _ _ hb.1
      have h2 := eqHeap_eq _ _ hb.2
      simp only [cond_true, Option.some.injEq] at h
      subst h1; subst h2; subst h
      exact List.mem_cons_self
    | false =>
      rw [hb] at h
      exact List.mem_cons_of_mem _ (knownIn_some rs h)
def eqOuts : List (AV × Heap) → List (AV × Heap) → Bool
  | [], [] => true
  | p :: x, q :: y => eqAV p.1 q.1 && eqHeap p.2 q.2 && eqOuts x y
  | _, _ => false
theorem eqOuts_eq : ∀ (x y : List (AV × Heap)), eqOuts x y = true → x = y
  | [], [], _ => rfl
  | p :: x, q :: y, h => by
    simp only [eqOuts, Bool.and_eq_true] at h
    have h1 := eqAV_eq _ _ h.1.1
    have h2 := eqHeap_eq _ _ h.1.2
    rw [eqOuts_eq x y h.2, show p = q from Prod.ext h1 h2]
  | [], _ :: _, h => by cases h
  | _ :: _, [], h => by cases h
def isOuts (o : Option (List (AV × Heap))) (l : List (AV × Heap)) : Bool := match o with | some m => eqOuts m l | none => false
theorem isOuts_eq {o : Option (List (AV × Heap))} {l : List (AV × Heap)} (h : isOuts o l = true) : o = some l := by
  cases o with
  | none => cases h
  | some m => rw [eqOuts_eq m l h]
/-- A FUNCTION BY CALLS OF IT WHOSE ENDS ARE KNOWN. -/
theorem known_ok {f : FuncId} {rs : List (List AV × Heap × List (AV × Heap))} (hmix : P.follows .mixedOrders = true) (h : ∀ r ∈ rs, ∃ (C : Ctx) (n : Nat), ProgOK P C O ∧ runCall C n f r.1 r.2.1 = some r.2.2) : ConOK P O f (.known rs) := by
  intro E η H w args xs l b hx hl cs
  simp only [conRun] at hl
  cases E with
  | cons => cases hl
  | nil =>
    obtain ⟨C, n, hC, hr⟩ := h _ (knownIn_some rs hl)
    exact callIn_sound hC (exec_ok hC hmix n) hr b hx cs
end Go.VmK
