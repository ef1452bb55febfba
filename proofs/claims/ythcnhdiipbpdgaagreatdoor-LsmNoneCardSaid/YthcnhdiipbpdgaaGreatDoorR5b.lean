/-
  A machine that runs the model with abstract blocks, and lemmas on it: whatever it answers of a call is what the model does (ProgOK, Base: the conditions).
-/
import Derived.Test.YthcnhdiipbpdgaaGreatDoorR5a
namespace Go.VmK
variable {P : Program} {C : Ctx} {E : List LoopInfo} {η : Env} {H : Heap} {w : World}

/-! a frame that runs -/
def fm (fn : FuncId) (rd : Option Nat) (ds : List Deferred) (t : Array Value) (todo : List Item) : Frame := { fn, tmps := t, todo, defers := ds, mode := .run, kind := .normal, roundOf := rd }
def evT (t : Array Value) : Operand → Value := Act.eval ⟨t, []⟩
def putA (t : Array Value) (d : Option Tmp) (v : Value) : Array Value := match d with | some d => t.setIfInBounds d v | none => t
section
variable {fn : FuncId} {rd : Option Nat} {ds : List Deferred} {t : Array Value} {k todo : List Item} {cs : List Frame}
theorem fm_eval : (fm fn rd ds t todo).eval = evT t := by funext x; cases x <;> rfl
theorem fm_finish (ops : Array Oper) (i : Nat) (rest : List Nat) (v : Value) :
    (fm fn rd ds t (.inRegion ops (i :: rest) :: k)).finish v = fm fn rd ds (putA t ((ops[i]?).bind (·.dst)) v) (.inRegion ops rest :: k) := by
  cases h : (ops[i]?).bind (·.dst) <;> simp [Frame.finish, fm, putA, h]

theorem st_skip : Go.step P (lone (fm fn rd ds t (.code .skip :: k)) cs w) = .next (lone (fm fn rd ds t k) cs w) := step_lone_go (by simp [stepG, stepG.exec, fm])
theorem st_label {l : Nat} : Go.step P (lone (fm fn rd ds t (.code (.label l) :: k)) cs w) = .next (lone (fm fn rd ds t k) cs w) := step_lone_go (by simp [stepG, stepG.exec, fm])
theorem st_inBlock {l : Nat} : Go.step P (lone (fm fn rd ds t (.inBlock l :: k)) cs w) = .next (lone (fm fn rd ds t k) cs w) := step_lone_go (by simp [stepG, stepG.exec, fm])
theorem st_inScope {c : Code} : Go.step P (lone (fm fn rd ds t (.inScope c :: k)) cs w) = .next (lone (fm fn rd ds t k) cs w) := step_lone_go (by simp [stepG, stepG.exec, fm])
theorem st_seq {a b : Code} : Go.step P (lone (fm fn rd ds t (.code (.seq a b) :: k)) cs w) = .next (lone (fm fn rd ds t (.code a :: .code b :: k)) cs w) := step_lone_go (by simp [stepG, stepG.exec, fm])
theorem st_cond {c : Operand} {a b : Code} {x : Bool} (h : evT t c = .bool x) : Go.step P (lone (fm fn rd ds t (.code (.cond c a b) :: k)) cs w) = .next (lone (fm fn rd ds t (.code (if x then a else b) :: k)) cs w) :=
  step_lone_go (by
    have := congrFun (fm_eval (fn := fn) (rd := rd) (ds := ds) (t := t) (todo := .code (.cond c a b) :: k)) c
    simp only [fm] at this
    simp [stepG, stepG.exec, fm, this, h])
theorem st_block {l : Nat} {c : Code} : Go.step P (lone (fm fn rd ds t (.code (.block l c) :: k)) cs w) = .next (lone (fm fn rd ds t (.code c :: .inBlock l :: k)) cs w) := step_lone_go (by simp [stepG, stepG.exec, fm])
theorem st_loop {c : Code} : Go.step P (lone (fm fn rd ds t (.code (.loop c) :: k)) cs w) = .next (lone (fm fn rd ds t (.code c :: .inLoop c :: k)) cs w) := step_lone_go (by simp [stepG, stepG.exec, fm])
theorem st_inLoop {c : Code} : Go.step P (lone (fm fn rd ds t (.inLoop c :: k)) cs w) = .next (lone (fm fn rd ds t (.code c :: .inLoop c :: k)) cs w) := step_lone_go (by simp [stepG, stepG.exec, fm])
theorem st_scope {c : Code} : Go.step P (lone (fm fn rd ds t (.code (.scope c) :: k)) cs w) = .next (lone (fm fn rd ds t (.code c :: .inScope c :: k)) cs w) := step_lone_go (by simp [stepG, stepG.exec, fm])
theorem st_exit {l : Nat} {k' : List Item} (h : Go.exitTo l k = some k') : Go.step P (lone (fm fn rd ds t (.code (.exit l) :: k)) cs w) = .next (lone (fm fn rd ds t k') cs w) := step_lone_go (by simp [stepG, stepG.exec, fm, h])
theorem st_goto {l : Nat} {k' : List Item} (h : Go.gotoIn l k = some k') : Go.step P (lone (fm fn rd ds t (.code (.goto l) :: k)) cs w) = .next (lone (fm fn rd ds t k') cs w) := step_lone_go (by simp [stepG, stepG.exec, fm, h])
theorem st_region {id : Nat} {ops : Array Oper} : Go.step P (lone (fm fn rd ds t (.code (.region id ops false) :: k)) cs w) = .next (lone (fm fn rd ds t (.inRegion ops (List.range ops.size) :: k)) cs w) := step_lone_go (by simp [stepG, stepG.exec, fm])
theorem st_draw {id : Nat} {ops : Array Oper} : Go.step P (lone (fm fn rd ds t (.code (.region id ops true) :: k)) cs w) =
    .next (lone (fm fn rd ds t (.inRegion ops (Region.schedule (P.follows .mixedOrders) ops (w.tape w.drawn (.order fn id))) :: k)) cs { w with drawn := w.drawn + 1 }) :=
  step_lone_go (by simp [stepG, stepG.exec, fm, choose, Sem.run, Question.forced, Question.cut])
theorem st_regionEnd {ops : Array Oper} : Go.step P (lone (fm fn rd ds t (.inRegion ops [] :: k)) cs w) = .next (lone (fm fn rd ds t k) cs w) := step_lone_go (by simp [stepG, stepG.exec, fm])

theorem st_unwanted {ops : Array Oper} {i : Nat} {rest : List Nat} {o : Oper} (ho : ops[i]? = some o) (h : Region.wanted o (yielded ops t) = false) :
    Go.step P (lone (fm fn rd ds t (.inRegion ops (i :: rest) :: k)) cs w) = .next (lone (fm fn rd ds (putA t o.dst undef) (.inRegion ops rest :: k)) cs w) := by
  have e : putA t o.dst undef = putA t ((ops[i]?).bind (·.dst)) undef := by rw [ho]; rfl
  rw [e, ← fm_finish]
  exact step_lone_go (by simp [stepG, stepG.exec, fm, ho, h])
theorem stepG_fm {ops : Array Oper} {i : Nat} {rest : List Nat} {o : Oper} (ho : ops[i]? = some o) (hw : Region.wanted o (yielded ops t) = true) (hd : ∀ c, o.op ≠ .defer c) :
    stepG P true { frame := fm fn rd ds t (.inRegion ops (i :: rest) :: k), callers := cs, status := .running, dying := none } w =
      stepG.apply P true (fm fn rd ds t (.inRegion ops (i :: rest) :: k)) cs none (execOp (evT t) o) w := by
  have he := fm_eval (fn := fn) (rd := rd) (ds := ds) (t := t) (todo := .inRegion ops (i :: rest) :: k)
  simp only [fm] at he
  simp only [stepG, stepG.exec, stepG.oper, Frame.oper?, fm, ho, hw, he, Option.map_some, Option.getD_some, if_true]
  cases rd with
  | none => rfl
  | some l =>
    cases hop : o.op <;> first | rfl | exact absurd hop (hd _)
theorem st_value {ops : Array Oper} {i : Nat} {rest : List Nat} {o : Oper} {x : Value} {w' : World} (ho : ops[i]? = some o) (hw : Region.wanted o (yielded ops t) = true) (hd : ∀ c, o.op ≠ .defer c)
    (hr : (execOp (evT t) o).run P w = .ok (.value x) w') :
    Go.step P (lone (fm fn rd ds t (.inRegion ops (i :: rest) :: k)) cs w) = .next (lone (fm fn rd ds (putA t o.dst x) (.inRegion ops rest :: k)) cs w') := by
  have e : putA t o.dst x = putA t ((ops[i]?).bind (·.dst)) x := by rw [ho]; rfl
  rw [e, ← fm_finish]
  exact step_lone_go (by rw [stepG_fm ho hw hd]; simp [stepG.apply, hr])
theorem st_done {ops : Array Oper} {i : Nat} {rest : List Nat} {o : Oper} {w' : World} (ho : ops[i]? = some o) (hw : Region.wanted o (yielded ops t) = true) (hd : ∀ c, o.op ≠ .defer c)
    (hr : (execOp (evT t) o).run P w = .ok .skip w') :
    Go.step P (lone (fm fn rd ds t (.inRegion ops (i :: rest) :: k)) cs w) = .next (lone (fm fn rd ds (putA t o.dst undef) (.inRegion ops rest :: k)) cs w') := by
  have e : putA t o.dst undef = putA t ((ops[i]?).bind (·.dst)) undef := by rw [ho]; rfl
  rw [e, ← fm_finish]
  exact step_lone_go (by rw [stepG_fm ho hw hd]; simp [stepG.apply, hr])
theorem st_enter {ops : Array Oper} {i : Nat} {rest : List Nat} {o : Oper} {f : FuncId} {args : Array Value} {w' : World} (ho : ops[i]? = some o) (hw : Region.wanted o (yielded ops t) = true) (hd : ∀ c, o.op ≠ .defer c)
    (hr : (execOp (evT t) o).run P w = .ok (.enter f args) w') :
    Go.step P (lone (fm fn rd ds t (.inRegion ops (i :: rest) :: k)) cs w) = .next (lone (Frame.enter P f args .normal) (fm fn rd ds t (.inRegion ops (i :: rest) :: k) :: cs) w') :=
  step_lone_go (by rw [stepG_fm ho hw hd]; simp [stepG.apply, hr, fm])
theorem st_round {ops : Array Oper} {i : Nat} {rest : List Nat} {o : Oper} {l : Nat} {f : FuncId} {tm : Array Value} {a b : Code} {w' : World} (ho : ops[i]? = some o) (hw : Region.wanted o (yielded ops t) = true) (hd : ∀ c, o.op ≠ .defer c)
    (hr : (execOp (evT t) o).run P w = .ok (.round l f tm a b) w') :
    Go.step P (lone (fm fn rd ds t (.inRegion ops (i :: rest) :: k)) cs w) = .next (lone (Frame.round l f tm a b .normal) (fm fn rd ds t (.inRegion ops (i :: rest) :: k) :: cs) w') :=
  step_lone_go (by rw [stepG_fm ho hw hd]; simp [stepG.apply, hr])
theorem enter_fm {f : FuncId} {fn' : Func} {c : Code} (hf : P.funcs[f]? = some fn') (hb : fn'.body = some c) (args : Array Value) :
    Frame.enter P f args .normal = fm f none [] (args ++ Array.replicate (fn'.ntmps - args.size) undef) [.code c] := by
  simp [Frame.enter, fm, hf, hb]
theorem round_fm (l : Nat) (f : FuncId) (tm : Array Value) (a b : Code) : Frame.round l f tm a b .normal = fm f (some l) [] tm [.code a, .beginRound, .code b] := rfl
end

/-! temporaries: X are those that are ahead of their time -/
structure TRelX (η : Env) (t : Tr AV) (n : Nat) (c : Array Value) (X : Nat → Prop) : Prop where
  size : c.size = n
  get : ∀ j v, ¬ X j → t.get j = some v → ∃ x, c[j]? = some x ∧ conc η v = some x
def noX : Nat → Prop := fun _ => False
theorem TRel.toX {t : Tr AV} {n : Nat} {c : Array Value} (h : TRel η t n c) : TRelX η t n c noX := ⟨h.size, fun j v _ hv => h.get j v hv⟩
theorem TRelX.toR {t : Tr AV} {n : Nat} {c : Array Value} {X : Nat → Prop} (h : TRelX η t n c X) (hX : ∀ j, ¬ X j) : TRel η t n c := ⟨h.size, fun j v hv => h.get j v (hX j) hv⟩
theorem TRelX.mono {η' : Env} (h : η.le η') {t : Tr AV} {n : Nat} {c : Array Value} {X : Nat → Prop} (g : TRelX η t n c X) : TRelX η' t n c X :=
  ⟨g.size, fun j v hj hv => let ⟨x, hx, hc⟩ := g.get j v hj hv; ⟨x, hx, conc_mono h _ _ hc⟩⟩
theorem TRelX.put {t t' : Tr AV} {n : Nat} {c : Array Value} {X : Nat → Prop} (g : TRelX η t n c X) {d : Option Tmp} {v : AV} {x : Value} (hx : conc η v = some x) (h : putO n t d v = some t') : TRelX η t' n (putA c d x) X := by
  cases d with
  | none => simp only [putO, Option.some.injEq] at h; subst h; exact g
  | some d =>
    simp only [putO] at h
    cases hb : Nat.blt d n with
    | false => rw [hb] at h; cases h
    | true =>
      rw [hb] at h; simp only [Option.some.injEq] at h; subst h
      have hb := blt_lt hb
      refine ⟨by simp [putA, g.size], fun j u hj hu => ?_⟩
      rw [Tr.get_set] at hu
      simp only [putA, Array.getElem?_setIfInBounds]
      by_cases e : j = d
      · subst e; simp at hu; subst hu; exact ⟨x, by simp [g.size, hb], hx⟩
      · rw [if_neg e] at hu; rw [if_neg (Ne.symm e)]; exact g.get j u hj hu
/-- a temporary that was ahead is caught up with -/
theorem TRelX.catchUp {t : Tr AV} {n : Nat} {c : Array Value} {X Y : Nat → Prop} (g : TRelX η t n c X) {d : Option Tmp} {x : Value} (hd : ∀ j, d = some j → j < n → ∀ v, t.get j = some v → conc η v = some x)
    (hn : ∀ j v, d = some j → t.get j = some v → j < n) (hY : ∀ j, ¬ Y j → d ≠ some j → ¬ X j) : TRelX η t n (putA c d x) Y := by
  cases d with
  | none => exact ⟨g.size, fun j v hj hv => g.get j v (hY j hj (by simp)) hv⟩
  | some d =>
    refine ⟨by simp [putA, g.size], fun j v hj hv => ?_⟩
    simp only [putA, Array.getElem?_setIfInBounds]
    by_cases e : j = d
    · subst e
      have := hn j v rfl hv
      exact ⟨x, by simp [g.size, this], hd j rfl this v hv⟩
    · rw [if_neg (Ne.symm e)]; exact g.get j v (hY j hj (by simpa using Ne.symm e)) hv

theorem evT_sound {t : Tr AV} {n : Nat} {c : Array Value} {X : Nat → Prop} (g : TRelX η t n c X) {x : Operand} (hx : ∀ j, x = .tmp j → ¬ X j) {v : AV} (h : ev t x = some v) : conc η v = some (evT c x) := by
  cases x with
  | tmp j =>
    obtain ⟨y, hy, hc⟩ := g.get j v (hx j rfl) h
    rw [hc]
    obtain ⟨hlt, he⟩ := Array.getElem?_eq_some_iff.1 hy
    simp [evT, Act.eval, Array.getD, hlt, he]
  | const c => exact evC_conc η c v h
  | global g => simp [ev] at h; subst h; rfl
  | func f => simp [ev] at h; subst h; simp [conc, concL, evT, Act.eval]
theorem mem_opTmps {o : Oper} {j : Nat} : j ∈ opTmps o ↔ Operand.tmp j ∈ o.op.operands.toList := by
  unfold opTmps
  rw [List.mem_filterMap]
  constructor
  · rintro ⟨x, hx, he⟩
    cases x <;> simp at he
    subst he; exact hx
  · intro h; exact ⟨_, h, rfl⟩
theorem opTmps_use {ops : List Oper} {o : Oper} {j : Nat} (h : j ∈ opTmps o) : j ∈ useTmps ops o := by
  unfold useTmps
  split
  · exact h
  · split
    · exact h
    · split
      · exact h
      · exact List.mem_cons_of_mem _ h
theorem ops_ok {t : Tr AV} {n : Nat} {c : Array Value} {X : Nat → Prop} (g : TRelX η t n c X) {ops : List Oper} {o : Oper} (hX : ∀ j ∈ useTmps ops o, ¬ X j) : EvOK η t o.op.operands.toList (evT c) :=
  fun _x hx _v hv => evT_sound g (fun j e => hX j (opTmps_use (mem_opTmps.2 (e ▸ hx)))) hv
/-- the guard -/
theorem wantedG_sound {t : Tr AV} {n : Nat} {c : Array Value} {X : Nat → Prop} (g : TRelX η t n c X) {ops : Array Oper} {o : Oper} (hX : ∀ j ∈ useTmps ops.toList o, ¬ X j) {b : Bool} (h : wantedG ops.toList t o = some b) :
    Region.wanted o (yielded ops c) = b := by
  unfold wantedG at h
  unfold Region.wanted
  split at h
  · rename_i hg
    rw [hg]; simpa using h
  · rename_i j want hg
    rw [hg]
    simp only
    split at h
    · rename_i o' ho'
      have ho2 : ops[j]? = some o' := by simpa using ho'
      split at h
      · rename_i d hd
        have hu : ¬ X d := hX d (by unfold useTmps; rw [hg]; simp only [ho', hd]; exact List.mem_cons_self)
        split at h
        · rename_i b' hb
          obtain ⟨y, hy, hc⟩ := g.get d _ hu hb
          have := conc_bool hc; subst this
          simp only [yielded, ho2, Option.bind_some, hd, hy]
          simp only [Option.some.injEq] at h
          rw [← h]
          cases b' <;> cases want <;> rfl
        · rename_i vs hb
          obtain ⟨y, hy, hc⟩ := g.get d _ hu hb
          obtain ⟨xs, _, rfl⟩ := conc_tuple hc
          simp only [yielded, ho2, Option.bind_some, hd, hy]
          simp only [Option.some.injEq] at h
          rw [← h]
          rfl
        · cases h
      · cases h
    · cases h
theorem undef_conc (η : Env) : conc η undefV = some undef := rfl
end Go.VmK
