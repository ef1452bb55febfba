/-
  A machine that runs the model with abstract blocks, and lemmas on it: whatever it answers of a call is what the model does (ProgOK, Base: the conditions).
-/
import Derived.Test.YthcnhdiipbpdgaaGreatDoorR6a
namespace Go.VmK
variable {P : Program} {C : Ctx} {O : Env → Heap → World → Prop} {E : List LoopInfo} {η : Env} {H : Heap} {w : World}

/-- a frame that returns -/
def fmR (fn : FuncId) (ds : List Deferred) (t : Array Value) (todo : List Item) : Frame := { fn, tmps := t, todo, defers := ds, mode := .returning, kind := .normal, roundOf := none }
/-- where a frame comes to its end -/
inductive Stop : List Item → Option Jump → Prop
  | fall : Stop [] none
  | ret {k : List Item} : Stop (.code .ret :: k) (some .ret)
  | exit {k : List Item} {id : Nat} : Go.exitTo id k = none → Stop (.code (.exit id) :: k) (some (.exit id))
  | goto {k : List Item} {l : Nat} : Go.gotoIn l k = none → Stop (.code (.goto l) :: k) (some (.goto l))
section
variable {fn : FuncId} {ds : List Deferred} {t : Array Value} {k : List Item} {cs : List Frame} {c : Frame} {r : Nat}
theorem st_fall : Go.step P (lone (fm fn none ds t []) cs w) = .next (lone (fmR fn ds t []) cs w) := step_lone_go (by simp [stepG, stepG.exec, fm, fmR])
theorem st_ret : Go.step P (lone (fm fn none ds t (.code .ret :: k)) cs w) = .next (lone (fmR fn ds t (.code .ret :: k)) cs w) := step_lone_go (by simp [stepG, stepG.exec, fm, fmR])
theorem st_leaveRound {j : Option Jump} {v : Value} {w' : World} (hs : Stop k j) (h : (Instr.endRound r (j.map Jump.code)).run P w = .ok v w') :
    Go.step P (lone (fm fn (some r) ds t k) (c :: cs) w) = .next (lone (c.finish v) cs w') := by
  cases hs with
  | fall => exact step_lone_go (by simp only [Option.map_none] at h; simp [stepG, stepG.exec, fm, h, doReturn])
  | ret => exact step_lone_go (by simp only [Option.map_some, Jump.code] at h; simp [stepG, stepG.exec, fm, h, doReturn])
  | exit he => exact step_lone_go (by simp only [Option.map_some, Jump.code] at h; simp [stepG, stepG.exec, fm, h, he, doReturn])
  | goto he => exact step_lone_go (by simp only [Option.map_some, Jump.code] at h; simp [stepG, stepG.exec, fm, h, he, doReturn])
theorem st_unwind {b : Nat} {w' : World} {calls : List Deferred} (h : (Instr.takeDeferred b).run P w = .ok calls w') :
    Go.step P (lone (fmR fn ({ target := .collected b, args := #[] } :: ds) t k) cs w) = .next (lone (fmR fn (calls ++ ds) t k) cs w') :=
  step_lone_go (by simp [stepG, unwind, fmR, h])
theorem st_begin {w' : World} (h : (Instr.beginRound r).run P w = .ok () w') : Go.step P (lone (fm fn (some r) ds t (.beginRound :: k)) cs w) = .next (lone (fm fn (some r) ds t k) cs w') :=
  step_lone_go (by simp [stepG, stepG.exec, stepG.apply, fm, h, Frame.finish])
variable {rd : Option Nat}
theorem st_endLoop {l : Nat} {jump : Option Code} {w' : World} (h : (Instr.endLoop l).run P w = .ok jump w') : Go.step P (lone (fm fn rd ds t (.endRangeFunc l :: k)) cs w) = .next (lone (fm fn rd ds t ((jump.map Item.code).toList ++ k)) cs w') :=
  step_lone_go (by simp [stepG, stepG.exec, fm, h])
theorem st_rangeFunc {f : Operand} {params : Array Tmp} {assign body : Code} {l : Nat} {mark : List Deferred} {w1 : World} {g : FuncId} {first captured args : Array Value} (h : (Instr.enterLoop fn t params assign body rd).run P w = .ok (l, mark) w1)
    (hf : evT t f = .func (.func g) first captured) (hc : (callFunc g (first ++ #[.func (.yield l) #[] #[]] ++ captured)).run P w1 = .ok (.enter g args) w1) :
    Go.step P (lone (fm fn rd ds t (.code (.rangeFunc f params assign body) :: k)) cs w) = .next (lone (Frame.enter P g args .normal) (fm fn rd (mark ++ ds) t (.inRangeFunc l :: k) :: cs) w1) :=
  step_lone_go (by
    have he : ({ fn := fn, tmps := t, todo := .inRangeFunc l :: k, defers := mark ++ ds, mode := .run, kind := .normal, roundOf := rd } : Frame).eval f = .func (.func g) first captured := by
      have := congrFun (fm_eval (fn := fn) (rd := rd) (ds := mark ++ ds) (t := t) (todo := .inRangeFunc l :: k)) f
      simp only [fm] at this
      rw [this, hf]
    have hy : ({ fn := fn, tmps := t, todo := .inRangeFunc l :: k, defers := mark ++ ds, mode := .run, kind := .normal, roundOf := rd } : Frame).eval (.const (.func (.yield l) #[] #[])) = .func (.yield l) #[] #[] := rfl
    have hc' : (callFunc g (first.push (.func (.yield l) #[] #[]) ++ captured)).run P w1 = .ok (.enter g args) w1 := by
      rw [← hc]; simp
    simp [stepG, stepG.exec, stepG.apply, fm, h, resolve, he, hy, Deferred.ofValue, invoke, hc'])
theorem fm_finishLoop {l : Nat} (v : Value) : (fm fn rd ds t (.inRangeFunc l :: k)).finish v = fm fn rd ds t (.endRangeFunc l :: k) := rfl
end

/-! leaving -/
theorem getDef (hr : HRel P η E H w) {d : Nat} {x : Bool} (hg : H.get d = some (.deferred x)) : ∃ r, η.ρ d = some r ∧ w.heap[r]? = some (.deferred (if x then some [] else none)) := by
  obtain ⟨r, ob, h1, h2, h3⟩ := hr.obj d _ hg
  cases ob <;> try exact h3.elim
  rename_i D
  have : D = if x then some [] else none := h3
  subst this
  exact ⟨r, h1, h2⟩
theorem Below.put {b : Nat} {o o' : AObj} {n : Nat} (hg : H.get b = some o) : Below n η η H (H.put b o') := by
  refine ⟨Only.refl _ _, fun id _ hn => ?_, Nat.le_refl _⟩
  rw [Heap.get_put, if_neg]; · exact hn
  · intro e; rw [e, hg] at hn; cases hn
theorem Above.put {b : Nat} {o o' : AObj} (ha : Above η H) (hg : H.get b = some o) : Above η (H.put b o') := fun id hid => by
  have f := ha id hid
  refine ⟨?_, f.ρ, f.κ, f.σ⟩
  rw [Heap.get_put, if_neg]; · exact f.get
  · intro e; have := f.get; rw [e, hg] at this; cases this
def resV (t : Array Value) : ResultVar → Sem Value
  | .tmp j => pure (t.getD j undef)
  | .cell a ty => do Go.loadVar ty (← asAddr (t.getD a undef))
theorem results_eq (f : Func) (t : Array Value) : results f t = (do
    let vs ← f.results.mapM (resV t)
    pure (if h : vs.size = 1 then vs[0] else .tuple vs)) := rfl
theorem takeDefers_sound {fn : FuncId} {t : Array Value} {k : List Item} {cs : List Frame} : ∀ {l : List Nat} {ds : List Deferred} {H H' : Heap} {w : World}, takeDefers H l = some H' → DR η l ds → HRel P η E H w → Above η H →
    ∃ w', Steps P (lone (fmR fn ds t k) cs w) (lone (fmR fn [] t k) cs w') ∧ Trans P E η H w η H' w' ∧ Above η H' ∧ Below H.next η η H H'
  | [], [], H, H', w, h, _, hr, ha => by
    simp only [takeDefers, Option.some.injEq] at h; subst h
    exact ⟨w, .refl _ _, Trans.refl hr, ha, Below.refl _ _ _⟩
  | [], _ :: _, _, _, _, _, g, _, _ => g.elim
  | _ :: _, [], _, _, _, _, g, _, _ => g.elim
  | d :: l, D :: ds, H, H', w, h, ⟨⟨b, hb, hD⟩, g⟩, hr, ha => by
    simp only [takeDefers] at h
    split at h
    · rename_i hg
      obtain ⟨r, h1, h2⟩ := getDef hr hg
      rw [hb] at h1; cases h1
      have tr := Trans.put hr hg hb (.deferred false) (.deferred none) rfl (w' := World.putBlock w b (.deferred none)) rfl
      obtain ⟨w', s1, s2, s3, s4⟩ := takeDefers_sound (fn := fn) (t := t) (k := k) (cs := cs) h g tr.rel (ha.put hg)
      have hrun : (Instr.takeDeferred b).run P w = .ok [] (World.putBlock w b (.deferred none)) := by
        simp [Instr.takeDeferred, getObj, setObj, Sem.run, h2, World.putBlock]
      subst hD
      exact ⟨w', .head (st_unwind hrun) s1, tr.trans s2, s3, (Below.put hg).trans s4 (Nat.le_refl _)⟩
    · cases h
theorem results_sound (hC : CtxOK P C) (hr : HRel P η E H w) {tmps : Tr AV} {n : Nat} {t : Array Value} (ht : TRel η tmps n t) : ∀ {l : List ResultVar} {vs : List AV}, resultsOf C H tmps l = some vs →
    ∃ xs, (l.mapM (resV t) : Sem (List Value)).run P w = .ok xs w ∧ concL η vs = some xs
  | [], vs, h => by simp only [resultsOf, Option.some.injEq] at h; subst h; exact ⟨[], rfl, rfl⟩
  | .tmp j :: r, vs, h => by
    simp only [resultsOf] at h
    split at h
    · cases h
    · rename_i v hv
      split at h
      · cases h
      · rename_i l hl
        cases h
        obtain ⟨xs, h1, h2⟩ := results_sound hC hr ht hl
        obtain ⟨y, hy, hc⟩ := ht.get j v hv
        refine ⟨y :: xs, ?_, by simp [concL, hc, h2]⟩
        obtain ⟨hlt, he⟩ := Array.getElem?_eq_some_iff.1 hy
        rw [List.mapM_cons]
        simp [h1, resV, Array.getD, hlt, he]
  | .cell a ty :: r, vs, h => by
    simp only [resultsOf] at h
    split at h
    · rename_i b off hv
      split at h
      · cases h
      · rename_i v hq
        split at h
        · cases h
        · rename_i l hl
          cases h
          obtain ⟨xs, h1, h2⟩ := results_sound hC hr ht hl
          obtain ⟨y, hy, hc⟩ := ht.get a _ hv
          obtain ⟨r', hb, rfl⟩ := conc_ptr hc
          obtain ⟨x, hx1, hx2⟩ := loadVar_sound hC hr hb hq
          refine ⟨x :: xs, ?_, by simp [concL, hx2, h2]⟩
          obtain ⟨hlt, he⟩ := Array.getElem?_eq_some_iff.1 hy
          rw [List.mapM_cons]
          simp [h1, resV, Array.getD, hlt, he, asAddr, hx1]
    · cases h
theorem leaveFn_sound (hC : CtxOK P C) {fn : FuncId} (hr : HRel P η E H w) (_ha : Above η H) {tmps : Tr AV} {n : Nat} {t : Array Value} (ht : TRel η tmps n t) {outs : List (AV × Heap)} (h : leaveFn C fn tmps H = some outs) {k : List Item} :
    ∃ v x, outs = [(v, H)] ∧ conc η v = some x ∧ (fmR fn [] t k).leaving P w (.returned x) := by
  unfold leaveFn at h
  split at h
  · cases h
  · rename_i fi hfi
    obtain ⟨f, hf, _, _, hres⟩ := hC.funcs fn fi hfi
    cases hq : resultsOf C H tmps fi.results with
    | none => rw [hq] at h; cases h
    | some vs =>
      rw [hq] at h
      obtain ⟨xs, h1, h2⟩ := results_sound (P := P) hC hr ht hq
      have hrun : (results f t).run P w = .ok (if h : xs.length = 1 then xs[0] else .tuple xs.toArray) w := by
        rw [results_eq, Array.mapM_eq_mapM_toList, hres]
        simp only [Sem.run_bind, Sem.run_map, h1, Result.andThen_ok, Sem.run_pure]
        simp
      have hl := concL_length h2
      cases vs with
      | nil =>
        simp only [retVals, one, Option.some.injEq] at h
        have : xs = [] := List.length_eq_zero_iff.1 (by simpa using hl)
        subst this
        exact ⟨_, .tuple #[], h.symm, by simp [conc, concL], rfl, rfl, rfl, f, hf, by rw [show (fmR fn [] t k).tmps = t from rfl, hrun]; rfl⟩
      | cons v r =>
        cases r with
        | nil =>
          simp only [retVals, one, Option.some.injEq] at h
          simp only [concL] at h2
          split at h2
          · rename_i y ys hy hys
            cases h2; cases hys
            exact ⟨v, y, h.symm, hy, rfl, rfl, rfl, f, hf, by rw [show (fmR fn [] t k).tmps = t from rfl, hrun]; rfl⟩
          · cases h2
        | cons u r =>
          simp only [retVals, one, Option.some.injEq] at h
          refine ⟨_, .tuple xs.toArray, h.symm, by simp only [conc, h2], rfl, rfl, rfl, f, hf, ?_⟩
          rw [show (fmR fn [] t k).tmps = t from rfl, hrun]
          have : ¬ xs.length = 1 := by rw [hl]; simp
          simp [this]

section
variable {self : Self} {I : FInfo} {rd : Option Nat} {ds : List Deferred} {todo : List AItem} {k : List Item} {cs : List Frame} {tmps : Tr AV} {t : Array Value} {outs : List (AV × Heap)}
theorem leave_sound (hC : CtxOK P C) {j : Option Jump} (hst : Stop k j) (h : leave C I tmps H j = some outs) (b : Base P O E η H w) (hf : FOK η I rd ds) (ht : TRel η tmps I.n t) :
    ∃ p ∈ outs, Res P E η H w I.fn rd cs (lone (fm I.fn rd ds t k) cs w) p := by
  unfold leave at h
  obtain ⟨hrd, hds⟩ := hf
  split at h
  · rename_i hro
    rw [hro] at hrd
    cases rd with
    | some r => exact hrd.elim
    | none =>
      have key : ∀ H', takeDefers H I.defers = some H' → leaveFn C I.fn tmps H' = some outs → Go.step P (lone (fm I.fn none ds t k) cs w) = .next (lone (fmR I.fn ds t k) cs w) →
          ∃ p ∈ outs, Res P E η H w I.fn none cs (lone (fm I.fn none ds t k) cs w) p := by
        intro H' h1 h2 hs
        obtain ⟨w', s1, s2, s3, s4⟩ := takeDefers_sound (fn := I.fn) (t := t) (k := k) (cs := cs) h1 hds b.rel b.above
        obtain ⟨v, x, e1, e2, e3⟩ := leaveFn_sound hC s2.rel s3 ht h2 (k := k)
        subst e1
        exact ⟨_, List.mem_singleton.2 rfl, η, x, w', ⟨_, .head hs s1, rfl, e3⟩, e2, s2, s3, s4⟩
      split at h
      · split at h
        · cases h
        · rename_i H' hH'
          cases hst
          exact key H' hH' h st_fall
      · split at h
        · cases h
        · rename_i H' hH'
          cases hst
          exact key H' hH' h st_ret
      · cases h
  · rename_i l hro
    rw [hro] at hrd
    cases rd with
    | none => exact hrd.elim
    | some r =>
      have hrd : η.ρ l = some r := hrd
      split at h
      · unfold leaveRound at h
        split at h
        · rename_i s pd hg
          obtain ⟨r', L, h1, h2, h3, h4, h5⟩ := getLoop' b.rel hg
          rw [hrd] at h1; cases h1
          simp only [one, Option.some.injEq] at h; subst h
          have hj : (j.map Jump.code).isNone = j.isNone := by cases j <;> rfl
          have hrun : (Instr.endRound r (j.map Jump.code)).run P w = .ok (.bool j.isNone) (World.putBlock w r (.loop { L with state := if j.isNone then .ready else .done, pending := j.map Jump.code })) := by
            simp [Instr.endRound, Instr.getLoop, getObj, setObj, Sem.run, h2, World.putBlock, hj]
          have tr := Trans.put b.rel hg hrd (.loop (if j.isNone then .ready else .done) j) (.loop { L with state := if j.isNone then .ready else .done, pending := j.map Jump.code }) ⟨rfl, rfl, h5⟩ (w' := _) rfl
          exact ⟨_, List.mem_singleton.2 rfl, η, .bool j.isNone, _, fun c cs' e => by subst e; exact .one (st_leaveRound hst hrun), rfl, tr, b.above.put hg, Below.put hg⟩
        · cases h
      · cases h
end
end Go.VmK
