/-
  A machine that runs the model with abstract blocks, and lemmas on it: whatever it answers of a call is what the model does (ProgOK, Base: the conditions).
-/
import Derived.Test.YtfahplfgamgoaaaGreatDoorR5b
namespace Go.VmK
variable {P : Program} {C : Ctx} {O : Env → Heap → World → Prop} {E : List LoopInfo} {η : Env} {H : Heap} {w : World}

/-- what no step turns -/
def Stable (P : Program) (O : Env → Heap → World → Prop) : Prop := ∀ (E : List LoopInfo) (η : Env) (H : Heap) (w : World) (η' : Env) (H' : Heap) (w' : World), O η H w → Trans P E η H w η' H' w' → O η' H' w'
structure Base (P : Program) (O : Env → Heap → World → Prop) (E : List LoopInfo) (η : Env) (H : Heap) (w : World) : Prop where
  rel : HRel P η E H w
  above : Above η H
  eb : ∀ id, H.next ≤ id → findLoop id E = none
  st : Stable P O
  inv : O η H w
theorem Base.step {η' : Env} {H' : Heap} {w' : World} (b : Base P O E η H w) (t : Trans P E η H w η' H' w') (a : Above η' H') (h : H.next ≤ H'.next) : Base P O E η' H' w' :=
  ⟨t.rel, a, fun id hid => b.eb id (Nat.le_trans h hid), b.st, b.st _ _ _ _ _ _ _ b.inv t⟩
/-- what lies below a number stays as it was -/
structure Below (b : Nat) (η η' : Env) (H H' : Heap) : Prop where
  only : Only (fun i => b ≤ i) η η'
  objs : ∀ id, id < b → H.get id = none → H'.get id = none
  next : H.next ≤ H'.next
theorem Below.refl (b : Nat) (η : Env) (H : Heap) : Below b η η H H := ⟨Only.refl _ _, fun _ _ h => h, Nat.le_refl _⟩
theorem Below.trans {b b1 : Nat} {η1 η2 : Env} {H1 H2 : Heap} (h : Below b η η1 H H1) (g : Below b1 η1 η2 H1 H2) (hb : b ≤ b1) : Below b η η2 H H2 :=
  ⟨h.only.trans (g.only.mono fun _i hi => Nat.le_trans hb hi), fun id hid hn => g.objs id (Nat.lt_of_lt_of_le hid hb) (h.objs id hid hn), Nat.le_trans h.next g.next⟩
theorem Below.weak {b : Nat} {η1 : Env} {H1 H2 : Heap} (h : Below b η η1 H H1) (g : Weak H1 H2) : Below b η η1 H H2 := by
  refine ⟨h.only, fun id hid hn => ?_, Nat.le_trans h.next g.1⟩
  cases hq : H2.get id with
  | none => rfl
  | some o => obtain ⟨o', ho', _⟩ := g.2 id o hq; rw [h.objs id hid hn] at ho'; cases ho'
theorem Below.grow {η1 : Env} {H1 : Heap} (g : Grow η η1 H H1) : Below H.next η η1 H H1 :=
  ⟨g.only.mono fun i hi => Nat.le_of_eq hi.symm, fun id hid hn => g.objs id (Nat.ne_of_lt hid) hn, by rcases g.next with ⟨h, _, _⟩ | h <;> omega⟩
theorem Base.fresh (b : Base P O E η H w) : Fresh η H H.next := b.above _ (Nat.le_refl _)

def RdR (η : Env) : Option Nat → Option Nat → Prop
  | none, none => True
  | some l, some r => η.ρ l = some r
  | _, _ => False
def DR (η : Env) : List Nat → List Deferred → Prop
  | [], [] => True
  | d :: r, D :: s => (∃ b, η.ρ d = some b ∧ D = { target := .collected b, args := #[] }) ∧ DR η r s
  | _, _ => False
def ItemR (η : Env) : AItem → Item → Prop
  | .code c, .code c' => c' = c
  | .inBlock i, .inBlock j => j = i
  | .inLoop c, .inLoop c' => c' = c
  | .inScope c, .inScope c' => c' = c
  | .endRangeFunc l, .endRangeFunc r => η.ρ l = some r
  | .beginRound, .beginRound => True
  | _, _ => False
def TodoR (η : Env) : List AItem → List Item → Prop
  | [], [] => True
  | a :: r, b :: s => ItemR η a b ∧ TodoR η r s
  | _, _ => False
theorem RdR.mono {η' : Env} (h : η.le η') {a b : Option Nat} (g : RdR η a b) : RdR η' a b := by
  cases a <;> cases b <;> first | exact g | exact h.ρ _ _ g
theorem DR.mono {η' : Env} (h : η.le η') : ∀ {a : List Nat} {b : List Deferred}, DR η a b → DR η' a b
  | [], [], _ => trivial
  | [], _ :: _, g => g.elim
  | _ :: _, [], g => g.elim
  | _ :: _, _ :: _, ⟨⟨b, h1, h2⟩, g⟩ => ⟨⟨b, h.ρ _ _ h1, h2⟩, DR.mono h g⟩
theorem ItemR.mono {η' : Env} (h : η.le η') {a : AItem} {b : Item} (g : ItemR η a b) : ItemR η' a b := by
  cases a <;> cases b <;> first | exact g | exact h.ρ _ _ g
theorem TodoR.mono {η' : Env} (h : η.le η') : ∀ {a : List AItem} {b : List Item}, TodoR η a b → TodoR η' a b
  | [], [], _ => trivial
  | [], _ :: _, g => g.elim
  | _ :: _, [], g => g.elim
  | _ :: _, _ :: _, ⟨g1, g2⟩ => ⟨g1.mono h, TodoR.mono h g2⟩

/-- a frame comes to its end -/
def Ends (P : Program) (fn : FuncId) (rd : Option Nat) (cs : List Frame) (m : Machine) (x : Value) (w' : World) : Prop :=
  match rd with
  | none => ∃ fr, Steps P m (lone fr cs w') ∧ fr.fn = fn ∧ fr.leaving P w' (.returned x)
  | some _ => ∀ c cs', cs = c :: cs' → Steps P m (lone (c.finish x) cs' w')
theorem Ends.of_steps {fn : FuncId} {rd : Option Nat} {cs : List Frame} {m m1 : Machine} {x : Value} {w' : World} (h : Steps P m m1) (g : Ends P fn rd cs m1 x w') : Ends P fn rd cs m x w' := by
  cases rd with
  | none => obtain ⟨fr, h1, h2⟩ := g; exact ⟨fr, h.trans h1, h2⟩
  | some r => exact fun c cs' e => h.trans (g c cs' e)
theorem Ends.finish {fn : FuncId} {rd : Option Nat} {c : Frame} {cs : List Frame} {m : Machine} {x : Value} {w' : World} (g : Ends P fn rd (c :: cs) m x w') : Steps P m (lone (c.finish x) cs w') := by
  cases rd with
  | none => obtain ⟨fr, h1, _, h3⟩ := g; exact h1.trans (.one (step_leave_returned h3))
  | some r => exact g c cs rfl

def Res (P : Program) (E : List LoopInfo) (η : Env) (H : Heap) (w : World) (fn : FuncId) (rd : Option Nat) (cs : List Frame) (m : Machine) (p : AV × Heap) : Prop :=
  ∃ η' x w', Ends P fn rd cs m x w' ∧ conc η' p.1 = some x ∧ Trans P E η H w η' p.2 w' ∧ Above η' p.2 ∧ Below H.next η η' H p.2
theorem Res.of {fn : FuncId} {rd : Option Nat} {cs : List Frame} {m m1 : Machine} {p : AV × Heap} {η1 : Env} {H1 : Heap} {w1 : World} (h : Steps P m m1) (t : Trans P E η H w η1 H1 w1) (hn : Below H.next η η1 H H1)
    (g : Res P E η1 H1 w1 fn rd cs m1 p) : Res P E η H w fn rd cs m p :=
  let ⟨η', x, w', h1, h2, h3, h4, h5⟩ := g; ⟨η', x, w', h1.of_steps h, h2, t.trans h3, h4, hn.trans h5 hn.next⟩

def SelfOK (P : Program) (O : Env → Heap → World → Prop) (self : Self) : Prop := ∀ (E : List LoopInfo) (I : FInfo) (todo : List AItem) (tmps : Tr AV) (H : Heap) (outs : List (AV × Heap)), self E I todo tmps H = some outs →
  ∀ (η : Env) (w : World) (rd : Option Nat) (ds : List Deferred) (t : Array Value) (k : List Item) (cs : List Frame), Base P O E η H w → RdR η I.round rd → DR η I.defers ds → TRel η tmps I.n t → TodoR η todo k →
    ∃ p ∈ outs, Res P E η H w I.fn rd cs (lone (fm I.fn rd ds t k) cs w) p

/-- what is taken of a function -/
def ConOK (P : Program) (O : Env → Heap → World → Prop) (f : FuncId) (c : Con) : Prop := ∀ (E : List LoopInfo) (η : Env) (H : Heap) (w : World) (args : List AV) (xs : List Value) (l : List (AV × Heap)), Base P O E η H w → concL η args = some xs → conRun c E H args = some l →
  ∀ cs, ∃ p ∈ l, Res P E η H w f none cs (lone (Frame.enter P f xs.toArray .normal) cs w) p
structure ProgOK (P : Program) (C : Ctx) (O : Env → Heap → World → Prop) : Prop extends CtxOK P C where
  cons : ∀ (f : Nat) (c : Con), C.cons.get f = some c → ConOK P O f c

theorem enter_rel {args : List AV} {xs : List Value} (hx : concL η args = some xs) (m : Nat) : TRel η (Tr.ofL args) (max m args.length) (xs.toArray ++ Array.replicate (m - xs.toArray.size) undef) := by
  have hl := concL_length hx
  refine ⟨by simp [hl]; omega, fun j v hv => ?_⟩
  rw [Tr.get_ofL] at hv
  obtain ⟨y, hy, hc⟩ := concL_get hx j v hv
  refine ⟨y, ?_, hc⟩
  have hlt : j < xs.length := (List.getElem?_eq_some_iff.1 hy).1
  rw [Array.getElem?_append]
  simp [hlt]
  simpa [hlt] using hy

theorem callFun_sound {self : Self} (hC : CtxOK P C) (hself : SelfOK P O self) {f : FuncId} {args : List AV} {xs : List Value} {l : List (AV × Heap)} (h : callFun C self E H f args = some l) (b : Base P O E η H w) (hx : concL η args = some xs) (cs : List Frame) :
    ∃ p ∈ l, Res P E η H w f none cs (lone (Frame.enter P f xs.toArray .normal) cs w) p := by
  unfold callFun at h
  split at h
  · cases h
  · rename_i i hi
    unfold enterK at h
    split at h
    · cases h
    · rename_i c hb
      obtain ⟨fn, hf, hb', hn, _⟩ := hC.funcs f i hi
      rw [enter_fm hf (by rw [hb', hb])]
      refine hself _ _ _ _ _ _ h η w none [] _ _ cs b trivial trivial ?_ ⟨rfl, trivial⟩
      rw [hn]
      exact enter_rel hx i.ntmps
theorem callIn_sound {self : Self} (hC : ProgOK P C O) (hself : SelfOK P O self) {f : FuncId} {args : List AV} {xs : List Value} {l : List (AV × Heap)} (h : callIn C self E H f args = some l) (b : Base P O E η H w) (hx : concL η args = some xs) (cs : List Frame) :
    ∃ p ∈ l, Res P E η H w f none cs (lone (Frame.enter P f xs.toArray .normal) cs w) p := by
  unfold callIn at h
  split at h
  · rename_i c hc
    split at h
    · exact callFun_sound hC.toCtxOK hself h b hx cs
    · rename_i p hp
      cases h
      exact hC.cons f c hc E η H w args xs _ b hx hp cs
  · exact callFun_sound hC.toCtxOK hself h b hx cs

/-! a round of a loop over a function -/
theorem findLoop_id : ∀ {E : List LoopInfo} {l : Nat} {i : LoopInfo}, findLoop l E = some i → i.id = l
  | [], l, i, h => by simp [findLoop] at h
  | j :: r, l, i, h => by
    simp only [findLoop] at h
    cases hb : Nat.beq j.id l with
    | true => rw [hb] at h; simp at h; subst h; exact beq_eq hb
    | false => rw [hb] at h; exact findLoop_id h
theorem getLoop' (hr : HRel P η E H w) {l : Nat} {s : LoopState} {p : Option Jump} (hg : H.get l = some (.loop s p)) : ∃ r L, η.ρ l = some r ∧ w.heap[r]? = some (.loop L) ∧ L.state = s ∧ L.pending = p.map Jump.code ∧
    ∀ i, findLoop l E = some i → L.fn = i.fn ∧ TRel η i.tmps i.n L.tmps ∧ L.params.toList = i.params ∧ L.assign = i.assign ∧ L.body = i.body ∧ η.ρ i.defers = some L.defers := by
  obtain ⟨r, ob, h1, h2, h3⟩ := hr.obj l _ hg
  cases ob <;> try exact h3.elim
  rename_i L
  exact ⟨r, L, h1, h2, h3⟩
theorem setParams_sound : ∀ {ps : List Tmp} {args : List AV} {xs : List Value} {t t' : Tr AV} {n : Nat} {c : Array Value}, TRel η t n c → concL η args = some xs → setParams n t ps args = some t' → ps.length = xs.length ∧
    TRel η t' n ((ps.zip xs).foldl (fun c (p : Tmp × Value) => c.setIfInBounds p.1 p.2) c)
  | [], [], xs, t, t', n, c, g, hx, h => by
    simp [concL] at hx; subst hx
    simp [setParams] at h; subst h
    exact ⟨rfl, g⟩
  | [], _ :: _, xs, t, t', n, c, g, hx, h => by simp [setParams] at h
  | _ :: _, [], xs, t, t', n, c, g, hx, h => by simp [setParams] at h
  | p :: ps, v :: vs, xs, t, t', n, c, g, hx, h => by
    simp only [concL] at hx
    split at hx
    · rename_i y ys hy hys
      cases hx
      simp only [setParams] at h
      cases hb : Nat.blt p n with
      | false => rw [hb] at h; cases h
      | true =>
        rw [hb] at h; simp only [cond_true] at h
        have g' : TRel η (t.set p v) n (c.setIfInBounds p y) := (g.toX.put (d := some p) hy (by simp [putO, hb])).toR (fun _ x => x)
        obtain ⟨h1, h2⟩ := setParams_sound g' hys h
        exact ⟨by simp [h1], h2⟩
    · cases hx
theorem roundIn_sound {self : Self} (hself : SelfOK P O self) {l r : Nat} (hl : η.ρ l = some r) {args : List AV} {xs : List Value} {outs : List (AV × Heap)} (h : roundIn self E H l args = some outs) (b : Base P O E η H w) (hx : concL η args = some xs) (cs : List Frame) :
    ∃ f tm a bd, (Instr.yield r xs.toArray).run P w = .ok (.round r f tm a bd) w ∧ ∃ p ∈ outs, Res P E η H w f (some r) cs (lone (Frame.round r f tm a bd .normal) cs w) p := by
  unfold roundIn at h
  split at h
  · cases h
  · rename_i i hi
    split at h
    · rename_i s pd hg
      split at h
      · cases h
      · rename_i t ht
        obtain ⟨r', L, hr', hh, _, _, hL⟩ := getLoop' b.rel hg
        rw [hl] at hr'; cases hr'
        obtain ⟨h1, h2, h3, h4, h5, h6⟩ := hL i hi
        obtain ⟨g1, g2⟩ := setParams_sound h2 hx ht
        have e : (L.params.zip xs.toArray).foldl (fun tmps (t, a) => tmps.setIfInBounds t a) L.tmps = (i.params.zip xs).foldl (fun c (p : Tmp × Value) => c.setIfInBounds p.1 p.2) L.tmps := by
          rw [← Array.foldl_toList, Array.toList_zip, h3]
        refine ⟨L.fn, (L.params.zip xs.toArray).foldl (fun tmps (t, a) => tmps.setIfInBounds t a) L.tmps, L.assign, L.body, ?_, ?_⟩
        · have hsz : ¬ xs.toArray.size ≠ L.params.size := by
            have : L.params.size = i.params.length := by rw [← h3]; simp
            simp [this, g1]
          simp only [Instr.yield, Instr.getLoop, Sem.run_bind, getObj, Sem.run, hh, Result.andThen_ok, Sem.run_pure]
          rw [if_neg hsz]
          simp
        · rw [e, round_fm, h1, h4, h5]
          have hid := findLoop_id hi
          have := hself _ _ _ _ _ _ h η w (some r) [] _ [.code i.assign, .beginRound, .code i.body] cs b (by simp only [roundOf, hid]; exact hl) trivial g2 ⟨rfl, trivial, rfl, trivial⟩
          exact this
    · cases h

/-! one operation of a region -/
def GoesX (P : Program) (E : List LoopInfo) (η : Env) (H : Heap) (w : World) (n : Nat) (X : Nat → Prop) (m : Machine) (mk : Array Value → World → Machine) (tmps' : Tr AV) (H' : Heap) : Prop :=
  ∃ η' w' t', Steps P m (mk t' w') ∧ Trans P E η H w η' H' w' ∧ Above η' H' ∧ Below H.next η η' H H' ∧ TRelX η' tmps' n t' X
theorem bindL_mem {α β : Type} {f : α → Option (List β)} : ∀ {l : List α} {outs : List β}, bindL f l = some outs → ∀ p ∈ l, ∃ o, f p = some o ∧ ∀ q ∈ o, q ∈ outs
  | [], _, _, p, hp => by simp at hp
  | x :: xs, outs, h, p, hp => by
    simp only [bindL] at h
    split at h
    · cases h
    · rename_i a ha
      split at h
      · cases h
      · rename_i bs hb
        cases h
        rcases List.mem_cons.1 hp with rfl | hp
        · exact ⟨a, ha, fun q hq => List.mem_append.2 (.inl hq)⟩
        · obtain ⟨o, h1, h2⟩ := bindL_mem hb p hp
          exact ⟨o, h1, fun q hq => List.mem_append.2 (.inr (h2 q hq))⟩
theorem putK_some {β : Type} {n : Nat} {tmps : Tr AV} {d : Option Tmp} {K : Knt β} {v : AV} {H' : Heap} {outs : List β} (h : putK n tmps d K v H' = some outs) : ∃ t', putO n tmps d v = some t' ∧ K t' H' = some outs := by
  unfold putK at h
  cases hq : putO n tmps d v with
  | none => rw [hq] at h; cases h
  | some t' => rw [hq] at h; exact ⟨t', rfl, h⟩

/-- what K is asked, and what has happened -/
def Asks {β : Type} (P : Program) (E : List LoopInfo) (η : Env) (H : Heap) (w : World) (n : Nat) (X : Nat → Prop) (m : Machine) (mk : Array Value → World → Machine) (T : Tr AV → Prop) (K : Knt β) (outs : List β) : Prop :=
  ∃ tmps' H' outs', K tmps' H' = some outs' ∧ (∀ q ∈ outs', q ∈ outs) ∧ T tmps' ∧ GoesX P E η H w n X m mk tmps' H'

/-- behind a call -/
theorem afterCall_sound {β : Type} {n : Nat} {X : Nat → Prop} {tmps : Tr AV} {t : Array Value} {d : Option Tmp} {K : Knt β} {ap : Bool} {o : Option (List (AV × Heap))} {outs : List β} (h : afterCall ap n tmps d K o = some outs) (_b : Base P O E η H w) (ht : TRelX η tmps n t X)
    {m : Machine} {mk : Array Value → World → Machine} (ho : ∀ l, o = some l → ∃ p ∈ l, ∃ η' x w', Steps P m (mk (putA t d x) w') ∧ conc η' p.1 = some x ∧ Trans P E η H w η' p.2 w' ∧ Above η' p.2 ∧ Below H.next η η' H p.2) :
    Asks P E η H w n X m mk (fun t' => ∃ v, putO n tmps d v = some t') K outs := by
  unfold afterCall at h
  split at h
  · cases h
  · cases h
  · rename_i p
    obtain ⟨q, hq, η', x, w', h1, h2, h3, h4, h5⟩ := ho _ rfl
    simp only [List.mem_singleton] at hq; subst hq
    obtain ⟨t', e1, e2⟩ := putK_some h
    exact ⟨t', q.2, outs, e2, fun _ h => h, ⟨_, e1⟩, η', w', _, h1, h3, h4, h5, (ht.mono h3.le).put h2 e1⟩
  · rename_i l _ _
    obtain ⟨q, hq, η', x, w', h1, h2, h3, h4, h5⟩ := ho _ rfl
    cases ap with
    | true =>
      simp only [cond_true] at h
      obtain ⟨o, ho1, ho2⟩ := bindL_mem h q hq
      obtain ⟨t', e1, e2⟩ := putK_some ho1
      exact ⟨t', q.2, o, e2, ho2, ⟨_, e1⟩, η', w', _, h1, h3, h4, h5, (ht.mono h3.le).put h2 e1⟩
    | false =>
      simp only [cond_false] at h
      split at h
      · rename_i p hp
        obtain ⟨v, Hj⟩ := p
        obtain ⟨e0, hw⟩ := joinOuts_sound hp q hq
        obtain ⟨t', e1, e2⟩ := putK_some h
        exact ⟨t', Hj, outs, e2, fun _ h => h, ⟨_, e1⟩, η', w', _, h1, h3.weak hw, h4.weak hw, h5.weak hw, (ht.mono h3.le).put (e0 ▸ h2) e1⟩
      · cases h

theorem not_defer {tmps : Tr AV} {o : Oper} {out : Out} (h : opStep C H tmps o.op = some out) : ∀ c, o.op ≠ .defer c := by
  intro c e; rw [e] at h; simp [opStep] at h

section
variable {β : Type} {fn : FuncId} {rd : Option Nat} {ds : List Deferred} {k : List Item} {cs : List Frame} {ops : Array Oper} {i : Nat} {rest : List Nat} {o : Oper} {n : Nat} {X : Nat → Prop} {tmps : Tr AV} {t : Array Value} {K : Knt β} {outs : List β} {self : Self}
def mR (fn : FuncId) (rd : Option Nat) (ds : List Deferred) (k : List Item) (cs : List Frame) (ops : Array Oper) (l : List Nat) (t : Array Value) (w : World) : Machine := lone (fm fn rd ds t (.inRegion ops l :: k)) cs w

theorem operK_sound (hC : ProgOK P C O) (hself : SelfOK P O self) (h : operK C self E n H tmps o K = some outs) (b : Base P O E η H w) (ht : TRelX η tmps n t X) (hX : ∀ j ∈ useTmps ops.toList o, ¬ X j) (ho : ops[i]? = some o) (hw : Region.wanted o (yielded ops t) = true) :
    Asks P E η H w n X (mR fn rd ds k cs ops (i :: rest) t w) (mR fn rd ds k cs ops rest) (fun t' => ∃ v, putO n tmps o.dst v = some t') K outs := by
  unfold operK at h
  cases hq : opStep C H tmps o.op with
  | none => rw [hq] at h; cases h
  | some out =>
    rw [hq] at h
    have hd := not_defer hq
    have hs := opStep_sound (P := P) (E := E) hC.toCtxOK b.rel b.fresh (ops_ok ht hX) hq
    cases out with
    | val v H' =>
      obtain ⟨η', x, w', h1, h2, h3, h4⟩ := hs
      obtain ⟨t', e1, e2⟩ := putK_some h
      obtain ⟨a1, a2⟩ := b.above.grow h4
      exact ⟨t', H', outs, e2, fun _ h => h, ⟨_, e1⟩, η', w', _, .one (st_value ho hw hd h1), h3, a1, .grow h4, (ht.mono h3.le).put h2 e1⟩
    | skip H' =>
      obtain ⟨η', w', h1, h3, h4⟩ := hs
      obtain ⟨t', e1, e2⟩ := putK_some h
      obtain ⟨a1, a2⟩ := b.above.grow h4
      exact ⟨t', H', outs, e2, fun _ h => h, ⟨_, e1⟩, η', w', _, .one (st_done ho hw hd h1), h3, a1, .grow h4, (ht.mono h3.le).put (undef_conc _) e1⟩
    | enter f args =>
      obtain ⟨_, xs, hx, h1⟩ := hs
      refine afterCall_sound h b ht fun l hl => ?_
      obtain ⟨p, hp, η', x, w', g1, g2, g3, g4, g5⟩ := callIn_sound hC hself hl b hx (fm fn rd ds t (.inRegion ops (i :: rest) :: k) :: cs)
      refine ⟨p, hp, η', x, w', .head (st_enter ho hw hd h1) ?_, g2, g3, g4, g5⟩
      have := g1.finish
      rw [fm_finish, ho] at this
      exact this
    | round l args =>
      obtain ⟨xs, r, hx, hl, h1⟩ := hs
      refine afterCall_sound h b ht fun l' hl' => ?_
      obtain ⟨f, tm, a, bd, hy, p, hp, η', x, w', g1, g2, g3, g4, g5⟩ := roundIn_sound hself hl hl' b hx (fm fn rd ds t (.inRegion ops (i :: rest) :: k) :: cs)
      refine ⟨p, hp, η', x, w', .head (st_round ho hw hd (h1.trans hy)) ?_, g2, g3, g4, g5⟩
      have := g1.finish
      rw [fm_finish, ho] at this
      exact this
    | ways l =>
      obtain ⟨p, hp, η', x, w', h1, h2, h3, h4⟩ := hs
      obtain ⟨o', ho1, ho2⟩ := bindL_mem h p hp
      obtain ⟨t', e1, e2⟩ := putK_some ho1
      obtain ⟨a1, a2⟩ := b.above.grow h4
      exact ⟨t', p.2, o', e2, ho2, ⟨_, e1⟩, η', w', _, .one (st_value ho hw hd h1), h3, a1, .grow h4, (ht.mono h3.le).put h2 e1⟩
theorem guardK_sound (hC : ProgOK P C O) (hself : SelfOK P O self) (h : guardK C self E n ops.toList H tmps o K o.guard = some outs) (b : Base P O E η H w) (ht : TRelX η tmps n t X) (hX : ∀ j ∈ useTmps ops.toList o, ¬ X j) (ho : ops[i]? = some o) :
    Asks P E η H w n X (mR fn rd ds k cs ops (i :: rest) t w) (mR fn rd ds k cs ops rest) (fun t' => ∃ v, putO n tmps o.dst v = some t') K outs := by
  unfold guardK at h
  cases hg : o.guard with
  | none =>
    rw [hg] at h
    exact operK_sound hC hself h b ht hX ho (by simp [Region.wanted, hg])
  | some g =>
    rw [hg] at h
    simp only at h
    split at h
    · cases h
    · rename_i hq
      exact operK_sound hC hself h b ht hX ho (wantedG_sound ht hX hq)
    · rename_i hq
      obtain ⟨t', e1, e2⟩ := putK_some h
      exact ⟨t', H, outs, e2, fun _ h => h, ⟨_, e1⟩, η, w, _, .one (st_unwanted ho (wantedG_sound ht hX hq)), Trans.refl b.rel, b.above, Below.refl _ _ _, ht.put (undef_conc _) e1⟩

/-- a region in the text's order -/
theorem regGo_sound (hC : ProgOK P C O) (hself : SelfOK P O self) : ∀ (l : List Oper) (j : Nat) (tmps : Tr AV) (H : Heap) (outs : List β), regGo C self E n ops.toList K l tmps H = some outs → ops.toList.drop j = l →
    ∀ (η : Env) (w : World) (t : Array Value), Base P O E η H w → TRel η tmps n t → Asks P E η H w n noX (mR fn rd ds k cs ops (List.range' j l.length) t w) (mR fn rd ds k cs ops []) (fun _ => True) K outs
  | [], j, tmps, H, outs, h, _, η, w, t, b, ht => ⟨tmps, H, outs, h, fun _ h => h, trivial, η, w, t, .refl _ _, Trans.refl b.rel, b.above, Below.refl _ _ _, ht.toX⟩
  | o :: r, j, tmps, H, outs, h, hdrop, η, w, t, b, ht => by
    have ho : ops[j]? = some o := by
      have : (ops.toList.drop j)[0]? = some o := by rw [hdrop]; rfl
      rw [List.getElem?_drop] at this
      simpa using this
    have hdrop' : ops.toList.drop (j + 1) = r := by
      rw [← List.drop_drop, hdrop]; rfl
    obtain ⟨tmps', H', outs', hk, hsub, _, η', w', t', s1, s2, s3, s4, s5⟩ := guardK_sound (fn := fn) (rd := rd) (ds := ds) (k := k) (cs := cs) (rest := List.range' (j + 1) r.length) hC hself h b ht.toX (fun _ _ x => x) ho
    obtain ⟨tmps2, H2, outs2, hk2, hsub2, _, η2, w2, t2, u1, u2, u3, u4, u5⟩ := regGo_sound hC hself r (j + 1) tmps' H' outs' hk hdrop' η' w' t' (b.step s2 s3 s4.next) (s5.toR fun _ x => x)
    exact ⟨tmps2, H2, outs2, hk2, fun q hq => hsub q (hsub2 q hq), trivial, η2, w2, t2, s1.trans u1, s2.trans u2, u3, s4.trans u4 s4.next, u5⟩
end
end Go.VmK
