/-
  A machine that runs the model with abstract blocks, and lemmas on it: whatever it answers of a call is what the model does (ProgOK, Base: the conditions).
-/
import Derived.Test.YthcnhdiipbpdgaaGreatDoorR5b
namespace Go.VmK
variable {P : Program} {C : Ctx} {O : Env → Heap → World → Prop} {E : List LoopInfo} {η : Env} {H : Heap} {w : World}

/-- what no step turns -/
def Stable (P : Program) (O : Env → Heap → World → Prop) : Prop := ∀ (E : List LoopInfo) (η : Env) (H : Heap) (w : World) (η' : Env) (H' : Heap) (w' : World), O η H w → Trans P E η H w η' H' w' → O η' H' w'
structure Base (P : Program) (O : Env → Heap → World → Prop) (E : List LoopInfo) (η : Env) (H : Heap) (w : World) : Prop where
  rel : HRel P η E H w
  above : Above η H
  eb : ∀ id, H.next ≤ id → findLoop id E = none
  st : Stable P O
  inv : O η H w
theorem Base.step {η' : Env} {H' : Heap} {w' : World} (b : Base P O E η H w) (t : Trans P E η H w η' H' w') (a : Above η' H') (h : H.next ≤ H'.next) : Base P O E η' H' w' :=
  ⟨t.rel, a, fun id hid => b.eb id (Nat.le_trans h hid), b.st, b.st _ _ _ _ _ _ _ b.inv t⟩
/-- what lies below a number stays as it was -/
structure Below (b : Nat) (η η' : Env) (H H' : Heap) : Prop where
  only : Only (fun i => b ≤ i) η η'
  objs : ∀ id, id < b → H.get id = none → H'.get id = none
  next : H.next ≤ H'.next
theorem Below.refl (b : Nat) (η : Env) (H : Heap) : Below b η η H H := ⟨Only.refl _ _, fun _ _ h => h, Nat.le_refl _⟩
theorem Below.trans {b b1 : Nat} {η1 η2 : Env} {H1 H2 : Heap} (h : Below b η η1 H H1) (g : Below b1 η1 η2 H1 H2) (hb : b ≤ b1) : Below b η η2 H H2 :=
  ⟨h.only.trans (g.only.mono fun _i hi => Nat.le_trans hb hi), fun id hid hn => g.objs id (Nat.lt_of_lt_of_le hid hb) (h.objs id hid hn), Nat.le_trans h.next g.next⟩
theorem Below.weak {b : Nat} {η1 : Env} {H1 H2 : Heap} (h : Below b η η1 H H1) (g : Weak H1 H2) : Below b η η1 H H2 := by
  refine ⟨h.only, fun id hid hn => ?_, Nat.le_trans h.next g.1⟩
  cases hq : H2.get id with
  | none => rfl
  | some o => obtain ⟨o', ho', _⟩ := g.2 id o hq; rw [h.objs id hid hn] at ho'; cases ho'
theorem Below.grow {η1 : Env} {H1 : Heap} (g : Grow η η1 H H1) : Below H.next η η1 H H1 :=
  ⟨g.only.mono fun i hi => Nat.le_of_eq hi.symm, fun id hid hn => g.objs id (Nat.ne_of_lt hid) hn, by rcases g.next with ⟨h, _, _⟩ | h <;> omega⟩
theorem Base.fresh (b : Base P O E η H w) : Fresh η H H.next := b.above _ (Nat.le_refl _)

def RdR (η : Env) : Option Nat → Option Nat → Prop
  | none, none => True
  | some l, some r => η.ρ l = some r
  | _, _ => False
def DR (η : Env) : List Nat → List Deferred → Prop
  | [], [] => True
  | d :: r, D :: s => (∃ b, η.ρ d = some b ∧ D = { target := .collected b, args := #[] }) ∧ DR η r s
  | _, _ => False
def ItemR (η : Env) : AItem → Item → Prop
  | .code c, .code c' => c' = c
  | .inBlock i, .inBlock j => j = i
  | .inLoop c, .inLoop c' => c' = c
  | .inScope c, .inScope c' => c' = c
  | .endRangeFunc l, .endRangeFunc r => η.ρ l = some r
  | .beginRound, .beginRound => True
  | _, _ => False
def TodoR (η : Env) : List AItem → List Item → Prop
  | [], [] => True
  | a :: r, b :: s => ItemR η a b ∧ TodoR η r s
  | _, _ => False
theorem RdR.mono {η' : Env} (h : η.le η') {a b : Option Nat} (g : RdR η a b) : RdR η' a b := by
  cases a <;> cases b <;> first | exact g | exact h.ρ _ _ g
theorem DR.mono {η' : Env} (h : η.le η') : ∀ {a : List Nat} {b : List Deferred}, DR η a b → DR η' a b
  | [], [], _ => trivial
  | [], _ :: _, g => g.elim
  | _ :: _, [], g => g.elim
  | _ :: _, _ :: _, ⟨⟨b, h1, h2⟩, g⟩ => ⟨⟨b, h.ρ _ _ h1, h2⟩, DR.mono h g⟩
theorem ItemR.mono {η' : Env} (h : η.le η') {a : AItem} {b : Item} (g : ItemR η a b) : ItemR η' a b := by
  cases a <;> cases b <;> first | exact g | exact h.ρ _ _ g
theorem TodoR.mono {η' : Env} (h : η.le η') : ∀ {a : List AItem} {b : List Item}, TodoR η a b → TodoR η' a b
  | [], [], _ => trivial
  | [], _ :: _, g => g.elim
  | _ :: _, [], g => g.elim
  | _ :: _, _ :: _, ⟨g1, g2⟩ => ⟨g1.mono h, TodoR.mono h g2⟩

/-- a frame comes to its end -/
def Ends (P : Program) (fn : FuncId) (rd : Option Nat) (cs : List Frame) (m : Machine) (x : Value) (w' : World) : Prop :=
  match rd with
  | none => ∃ fr, Steps P m (lone fr cs w') ∧ fr.fn = fn ∧ fr.leaving P w' (.returned x)
  | some _ => ∀ c cs', cs = c :: cs' → Steps P m (lone (c.finish x) cs' w')
theorem Ends.of_steps {fn : FuncId} {rd : Option Nat} {cs : List Frame} {m m1 : Machine} {x : Value} {w' : World} (h : Steps P m m1) (g : Ends P fn rd cs m1 x w') : Ends P fn rd cs m x w' := by
  cases rd with
  | none => obtain ⟨fr, h1, h2⟩ := g; exact ⟨fr, h.trans h1, h2⟩
  | some r => exact fun c cs' e => h.trans (g c cs' e)
theorem Ends.finish {fn : FuncId} {rd : Option Nat} {c : Frame} {cs : List Frame} {m : Machine} {x : Value} {w' : World} (g : Ends P fn rd (c :: cs) m x w') : Steps P m (lone (c.finish x) cs w') := by
  cases rd with
  | none => obtain ⟨fr, h1, _, h3⟩ := g; exact h1.trans (.one (step_leave_returned h3))
  | some r => exact g c cs rfl

def Res (P : Program) (E : List LoopInfo) (η : Env) (H : Heap) (w : World) (fn : FuncId) (rd : Option Nat) (cs : List Frame) (m : Machine) (p : AV × Heap) : Prop :=
  ∃ η' x w', Ends P fn rd cs m x w' ∧ conc η' p.1 = some x ∧ Trans P E η H w η' p.2 w' ∧ Above η' p.2 ∧ Below H.next η η' H p.2
theorem Res.of {fn : FuncId} {rd : Option Nat} {cs : List Frame} {m m1 : Machine} {p : AV × Heap} {η1 : Env} {H1 : Heap} {w1 : World} (h : Steps P m m1) (t : Trans P E η H w η1 H1 w1) (hn : Below H.next η η1 H H1)
    (g : Res P E η1 H1 w1 fn rd cs m1 p) : Res P E η H w fn rd cs m p :=
  let ⟨η', x, w', h1, h2, h3, h4, h5⟩ := g; ⟨η', x, w', h1.of_steps h, h2, t.trans h3, h4, hn.trans h5 hn.next⟩

def SelfOK (P : Program) (O : Env → Heap → World → Prop) (self : Self) : Prop := ∀ (E : List LoopInfo) (I : FInfo) (todo : List AItem) (tmps : Tr AV) (H : Heap) (outs : List (AV × Heap)), self E I todo tmps H = some outs →
  ∀ (η : Env) (w : World) (rd : Option Nat) (ds : List Deferred) (t : Array Value) (k : List Item) (cs : List Frame), Base P O E η H w → RdR η I.round rd → DR η I.defers ds → TRel η tmps I.n t → TodoR η todo k →
    ∃ p ∈ outs, Res P E η H w I.fn rd cs (lone (fm I.fn rd ds t k) cs w) p

/-- what is taken of a function -/
def ConOK (P : Program) (O : Env → Heap → World → Prop) (f : FuncId) (c : Con) : Prop := ∀ (E : List LoopInfo) (η : Env) (H : Heap) (w : World) (args : List AV) (xs : List Value) (l : List (AV × Heap)), Base P O E η H w → concL η args = some xs → conRun c E H args = some l →
  ∀ cs, ∃ p ∈ l, Res P E η H w f none cs (lone (Frame.enter P f xs.toArray .normal) cs w) p
structure ProgOK (P : Program) (C : Ctx) (O : Env → Heap → World → Prop) : Prop extends CtxOK P C where
  cons : ∀ (f : Nat) (c : Con), C.cons.get f = some c → ConOK P O f c

theorem enter_rel {args : List AV} {xs : List Value} (hx : concL η args = some xs) (m : Nat) : TRel η (Tr.ofL args) (max m args.length) (xs.toArray ++ Array.replicate (m - xs.toArray.size) undef) := by
  have hl := concL_length hx
  refine ⟨by simp [hl]; omega, fun j v hv => ?_⟩
  rw [Tr.get_ofL] at hv
  obtain ⟨y, hy, hc⟩ := concL_get hx j v hv
  refine ⟨y, ?_, hc⟩
  have hlt : j < xs.length := (List.getElem?_eq_some_iff.1 hy).1
  rw [Array.getElem?_append]
  simp [hlt]
  simpa [hlt] using hy

theorem callFun_sound {self : Self} (hC : CtxOK P C) (hself : SelfOK P O self) {f : FuncId} {args : List AV} {xs : List Value} {l : List (AV × Heap)} (h : callFun C self E H f args = some l) (b : Base P O E η H w) (hx : concL η args = some xs) (cs : List Frame) :
    ∃ p ∈ l, Res P E η H w f none cs (lone (Frame.enter P f xs.toArray .normal) cs w) p := by
  unfold callFun at h
  split at h
  · cases h
  · rename_i i hi
    unfold enterK at h
    split at h
    · cases h
    · rename_i c hb
      obtain ⟨fn, hf, hb', hn, _⟩ := hC.funcs f i hi
      rw [enter_fm hf (by rw [hb', hb])]
      refine hself _ _ _ _ _ _ h η w none [] _ _ cs b trivial trivial ?_ ⟨rfl, trivial⟩
      rw [hn]
      exact enter_rel hx i.ntmps
theorem callPlain_sound {self : Self} (hC : ProgOK P C O) (hself : SelfOK P O self) {f : FuncId} {args : List AV} {xs : List Value} {l : List (AV × Heap)} (h : callPlain C self E H f args = some l) (b : Base P O E η H w) (hx : concL η args = some xs) (cs : List Frame) :
    ∃ p ∈ l, Res P E η H w f none cs (lone (Frame.enter P f xs.toArray .normal) cs w) p := by
  unfold callPlain at h
  split at h
  · rename_i c hc
    split at h
    · exact callFun_sound hC.toCtxOK hself h b hx cs
    · rename_i p hp
      cases h
      exact hC.cons f c hc E η H w args xs _ b hx hp cs
  · exact callFun_sound hC.toCtxOK hself h b hx cs

/-! a call in a part of the memory -/
def Part (s h : Tr AObj) : Prop := ∀ id o, s.get id = some o → h.get id = some o
theorem levelUp_part (h : Tr AObj) : ∀ (ids : List Nat) (acc : Tr AObj) (nx : List Nat), Part acc h → Part (levelUp h ids acc nx).1 h
  | [], acc, nx, hp => hp
  | i :: r, acc, nx, hp => by
    unfold levelUp
    split
    · exact levelUp_part h r acc nx hp
    · split
      · exact levelUp_part h r acc nx hp
      · rename_i o ho
        refine levelUp_part h r _ _ fun id u hu => ?_
        rw [Tr.get_set] at hu
        by_cases he : id = i
        · subst he; simp at hu; subst hu; exact ho
        · rw [if_neg he] at hu; exact hp id u hu
theorem reach_part (h : Tr AObj) : ∀ (d : Nat) (ids : List Nat) (acc : Tr AObj), Part acc h → Part (reach h d ids acc) h
  | 0, _, _, hp => hp
  | d + 1, ids, acc, hp => by
    have := levelUp_part h ids acc [] hp
    unfold reach
    split
    · rename_i a he; rw [he] at this; exact this
    · rename_i a nx _ he; rw [he] at this; exact reach_part h d nx a this
theorem reach_lf (h : Tr AObj) (d : Nat) (ids : List Nat) : Part (reach h d ids .lf) h := reach_part h d ids .lf fun id o ho => by rw [Tr.get_lf] at ho; cases ho
theorem get_parts {α : Type} (t : Tr α) (i : Nat) : t.get i = if i = 0 then vTr t else if i % 2 = 1 then (lTr t).get (i / 2) else (rTr t).get (i / 2 - 1) := by
  cases t with
  | lf => simp [Tr.get_lf, vTr, lTr, rTr]
  | nd l v r =>
    rw [Tr.get_nd]
    rfl
theorem isLf_eq {α : Type} {t : Tr α} (h : isLf t = true) : t = .lf := by cases t <;> first | rfl | cases h
theorem mergeTr_get {α : Type} : ∀ (h s n : Tr α) (i : Nat), (mergeTr h s n).get i = pickV (h.get i) (s.get i) (n.get i)
  | .lf, s, n, i => by
    show n.get i = pickV none (s.get i) (n.get i)
    unfold pickV
    cases s.get i <;> cases n.get i <;> rfl
  | .nd l v r, s, n, i => by
    simp only [mergeTr]
    cases hb : (isLf s && isLf n) with
    | true =>
      simp only [Bool.and_eq_true] at hb
      rw [isLf_eq hb.1, isLf_eq hb.2]
      simp [Tr.get_lf, pickV]
    | false =>
      simp only [cond_false]
      rw [get_parts (.nd (mergeTr l (lTr s) (lTr n)) (pickV v (vTr s) (vTr n)) (mergeTr r (rTr s) (rTr n))), get_parts (.nd l v r), get_parts s i, get_parts n i]
      simp only [vTr, lTr, rTr]
      by_cases h0 : i = 0
      · simp [h0]
      · by_cases h1 : i % 2 = 1
        · simp only [h0, h1, if_true, if_false]; exact mergeTr_get l _ _ _
        · simp only [h0, h1, if_false]; exact mergeTr_get r _ _ _

theorem Weak.part {H : Heap} {s : Tr AObj} (hp : Part s H.objs) : Weak H { objs := s, next := H.next } :=
  ⟨Nat.le_refl _, fun id o ho => ⟨o, hp id o ho, WeakO.refl _⟩⟩
theorem Res.weak {fn : FuncId} {rd : Option Nat} {cs : List Frame} {m : Machine} {v : AV} {K K' : Heap} (h : Res P E η H w fn rd cs m (v, K)) (g : Weak K K') : Res P E η H w fn rd cs m (v, K') := by
  obtain ⟨η', x, w', h1, h2, h3, h4, h5⟩ := h
  exact ⟨η', x, w', h1, h2, h3.weak g, h4.weak g, h5.weak g⟩
/-- what is done in a part of the memory is done in the whole -/
theorem Res.merge {fn : FuncId} {rd : Option Nat} {cs : List Frame} {m : Machine} {s : Tr AObj} {v : AV} {K : Heap} (hr : HRel P η [] H w) (ha : Above η H) (hp : Part s H.objs)
    (h : Res P [] η { objs := s, next := H.next } w fn rd cs m (v, K)) : Res P [] η H w fn rd cs m (v, mergeH H s K) := by
  obtain ⟨η', x, w', h1, h2, h3, h4, h5⟩ := h
  have hget : ∀ id, (mergeH H s K).get id = pickV (H.get id) (s.get id) (K.get id) := fun id => mergeTr_get _ _ _ _
  -- an object outside of the part
  have out : ∀ id o b, H.get id = some o → s.get id = none → η.ρ id = some b → ¬ Live η { objs := s, next := H.next } b := by
    intro id o b ho hs hb ⟨j, u, hj, hjb⟩
    have : id = j := hr.inj id j o u b ho (hp j u hj) hb hjb
    subst this
    have hj : s.get id = some u := hj
    rw [hs] at hj; cases hj
  have parts : ∀ id o, (mergeH H s K).get id = some o → K.get id = some o ∨ (H.get id = some o ∧ s.get id = none) := by
    intro id o ho
    rw [hget] at ho
    unfold pickV at ho
    split at ho
    · exact .inl ho
    · rename_i hs
      split at ho
      · rename_i u hu; cases ho; exact .inl hu
      · exact .inr ⟨ho, hs⟩
  have liveH : ∀ b, Live η { objs := s, next := H.next } b → Live η H b := fun b ⟨j, u, hj, hjb⟩ => ⟨j, u, hp j u hj, hjb⟩
  refine ⟨η', x, w', h1, h2, ⟨h3.le, ⟨fun id o ho => ?_, fun i j oi oj b hi hj hbi hbj => ?_⟩, fun b hb hl => h3.frame b hb fun hl' => hl (liveH b hl'), fun b hb hl => ?_, h3.keeps⟩, fun id hid => ?_, ⟨h5.only, fun id hid hn => ?_, h5.next⟩⟩
  · rcases parts id o ho with h | ⟨h, hs⟩
    · exact h3.rel.obj id o h
    · obtain ⟨b, ob, hb, hob, hrel⟩ := hr.obj id o h
      exact ⟨b, ob, h3.le.ρ _ _ hb, (h3.frame b (lt_of_get hob) (out id o b h hs hb)).trans hob, ORel_mono h3.le hrel⟩
  · have key : ∀ i j oi oj, K.get i = some oi → (H.get j = some oj ∧ s.get j = none) → η'.ρ i = some b → η'.ρ j = some b → False := by
      intro i j oi oj hi ⟨hj, hs⟩ hbi hbj
      obtain ⟨b0, ob, hb0, hob, _⟩ := hr.obj j oj hj
      have : b0 = b := by have := h3.le.ρ _ _ hb0; rw [hbj] at this; exact (Option.some.inj this).symm
      subst this
      exact out j oj b0 hj hs hb0 (h3.shr b0 (lt_of_get hob) ⟨i, oi, hi, hbi⟩)
    rcases parts i oi hi with h | h <;> rcases parts j oj hj with g | g
    · exact h3.rel.inj i j oi oj b h g hbi hbj
    · exact (key i j oi oj h g hbi hbj).elim
    · exact (key j i oj oi g h hbj hbi).elim
    · obtain ⟨b1, _, hb1, _, _⟩ := hr.obj i oi h.1
      obtain ⟨b2, _, hb2, _, _⟩ := hr.obj j oj g.1
      have e1 : b1 = b := by have := h3.le.ρ _ _ hb1; rw [hbi] at this; exact (Option.some.inj this).symm
      have e2 : b2 = b := by have := h3.le.ρ _ _ hb2; rw [hbj] at this; exact (Option.some.inj this).symm
      subst e1; subst e2
      exact hr.inj i j oi oj _ h.1 g.1 hb1 hb2
  · obtain ⟨id, o, ho, hib⟩ := hl
    rcases parts id o ho with h | ⟨h, hs⟩
    · exact liveH b (h3.shr b hb ⟨id, o, h, hib⟩)
    · obtain ⟨b1, _, hb1, _, _⟩ := hr.obj id o h
      have e1 : b1 = b := by have := h3.le.ρ _ _ hb1; rw [hib] at this; exact (Option.some.inj this).symm
      subst e1
      exact ⟨id, o, h, hb1⟩
  · have hid : K.next ≤ id := hid
    have f := h4 id hid
    have f0 := ha id (Nat.le_trans h5.next hid)
    refine ⟨?_, f.ρ, f.κ, f.σ⟩
    rw [hget, f.get, f0.get]
    unfold pickV
    cases s.get id <;> rfl
  · have hs : s.get id = none := by
      cases hq : s.get id with
      | none => rfl
      | some o => have : H.get id = some o := hp id o hq; rw [hn] at this; cases this
    have hk : K.get id = none := h5.objs id hid hs
    rw [hget, hs, hk, hn]; rfl

theorem mem_mergeAll {s : Tr AObj} : ∀ {l : List (AV × Heap)} {p : AV × Heap}, p ∈ l → mergeP H s (swept s p) ∈ mergeAll H s l
  | q :: r, p, h => by
    rcases List.mem_cons.1 h with rfl | h
    · exact List.mem_cons_self
    · exact List.mem_cons_of_mem _ (mem_mergeAll h)
theorem swept_weak (s : Tr AObj) (p : AV × Heap) : Weak p.2 (swept s p).2 := Weak.part (reach_lf _ _ _)
theorem framed_sound {fn : FuncId} {cs : List Frame} {m : Machine} {s : Tr AObj} {o : Option (List (AV × Heap))} {l : List (AV × Heap)} (hr : HRel P η [] H w) (ha : Above η H) (hp : Part s H.objs) (h : framed H s o = some l)
    (g : ∀ l0, o = some l0 → ∃ p ∈ l0, Res P [] η { objs := s, next := H.next } w fn none cs m p) : ∃ p ∈ l, Res P [] η H w fn none cs m p := by
  unfold framed at h
  split at h
  · cases h
  · rename_i l0
    obtain ⟨p, hpm, hres⟩ := g l0 rfl
    split at h
    · rename_i q hq
      cases h
      obtain ⟨e0, hw⟩ := joinOuts_sound (v := q.1) (H := q.2) hq p hpm
      obtain ⟨v, K⟩ := p
      simp only at e0 hw
      subst e0
      exact ⟨_, List.mem_cons_self, Res.merge hr ha hp ((hres.weak hw).weak (swept_weak s q))⟩
    · cases h
      obtain ⟨v, K⟩ := p
      exact ⟨_, mem_mergeAll hpm, Res.merge hr ha hp (hres.weak (swept_weak s (v, K)))⟩
theorem callIn_sound {self : Self} (hC : ProgOK P C O) (hself : SelfOK P O self) {f : FuncId} {args : List AV} {xs : List Value} {l : List (AV × Heap)} (h : callIn C self E H f args = some l) (b : Base P O E η H w) (hx : concL η args = some xs) (cs : List Frame) :
    ∃ p ∈ l, Res P E η H w f none cs (lone (Frame.enter P f xs.toArray .normal) cs w) p := by
  unfold callIn at h
  split at h
  · exact callPlain_sound hC hself h b hx cs
  · rename_i d hd
    split at h
    · have hp : Part (reach H.objs d (idsAVs args []) .lf) H.objs := reach_lf _ _ _
      refine framed_sound b.rel b.above hp h fun l0 hl0 => ?_
      have hw : Weak H { objs := reach H.objs d (idsAVs args []) .lf, next := H.next } := Weak.part hp
      exact callPlain_sound hC hself hl0 (b.step ((Trans.refl b.rel).weak hw) (b.above.weak hw) (Nat.le_refl _)) hx cs
    · exact callPlain_sound hC hself h b hx cs

/-! a round of a loop over a function -/
theorem findLoop_id : ∀ {E : List LoopInfo} {l : Nat} {i : LoopInfo}, findLoop l E = some i → i.id = l
  | [], l, i, h => by simp [findLoop] at h
  | j :: r, l, i, h => by
    simp only [findLoop] at h
    cases hb : Nat.beq j.id l with
    | true => rw [hb] at h; simp at h; subst h; exact beq_eq hb
    | false => rw [hb] at h; exact findLoop_id h
theorem getLoop' (hr : HRel P η E H w) {l : Nat} {s : LoopState} {p : Option Jump} (hg : H.get l = some (.loop s p)) : ∃ r L, η.ρ l = some r ∧ w.heap[r]? = some (.loop L) ∧ L.state = s ∧ L.pending = p.map Jump.code ∧
    ∀ i, findLoop l E = some i → L.fn = i.fn ∧ TRel η i.tmps i.n L.tmps ∧ L.params.toList = i.params ∧ L.assign = i.assign ∧ L.body = i.body ∧ η.ρ i.defers = some L.defers := by
  obtain ⟨r, ob, h1, h2, h3⟩ := hr.obj l _ hg
  cases ob <;> try exact h3.elim
  rename_i L
  exact ⟨r, L, h1, h2, h3⟩
theorem setParams_sound : ∀ {ps : List Tmp} {args : List AV} {xs : List Value} {t t' : Tr AV} {n : Nat} {c : Array Value}, TRel η t n c → concL η args = some xs → setParams n t ps args = some t' → ps.length = xs.length ∧
    TRel η t' n ((ps.zip xs).foldl (fun c (p : Tmp × Value) => c.setIfInBounds p.1 p.2) c)
  | [], [], xs, t, t', n, c, g, hx, h => by
    simp [concL] at hx; subst hx
    simp [setParams] at h; subst h
    exact ⟨rfl, g⟩
  | [], _ :: _, xs, t, t', n, c, g, hx, h => by simp [setParams] at h
  | _ :: _, [], xs, t, t', n, c, g, hx, h => by simp [setParams] at h
  | p :: ps, v :: vs, xs, t, t', n, c, g, hx, h => by
    simp only [concL] at hx
    split at hx
    · rename_i y ys hy hys
      cases hx
      simp only [setParams] at h
      cases hb : Nat.blt p n with
      | false => rw [hb] at h; cases h
      | true =>
        rw [hb] at h; simp only [cond_true] at h
        have g' : TRel η (t.set p v) n (c.setIfInBounds p y) := (g.toX.put (d := some p) hy (by simp [putO, hb])).toR (fun _ x => x)
        obtain ⟨h1, h2⟩ := setParams_sound g' hys h
        exact ⟨by simp [h1], h2⟩
    · cases hx
theorem roundIn_sound {self : Self} (hself : SelfOK P O self) {l r : Nat} (hl : η.ρ l = some r) {args : List AV} {xs : List Value} {outs : List (AV × Heap)} (h : roundIn self E H l args = some outs) (b : Base P O E η H w) (hx : concL η args = some xs) (cs : List Frame) :
    ∃ f tm a bd, (Instr.yield r xs.toArray).run P w = .ok (.round r f tm a bd) w ∧ ∃ p ∈ outs, Res P E η H w f (some r) cs (lone (Frame.round r f tm a bd .normal) cs w) p := by
  unfold roundIn at h
  split at h
  · cases h
  · rename_i i hi
    split at h
    · rename_i s pd hg
      split at h
      · cases h
      · rename_i t ht
        obtain ⟨r', L, hr', hh, _, _, hL⟩ := getLoop' b.rel hg
        rw [hl] at hr'; cases hr'
        obtain ⟨h1, h2, h3, h4, h5, h6⟩ := hL i hi
        obtain ⟨g1, g2⟩ := setParams_sound h2 hx ht
        have e : (L.params.zip xs.toArray).foldl (fun tmps (t, a) => tmps.setIfInBounds t a) L.tmps = (i.params.zip xs).foldl (fun c (p : Tmp × Value) => c.setIfInBounds p.1 p.2) L.tmps := by
          rw [← Array.foldl_toList, Array.toList_zip, h3]
        refine ⟨L.fn, (L.params.zip xs.toArray).foldl (fun tmps (t, a) => tmps.setIfInBounds t a) L.tmps, L.assign, L.body, ?_, ?_⟩
        · have hsz : ¬ xs.toArray.size ≠ L.params.size := by
            have : L.params.size = i.params.length := by rw [← h3]; simp
            simp [this, g1]
          simp only [Instr.yield, Instr.getLoop, Sem.run_bind, getObj, Sem.run, hh, Result.andThen_ok, Sem.run_pure]
          rw [if_neg hsz]
          simp
        · rw [e, round_fm, h1, h4, h5]
          have hid := findLoop_id hi
          have := hself _ _ _ _ _ _ h η w (some r) [] _ [.code i.assign, .beginRound, .code i.body] cs b (by simp only [roundOf, hid]; exact hl) trivial g2 ⟨rfl, trivial, rfl, trivial⟩
          exact this
    · cases h

/-! one operation of a region -/
def GoesX (P : Program) (E : List LoopInfo) (η : Env) (H : Heap) (w : World) (n : Nat) (X : Nat → Prop) (m : Machine) (mk : Array Value → World → Machine) (tmps' : Tr AV) (H' : Heap) : Prop :=
  ∃ η' w' t', Steps P m (mk t' w') ∧ Trans P E η H w η' H' w' ∧ Above η' H' ∧ Below H.next η η' H H' ∧ TRelX η' tmps' n t' X
theorem bindL_mem {α β : Type} {f : α → Option (List β)} : ∀ {l : List α} {outs : List β}, bindL f l = some outs → ∀ p ∈ l, ∃ o, f p = some o ∧ ∀ q ∈ o, q ∈ outs
  | [], _, _, p, hp => by simp at hp
  | x :: xs, outs, h, p, hp => by
    simp only [bindL] at h
    split at h
    · cases h
    · rename_i a ha
      split at h
      · cases h
      · rename_i bs hb
        cases h
        rcases List.mem_cons.1 hp with rfl | hp
        · exact ⟨a, ha, fun q hq => List.mem_append.2 (.inl hq)⟩
        · obtain ⟨o, h1, h2⟩ := bindL_mem hb p hp
          exact ⟨o, h1, fun q hq => List.mem_append.2 (.inr (h2 q hq))⟩
theorem putK_some {β : Type} {n : Nat} {tmps : Tr AV} {d : Option Tmp} {K : Knt β} {v : AV} {H' : Heap} {outs : List β} (h : putK n tmps d K v H' = some outs) : ∃ t', putO n tmps d v = some t' ∧ K t' H' = some outs := by
  unfold putK at h
  cases hq : putO n tmps d v with
  | none => rw [hq] at h; cases h
  | some t' => rw [hq] at h; exact ⟨t', rfl, h⟩

/-- what K is asked, and what has happened -/
def Asks {β : Type} (P : Program) (E : List LoopInfo) (η : Env) (H : Heap) (w : World) (n : Nat) (X : Nat → Prop) (m : Machine) (mk : Array Value → World → Machine) (T : Tr AV → Prop) (K : Knt β) (outs : List β) : Prop :=
  ∃ tmps' H' outs', K tmps' H' = some outs' ∧ (∀ q ∈ outs', q ∈ outs) ∧ T tmps' ∧ GoesX P E η H w n X m mk tmps' H'

/-- behind a call -/
theorem afterCall_sound {β : Type} {n : Nat} {X : Nat → Prop} {tmps : Tr AV} {t : Array Value} {d : Option Tmp} {K : Knt β} {ap : Bool} {o : Option (List (AV × Heap))} {outs : List β} (h : afterCall ap n tmps d K o = some outs) (_b : Base P O E η H w) (ht : TRelX η tmps n t X)
    {m : Machine} {mk : Array Value → World → Machine} (ho : ∀ l, o = some l → ∃ p ∈ l, ∃ η' x w', Steps P m (mk (putA t d x) w') ∧ conc η' p.1 = some x ∧ Trans P E η H w η' p.2 w' ∧ Above η' p.2 ∧ Below H.next η η' H p.2) :
    Asks P E η H w n X m mk (fun t' => ∃ v, putO n tmps d v = some t') K outs := by
  unfold afterCall at h
  split at h
  · cases h
  · cases h
  · rename_i p
    obtain ⟨q, hq, η', x, w', h1, h2, h3, h4, h5⟩ := ho _ rfl
    simp only [List.mem_singleton] at hq; subst hq
    obtain ⟨t', e1, e2⟩ := putK_some h
    exact ⟨t', q.2, outs, e2, fun _ h => h, ⟨_, e1⟩, η', w', _, h1, h3, h4, h5, (ht.mono h3.le).put h2 e1⟩
  · rename_i l _ _
    obtain ⟨q, hq, η', x, w', h1, h2, h3, h4, h5⟩ := ho _ rfl
    cases ap with
    | true =>
      simp only [cond_true] at h
      obtain ⟨o, ho1, ho2⟩ := bindL_mem h q hq
      obtain ⟨t', e1, e2⟩ := putK_some ho1
      exact ⟨t', q.2, o, e2, ho2, ⟨_, e1⟩, η', w', _, h1, h3, h4, h5, (ht.mono h3.le).put h2 e1⟩
    | false =>
      simp only [cond_false] at h
      split at h
      · rename_i p hp
        obtain ⟨v, Hj⟩ := p
        obtain ⟨e0, hw⟩ := joinOuts_sound hp q hq
        obtain ⟨t', e1, e2⟩ := putK_some h
        exact ⟨t', Hj, outs, e2, fun _ h => h, ⟨_, e1⟩, η', w', _, h1, h3.weak hw, h4.weak hw, h5.weak hw, (ht.mono h3.le).put (e0 ▸ h2) e1⟩
      · cases h

theorem not_defer {tmps : Tr AV} {o : Oper} {out : Out} (h : opStep C H tmps o.op = some out) : ∀ c, o.op ≠ .defer c := by
  intro c e; rw [e] at h; simp [opStep] at h

section
variable {β : Type} {fn : FuncId} {rd : Option Nat} {ds : List Deferred} {k : List Item} {cs : List Frame} {ops : Array Oper} {i : Nat} {rest : List Nat} {o : Oper} {n : Nat} {X : Nat → Prop} {tmps : Tr AV} {t : Array Value} {K : Knt β} {outs : List β} {self : Self}
def mR (fn : FuncId) (rd : Option Nat) (ds : List Deferred) (k : List Item) (cs : List Frame) (ops : Array Oper) (l : List Nat) (t : Array Value) (w : World) : Machine := lone (fm fn rd ds t (.inRegion ops l :: k)) cs w

theorem operK_sound (hC : ProgOK P C O) (hself : SelfOK P O self) (h : operK C self E n H tmps o K = some outs) (b : Base P O E η H w) (ht : TRelX η tmps n t X) (hX : ∀ j ∈ useTmps ops.toList o, ¬ X j) (ho : ops[i]? = some o) (hw : Region.wanted o (yielded ops t) = true) :
    Asks P E η H w n X (mR fn rd ds k cs ops (i :: rest) t w) (mR fn rd ds k cs ops rest) (fun t' => ∃ v, putO n tmps o.dst v = some t') K outs := by
  unfold operK at h
  cases hq : opStep C H tmps o.op with
  | none => rw [hq] at h; cases h
  | some out =>
    rw [hq] at h
    have hd := not_defer hq
    have hs := opStep_sound (P := P) (E := E) hC.toCtxOK b.rel b.fresh (ops_ok ht hX) hq
    cases out with
    | val v H' =>
      obtain ⟨η', x, w', h1, h2, h3, h4⟩ := hs
      obtain ⟨t', e1, e2⟩ := putK_some h
      obtain ⟨a1, a2⟩ := b.above.grow h4
      exact ⟨t', H', outs, e2, fun _ h => h, ⟨_, e1⟩, η', w', _, .one (st_value ho hw hd h1), h3, a1, .grow h4, (ht.mono h3.le).put h2 e1⟩
    | skip H' =>
      obtain ⟨η', w', h1, h3, h4⟩ := hs
      obtain ⟨t', e1, e2⟩ := putK_some h
      obtain ⟨a1, a2⟩ := b.above.grow h4
      exact ⟨t', H', outs, e2, fun _ h => h, ⟨_, e1⟩, η', w', _, .one (st_done ho hw hd h1), h3, a1, .grow h4, (ht.mono h3.le).put (undef_conc _) e1⟩
    | enter f args =>
      obtain ⟨_, xs, hx, h1⟩ := hs
      refine afterCall_sound h b ht fun l hl => ?_
      obtain ⟨p, hp, η', x, w', g1, g2, g3, g4, g5⟩ := callIn_sound hC hself hl b hx (fm fn rd ds t (.inRegion ops (i :: rest) :: k) :: cs)
      refine ⟨p, hp, η', x, w', .head (st_enter ho hw hd h1) ?_, g2, g3, g4, g5⟩
      have := g1.finish
      rw [fm_finish, ho] at this
      exact this
    | round l args =>
      obtain ⟨xs, r, hx, hl, h1⟩ := hs
      refine afterCall_sound h b ht fun l' hl' => ?_
      obtain ⟨f, tm, a, bd, hy, p, hp, η', x, w', g1, g2, g3, g4, g5⟩ := roundIn_sound hself hl hl' b hx (fm fn rd ds t (.inRegion ops (i :: rest) :: k) :: cs)
      refine ⟨p, hp, η', x, w', .head (st_round ho hw hd (h1.trans hy)) ?_, g2, g3, g4, g5⟩
      have := g1.finish
      rw [fm_finish, ho] at this
      exact this
    | ways l =>
      obtain ⟨p, hp, η', x, w', h1, h2, h3, h4⟩ := hs
      obtain ⟨o', ho1, ho2⟩ := bindL_mem h p hp
      obtain ⟨t', e1, e2⟩ := putK_some ho1
      obtain ⟨a1, a2⟩ := b.above.grow h4
      exact ⟨t', p.2, o', e2, ho2, ⟨_, e1⟩, η', w', _, .one (st_value ho hw hd h1), h3, a1, .grow h4, (ht.mono h3.le).put h2 e1⟩
theorem guardK_sound (hC : ProgOK P C O) (hself : SelfOK P O self) (h : guardK C self E n ops.toList H tmps o K o.guard = some outs) (b : Base P O E η H w) (ht : TRelX η tmps n t X) (hX : ∀ j ∈ useTmps ops.toList o, ¬ X j) (ho : ops[i]? = some o) :
    Asks P E η H w n X (mR fn rd ds k cs ops (i :: rest) t w) (mR fn rd ds k cs ops rest) (fun t' => ∃ v, putO n tmps o.dst v = some t') K outs := by
  unfold guardK at h
  cases hg : o.guard with
  | none =>
    rw [hg] at h
    exact operK_sound hC hself h b ht hX ho (by simp [Region.wanted, hg])
  | some g =>
    rw [hg] at h
    simp only at h
    split at h
    · cases h
    · rename_i hq
      exact operK_sound hC hself h b ht hX ho (wantedG_sound ht hX hq)
    · rename_i hq
      obtain ⟨t', e1, e2⟩ := putK_some h
      exact ⟨t', H, outs, e2, fun _ h => h, ⟨_, e1⟩, η, w, _, .one (st_unwanted ho (wantedG_sound ht hX hq)), Trans.refl b.rel, b.above, Below.refl _ _ _, ht.put (undef_conc _) e1⟩

/-- a region in the text's order -/
theorem regGo_sound (hC : ProgOK P C O) (hself : SelfOK P O self) : ∀ (l : List Oper) (j : Nat) (tmps : Tr AV) (H : Heap) (outs : List β), regGo C self E n ops.toList K l tmps H = some outs → ops.toList.drop j = l →
    ∀ (η : Env) (w : World) (t : Array Value), Base P O E η H w → TRel η tmps n t → Asks P E η H w n noX (mR fn rd ds k cs ops (List.range' j l.length) t w) (mR fn rd ds k cs ops []) (fun _ => True) K outs
  | [], j, tmps, H, outs, h, _, η, w, t, b, ht => ⟨tmps, H, outs, h, fun _ h => h, trivial, η, w, t, .refl _ _, Trans.refl b.rel, b.above, Below.refl _ _ _, ht.toX⟩
  | o :: r, j, tmps, H, outs, h, hdrop, η, w, t, b, ht => by
    have ho : ops[j]? = some o := by
      have : (ops.toList.drop j)[0]? = some o := by rw [hdrop]; rfl
      rw [List.getElem?_drop] at this
      simpa using this
    have hdrop' : ops.toList.drop (j + 1) = r := by
      rw [← List.drop_drop, hdrop]; rfl
    obtain ⟨tmps', H', outs', hk, hsub, _, η', w', t', s1, s2, s3, s4, s5⟩ := guardK_sound (fn := fn) (rd := rd) (ds := ds) (k := k) (cs := cs) (rest := List.range' (j + 1) r.length) hC hself h b ht.toX (fun _ _ x => x) ho
    obtain ⟨tmps2, H2, outs2, hk2, hsub2, _, η2, w2, t2, u1, u2, u3, u4, u5⟩ := regGo_sound hC hself r (j + 1) tmps' H' outs' hk hdrop' η' w' t' (b.step s2 s3 s4.next) (s5.toR fun _ x => x)
    exact ⟨tmps2, H2, outs2, hk2, fun q hq => hsub q (hsub2 q hq), trivial, η2, w2, t2, s1.trans u1, s2.trans u2, u3, s4.trans u4 s4.next, u5⟩
end
end Go.VmK
