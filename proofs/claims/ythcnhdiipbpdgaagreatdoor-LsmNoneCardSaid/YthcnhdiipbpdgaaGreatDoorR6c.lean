/-
  A machine that runs the model with abstract blocks, and lemmas on it: whatever it answers of a call is what the model does (ProgOK, Base: the conditions).
-/
import Derived.Test.YthcnhdiipbpdgaaGreatDoorR6b
namespace Go.VmK
variable {P : Program} {C : Ctx} {O : Env → Heap → World → Prop} {E : List LoopInfo} {η : Env} {H : Heap} {w : World}

/-! loops over functions: one more loop, one less -/
theorem ORel.loops {E' : List LoopInfo} {id : Nat} {o : AObj} {ob : Obj} (hE : ∀ i, findLoop id E' = some i → findLoop id E = some i) (h : ORel P η E id o ob) : ORel P η E' id o ob := by
  cases o <;> cases ob <;> try exact h.elim
  case loop.loop s p L => exact ⟨h.1, h.2.1, fun i hi => h.2.2 i (hE i hi)⟩
  all_goals exact h
theorem HRel.loops {E' : List LoopInfo} (hE : ∀ id o i, H.get id = some o → findLoop id E' = some i → findLoop id E = some i) (h : HRel P η E H w) : HRel P η E' H w :=
  ⟨fun id o ho => let ⟨b, ob, h1, h2, h3⟩ := h.obj id o ho; ⟨b, ob, h1, h2, h3.loops fun i hi => hE id o i ho hi⟩, h.inj⟩
theorem findLoop_cons (i : LoopInfo) (E : List LoopInfo) (l : Nat) : findLoop l (i :: E) = if i.id = l then some i else findLoop l E := by
  simp only [findLoop]
  cases hb : Nat.beq i.id l with
  | true => rw [if_pos (beq_eq hb)]; rfl
  | false => rw [if_neg]; · rfl
             · intro e; subst e; simp at hb
/-- what holds with more loops holds with fewer -/
theorem Res.down {i : LoopInfo} {fn : FuncId} {rd : Option Nat} {cs : List Frame} {m : Machine} {p : AV × Heap} (hi : findLoop i.id E = none) (h : Res P (i :: E) η H w fn rd cs m p) : Res P E η H w fn rd cs m p := by
  obtain ⟨η', x, w', h1, h2, h3, h4, h5⟩ := h
  refine ⟨η', x, w', h1, h2, ⟨h3.le, h3.rel.loops fun id o j _ hj => ?_, h3.frame, h3.shr, h3.keeps⟩, h4, h5⟩
  rw [findLoop_cons]
  by_cases e : i.id = id
  · subst e; rw [hi] at hj; cases hj
  · rw [if_neg e]; exact hj

section
variable {self : Self} {I : FInfo} {rd : Option Nat} {ds : List Deferred} {todo : List AItem} {k : List Item} {cs : List Frame} {tmps : Tr AV} {t : Array Value} {outs : List (AV × Heap)}

theorem Base.new (b : Base P O E η H w) (o : AObj) (ob : Obj) (ho : ORel P (η.bind H.next w.heap.size) E H.next o ob) :
    Trans P E η H w (η.bind H.next w.heap.size) (H.new o) (w.alloc ob) ∧ Base P O E (η.bind H.next w.heap.size) (H.new o) (w.alloc ob) ∧ Below H.next η (η.bind H.next w.heap.size) H (H.new o) := by
  obtain ⟨h1, h2⟩ := newObj_sound (P := P) b.rel b.fresh o ob ho
  have h3 := Below.grow h2
  exact ⟨h1, b.step h1 (b.above.grow h2).1 h3.next, h3⟩

/-- the loop itself: its record stands, its blocks are there -/
theorem rangeIn_sound (hC : ProgOK P C O) (hself : SelfOK P O self) {f : Operand} {params : Array Tmp} {assign body : Code} {d : Nat} {defers : List Nat} (h : rangeIn C self E I todo tmps f params.toList assign body d defers H = some outs) (b : Base P O E η H w) {ds' : List Deferred} (hrd : RdR η I.round rd)
    (hds : DR η defers ds') (ht : TRel η tmps I.n t) (hk : TodoR η todo k) {rdf : Nat} (hd : η.ρ d = some rdf) {m : Machine}
    (hstep : ∀ (g : FuncId) (first captured args : Array Value), evT t f = .func (.func g) first captured →
      (callFunc g (first ++ #[.func (.yield w.heap.size) #[] #[]] ++ captured)).run P (w.alloc (.loop { state := .ready, pending := none, fn := I.fn, tmps := t, params, assign, body, defers := rdf })) = .ok (.enter g args) (w.alloc (.loop { state := .ready, pending := none, fn := I.fn, tmps := t, params, assign, body, defers := rdf })) →
      Go.step P m = .next (lone (Frame.enter P g args .normal) (fm I.fn rd ds' t (.inRangeFunc w.heap.size :: k) :: cs) (w.alloc (.loop { state := .ready, pending := none, fn := I.fn, tmps := t, params, assign, body, defers := rdf })))) :
    ∃ p ∈ outs, Res P E η H w I.fn rd cs m p := by
  unfold rangeIn at h
  simp only at h
  obtain ⟨i, hi⟩ : ∃ i : LoopInfo, i = { id := H.next, fn := I.fn, n := I.n, tmps := tmps, params := params.toList, assign := assign, body := body, defers := d } := ⟨_, rfl⟩
  rw [← hi] at h
  have hid : i.id = H.next := by rw [hi]
  have hEn : findLoop i.id E = none := by rw [hid]; exact b.eb _ (Nat.le_refl _)
  split at h
  · rename_i g first captured hv
    split at h
    · cases h
    · rename_i l hl
      have hfv := evT_sound ht.toX (fun _ _ x => x) hv
      obtain ⟨as, bs, h1, h2, hval⟩ := conc_func hfv
      obtain ⟨L, hL⟩ : ∃ L : Loop, L = { state := .ready, pending := none, fn := I.fn, tmps := t, params, assign, body, defers := rdf } := ⟨_, rfl⟩
      rw [← hL] at hstep
      have hup : HRel P η (i :: E) H w := b.rel.loops fun id o j ho hj => by
        rw [findLoop_cons] at hj
        rw [if_neg] at hj
        · exact hj
        · intro e
          have := b.fresh.get
          rw [← hid, e, ho] at this; cases this
      have hle := Env.le_bind (η := η) (id := H.next) (b := w.heap.size) b.fresh.ρ
      obtain ⟨n1, n2⟩ := newObj_sound (P := P) hup b.fresh (.loop .ready none) (.loop L) ⟨by rw [hL], by rw [hL]; rfl, fun j hj => by
        rw [findLoop_cons, if_pos hid] at hj
        cases hj
        rw [hL, hi]
        exact ⟨rfl, ht.mono hle, rfl, rfl, rfl, hle.ρ _ _ hd⟩⟩
      have b1 : Base P O (i :: E) (η.bind H.next w.heap.size) (H.new (.loop .ready none)) (w.alloc (.loop L)) := ⟨n1.rel, (b.above.grow n2).1, fun id hid' => by
        have hid' : H.next + 1 ≤ id := hid'
        rw [findLoop_cons, if_neg (by omega)]
        exact b.eb id (by omega), b.st, b.st _ _ _ _ _ _ _ b.inv n1⟩
      have hy : concL (η.bind H.next w.heap.size) [.yield H.next] = some [.func (.yield w.heap.size) #[] #[]] := by simp [concL, conc, Env.bind]
      have hx := concL_append (concL_append (concL_mono hle _ _ h1) hy) (concL_mono hle _ _ h2)
      have hl' := hl
      unfold callFun at hl'
      split at hl'
      · cases hl'
      · rename_i fi hfi
        unfold enterK at hl'
        split at hl'
        · cases hl'
        · rename_i c hc
          obtain ⟨p, hp, η2, x, w2, g1, g2, g3, g4, g5⟩ := callFun_sound hC.toCtxOK hself hl b1 hx (fm I.fn rd ds' t (.inRangeFunc w.heap.size :: k) :: cs)
          have hs1 := hstep g as.toArray bs.toArray _ hval (by
            have := run_enter hC.toCtxOK hfi hc (as.toArray ++ #[.func (.yield w.heap.size) #[] #[]] ++ bs.toArray) (w.alloc (.loop L))
            exact this)
          have e : as.toArray ++ #[Value.func (.yield w.heap.size) #[] #[]] ++ bs.toArray = (as ++ [Value.func (.yield w.heap.size) #[] #[]] ++ bs).toArray := by simp
          rw [e] at hs1
          have hfin := g1.finish
          rw [fm_finishLoop] at hfin
          obtain ⟨o, ho1, ho2⟩ := bindL_mem h p hp
          have b2 := b1.step g3 g4 g5.next
          have hle2 := hle.trans g3.le
          obtain ⟨q, hq, r⟩ := hself _ _ _ _ _ _ ho1 η2 w2 rd ds' t (.endRangeFunc w.heap.size :: k) cs b2 (hrd.mono hle2) (hds.mono hle2) (ht.mono hle2) ⟨g3.le.ρ _ _ (by simp [Env.bind]), hk.mono hle2⟩
          refine ⟨q, ho2 q hq, Res.down hEn ?_⟩
          exact r.of (.head hs1 hfin) (n1.trans g3) ((Below.grow n2).trans g5 (by show H.next ≤ H.next + 1; omega))
  · cases h

theorem rangeFunc_sound (hC : ProgOK P C O) (hself : SelfOK P O self) {f : Operand} {params : Array Tmp} {assign body : Code} (h : doRangeFunc C self E I todo tmps H f params.toList assign body = some outs) (b : Base P O E η H w) (hf : FOK η I rd ds)
    (ht : TRel η tmps I.n t) (hk : TodoR η todo k) : ∃ p ∈ outs, Res P E η H w I.fn rd cs (lone (fm I.fn rd ds t (.code (.rangeFunc f params assign body) :: k)) cs w) p := by
  unfold doRangeFunc at h
  obtain ⟨hrd, hds⟩ := hf
  split at h
  · rename_i hro
    have hrd0 := hrd
    rw [hro] at hrd0
    cases rd with
    | some r => exact hrd0.elim
    | none =>
      obtain ⟨n1, n2, n3⟩ := b.new (.deferred true) (.deferred (some [])) rfl
      have hle := n1.le
      obtain ⟨p, hp, r⟩ := rangeIn_sound (rd := none) (ds' := { target := .collected w.heap.size, args := #[] } :: ds) (cs := cs) (rdf := w.heap.size) (m := lone (fm I.fn none ds t (.code (.rangeFunc f params assign body) :: k)) cs w) hC hself h n2 (hrd.mono hle) ⟨⟨w.heap.size, by simp [Env.bind], rfl⟩, hds.mono hle⟩ (ht.mono hle) (hk.mono hle) (by simp [Env.bind]) (fun g first captured args he hc => by
          have := st_rangeFunc (P := P) (w := w) (fn := I.fn) (rd := none) (ds := ds) (t := t) (k := k) (cs := cs) (f := f) (params := params) (assign := assign) (body := body) (l := (w.alloc (.deferred (some []))).heap.size) (mark := [{ target := .collected w.heap.size, args := #[] }])
            (w1 := (w.alloc (.deferred (some []))).alloc (.loop { state := .ready, pending := none, fn := I.fn, tmps := t, params, assign, body, defers := w.heap.size })) (by
              simp [Instr.enterLoop]) he hc
          exact this)
      exact ⟨p, hp, r.of (.refl _ _) n1 n3⟩
  · rename_i l hro
    have hrd0 := hrd
    rw [hro] at hrd0
    cases rd with
    | none => exact hrd0.elim
    | some r =>
      have hrd0 : η.ρ l = some r := hrd0
      split at h
      · rename_i i hi
        split at h
        · rename_i s pd hg
          obtain ⟨r', L, h1, h2, h3, h4, h5⟩ := getLoop' b.rel hg
          rw [hrd0] at h1; cases h1
          have hdf := (h5 i hi).2.2.2.2.2
          exact rangeIn_sound (rd := some r) (ds' := ds) (cs := cs) (rdf := L.defers) (m := lone (fm I.fn (some r) ds t (.code (.rangeFunc f params assign body) :: k)) cs w) hC hself h b hrd hds ht hk hdf (fun g first captured args he hc => by
            have := st_rangeFunc (P := P) (w := w) (fn := I.fn) (rd := some r) (ds := ds) (t := t) (k := k) (cs := cs) (f := f) (params := params) (assign := assign) (body := body) (l := w.heap.size) (mark := [])
              (w1 := w.alloc (.loop { state := .ready, pending := none, fn := I.fn, tmps := t, params, assign, body, defers := L.defers })) (by
                simp [Instr.enterLoop, Instr.getLoop, getObj, Sem.run, h2]) he hc
            exact this)
        · cases h
      · cases h

/-! one step -/
theorem stepC_sound (hC : ProgOK P C O) (hmix : P.follows .mixedOrders = true) (hself : SelfOK P O self) {c : Code} (h : stepC C self E I todo tmps H c = some outs) (b : Base P O E η H w) (hf : FOK η I rd ds)
    (ht : TRel η tmps I.n t) (hk : TodoR η todo k) : ∃ p ∈ outs, Res P E η H w I.fn rd cs (lone (fm I.fn rd ds t (.code c :: k)) cs w) p := by
  cases c with
  | skip => exact go_same hself h b hf ht hk st_skip
  | region id ops draw => exact region_sound hC hmix hself h b hf ht hk
  | seq x y => exact go_same hself h b hf ht (k := .code x :: .code y :: k) ⟨rfl, rfl, hk⟩ st_seq
  | cond x y z =>
    have h : doCond self E I todo tmps H y z (ev tmps x) = some outs := h
    unfold doCond at h
    split at h
    · rename_i bb hv
      have hx := conc_bool (evT_sound ht.toX (fun _ _ x => x) hv)
      refine go_same hself h b hf ht (k := .code (if bb then y else z) :: k) ⟨?_, hk⟩ (st_cond hx)
      show (if bb then y else z) = _
      cases bb <;> rfl
    · cases h
  | block id body => exact go_same hself h b hf ht (k := .code body :: .inBlock id :: k) ⟨rfl, rfl, hk⟩ st_block
  | loop body => exact go_same hself h b hf ht (k := .code body :: .inLoop body :: k) ⟨rfl, rfl, hk⟩ st_loop
  | rangeFunc f params assign body => exact rangeFunc_sound hC hself h b hf ht hk
  | exit id =>
    have h : doExit C self E I tmps H (.exit id) (exitTo id todo) = some outs := h
    unfold doExit at h
    split at h
    · rename_i k' hk'
      obtain ⟨k2, h1, h2⟩ := exit_some hk hk'
      exact go_same hself h b hf ht h2 (st_exit h1)
    · rename_i hk'
      exact leave_sound hC.toCtxOK (.exit (exit_none hk hk')) h b hf ht
  | scope body => exact go_same hself h b hf ht (k := .code body :: .inScope body :: k) ⟨rfl, rfl, hk⟩ st_scope
  | label l => exact go_same hself h b hf ht hk st_label
  | goto l =>
    have h : doExit C self E I tmps H (.goto l) (gotoIn l todo) = some outs := h
    unfold doExit at h
    split at h
    · rename_i k' hk'
      obtain ⟨k2, h1, h2⟩ := goto_some hk hk'
      exact go_same hself h b hf ht h2 (st_goto h1)
    · rename_i hk'
      exact leave_sound hC.toCtxOK (.goto (goto_none hk hk')) h b hf ht
  | ret => exact leave_sound hC.toCtxOK .ret h b hf ht
  | refuse why => cases h
theorem doBegin_sound (hself : SelfOK P O self) (h : doBegin self E I todo tmps H = some outs) (b : Base P O E η H w) (hf : FOK η I rd ds) (ht : TRel η tmps I.n t) (hk : TodoR η todo k) :
    ∃ p ∈ outs, Res P E η H w I.fn rd cs (lone (fm I.fn rd ds t (.beginRound :: k)) cs w) p := by
  unfold doBegin at h
  split at h
  · cases h
  · rename_i l hro
    have hrd := hf.rd
    rw [hro] at hrd
    cases rd with
    | none => exact hrd.elim
    | some r =>
      have hrd : η.ρ l = some r := hrd
      split at h
      · rename_i pd hg
        obtain ⟨r', L, h1, h2, h3, h4, h5⟩ := getLoop' b.rel hg
        rw [hrd] at h1; cases h1
        have hrun : (Instr.beginRound r).run P w = .ok () (World.putBlock w r (.loop { L with state := .busy })) := by
          simp [Instr.beginRound, Instr.getLoop, getObj, setObj, Sem.run, h2, World.putBlock, h3]
        have tr := Trans.put b.rel hg hrd (.loop .busy pd) (.loop { L with state := .busy }) ⟨rfl, h4, h5⟩ (w' := _) rfl
        exact go_on hself h (b.step tr (b.above.put hg) (Nat.le_refl _)) hf ht hk (.one (st_begin hrun)) tr (Below.put hg)
      · cases h
theorem doEnd_sound (hself : SelfOK P O self) {l r : Nat} (hl : η.ρ l = some r) (h : doEnd self E I todo tmps H l = some outs) (b : Base P O E η H w) (hf : FOK η I rd ds) (ht : TRel η tmps I.n t) (hk : TodoR η todo k) :
    ∃ p ∈ outs, Res P E η H w I.fn rd cs (lone (fm I.fn rd ds t (.endRangeFunc r :: k)) cs w) p := by
  unfold doEnd at h
  split at h
  · rename_i st pd hg
    obtain ⟨r', L, h1, h2, h3, h4, h5⟩ := getLoop' b.rel hg
    rw [hl] at h1; cases h1
    have key : st ≠ .busy → self E I (behindLoop todo pd) tmps (H.put l (.loop .exhausted pd)) = some outs → ∃ p ∈ outs, Res P E η H w I.fn rd cs (lone (fm I.fn rd ds t (.endRangeFunc r :: k)) cs w) p := by
      intro hne h
      have hrun : (Instr.endLoop r).run P w = .ok (pd.map Jump.code) (World.putBlock w r (.loop { L with state := .exhausted })) := by
        cases st <;> first | exact absurd rfl hne | simp [Instr.endLoop, Instr.getLoop, getObj, setObj, Sem.run, h2, World.putBlock, h3, h4]
      have tr := Trans.put b.rel hg hl (.loop .exhausted pd) (.loop { L with state := .exhausted }) ⟨rfl, h4, h5⟩ (w' := _) rfl
      refine go_on hself h (b.step tr (b.above.put hg) (Nat.le_refl _)) hf ht ?_ (.one (st_endLoop hrun)) tr (Below.put hg)
      cases pd with
      | none => exact hk
      | some j => exact ⟨rfl, hk⟩
    split at h
    · cases h
    · rename_i hne
      exact key hne h
  · cases h
theorem stepI_sound (hC : ProgOK P C O) (hmix : P.follows .mixedOrders = true) (hself : SelfOK P O self) {a : AItem} {x : Item} (hx : ItemR η a x) (h : stepI C self E I todo tmps H a = some outs) (b : Base P O E η H w) (hf : FOK η I rd ds)
    (ht : TRel η tmps I.n t) (hk : TodoR η todo k) : ∃ p ∈ outs, Res P E η H w I.fn rd cs (lone (fm I.fn rd ds t (x :: k)) cs w) p := by
  cases a <;> cases x <;> try exact hx.elim
  case code.code c c' =>
    have : c' = c := hx
    subst this
    exact stepC_sound hC hmix hself h b hf ht hk
  case inBlock.inBlock i j => exact go_same hself h b hf ht hk st_inBlock
  case inLoop.inLoop c c' =>
    have : c' = c := hx
    subst this
    exact go_same hself h b hf ht (k := .code c' :: .inLoop c' :: k) ⟨rfl, rfl, hk⟩ st_inLoop
  case inScope.inScope c c' => exact go_same hself h b hf ht hk st_inScope
  case endRangeFunc.endRangeFunc l r => exact doEnd_sound hself hx h b hf ht hk
  case beginRound.beginRound => exact doBegin_sound hself h b hf ht hk
end

theorem exec_ok (hC : ProgOK P C O) (hmix : P.follows .mixedOrders = true) : ∀ n, SelfOK P O (exec C n)
  | 0 => fun _ _ _ _ _ _ h => by cases h
  | n + 1 => fun E I todo tmps H outs h η w rd ds t k cs b hrd hds ht hk => by
    have hself := exec_ok hC hmix n
    have h : VmK.step C (exec C n) E I todo tmps H = some outs := h
    cases todo with
    | nil =>
      cases k with
      | cons x k => exact hk.elim
      | nil => exact leave_sound hC.toCtxOK .fall h b ⟨hrd, hds⟩ ht
    | cons a todo =>
      cases k with
      | nil => exact hk.elim
      | cons x k => exact stepI_sound hC hmix hself hk.1 h b ⟨hrd, hds⟩ ht hk.2

/-- THE MACHINE'S OWN RUN IS SOUND: a call comes to one of its ends. -/
theorem runCall_sound (hC : ProgOK P C O) (hmix : P.follows .mixedOrders = true) {n : Nat} {f : FuncId} {args : List AV} {xs : List Value} {H : Heap} {outs : List (AV × Heap)} (h : runCall C n f args H = some outs) {η : Env} {w : World} (b : Base P O [] η H w) (hx : concL η args = some xs) :
    Calls P f xs.toArray w fun e w' => ∃ p ∈ outs, ∃ η' x, e = .returned x ∧ conc η' p.1 = some x ∧ Trans P [] η H w η' p.2 w' := by
  intro cs
  obtain ⟨p, hp, η', x, w', ⟨fr, h1, h2, h3⟩, h4, h5, _, _⟩ := callIn_sound hC (exec_ok hC hmix n) h b hx cs
  exact ⟨.returned x, w', fr, ⟨p, hp, η', x, rfl, h4, h5⟩, h1, h2, h3⟩
end Go.VmK
