/-
  A machine that runs the model with abstract blocks, and lemmas on it: whatever it answers of a call is what the model does (ProgOK, Base: the conditions).
-/
import Derived.Test.YthcnhdiipbpdgaaGreatDoorR4n
namespace Go.VmK
variable {P : Program} {C : Ctx} {E : List LoopInfo} {η : Env} {H : Heap} {w : World}

/-- what an operation's operands are -/
def EvOK (η : Env) (tmps : Tr AV) (xs : List Operand) (ρ : Operand → Value) : Prop := ∀ x ∈ xs, ∀ v, ev tmps x = some v → conc η v = some (ρ x)

theorem mapO_evo {tmps : Tr AV} {ρ : Operand → Value} : ∀ {l : List Operand} {r : List AV}, EvOK η tmps l ρ → mapO (ev tmps) l = some r → concL η r = some (l.map ρ)
  | [], r, _, h => by simp [mapO] at h; subst h; rfl
  | x :: xs, r, hev, h => by
    simp only [mapO] at h
    split at h
    · cases h
    · rename_i y hy
      split at h
      · cases h
      · rename_i ys hys
        cases h
        have h1 := hev x (by simp) y hy
        have h2 := mapO_evo (fun z hz => hev z (by simp [hz])) hys
        simp [concL, h1, h2]
theorem evParts_sound {tmps : Tr AV} {ρ : Operand → Value} : ∀ {l : List (Nat × Operand)} {r : List (Nat × AV)}, EvOK η tmps (l.map (·.2)) ρ → evParts tmps l = some r → PartsRel η r (l.map fun p => (p.1, ρ p.2))
  | [], r, _, h => by simp [evParts] at h; subst h; exact .nil
  | (i, x) :: xs, r, hev, h => by
    simp only [evParts] at h
    split at h
    · cases h
    · rename_i y hy
      split at h
      · cases h
      · rename_i ys hys
        cases h
        exact .cons (hev x (by simp) y hy) (evParts_sound (fun z hz => hev z (by simp at hz ⊢; exact .inr hz)) hys)
theorem evO_sound {tmps : Tr AV} {ρ : Operand → Value} {x : Option Operand} {r : Option AV} (hev : EvOK η tmps x.toList ρ) (h : evO tmps x = some r) : OptC η r (x.map ρ) := by
  cases x with
  | none => simp [evO] at h; subst h; trivial
  | some x =>
    simp only [evO] at h
    split at h
    · rename_i v hv
      cases h
      exact hev x (by simp) v hv
    · cases h

def OutOK (P : Program) (C : Ctx) (E : List LoopInfo) (η : Env) (H : Heap) (w : World) (s : Result Next) : Out → Prop
  | .val v H' => ∃ η' x w', s = .ok (.value x) w' ∧ conc η' v = some x ∧ Trans P E η H w η' H' w' ∧ Grow η η' H H'
  | .skip H' => ∃ η' w', s = .ok .skip w' ∧ Trans P E η H w η' H' w' ∧ Grow η η' H H'
  | .enter f args => C.exts.get f = none ∧ ∃ xs, concL η args = some xs ∧ s = .ok (.enter f xs.toArray) w
  | .round l args => ∃ xs r, concL η args = some xs ∧ η.ρ l = some r ∧ s = (Instr.yield r xs.toArray).run P w
  | .ways l => ∃ p ∈ l, ∃ η' x w', s = .ok (.value x) w' ∧ conc η' p.1 = some x ∧ Trans P E η H w η' p.2 w' ∧ Grow η η' H p.2

theorem valO_some {o : Option AV} {out : Out} (h : valO H o = some out) : ∃ v, o = some v ∧ out = .val v H := by
  cases o with
  | none => cases h
  | some v => simp only [valO, Option.some.injEq] at h; exact ⟨v, rfl, h.symm⟩
theorem pairO_some {o : Option (AV × Heap)} {out : Out} (h : pairO o = some out) : ∃ v H', o = some (v, H') ∧ out = .val v H' := by
  cases o with
  | none => cases h
  | some p => obtain ⟨v, H'⟩ := p; simp only [pairO, Option.some.injEq] at h; exact ⟨v, H', rfl, h.symm⟩
theorem skipO_some {o : Option Heap} {out : Out} (h : skipO o = some out) : ∃ H', o = some H' ∧ out = .skip H' := by
  cases o with
  | none => cases h
  | some v => simp only [skipO, Option.some.injEq] at h; exact ⟨v, rfl, h.symm⟩
theorem with1_some {f : AV → Option Out} {o : Option AV} {out : Out} (h : with1 f o = some out) : ∃ a, o = some a ∧ f a = some out := by
  cases o with
  | none => cases h
  | some v => exact ⟨v, rfl, h⟩
theorem with2_some {f : AV → AV → Option Out} {o p : Option AV} {out : Out} (h : with2 f o p = some out) : ∃ a b, o = some a ∧ p = some b ∧ f a b = some out := by
  cases o with
  | none => cases h
  | some v => cases p with
    | none => cases h
    | some u => exact ⟨v, u, rfl, rfl, h⟩

theorem OutOK.same (hr : HRel P η E H w) {s : Result Next} {v : AV} {x : Value} (hx : conc η v = some x) (hs : s = .ok (.value x) w) : OutOK P C E η H w s (.val v H) :=
  ⟨η, x, w, hs, hx, Trans.refl hr, Grow.same _ _⟩
theorem OutOK.sim {s : Sem Value} {v : AV} {H' : Heap} (h : SimS P E η H w s v H') : OutOK P C E η H w ((do pure (.value (← s)) : Sem Next).run P w) (.val v H') := by
  obtain ⟨η', x, w', h1, h2, h3, h4⟩ := h
  exact ⟨η', x, w', by simp [h1], h2, h3, h4⟩
theorem OutOK.simU {s : Sem Unit} {H' : Heap} (h : SimU P E η H w s H') : OutOK P C E η H w ((do s; pure .skip : Sem Next).run P w) (.skip H') := by
  obtain ⟨w', h1, h2, h3⟩ := h
  exact ⟨η, w', by simp [h1], h2, h3⟩
theorem OutOK.keep (hr : HRel P η E H w) {s : Sem Value} {v : AV} {H' : Heap} (h : H' = H ∧ ∃ u, conc η v = some u ∧ s.run P w = .ok u w) : OutOK P C E η H w ((do pure (.value (← s)) : Sem Next).run P w) (.val v H') := by
  obtain ⟨rfl, u, h1, h2⟩ := h
  exact OutOK.same hr h1 (by simp [h2])

theorem doLoad_val {t : TypeId} {a : AV} {out : Out} (h : doLoad C H t a = some out) : ∃ v, out = .val v H := by
  unfold doLoad at h
  split at h
  · obtain ⟨v, _, rfl⟩ := valO_some h; exact ⟨v, rfl⟩
  · cases h

/-! calls -/
theorem run_enter (hC : CtxOK P C) {f : Nat} {i : FI} {c : Code} (hi : C.funcs.get f = some i) (hb : i.body = some c) (args : Array Value) (w : World) : (callFunc f args).run P w = .ok (.enter f args) w := by
  obtain ⟨fn, hf, hb', _, _⟩ := hC.funcs f i hi
  have hs : fn.body.isSome = true := by rw [hb', hb]; rfl
  have hn := hC.named f fn hf hs
  have hs' : fn.body.isNone = false := by rw [hb', hb]; rfl
  simp only [callFunc, Sem.run_bind, Go.program, Sem.run, Result.andThen_ok, hf, hn, hs', Bool.false_eq_true, if_false]
  rfl
theorem callFn_sound (hC : CtxOK P C) (hr : HRel P η E H w) (hf : Fresh η H H.next) {f : FuncId} {args : List AV} {xs : List Value} (hx : concL η args = some xs) {out : Out} (h : callFn C H f args = some out) :
    OutOK P C E η H w ((callFunc f xs.toArray).run P w) out := by
  unfold callFn at h
  split at h
  · rename_i e he
    have hE := hC.exts f e he
    unfold extOp at h
    split at h
    · rename_i a
      cases h
      simp only [concL] at hx
      split at hx
      · rename_i y ys hy hys
        cases hx; cases hys
        exact OutOK.same hr hy (hE y w)
      · cases hx
    · rename_i t b
      split at h
      · rename_i es clock hg
        cases h
        simp only [concL] at hx
        split at hx
        · rename_i y ys hy hys
          cases hx; cases hys
          obtain ⟨z, hz, rfl⟩ := conc_iface hy
          obtain ⟨r, hb, rfl⟩ := conc_map hz
          obtain ⟨r', ces, hb', hh, he⟩ := getMap hr hg
          rw [hb] at hb'; cases hb'
          obtain ⟨h1, h2⟩ := newObj_sound (P := P) hr hf (.map es clock) (.map ces clock) ⟨rfl, EsRel_mono (Env.le_bind hf.ρ) _ _ he⟩
          exact ⟨_, _, _, hE t r ces clock w hh, by simp [conc, Env.bind], h1, h2⟩
        · cases hx
      · cases h
    · rename_i s c
      cases h
      simp only [concL] at hx
      split at hx
      · rename_i y ys hy hys
        split at hys
        · rename_i z zs hz hzs
          cases hys; cases hx; cases hzs
          rw [conc_str hy, conc_int hz]
          exact OutOK.same hr rfl (hE _ _ w)
        · cases hys
      · cases hx
    · rename_i s c
      cases h
      simp only [concL] at hx
      split at hx
      · rename_i y ys hy hys
        split at hys
        · rename_i z zs hz hzs
          cases hys; cases hx; cases hzs
          rw [conc_str hy, conc_int hz]
          exact OutOK.same hr rfl (hE _ _ w)
        · cases hys
      · cases hx
    · rename_i x y
      cases h
      simp only [concL] at hx
      split at hx
      · rename_i y ys hy hys
        split at hys
        · rename_i z zs hz hzs
          cases hys; cases hx; cases hzs
          rw [conc_str hy, conc_str hz]
          exact OutOK.same hr rfl (hE _ _ w)
        · cases hys
      · cases hx
    · cases h
  · rename_i he
    split at h
    · rename_i i hi
      unfold callBody at h
      split at h
      · cases h
      · rename_i c hb
        cases h
        exact ⟨he, xs, hx, run_enter hC hi hb _ w⟩
    · cases h
theorem callVal_sound (hC : CtxOK P C) (hr : HRel P η E H w) (hf : Fresh η H H.next) {v : AV} {y : Value} (hy : conc η v = some y) {args : List AV} {xs : List Value} (hx : concL η args = some xs) {out : Out} (h : callVal C H args v = some out) :
    OutOK P C E η H w ((do let d ← Deferred.ofValue y xs.toArray; invoke d.target d.args : Sem Next).run P w) out := by
  unfold callVal at h
  split at h
  · rename_i g first captured
    obtain ⟨as, bs, h1, h2, rfl⟩ := conc_func hy
    have := callFn_sound (P := P) (E := E) hC hr hf (concL_append (concL_append h1 hx) h2) h
    simp only [Deferred.ofValue, Sem.run_bind, Sem.run_pure, Result.andThen_ok, invoke]
    have e : as.toArray ++ xs.toArray ++ bs.toArray = (as ++ xs ++ bs).toArray := by simp
    rw [e]; exact this
  · rename_i l
    cases h
    obtain ⟨r, hl, rfl⟩ := conc_yield hy
    refine ⟨xs, r, hx, hl, ?_⟩
    simp only [Deferred.ofValue, Sem.run_bind, Sem.run_pure, Result.andThen_ok, invoke]
    simp
  · cases h

theorem builtin_sound (hC : CtxOK P C) (hr : HRel P η E H w) (hf : Fresh η H H.next) {b : Builtin} {ats : Array TypeId} {type : TypeId} {cs : Array Bool} {args : List AV} {xs : List Value} (hx : concL η args = some xs) {out : Out}
    (h : builtinOp C H b ats.toList args = some out) : OutOK P C E η H w ((Go.builtin b ats type cs xs.toArray).run P w) out := by
  obtain ⟨al, hal⟩ : ∃ al, al = ats.toList := ⟨_, rfl⟩
  rw [← hal] at h
  have hats : ats = al.toArray := by rw [hal]
  unfold builtinOp at h
  split at h
  · rename_i sT r s x
    obtain ⟨v, H', hq, rfl⟩ := pairO_some h
    simp only [concL] at hx
    split at hx
    · rename_i y ys hy hys
      cases hx
      split at hys
      · rename_i z zs hz hzs
        cases hys; cases hzs
        rw [hats]
        exact OutOK.sim (append_sound hC hr hf rfl hy hz hq)
      · cases hys
    · cases hx
  · rename_i t r x
    simp only [concL] at hx
    split at hx
    · rename_i y ys hy hys
      cases hx; cases hys
      cases hq : lenOp C H t x with
      | none => rw [hq] at h; cases h
      | some v =>
        rw [hq] at h; cases h
        rw [hats]
        exact OutOK.keep hr ⟨rfl, lenOp_sound hC hr rfl hy hq⟩
    · cases hx
  · rename_i t r d s
    obtain ⟨v, H', hq, rfl⟩ := pairO_some h
    simp only [concL] at hx
    split at hx
    · rename_i y ys hy hys
      cases hx
      split at hys
      · rename_i z zs hz hzs
        cases hys; cases hzs
        rw [hats]
        exact OutOK.sim (copyOp_sound hC hr rfl hy hz hq)
      · cases hys
    · cases hx
  · rename_i t r m k
    cases hq : mapDelete C H t m k with
    | none => rw [hq] at h; cases h
    | some H' =>
      rw [hq] at h; cases h
      simp only [concL] at hx
      split at hx
      · rename_i y ys hy hys
        cases hx
        split at hys
        · rename_i z zs hz hzs
          cases hys; cases hzs
          rw [hats]
          exact OutOK.sim (mapDelete_sound hC hr rfl hy hz hq)
        · cases hys
      · cases hx
  · rename_i x r
    cases hq : foldO min2 x r with
    | none => rw [hq] at h; cases h
    | some v =>
      rw [hq] at h; cases h
      simp only [concL] at hx
      split at hx
      · rename_i y ys hy hys
        cases hx
        obtain ⟨u, hu, hrun⟩ := foldO_sound (P := P) (w := w) (fun h1 h2 h3 => min2_sound h1 h2 h3) hy hys hq
        exact OutOK.keep hr ⟨rfl, u, hu, by simpa [Builtin.min_] using hrun⟩
      · cases hx
  · rename_i x r
    cases hq : foldO max2 x r with
    | none => rw [hq] at h; cases h
    | some v =>
      rw [hq] at h; cases h
      simp only [concL] at hx
      split at hx
      · rename_i y ys hy hys
        cases hx
        obtain ⟨u, hu, hrun⟩ := foldO_sound (P := P) (w := w) (fun h1 h2 h3 => max2_sound h1 h2 h3) hy hys hq
        exact OutOK.keep hr ⟨rfl, u, hu, by simpa [Builtin.max_] using hrun⟩
      · cases hx
  · rename_i t it p n
    obtain ⟨v, H', hq, rfl⟩ := pairO_some h
    simp only [concL] at hx
    split at hx
    · rename_i y ys hy hys
      cases hx
      split at hys
      · rename_i z zs hz hzs
        cases hys; cases hzs
        rw [hats]
        exact OutOK.sim (unsafeStr_sound hC hr hy hz hq)
      · cases hys
    · cases hx
  · rename_i x
    cases hq : unsafeSliceData x with
    | none => rw [hq] at h; cases h
    | some v =>
      rw [hq] at h; cases h
      simp only [concL] at hx
      split at hx
      · rename_i y ys hy hys
        cases hx; cases hys
        exact OutOK.keep hr ⟨rfl, sliceData_sound hy hq⟩
      · cases hx
  · cases h

theorem invokeOp_some {name : String} {args : List AV} {o : Option AV} {out : Out} (h : invokeOp C H name args o = some out) : ∃ t v l nm f r x, o = some (.iface t v) ∧ C.meths.get t = some l ∧ l.find? (fun m => m.1 == name) = some (nm, some (f, r)) ∧ recvOf C H r v = some x ∧ callFn C H f (x :: args) = some out := by
  unfold invokeOp at h
  split at h
  · rename_i t v
    split at h
    · rename_i l hl
      unfold invokeFn at h
      split at h
      · rename_i nm f r hfind
        split at h
        · rename_i x hx
          exact ⟨t, v, l, nm, f, r, x, rfl, hl, hfind, hx, h⟩
        · cases h
      · cases h
    · cases h
  · cases h
theorem recvOf_sound (hC : CtxOK P C) (hr : HRel P η E H w) {t : TypeId} {name : String} {f : FuncId} {r : Recv} (hM : MethOK P t name f r) {v x : AV} {y : Value} (hy : conc η v = some y) (h : recvOf C H r v = some x) :
    ∃ z, conc η x = some z ∧ (method (P.types.size + Made.depth) t y name).run P w = .ok (f, z) w := by
  unfold recvOf at h
  split at h
  · cases h
    exact ⟨y, hy, hM y w⟩
  · split at h
    · rename_i e b off
      obtain ⟨q, hb, rfl⟩ := conc_ptr hy
      obtain ⟨z, hrun, hz⟩ := loadVar_sound (P := P) hC hr hb h
      exact ⟨z, hz, hM _ _ _ hrun⟩
    · cases h
theorem callOp_sound (hC : CtxOK P C) (hr : HRel P η E H w) (hf : Fresh η H H.next) {tmps : Tr AV} {ρ : Operand → Value} {c : Call} (hev : EvOK η tmps c.operands.toList ρ) {type : TypeId} {out : Out} (h : callOp C H tmps c = some out) :
    OutOK P C E η H w ((do let d ← resolve ρ c type; invoke d.target d.args : Sem Next).run P w) out := by
  unfold callOp at h
  split at h
  · cases h
  · rename_i args ha
    have hx : concL η args = some (c.args.toList.map ρ) := mapO_evo (fun x hx => hev x (by simp [Call.operands]; right; simpa using hx)) ha
    have hargs : c.args.map ρ = (c.args.toList.map ρ).toArray := by apply Array.ext'; simp
    unfold callArgs at h
    split at h
    · rename_i b hb
      have := builtin_sound (P := P) (E := E) (type := type) (cs := c.args.map fun | .const _ => true | _ => false) hC hr hf hx h
      simp only [resolve, hb, Sem.run_bind, Sem.run_pure, Result.andThen_ok, invoke, hargs]
      exact this
    · rename_i f hf'
      unfold callO at h
      split at h
      · cases h
      · rename_i v hv
        have hy := hev f (by simp [Call.operands, hf']) v hv
        have := callVal_sound (P := P) (E := E) hC hr hf hy hx h
        simp only [resolve, hf', hargs]
        exact this
    · rename_i r m hcal
      obtain ⟨t, v, l, nm, f, rc, x, hv, hl, hfind, hrecv, h⟩ := invokeOp_some h
      have hy := hev r (by simp [Call.operands, hcal]) _ hv
      obtain ⟨y, hvy, hρ⟩ := conc_iface hy
      have hM := hC.meths t l hl m nm f rc hfind
      obtain ⟨z, hz, hmeth⟩ := recvOf_sound hC hr hM hvy hrecv
      have := callFn_sound (P := P) (E := E) hC hr hf (args := x :: args) (xs := z :: c.args.toList.map ρ) (by simp [concL, hz, hx]) h
      have e1 : (#[Value.iface t y] ++ (c.args.toList.map ρ).toArray).extract 1 (#[Value.iface t y] ++ (c.args.toList.map ρ).toArray).size = (c.args.toList.map ρ).toArray := by
        apply Array.ext'; simp [List.take_of_length_le]
      have e2 : (#[Value.iface t y] ++ (c.args.toList.map ρ).toArray)[0]? = some (Value.iface t y) := by simp
      have e3 : #[z] ++ (c.args.toList.map ρ).toArray = (z :: c.args.toList.map ρ).toArray := by simp
      have hp : Sem.run P program w = .ok P w := rfl
      simp only [resolve, hcal, Sem.run_bind, Sem.run_pure, Result.andThen_ok, invoke, hargs, hρ, e1, e2, callMethod, hp, hmeth, e3]
      exact this
end Go.VmK
