/-
  A machine that runs the model with abstract blocks, and lemmas on it: whatever it answers of a call is what the model does (ProgOK, Base: the conditions).
-/
import Derived.Test.YthcnhdiipbpdgaaGreatDoorR4l
namespace Go.VmK
variable {P : Program} {C : Ctx} {E : List LoopInfo} {η : Env} {H : Heap} {w : World}

theorem EsRel_get : ∀ {es : List (AV × AV × Nat)} {ces : List MapEntry}, EsRel η es ces → es.length = ces.length ∧ ∀ (i : Nat) (k v : AV) (b : Nat), es[i]? = some (k, v, b) → ∃ e, ces[i]? = some e ∧ conc η k = some e.key ∧ conc η v = some e.val ∧ e.born = b
  | [], [], _ => ⟨rfl, fun i k v b h => by simp at h⟩
  | [], _ :: _, h => h.elim
  | _ :: _, [], h => h.elim
  | (k, v, b) :: es, e :: ces, ⟨h1, h2, h3, h4⟩ => by
    obtain ⟨a1, a2⟩ := EsRel_get h4
    refine ⟨by simp [a1], fun i k' v' b' h => ?_⟩
    cases i with
    | zero => simp at h; obtain ⟨rfl, rfl, rfl⟩ := h; exact ⟨e, by simp, h1, h2, h3⟩
    | succ i => rw [List.getElem?_cons_succ] at h; obtain ⟨e', h'⟩ := a2 i k' v' b' h; exact ⟨e', by rw [List.getElem?_cons_succ]; exact h'⟩
theorem EsRel_append : ∀ {es : List (AV × AV × Nat)} {ces : List MapEntry}, EsRel η es ces → ∀ {k v : AV} {e : MapEntry}, conc η k = some e.key → conc η v = some e.val → EsRel η (es ++ [(k, v, e.born)]) (ces ++ [e])
  | [], [], _, _, _, _, hk, hv => ⟨hk, hv, rfl, trivial⟩
  | [], _ :: _, h, _, _, _, _, _ => h.elim
  | _ :: _, [], h, _, _, _, _, _ => h.elim
  | _ :: _, _ :: _, ⟨h1, h2, h3, h4⟩, _, _, _, hk, hv => ⟨h1, h2, h3, EsRel_append h4 hk hv⟩
theorem EsRel_mod {f : AV × AV × Nat → AV × AV × Nat} {g : MapEntry → MapEntry} (hfg : ∀ k v b e, conc η k = some e.key → conc η v = some e.val → e.born = b → conc η (f (k, v, b)).1 = some (g e).key ∧ conc η (f (k, v, b)).2.1 = some (g e).val ∧ (g e).born = (f (k, v, b)).2.2) :
    ∀ {es : List (AV × AV × Nat)} {ces : List MapEntry} (i : Nat), EsRel η es ces → EsRel η (modL f i es) (ces.modify i g)
  | [], [], i, _ => by cases i <;> trivial
  | [], _ :: _, _, h => h.elim
  | _ :: _, [], _, h => h.elim
  | (k, v, b) :: es, e :: ces, 0, ⟨h1, h2, h3, h4⟩ => by
    obtain ⟨a1, a2, a3⟩ := hfg k v b e h1 h2 h3
    simp only [modL, List.modify_zero_cons]
    exact ⟨a1, a2, a3, h4⟩
  | (k, v, b) :: es, e :: ces, i + 1, ⟨h1, h2, h3, h4⟩ => by
    simp only [modL, List.modify_succ_cons]
    exact ⟨h1, h2, h3, EsRel_mod hfg i h4⟩
theorem EsRel_del : ∀ {es : List (AV × AV × Nat)} {ces : List MapEntry} (i : Nat), EsRel η es ces → EsRel η (delL i es) (ces.eraseIdx i)
  | [], [], i, _ => by cases i <;> trivial
  | [], _ :: _, _, h => h.elim
  | _ :: _, [], _, h => h.elim
  | (k, v, b) :: es, e :: ces, 0, ⟨_, _, _, h4⟩ => by simpa [delL] using h4
  | (k, v, b) :: es, e :: ces, i + 1, ⟨h1, h2, h3, h4⟩ => by
    simp only [delL, List.eraseIdx_cons_succ]
    exact ⟨h1, h2, h3, EsRel_del i h4⟩

theorem setObj_map {w : World} {r : Nat} {ces : Array MapEntry} {c : Nat} (h : w.heap[r]? = some (.map ces c)) (o : Obj) : (setObj r o).run P w = .ok () (World.putBlock w r o) := by
  simp [setObj, Sem.run, h, World.putBlock]
theorem put_same {w : World} {r : Nat} {o : Obj} (h : w.heap[r]? = some o) : World.putBlock w r o = w := by
  unfold World.putBlock
  have : w.heap.setIfInBounds r o = w.heap := by
    apply Array.ext_getElem?
    intro j; rw [Array.getElem?_setIfInBounds]
    by_cases hj : r = j
    · subst hj; rw [if_pos rfl, if_pos (lt_of_get h), h]
    · simp [hj]
  rw [this]
theorem Grow.put {b : Nat} {o o' : AObj} (hg : H.get b = some o) : Grow η η H (H.put b o') :=
  have h : ∀ id, H.get id = none → (H.put b o').get id = none := fun id hn => by
    rw [Heap.get_put, if_neg]
    · exact hn
    · intro e; rw [e, hg] at hn; cases hn
  ⟨Only.refl _ _, fun id _ hn => h id hn, .inl ⟨rfl, rfl, h H.next⟩⟩
theorem same_bits {u : TypeDesc} {x y : Value} (h : Instr.sameNow u x y = some true) : ∀ n, Instr.sameBits n y x = true := by
  unfold Instr.sameNow at h
  split at h
  · split at h
    · rename_i hk; subst hk; intro n; cases n <;> simp_all [Instr.sameBits]
    · cases h
  · simp only [Option.some.injEq] at h
    intro n
    have : ∀ a b : ByteArray, (a == b) = true → (b == a) = true := fun a b h => by
      rw [beq_toListBytes] at h ⊢; simp only [beq_iff_eq] at h ⊢; exact h.symm
    cases n <;> exact this _ _ h
  · intro n; cases n <;> simp_all [Instr.sameBits]
  · cases h

theorem mapUpdate_sound (hC : CtxOK P C) (hr : HRel P η E H w) {t : TypeId} {m k v : AV} {x y z : Value} (hx : conc η m = some x) (hy : conc η k = some y) (hz : conc η v = some z) {H' : Heap} (h : mapUpdate C H t m k v = some H') :
    SimU P E η H w (Instr.mapUpdate t x y z) H' := by
  unfold mapUpdate at h
  split at h
  · rename_i kt et b hu
    split at h
    · rename_i es clock hg
      obtain ⟨r, ces, hb, hh, he⟩ := getMap hr hg
      obtain ⟨r2, hb2, rfl⟩ := conc_map hx
      rw [hb] at hb2; cases hb2
      split at h
      · rename_i i p hf
        cases h
        obtain ⟨a1, a2, a3⟩ := findKey_sound (P := P) hC hy he hf w
        obtain ⟨k0, e, he1, he2, hv, hk0, hsame⟩ := a3 _ _ _ rfl
        simp only [he2, Option.map_some] at a2
        have hkeep : (Instr.keyThatStays e.key y).run P w = .ok y w := by
          simp [Instr.keyThatStays, hsame 9999]
        refine ⟨_, ?_, Trans.put hr hg hb _ (.map (ces.modify i fun e => { e with key := y, val := z }) clock) ?_ rfl, Grow.put hg⟩
        · simp [Instr.mapUpdate, run_und hC hu, getObj, Sem.run, hh, a1, a2, he2, hkeep, setObj_map hh]
        · refine ⟨rfl, ?_⟩
          rw [Array.toList_modify]
          exact EsRel_mod (f := fun p => (k, v, p.2.2)) (g := fun e => { e with key := y, val := z }) (fun k1 v1 b1 e1 _ _ h3 => ⟨hy, hz, h3⟩) i he
      · rename_i hf
        cases h
        obtain ⟨a1, a2, _⟩ := findKey_sound (P := P) hC hy he hf w
        refine ⟨_, ?_, Trans.put hr hg hb _ (.map (ces.push { key := y, val := z, born := clock }) (clock + 1)) ?_ rfl, Grow.put hg⟩
        · simp [Instr.mapUpdate, run_und hC hu, getObj, Sem.run, hh, a1, a2, setObj_map hh]
        · refine ⟨rfl, ?_⟩
          rw [Array.toList_push]
          exact EsRel_append (e := { key := y, val := z, born := clock }) he hy hz
      · cases h
    · cases h
  · cases h

theorem mapEntry_sound (hC : CtxOK P C) (hr : HRel P η E H w) {t : TypeId} {m k : AV} {x y : Value} (hx : conc η m = some x) (hy : conc η k = some y) {v : AV} {H' : Heap} (h : mapEntry C H t m k = some (v, H')) :
    SimS P E η H w (Instr.mapEntry t x y) v H' := by
  unfold mapEntry at h
  split at h
  · rename_i kt et b hu
    split at h
    · rename_i es clock hg
      obtain ⟨r, ces, hb, hh, he⟩ := getMap hr hg
      obtain ⟨r2, hb2, rfl⟩ := conc_map hx
      rw [hb] at hb2; cases hb2
      split at h
      · rename_i i v0 born hf
        cases h
        obtain ⟨a1, a2, a3⟩ := findKey_sound (P := P) hC hy he hf w
        obtain ⟨k0, e, he1, he2, hv, hk0, hsame⟩ := a3 _ _ _ rfl
        have hborn : e.born = born := by
          obtain ⟨_, hg2⟩ := EsRel_get he
          obtain ⟨e', he', _, _, h3⟩ := hg2 i k0 v0 born he1
          rw [Array.getElem?_toList, he2] at he'; cases he'; exact h3
        simp only [he2, Option.map_some] at a2
        have hkeep : (Instr.keyThatStays e.key y).run P w = .ok y w := by
          simp [Instr.keyThatStays, hsame 9999]
        refine ⟨η, .tuple #[e.val, .int .i64 (Int.ofNat born)], _, ?_, by simp [conc, concL, hv], Trans.put hr hg hb _ (.map (ces.modify i fun e => { e with key := y }) clock) ?_ rfl, Grow.put hg⟩
        · simp [Instr.mapEntry, run_und hC hu, getObj, Sem.run, hh, a1, a2, he2, hkeep, setObj_map hh, goInt, hborn]
        · refine ⟨rfl, ?_⟩
          rw [Array.toList_modify]
          exact EsRel_mod (f := fun p => (k, p.2.1, p.2.2)) (g := fun e => { e with key := y }) (fun k1 v1 b1 e1 h1 h2 h3 => ⟨hy, h2, h3⟩) i he
      · rename_i hf
        split at h
        · rename_i z hz
          cases h
          obtain ⟨a1, a2, _⟩ := findKey_sound (P := P) hC hy he hf w
          obtain ⟨zv, hzv, hzc⟩ := (ti_ok hC (i := _) hz).zeroValue rfl w
          refine ⟨η, .tuple #[zv, .int .i64 (Int.ofNat clock)], _, ?_, by simp [conc, concL, hzc η], Trans.put hr hg hb _ (.map (ces.push { key := y, val := zv, born := clock }) (clock + 1)) ?_ rfl, Grow.put hg⟩
          · simp [Instr.mapEntry, run_und hC hu, getObj, Sem.run, hh, a1, a2, hzv, setObj_map hh, goInt]
          · refine ⟨rfl, ?_⟩
            rw [Array.toList_push]
            exact EsRel_append (e := { key := y, val := zv, born := clock }) he hy (hzc η)
        · cases h
      · cases h
    · cases h
  · cases h
theorem bornAt_sound {n : Int} : ∀ {es : List (AV × AV × Nat)} {ces : List MapEntry} {i j : Nat}, EsRel η es ces → bornAt n es i = some j → i ≤ j ∧ ces.findIdx? (fun e => (e.born : Int) == n) = some (j - i)
  | [], [], _, _, _, h => by cases h
  | [], _ :: _, _, _, hr, _ => hr.elim
  | _ :: _, [], _, _, hr, _ => hr.elim
  | (k, v, b) :: es, e :: ces, i, j, ⟨h1, h2, h3, h4⟩, h => by
    unfold bornAt at h
    have hb : eqI (Int.ofNat b) n = ((e.born : Int) == n) := by rw [eqI_eq, h3]; rfl
    cases hq : eqI (Int.ofNat b) n with
    | true =>
      rw [hq] at h; simp only [cond_true, Option.some.injEq] at h; subst h
      rw [hq] at hb
      exact ⟨Nat.le_refl _, by simp [List.findIdx?_cons, ← hb]⟩
    | false =>
      rw [hq] at h; simp only [cond_false] at h
      rw [hq] at hb
      obtain ⟨g1, g2⟩ := bornAt_sound h4 h
      refine ⟨by omega, ?_⟩
      rw [List.findIdx?_cons, ← hb]
      simp only [Bool.false_eq_true, if_false, g2, Option.map_some, Option.some.injEq]
      omega
theorem entryStore_sound (hr : HRel P η E H w) {t : TypeId} {m s v : AV} {x y z : Value} (hx : conc η m = some x) (hy : conc η s = some y) (hz : conc η v = some z) {H' : Heap} (h : entryStore H m s v = some H') :
    SimU P E η H w (Instr.entryStore t x y z) H' := by
  unfold entryStore at h
  split at h
  · rename_i b k n
    split at h
    · rename_i es clock hg
      obtain ⟨r, ces, hb, hh, he⟩ := getMap hr hg
      obtain ⟨r2, hb2, rfl⟩ := conc_map hx
      rw [hb] at hb2; cases hb2
      rw [conc_int hy]
      split at h
      · rename_i i hf
        cases h
        obtain ⟨_, hi⟩ := bornAt_sound he hf
        have hi' : ces.findIdx? (fun e => (e.born : Int) == n) = some i := by
          have hce : ces = ces.toList.toArray := by simp
          rw [hce, List.findIdx?_toArray]; simpa using hi
        refine ⟨_, ?_, Trans.put hr hg hb _ (.map (ces.modify i fun e => { e with val := z }) clock) ?_ rfl, Grow.put hg⟩
        · simp [Instr.entryStore, getObj, Sem.run, hh, asInt, asIntOf, hi', setObj_map hh]
        · refine ⟨rfl, ?_⟩
          rw [Array.toList_modify]
          exact EsRel_mod (f := fun p => (p.1, v, p.2.2)) (g := fun e => { e with val := z }) (fun k1 v1 b1 e1 h1 h2 h3 => ⟨h1, hz, h3⟩) i he
      · cases h
    · cases h
  · cases h

theorem mapDelete_sound (hC : CtxOK P C) (hr : HRel P η E H w) {ats : List TypeId} {t : TypeId} {r : List TypeId} (hat : ats = t :: r) {type : TypeId} {m k : AV} {x y : Value} (hx : conc η m = some x) (hy : conc η k = some y) {H' : Heap} (h : mapDelete C H t m k = some H') :
    SimS P E η H w (Builtin.delete_ ats.toArray type #[x, y]) (.tuple []) H' := by
  subst hat
  unfold mapDelete at h
  split at h
  · rename_i kt et hu
    split at h
    · rename_i u hk
      cases h
      obtain ⟨h1, h2⟩ := keyKind_ok hC hk
      rw [conc_nilm hx]
      exact SimS.pure hr rfl (by simp [Builtin.delete_, run_und hC hu, plain_key h2 h1])
    · cases h
  · rename_i kt et b hu
    split at h
    · rename_i es clock hg
      obtain ⟨r, ces, hb, hh, he⟩ := getMap hr hg
      obtain ⟨r2, hb2, rfl⟩ := conc_map hx
      rw [hb] at hb2; cases hb2
      split at h
      · rename_i i p hf
        cases h
        obtain ⟨a1, a2, a3⟩ := findKey_sound (P := P) hC hy he hf w
        obtain ⟨k0, e, he1, he2, hv, _⟩ := a3 _ _ _ rfl
        simp only [he2, Option.map_some] at a2
        refine ⟨η, _, _, ?_, rfl, Trans.put hr hg hb _ (.map (ces.eraseIdxIfInBounds i) clock) ?_ rfl, Grow.put hg⟩
        · simp [Builtin.delete_, run_und hC hu, getObj, Sem.run, hh, a1, a2, setObj_map hh]
        · refine ⟨rfl, ?_⟩
          have hil : i < ces.size := (Array.getElem?_eq_some_iff.1 he2).1
          have : (ces.eraseIdxIfInBounds i).toList = ces.toList.eraseIdx i := by
            simp [Array.eraseIdxIfInBounds, hil]
          rw [this]
          exact EsRel_del i he
      · rename_i hf
        cases h
        obtain ⟨a1, a2, _⟩ := findKey_sound (P := P) hC hy he hf w
        refine SimS.pure hr rfl ?_
        simp [Builtin.delete_, run_und hC hu, getObj, Sem.run, hh, a1, a2, setObj_map hh, put_same hh]
      · cases h
    · cases h
  · cases h

/-! ranges over a map -/
theorem rangeOp_sound (hC : CtxOK P C) (hr : HRel P η E H w) (hf : Fresh η H H.next) {t : TypeId} {a : AV} {x : Value} (hx : conc η a = some x) {v : AV} {H' : Heap} (h : rangeOp C H t a = some (v, H')) : SimS P E η H w (Instr.range t x) v H' := by
  unfold rangeOp at h
  split at h
  · rename_i k e hu
    cases h; rw [conc_nilm hx]
    obtain ⟨h1, h2⟩ := newObj_sound (P := P) hr hf (.mapIter none 0 [] 0) (.mapIter none 0 #[] 0) ⟨rfl, rfl, rfl, rfl⟩
    exact ⟨_, .pointer (some ⟨w.heap.size, 0, none⟩), w.alloc (.mapIter none 0 #[] 0), by simp [Instr.range, run_und hC hu], ptr_new _ _ _, by simpa using h1, h2⟩
  · rename_i k e b hu
    split at h
    · rename_i es clock hg
      cases h
      obtain ⟨r, ces, hb, hh, he⟩ := getMap hr hg
      obtain ⟨r2, hb2, rfl⟩ := conc_map hx
      rw [hb] at hb2; cases hb2
      obtain ⟨h1, h2⟩ := newObj_sound (P := P) (E := E) hr hf (.mapIter (some b) clock [] clock) (.mapIter (some r) clock #[] clock) ⟨⟨r, (Env.le_bind hf.ρ).ρ _ _ hb, rfl⟩, rfl, rfl, rfl⟩
      exact ⟨_, .pointer (some ⟨w.heap.size, 0, none⟩), w.alloc (.mapIter (some r) clock #[] clock), by simp [Instr.range, run_und hC hu, getObj, Sem.run, hh], ptr_new _ _ _, by simpa using h1, h2⟩
    · cases h
  · cases h

def IterOf (η : Env) : Option Nat → Option Nat → Prop
  | none, m' => m' = none
  | some i, m' => ∃ r, η.ρ i = some r ∧ m' = some r
theorem getIter (hr : HRel P η E H w) {b : Nat} {m : Option Nat} {s st : Nat} {seen : List Nat} (hg : H.get b = some (.mapIter m s seen st)) :
    ∃ r m' seen', η.ρ b = some r ∧ w.heap[r]? = some (.mapIter m' s seen' st) ∧ seen'.toList = seen ∧ IterOf η m m' := by
  obtain ⟨r, ob, hb, hob, hrel⟩ := hr.obj b _ hg
  cases ob with
  | mapIter m' s' seen' st' => obtain ⟨h1, h2, h3, h4⟩ := hrel; subst h2; subst h4; exact ⟨r, m', seen', hb, hob, h3, by cases m <;> exact h1⟩
  | _ => exact hrel.elim

theorem lastL_back : ∀ (l : List Nat) (s : Nat), lastL l = some s → l.getLast? = some s
  | [], s, h => by simp [lastL] at h
  | [x], s, h => by simp [lastL] at h; simp [h]
  | x :: y :: r, s, h => by simp only [lastL] at h; rw [List.getLast?_cons_cons]; exact lastL_back (y :: r) s h
theorem findBorn_sound (s : Nat) : ∀ {es : List (AV × AV × Nat)} {ces : List MapEntry} {k v : AV}, EsRel η es ces → findBorn s es = some (k, v) → ∃ e, ces.find? (fun e => e.born == s) = some e ∧ conc η k = some e.key ∧ conc η v = some e.val
  | [], [], _, _, _, h => by simp [findBorn] at h
  | [], _ :: _, _, _, h, _ => h.elim
  | _ :: _, [], _, _, h, _ => h.elim
  | (k', v', b') :: es, e :: ces, k, v, ⟨h1, h2, h3, h4⟩, h => by
    simp only [findBorn] at h
    cases hq : Nat.beq b' s with
    | true =>
      rw [hq] at h; simp only [cond_true, Option.some.injEq, Prod.mk.injEq] at h
      obtain ⟨rfl, rfl⟩ := h
      have := beq_eq hq
      exact ⟨e, by simp [h3, this], h1, h2⟩
    | false =>
      rw [hq] at h; simp only [cond_false] at h
      obtain ⟨e', he', hc⟩ := findBorn_sound s h4 h
      have : (e.born == s) = false := by rw [h3]; simp; intro e; rw [e] at hq; simp at hq
      exact ⟨e', by rw [List.find?_cons_of_neg (by simp [this])]; exact he', hc⟩
theorem entryOp_sound (hr : HRel P η E H w) {a : AV} {x : Value} (hx : conc η a = some x) {v : AV} (h : entryOp H a = some v) : ∃ u, conc η v = some u ∧ (Instr.entry x).run P w = .ok u w := by
  unfold entryOp at h
  split at h
  · rename_i b
    split at h
    · rename_i m since seen stepped hg
      split at h
      · rename_i s es clock hl hgm
        cases hq : Nat.beq clock stepped with
        | false => rw [hq] at h; cases h
        | true =>
          rw [hq] at h; simp only [cond_true] at h
          have hcs := beq_eq hq
          cases hfb : findBorn s es with
          | none => rw [hfb] at h; cases h
          | some kv =>
            obtain ⟨k, vv⟩ := kv
            rw [hfb] at h; simp only [Option.map_some, Option.some.injEq] at h; subst h
            obtain ⟨r, m', seen', hb, hh, hse, hm⟩ := getIter hr hg
            obtain ⟨rm, hrm, rfl⟩ := hm
            obtain ⟨rm2, ces, hbm, hhm, he⟩ := getMap hr hgm
            rw [hrm] at hbm; cases hbm
            obtain ⟨r2, hb2, rfl⟩ := conc_ptr hx
            rw [hb] at hb2; cases hb2
            obtain ⟨e, hfe, hk, hv⟩ := findBorn_sound s he hfb
            have hback : seen'.back? = some s := by
              rw [← Array.getLast?_toList, hse]; exact lastL_back _ _ hl
            have hfe2 : ces.find? (fun e => e.born == s) = some e := by rw [← Array.find?_toList]; exact hfe
            refine ⟨.tuple #[e.key, e.val], by simp [conc, concL, hk, hv], ?_⟩
            simp [Instr.entry, getObj, Sem.run, hh, hback, hhm, hcs, hfe2]
      · cases h
    · cases h
  · cases h
end Go.VmK
