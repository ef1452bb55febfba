/-
  A machine that runs the model with abstract blocks, and lemmas on it: whatever it answers of a call is what the model does (ProgOK, Base: the conditions).
-/
import Derived.Test.YthcnhdiipbpdgaaGreatDoorR5g
namespace Go.VmK
variable {P : Program} {C : Ctx} {O : Env → Heap → World → Prop} {E : List LoopInfo} {η : Env} {H : Heap} {w : World}

/-- what an operation of such a region may touch -/
structure Eff (id : Nat) (η η' : Env) (K H' : Heap) : Prop where
  only : Only (fun j => K.next ≤ j ∨ j = id) η η'
  objs : ∀ j, j < K.next → j ≠ id → K.get j = none → H'.get j = none
  next : K.next ≤ H'.next
  above : Above η' H'
theorem nextTo_get (H : Heap) (n j : Nat) : (nextTo H n).get j = H.get j := rfl
theorem HRel.get {H' : Heap} (h : HRel P η E H w) (g : ∀ id, H'.get id = H.get id) : HRel P η E H' w :=
  ⟨fun id o ho => h.obj id o (by rw [← g]; exact ho), fun i j oi oj b hi hj => h.inj i j oi oj b (by rw [← g]; exact hi) (by rw [← g]; exact hj)⟩
theorem Trans.get {η' : Env} {H1 H' H2 : Heap} {w' : World} (h : Trans P E η H w η' H' w') (g1 : ∀ id, H1.get id = H.get id) (g2 : ∀ id, H2.get id = H'.get id) : Trans P E η H1 w η' H2 w' :=
  ⟨h.le, h.rel.get g2, fun b hb hl => h.frame b hb fun ⟨id, o, x, y⟩ => hl ⟨id, o, by rw [g1]; exact x, y⟩,
   fun b hb ⟨id, o, x, y⟩ => let ⟨id', o', x', y'⟩ := h.shr b hb ⟨id, o, by rw [← g2]; exact x, y⟩; ⟨id', o', by rw [g1]; exact x', y'⟩, h.keeps⟩
theorem Eff.grow {id : Nat} {η' : Env} {K H' : Heap} (ha : Above η K) (hid : id < K.next) (g : Grow η η' (nextTo K id) H') : Eff id η η' K (nextTo H' K.next) :=
  ⟨g.only.mono fun j hj => .inr hj, fun j _ hne hn => g.objs j hne hn, Nat.le_refl _, fun j hj => by
    have f := ha j hj
    have hne : j ≠ id := by have : K.next ≤ j := hj; omega
    exact ⟨g.objs j hne f.get, by rw [g.only.ρ j hne]; exact f.ρ, by rw [g.only.κ j hne]; exact f.κ, by rw [g.only.σ j hne]; exact f.σ⟩⟩

section
variable {β : Type} {fn : FuncId} {rd : Option Nat} {ds : List Deferred} {k : List Item} {cs : List Frame} {ops : Array Oper} {i : Nat} {rest : List Nat} {o : Oper} {n : Nat} {X : Nat → Prop} {tmps : Tr AV} {t : Array Value} {K : Knt β} {outs : List β} {self : Self} {G : Heap} {id : Nat}

theorem drawOp_sound (hC : ProgOK P C O) (hself : SelfOK P O self) (h : drawOp C self E n ops.toList G tmps id o K = some outs) (hr : HRel P η E G w) (ha : Above η G) (hid : id < G.next) (hf : Fresh η G id) (eb : ∀ j, G.next ≤ j → findLoop j E = none) (hst : Stable P O) (hin : O η G w)
    (ht : TRelX η tmps n t X) (hX : ∀ j ∈ useTmps ops.toList o, ¬ X j) (ho : ops[i]? = some o) :
    ∃ tmps' H' outs' v, K tmps' H' = some outs' ∧ (∀ q ∈ outs', q ∈ outs) ∧ putO n tmps o.dst v = some tmps' ∧ ∃ η' w' t', Steps P (mR fn rd ds k cs ops (i :: rest) t w) (mR fn rd ds k cs ops rest t' w') ∧
      Trans P E η G w η' H' w' ∧ Eff id η η' G H' ∧ TRelX η' tmps' n t' X := by
  unfold drawOp at h
  cases hb : isCall o.op with
  | true =>
    rw [hb] at h; simp only [cond_true] at h
    obtain ⟨tmps', H', outs', h1, h2, ⟨v, h3⟩, η', w', t', h4, h5, h6, h7, h8⟩ := guardK_sound (fn := fn) (rd := rd) (ds := ds) (k := k) (cs := cs) (rest := rest) hC hself h ⟨hr, ha, eb, hst, hin⟩ ht hX ho
    exact ⟨tmps', H', outs', v, h1, h2, h3, η', w', t', h4, h5, ⟨h7.only.mono fun j hj => .inl hj, fun j hj _ hn => h7.objs j hj hn, h7.next, h6⟩, h8⟩
  | false =>
    rw [hb] at h; simp only [cond_false] at h
    unfold guardV at h
    split at h
    · cases h
    · rename_i hg
      have hw := wantedG_sound ht hX hg
      unfold operV at h
      split at h
      · cases h
      · rename_i out hq
        have hd := not_defer hq
        have hs := opStep_sound (P := P) (E := E) hC.toCtxOK (hr.get (H' := nextTo G id) fun _ => rfl) (⟨hf.get, hf.ρ, hf.κ, hf.σ⟩ : Fresh η (nextTo G id) (nextTo G id).next) (ops_ok ht hX) hq
        cases out with
        | val v H' =>
          obtain ⟨η', x, w', h1, h2, h3, h4⟩ := hs
          obtain ⟨t', e1, e2⟩ := putK_some h
          exact ⟨t', _, outs, v, e2, fun _ h => h, e1, η', w', _, .one (st_value ho hw hd h1), h3.get (fun _ => rfl) (fun _ => rfl), Eff.grow ha hid h4, (ht.mono h3.le).put h2 e1⟩
        | skip H' =>
          obtain ⟨η', w', h1, h3, h4⟩ := hs
          obtain ⟨t', e1, e2⟩ := putK_some h
          exact ⟨t', _, outs, undefV, e2, fun _ h => h, e1, η', w', _, .one (st_done ho hw hd h1), h3.get (fun _ => rfl) (fun _ => rfl), Eff.grow ha hid h4, (ht.mono h3.le).put (undef_conc _) e1⟩
        | ways l =>
          obtain ⟨p, hp, η', x, w', h1, h2, h3, h4⟩ := hs
          obtain ⟨o', ho1, ho2⟩ := bindL_mem h p hp
          obtain ⟨t', e1, e2⟩ := putK_some ho1
          exact ⟨t', _, o', p.1, e2, ho2, e1, η', w', _, .one (st_value ho hw hd h1), h3.get (fun _ => rfl) (fun _ => rfl), Eff.grow ha hid h4, (ht.mono h3.le).put h2 e1⟩
        | enter f args => cases h
        | round l args => cases h
    · rename_i hg
      have hw := wantedG_sound ht hX hg
      obtain ⟨t', e1, e2⟩ := putK_some h
      exact ⟨t', _, outs, undefV, e2, fun _ h => h, e1, η, w, _, .one (st_unwanted ho hw), (Trans.refl hr).get (fun _ => rfl) (fun _ => rfl), Eff.grow ha hid (Grow.same η (nextTo G id)), ht.put (undef_conc _) e1⟩
end

section
variable {ops : Array Oper} {base n S A : Nat} {pend : List (Oper × Nat)} {D : Made} {L : Reads} {tmps : Tr AV} {t : Array Value}
variable {fn : FuncId} {rd : Option Nat} {ds : List Deferred} {k : List Item} {cs : List Frame} {rest : List Nat} {self : Self}

theorem still_mem {m : Nat} {d : Nat × Nat × AObj} : d ∈ still m D ↔ d ∈ D ∧ m.testBit d.1 = false := by
  unfold still
  rw [List.mem_filter]
  cases hq : Nat.testBit m d.1 <;> simp [notB]
theorem later_mem {m : Nat} {p : Oper × Nat} : p ∈ later m L ↔ p ∈ L ∧ m.testBit p.2 = false := by
  unfold later
  rw [List.mem_filter]
  cases hq : Nat.testBit m p.2 <;> simp [notB]
theorem reread_spec {H' : Heap} {o : Oper} {i : Nat} (h : reread C tmps H' (o, i) = true) : ∃ v H2, opStep C H' tmps o.op = some (.val v H2) ∧ Has tmps o.dst v := by
  unfold reread at h
  split at h
  · rename_i v H2 hq
    refine ⟨v, H2, hq, fun d hd => ?_⟩
    simp only at h
    rw [hd] at h
    simp only at h
    split at h
    · rename_i v' hv'
      rw [hv', eqAV_eq _ _ h]
    · cases h
  · cases h

/-- the machine takes one that is not ahead -/
theorem DS.cand {β : Type} {K : Knt β} {outs : List β} (hC : ProgOK P C O) (hself : SelfOK P O self) (s : DS P C O E ops base n η S A pend D L tmps H w t) {i : Nat} {o : Oper} (ho : ops[i]? = some o) (hA : A.testBit i = false) (hS : S.testBit i = false) (hr : readyIn S o = true)
    (h : drawOp C self E n ops.toList (commit (mask ops i) H D) tmps (base + i) o (rereadK C (later (mask ops i) L) K) = some outs) :
    ∃ tmps' H' outs' η' w' t', K tmps' H' = some outs' ∧ (∀ q ∈ outs', q ∈ outs) ∧ Steps P (mR fn rd ds k cs ops (i :: rest) t w) (mR fn rd ds k cs ops rest t' w') ∧
      Trans P E η (commit S H D) w η' (commit (S ||| 2 ^ i) H' (still (mask ops i) D)) w' ∧ Below base η η' (commit S H D) (commit (S ||| 2 ^ i) H' (still (mask ops i) D)) ∧
      DS P C O E ops base n η' (S ||| 2 ^ i) (A ||| 2 ^ i) (dropI i pend) (still (mask ops i) D) (later (mask ops i) L) tmps' H' w' t' := by
  obtain ⟨m, hm⟩ : ∃ m, m = mask ops i := ⟨_, rfl⟩
  rw [← hm] at h ⊢
  have hmS : ∀ j, m.testBit j = true → S.testBit j = true := fun j hj => s.closed.ready ho hr (by rw [← hm]; exact hj)
  have hlt : i < ops.size := (Array.getElem?_eq_some_iff.1 ho).1
  have hle := s.le
  have hrA : readyIn A o = true := readyIn_iff.2 fun e he hb => s.sub _ (readyIn_iff.1 hr e he hb)
  -- memory as the operation sees it
  have hKG : ∀ id o', (commit m H D).get id = some o' → (commit S H D).get id = some o' := fun id o' h => commit_up s.dist s.dform hmS h
  have hKr : HRel P η E (commit m H D) w := s.rel.weak ⟨by rw [commit_next, commit_next]; exact Nat.le_refl _, fun id o' h => ⟨o', hKG id o' h, WeakO.refl _⟩⟩
  have hKn : ∀ id, (∀ d ∈ D, m.testBit d.1 = true → d.2.1 ≠ id) → H.get id = none → (commit m H D).get id = none := fun id h1 h2 => by
    cases hq : (commit m H D).get id with
    | none => rfl
    | some o' =>
      rcases (commit_get s.dist id o').1 hq with ⟨d, g1, g2, g3, _⟩ | ⟨_, g⟩
      · exact absurd g3 (h1 d g1 g2)
      · rw [h2] at g; cases g
  have hKa : Above η (commit m H D) := fun id hid => by
    rw [commit_next] at hid
    have f := s.above id hid
    exact ⟨hKn id (fun d hd _ e => by have := (s.dform d hd).1; have := s.bnd _ (s.dform d hd).2.1; omega) f.get, f.ρ, f.κ, f.σ⟩
  have hKf : ∀ j, j < ops.size → S.testBit j = false → (commit m H D).get (base + j) = none := fun j hj hSj =>
    hKn _ (fun d hd hb e => by
      have h1 := (s.dform d hd).1
      have : d.1 = j := by omega
      rw [this] at hb; rw [hmS j hb] at hSj; cases hSj) (s.fresh j hj hSj).get
  have f0 := s.fresh i hlt hS
  obtain ⟨tmps', H', outs', v, h1, h2, h3, η', w', t', h4, h5, h6, h7⟩ := drawOp_sound (fn := fn) (rd := rd) (ds := ds) (k := k) (cs := cs) (rest := rest) hC hself h hKr hKa (by rw [commit_next]; omega) ⟨hKf i hlt hS, f0.ρ, f0.κ, f0.σ⟩
    (fun j hj => s.eb j (by rw [commit_next] at hj; exact hj)) s.st (s.st _ _ _ _ _ _ _ s.inv ((Trans.refl s.rel).weak ⟨by rw [commit_next, commit_next]; exact Nat.le_refl _, fun id o' h => ⟨o', hKG id o' h, WeakO.refl _⟩⟩)) s.tr (s.uses ho hS hr) ho
  unfold rereadK at h1
  cases hall : (later m L).all (reread C tmps' H') with
  | false => rw [hall] at h1; cases h1
  | true =>
    rw [hall] at h1; simp only [cond_true] at h1
    have hnx := h6.next
    rw [commit_next] at hnx
    -- what lies aside
    have hside : ∀ d ∈ still m D, (commit m H D).get d.2.1 = none := fun d hd => by
      obtain ⟨g1, g2⟩ := still_mem.1 hd
      refine hKn _ (fun d' hd' hb e => ?_) (s.dform d g1).2.2
      have := s.dist d' hd' d g1 e
      subst this; rw [g2] at hb; cases hb
    have hdist' : Dist (still m D) := fun d hd d' hd' => s.dist d (still_mem.1 hd).1 d' (still_mem.1 hd').1
    have hdf : ∀ d ∈ still m D, d.2.1 = base + d.1 ∧ (A ||| 2 ^ i).testBit d.1 = true ∧ H'.get d.2.1 = none := fun d hd => by
      have g := s.dform d (still_mem.1 hd).1
      have hlt' := s.bnd _ g.2.1
      refine ⟨g.1, tb_old g.2.1, h6.objs _ (by rw [commit_next]; omega) (fun e => s.noD hA d (still_mem.1 hd).1 (by omega)) (hside d hd)⟩
    have tr : Trans P E η (commit S H D) w η' (commit (S ||| 2 ^ i) H' (still m D)) w' := glue s.rel hKG h5 fun id o' hg => by
      rcases (commit_get hdist' id o').1 hg with ⟨d, g1, g2, g3, g4⟩ | ⟨_, g⟩
      · obtain ⟨k1, k2⟩ := still_mem.1 g1
        have hSd : S.testBit d.1 = true := (tb_true g2).resolve_right (s.noD hA d k1)
        exact .inr ⟨(commit_get s.dist id o').2 (.inl ⟨d, k1, hSd, g3, g4⟩), by rw [← g3]; exact hside d g1⟩
      · exact .inl g
    obtain ⟨p1, p2⟩ := putO_get h3
    refine ⟨tmps', H', outs', η', w', t', h1, h2, h4, tr, ?_, ?_⟩
    · refine ⟨h6.only.mono fun j hj => ?_, fun id hid hn => ?_, by rw [commit_next, commit_next]; exact hnx⟩
      · rcases hj with hj | hj
        · rw [commit_next] at hj; omega
        · omega
      · rw [commit_base hdist' hdf hid]
        rw [commit_base s.dist s.dform hid] at hn
        refine h6.objs id (by rw [commit_next]; omega) (by omega) ?_
        rw [commit_base s.dist s.dform hid]; exact hn
    · refine ⟨s.pend' i, fun j hj => ?_, fun j hj => ?_, s.closed.add ho hr, s.ranked.add ho hA hrA, tr.rel, hdist', hdf, fun j hj hSj => ?_, h6.above, by omega, fun j hj => s.eb j (by omega), ⟨h7.size, fun j u hj hu => ?_⟩, fun j o' ho' hAj hSj => ?_, s.st, s.st _ _ _ _ _ _ _ s.inv tr⟩
      · rcases tb_true hj with h | h
        · exact tb_old (s.sub j h)
        · rw [h]; exact tb_new _ _
      · rcases tb_true hj with h | h
        · exact s.bnd j h
        · rw [h]; exact hlt
      · obtain ⟨g1, g2⟩ := tb_false hSj
        have f := s.fresh j hj g1
        have hne : ¬ ((commit m H D).next ≤ base + j ∨ base + j = base + i) := by rw [commit_next]; omega
        exact ⟨h6.objs _ (by rw [commit_next]; omega) (by omega) (hKf j hj g1), by rw [h6.only.ρ _ hne]; exact f.ρ, by rw [h6.only.κ _ hne]; exact f.κ, by rw [h6.only.σ _ hne]; exact f.σ⟩
      · refine h7.get j u (fun ⟨i', o', q1, q2, q3, q4⟩ => hj ⟨i', o', q1, tb_old q2, ?_, q4⟩) hu
        rw [tb_ne]; · exact q3
        · intro e; rw [e, hA] at q2; cases q2
      · obtain ⟨g1, g2⟩ := tb_false hSj
        have hAj' : A.testBit j = true := (tb_true hAj).resolve_right g2
        have l := s.lag j o' ho' hAj' g1
        refine ⟨l.own, fun d hd k' ok hok hSk hne => l.one d hd k' ok hok (tb_false hSk).1 hne, fun p op hop hAp => l.two p op hop (tb_false hAp).1, ?_⟩
        obtain ⟨tmps0, q1, q2⟩ := l.work
        have hag : ∀ u ∈ useTmps ops.toList o', tmps0.get u = tmps'.get u := fun u hu => by
          rw [q1 u hu, p2 u]; exact fun e2 => l.two i o ho hA u e2 hu
        have hhas : ∀ v, Has tmps o'.dst v → Has tmps' o'.dst v := fun v hv d hd => by
          rw [p2 d]; · exact hv d hd
          · exact fun e2 => (l.one d hd i o ho hS (Ne.symm g2)).1 e2
        have hmj : m.testBit j = false := by
          cases hq : m.testBit j with
          | false => rfl
          | true => rw [hmS j hq] at g1; cases g1
        have hnot : (∀ ob, (j, base + j, ob) ∉ D) → ∀ ob, (j, base + j, ob) ∉ still m D := fun h ob hm => h ob (still_mem.1 hm).1
        cases q2 with
        | off h1 h2 h3 => exact ⟨tmps0, hag, .off h1 (hhas _ h2) (hnot h3)⟩
        | free h1 h2 h3 h4 => exact ⟨tmps0, hag, .free h1 (hhas _ h2) h3 (hnot h4)⟩
        | made h1 h2 h3 h4 h5 => exact ⟨tmps0, hag, .made h1 (hhas _ h2) h3 h4 (still_mem.2 ⟨h5, hmj⟩)⟩
        | read h1 h2 h3 h4 h5 h6 =>
          have hin : (o', j) ∈ later m L := later_mem.2 ⟨h4, hmj⟩
          obtain ⟨v2, H2, r1, r2⟩ := reread_spec (List.all_eq_true.1 hall _ hin)
          exact ⟨tmps', fun _ _ => rfl, .read (by rw [← wantedG_congr hag]; exact h1) r2 h3 hin r1 (hnot h6)⟩

theorem commit_above (s : DS P C O E ops base n η S A pend D L tmps H w t) (m : Nat) : Above η (commit m H D) := fun id hid => by
  rw [commit_next] at hid
  have f := s.above id hid
  refine ⟨?_, f.ρ, f.κ, f.σ⟩
  cases hq : (commit m H D).get id with
  | none => rfl
  | some o' =>
    rcases (commit_get s.dist id o').1 hq with ⟨d, g1, g2, g3, _⟩ | ⟨_, g⟩
    · have := (s.dform d g1).1; have := s.bnd _ (s.dform d g1).2.1; have := s.le; omega
    · rw [f.get] at g; cases g
/-- where the order has come to its end, all is done that is ahead -/
theorem DS.done (s : DS P C O E ops base n η S A pend D L tmps H w t) (hl : Lin ops S []) : S = A := by
  cases hl with
  | nil hn =>
    apply Nat.eq_of_testBit_eq
    intro i
    cases hS : S.testBit i with
    | true => rw [s.sub i hS]
    | false =>
      cases hA : A.testBit i with
      | false => rfl
      | true =>
        obtain ⟨j, o, h1, h2, h3⟩ := s.ranked.first s.bnd hA hS
        rw [hn j o h1 h2] at h3; cases h3

theorem drawGo_sound (hC : ProgOK P C O) (hself : SelfOK P O self) : ∀ (kf A : Nat) (pend : List (Oper × Nat)) (D : Made) (L : Reads) (tmps : Tr AV) (H : Heap) (outs : List (Tr AV × Heap)), drawGo C self E n base ops.toList (masks ops.toList []) kf A pend D L tmps H = some outs →
    ∀ (η : Env) (S : Nat) (w : World) (t : Array Value) (l : List Nat), DS P C O E ops base n η S A pend D L tmps H w t → Lin ops S l →
    ∃ q ∈ outs, ∃ η' w' t', Steps P (mR fn rd ds k cs ops l t w) (mR fn rd ds k cs ops [] t' w') ∧ Trans P E η (commit S H D) w η' q.2 w' ∧ Above η' q.2 ∧ Below base η η' (commit S H D) q.2 ∧ TRel η' q.1 n t'
  | 0, A, pend, D, L, tmps, H, outs, h => by simp [drawGo] at h
  | kf + 1, A, pend, D, L, tmps, H, outs, h => by
    intro η S w t l s hl
    simp only [drawGo] at h
    split at h
    · simp only [Option.some.injEq] at h; subst h
      obtain ⟨η1, S1, w1, t1, l1, a1, a2, a3, a4, a5, a6⟩ := s.drain (fn := fn) (rd := rd) (ds := ds) (k := k) (cs := cs) hC hl
      cases l1 with
      | cons i r =>
        cases a5 with
        | cons ho hS hr _ =>
          have := (a4.pend _ i).2 ⟨ho, a6 i r rfl⟩
          cases this
      | nil =>
        have := a4.done a5
        subst this
        refine ⟨_, List.mem_singleton.2 rfl, η1, w1, t1, a1, a2, commit_above a4 S1, a3, a4.tr.toR fun j hj => ?_⟩
        obtain ⟨i, o, _, h2, h3, _⟩ := hj
        rw [h2] at h3; cases h3
    · split at h
      · rename_i o i hq
        obtain ⟨g1, g2, g3⟩ := findSilent_spec hq
        obtain ⟨D', L', tmps', b1, b2, b3⟩ := s.silent g1 g2 g3 h
        obtain ⟨q, c1, η', w', t', c2, c3, c4, c5, c6⟩ := drawGo_sound hC hself kf _ _ _ _ _ _ _ b1 η S w t l b3 hl
        rw [b2] at c3 c5
        exact ⟨q, c1, η', w', t', c2, c3, c4, c5, c6⟩
      · split at h
        · cases h
        · rename_i hcands
          obtain ⟨η1, S1, w1, t1, l1, a1, a2, a3, a4, a5, a6⟩ := s.drain (fn := fn) (rd := rd) (ds := ds) (k := k) (cs := cs) hC hl
          cases l1 with
          | nil =>
            have := a4.done a5
            subst this
            exfalso
            cases hcl : (pend.filter fun p => readyIn S1 p.1) with
            | nil => exact hcands hcl
            | cons p r =>
              have hp : p ∈ pend.filter fun p => readyIn S1 p.1 := by rw [hcl]; exact List.mem_cons_self
              obtain ⟨k1, k2⟩ := List.mem_filter.1 hp
              obtain ⟨k3, k4⟩ := (a4.pend p.1 p.2).1 k1
              cases a5 with
              | nil hn => rw [hn p.2 p.1 k3 k4] at k2; cases k2
          | cons i r =>
            have hAi := a6 i r rfl
            cases a5 with
            | cons ho hS hr hl' =>
              rename_i o
              have hrA : readyIn A o = true := readyIn_iff.2 fun e he hb => a4.sub _ (readyIn_iff.1 hr e he hb)
              obtain ⟨o', d1, d2⟩ := bindL_mem h (o, i) (List.mem_filter.2 ⟨(a4.pend o i).2 ⟨ho, hAi⟩, hrA⟩)
              obtain ⟨tmps', H', outs', η2, w2, t2, b1, b2, b3, b4, b5, b6⟩ := a4.cand (fn := fn) (rd := rd) (ds := ds) (k := k) (cs := cs) (rest := r) hC hself ho hAi hS hr d1
              obtain ⟨q, c1, η', w', t', c2, c3, c4, c5, c6⟩ := drawGo_sound hC hself kf _ _ _ _ _ _ _ b1 η2 _ w2 t2 r b6 hl'
              exact ⟨q, d2 q (b2 q c1), η', w', t', (a1.trans b3).trans c2, (a2.trans b4).trans c3, c4, (a3.trans b5 (Nat.le_refl _)).trans c5 (Nat.le_refl _), c6⟩
end
end Go.VmK
