/-
  A machine that runs the model with abstract blocks, and lemmas on it: whatever it answers of a call is what the model does (ProgOK, Base: the conditions).
-/
import Derived.Test.YthcnhdiipbpdgaaGreatDoorR5f
namespace Go.VmK
variable {P : Program} {C : Ctx} {O : Env → Heap → World → Prop} {E : List LoopInfo} {η : Env} {H : Heap} {w : World}

theorem wantedG_congr {ops : List Oper} {t0 t1 : Tr AV} {o : Oper} (h : ∀ u ∈ useTmps ops o, t0.get u = t1.get u) : wantedG ops t0 o = wantedG ops t1 o := by
  unfold wantedG
  cases hg : o.guard with
  | none => rfl
  | some g =>
    obtain ⟨j, want⟩ := g
    simp only
    cases ho : ops[j]? with
    | none => rfl
    | some o' =>
      simp only
      cases hd : o'.dst with
      | none => rfl
      | some d =>
        have : d ∈ useTmps ops o := by unfold useTmps; rw [hg]; simp only [ho, hd]; exact List.mem_cons_self
        simp only [h d this]
theorem putO_get {n : Nat} {tmps t' : Tr AV} {d : Option Tmp} {v : AV} (h : putO n tmps d v = some t') : (∀ j, d = some j → j < n ∧ t'.get j = some v) ∧ ∀ j, d ≠ some j → t'.get j = tmps.get j := by
  cases d with
  | none => simp only [putO, Option.some.injEq] at h; subst h; exact ⟨fun j h => (by cases h), fun _ _ => rfl⟩
  | some d =>
    simp only [putO] at h
    cases hb : Nat.blt d n with
    | false => rw [hb] at h; cases h
    | true =>
      rw [hb] at h; simp only [Option.some.injEq] at h; subst h
      refine ⟨fun j h => ?_, fun j h => ?_⟩
      · cases h; exact ⟨blt_lt hb, by rw [Tr.get_set]; simp⟩
      · rw [Tr.get_set, if_neg]; exact fun e => h (by rw [e])

section
variable {β : Type} {ops : Array Oper} {base n S A : Nat} {pend : List (Oper × Nat)} {D : Made} {L : Reads} {tmps : Tr AV} {t : Array Value}
theorem dropI_mem {i : Nat} {l : List (Oper × Nat)} {p : Oper × Nat} : p ∈ dropI i l ↔ p ∈ l ∧ p.2 ≠ i := by
  unfold dropI
  rw [List.mem_filter]
  constructor
  · rintro ⟨h1, h2⟩; exact ⟨h1, fun e => by subst e; simp at h2⟩
  · rintro ⟨h1, h2⟩
    refine ⟨h1, ?_⟩
    cases hb : Nat.beq p.2 i with
    | true => exact absurd (beq_eq hb) h2
    | false => rfl
theorem DS.pend' (s : DS P C O E ops base n η S A pend D L tmps H w t) (i : Nat) : ∀ o j, (o, j) ∈ dropI i pend ↔ ops[j]? = some o ∧ (A ||| 2 ^ i).testBit j = false := by
  intro o j
  rw [dropI_mem, s.pend]
  constructor
  · rintro ⟨⟨h1, h2⟩, h3⟩; exact ⟨h1, by rw [tb_ne h3]; exact h2⟩
  · rintro ⟨h1, h2⟩; exact ⟨⟨h1, (tb_false h2).1⟩, (tb_false h2).2⟩

theorem DS.notS (s : DS P C O E ops base n η S A pend D L tmps H w t) {i : Nat} (hA : A.testBit i = false) : S.testBit i = false := by
  cases hq : S.testBit i with
  | false => rfl
  | true => rw [s.sub i hq] at hA; cases hA
theorem silent_spec {l : List Oper} {ms : List Nat} {o : Oper} {i : Nat} (h : silent l ms pend o i = true) :
    (∀ d, o.dst = some d → d ∉ useTmps l o ∧ ∀ p ∈ pend, p.2 ≠ i → p.1.dst ≠ some d ∧ (d ∈ useTmps l p.1 → (ms.getD p.2 0).testBit i = true)) ∧ ∀ p ∈ pend, p.2 ≠ i → ∀ d, p.1.dst = some d → d ∉ useTmps l o := by
  unfold silent at h
  rw [Bool.and_eq_true] at h
  obtain ⟨h1, h2⟩ := h
  refine ⟨fun d hd => ?_, fun p hp hne d hd => ?_⟩
  · rw [hd] at h1
    simp only [Bool.and_eq_true] at h1
    refine ⟨not_elemB h1.1, fun p hp hne => ?_⟩
    have := List.all_eq_true.1 h1.2 p hp
    rw [Bool.or_eq_true] at this
    rcases this with h | h
    · exact absurd (beq_eq h) hne
    · unfold apart1 at h
      split at h
      · rename_i hn
        refine ⟨by rw [hn]; simp, fun hm => ?_⟩
        rw [Bool.or_eq_true] at h
        exact h.resolve_left fun x => not_elemB x hm
      · rename_i d' hn
        rw [Bool.and_eq_true, Bool.or_eq_true] at h
        refine ⟨?_, fun hm => h.2.resolve_left fun x => not_elemB x hm⟩
        intro e
        rw [hn] at e; cases e
        have := h.1
        simp [notB] at this
  · have := List.all_eq_true.1 h2 p hp
    rw [Bool.or_eq_true] at this
    rcases this with h | h
    · exact absurd (beq_eq h) hne
    · unfold apart2 at h
      rw [hd] at h
      exact not_elemB h

/-- an operation is taken ahead of its time -/
theorem DS.ahead (s : DS P C O E ops base n η S A pend D L tmps H w t) {i : Nat} {o : Oper} (hp : (o, i) ∈ pend) (hr : readyIn A o = true) (hs : silent ops.toList (masks ops.toList []) pend o i = true) {v : AV} {tmps' : Tr AV} (hv : putO n tmps o.dst v = some tmps')
    {D' : Made} {L' : Reads} (hD : ∀ d ∈ D, d ∈ D') (hD' : ∀ d ∈ D', d ∈ D ∨ (d.1 = i ∧ d.2.1 = base + i)) (hd : Dist D') (hcm : commit S H D' = commit S H D) (hL : ∀ p ∈ L, p ∈ L') (hw : Work C ops base D' L' tmps' tmps H i o) :
    DS P C O E ops base n η S (A ||| 2 ^ i) (dropI i pend) D' L' tmps' H w t := by
  obtain ⟨ho, hA⟩ := (s.pend o i).1 hp
  have hlt : i < ops.size := (Array.getElem?_eq_some_iff.1 ho).1
  have hS : S.testBit i = false := s.notS hA
  obtain ⟨g1, g2⟩ := silent_spec hs
  obtain ⟨p1, p2⟩ := putO_get hv
  refine ⟨s.pend' i, fun j hj => tb_old (s.sub j hj), fun j hj => ?_, s.closed, s.ranked.add ho hA hr, by rw [hcm]; exact s.rel, hd, fun d hdm => ?_, s.fresh, s.above, s.le, s.eb, ⟨s.tr.size, fun j u hj hu => ?_⟩, fun j o' ho' hAj hSj => ?_, s.st, by rw [hcm]; exact s.inv⟩
  · rcases tb_true hj with h | h
    · exact s.bnd j h
    · rw [h]; exact hlt
  · rcases hD' d hdm with h | ⟨h1, h2⟩
    · obtain ⟨q1, q2, q3⟩ := s.dform d h; exact ⟨q1, tb_old q2, q3⟩
    · exact ⟨by rw [h1, h2], by rw [h1]; exact tb_new _ _, by rw [h2]; exact (s.fresh i hlt hS).get⟩
  · have hne : o.dst ≠ some j := fun e => hj ⟨i, o, ho, tb_new _ _, hS, e⟩
    rw [p2 j hne] at hu
    exact s.tr.get j u (fun ⟨i', o', q1, q2, q3, q4⟩ => hj ⟨i', o', q1, tb_old q2, q3, q4⟩) hu
  · by_cases e : j = i
    · subst e
      rw [ho] at ho'; cases ho'
      refine ⟨fun d hd => ⟨(p1 d hd).1, (g1 d hd).1⟩, fun d hd k ok hok hSk hne => ?_, fun p op hop hAp d hd => ?_, tmps, fun u hu => ?_, hw⟩
      · cases hAk : A.testBit k with
        | false => exact (g1 d hd).2 (ok, k) ((s.pend ok k).2 ⟨hok, hAk⟩) hne
        | true =>
          have l := s.lag k ok hok hAk hSk
          refine ⟨fun hdk => ((l.one d hdk j o ho hS (Ne.symm hne)).1 hd).elim, fun hm => absurd hm (l.two j o ho hA d hd)⟩
      · obtain ⟨q1, q2⟩ := tb_false hAp
        exact g2 (op, p) ((s.pend op p).2 ⟨hop, q1⟩) q2 d hd
      · exact (p2 u fun e => (g1 u e).1 hu).symm
    · have hAj' : A.testBit j = true := (tb_true hAj).resolve_right e
      have l := s.lag j o' ho' hAj' hSj
      refine ⟨l.own, l.one, fun p op hop hAp => l.two p op hop (tb_false hAp).1, ?_⟩
      obtain ⟨tmps0, q1, q2⟩ := l.work
      have hag : ∀ u ∈ useTmps ops.toList o', tmps0.get u = tmps'.get u := fun u hu => by
        rw [q1 u hu, p2 u]; exact fun e2 => l.two i o ho hA u e2 hu
      have hhas : ∀ v, Has tmps o'.dst v → Has tmps' o'.dst v := fun v hv d hd => by
        rw [p2 d]; · exact hv d hd
        · exact fun e2 => (l.one d hd i o ho hS (Ne.symm e)).1 e2
      have hnot : (∀ ob, (j, base + j, ob) ∉ D) → ∀ ob, (j, base + j, ob) ∉ D' := fun h ob hm => by
        rcases hD' _ hm with h1 | ⟨h1, _⟩
        · exact h ob h1
        · exact e h1
      refine ⟨tmps0, hag, ?_⟩
      cases q2 with
      | off h1 h2 h3 => exact .off h1 (hhas _ h2) (hnot h3)
      | free h1 h2 h3 h4 => exact .free h1 (hhas _ h2) h3 (hnot h4)
      | made h1 h2 h3 h4 h5 => exact .made h1 (hhas _ h2) h3 h4 (hD _ h5)
      | read h1 h2 h3 h4 h5 h6 => exact .read h1 (hhas _ h2) h3 (hL _ h4) h5 (hnot h6)

theorem DS.noD (s : DS P C O E ops base n η S A pend D L tmps H w t) {i : Nat} (hA : A.testBit i = false) : ∀ d ∈ D, d.1 ≠ i := fun d hd e => by
  have := (s.dform d hd).2.1; rw [e, hA] at this; cases this
theorem DS.silent (s : DS P C O E ops base n η S A pend D L tmps H w t) {i : Nat} {o : Oper} (hp : (o, i) ∈ pend) (hr : readyIn A o = true) (hs : VmK.silent ops.toList (masks ops.toList []) pend o i = true) {K : Made → Reads → Knt β} {outs : List β}
    (h : silentOp C n ops.toList H tmps (base + i) i o K D L = some outs) :
    ∃ D' L' tmps', K D' L' tmps' H = some outs ∧ commit S H D' = commit S H D ∧ DS P C O E ops base n η S (A ||| 2 ^ i) (dropI i pend) D' L' tmps' H w t := by
  obtain ⟨ho, hA⟩ := (s.pend o i).1 hp
  have hS : S.testBit i = false := s.notS hA
  have hno : ∀ ob, (i, base + i, ob) ∉ D := fun ob hm => s.noD hA _ hm rfl
  have hhas : ∀ {v tmps'}, putO n tmps o.dst v = some tmps' → Has tmps' o.dst v := fun h d hd => ((putO_get h).1 d hd).2
  unfold silentOp at h
  split at h
  · cases h
  · rename_i hg
    obtain ⟨t', e1, e2⟩ := putK_some h
    exact ⟨D, L, t', e2, rfl, s.ahead hp hr hs e1 (fun d h => h) (fun d h => .inl h) s.dist rfl (fun p h => h) (.off hg (hhas e1) hno)⟩
  · rename_i hg
    split at h
    · rename_i hk
      split at h
      · rename_i v H' hq
        obtain ⟨t', e1, e2⟩ := putK_some h
        exact ⟨D, (o, i) :: L, t', e2, rfl, s.ahead hp hr hs e1 (fun d h => h) (fun d h => .inl h) s.dist rfl (fun p h => by simp [h]) (.read hg (hhas e1) hk (by simp) hq hno)⟩
      · cases h
    · split at h
      · rename_i v H' hq
        split at h
        · rename_i ob hob
          obtain ⟨t', e1, e2⟩ := putK_some h
          refine ⟨(i, base + i, ob) :: D, L, t', e2, by simp [commit, hS], s.ahead hp hr hs e1 (fun d h => by simp [h]) (fun d h => ?_) ?_ (by simp [commit, hS]) (fun p h => h) (.made hg (hhas e1) hq hob (by simp))⟩
          · rcases List.mem_cons.1 h with rfl | h
            · exact .inr ⟨rfl, rfl⟩
            · exact .inl h
          · intro d hd d' hd' he
            rcases List.mem_cons.1 hd with rfl | hd <;> rcases List.mem_cons.1 hd' with rfl | hd'
            · rfl
            · have := (s.dform d' hd').1
              exact absurd (by simp only at he; omega) (s.noD hA d' hd')
            · have := (s.dform d hd).1
              exact absurd (by simp only at he; omega) (s.noD hA d hd)
            · exact s.dist d hd d' hd' he
        · obtain ⟨t', e1, e2⟩ := putK_some h
          exact ⟨D, L, t', e2, rfl, s.ahead hp hr hs e1 (fun d h => h) (fun d h => .inl h) s.dist rfl (fun p h => h) (.free hg (hhas e1) hq hno)⟩
      · cases h
theorem findSilent_spec {l : List Oper} {ms : List Nat} {pd : List (Oper × Nat)} : ∀ {q : List (Oper × Nat)} {o : Oper} {i : Nat}, findSilent C l ms A pd D tmps H q = some (o, i) → (o, i) ∈ q ∧ readyIn A o = true ∧ VmK.silent l ms pd o i = true
  | [], o, i, h => by simp [findSilent] at h
  | (o', j) :: r, o, i, h => by
    simp only [findSilent] at h
    cases hb : (readyIn A o' && kinOk C H tmps (ms.getD j 0) D o' && VmK.silent l ms pd o' j) with
    | true =>
      rw [hb] at h; simp only [cond_true, Option.some.injEq, Prod.mk.injEq] at h
      obtain ⟨rfl, rfl⟩ := h
      simp only [Bool.and_eq_true] at hb
      exact ⟨by simp, hb.1.1, hb.2⟩
    | false =>
      rw [hb] at h
      obtain ⟨h1, h2⟩ := findSilent_spec h
      exact ⟨by simp [h1], h2⟩
end
end Go.VmK
