/-
  A machine that runs the model with abstract blocks, and lemmas on it: whatever it answers of a call is what the model does (ProgOK, Base: the conditions).
-/
import Derived.Test.YthcnhdiipbpdgaaGreatDoorR5d
namespace Go.VmK
variable {P : Program} {C : Ctx} {E : List LoopInfo} {η : Env} {H : Heap} {w : World}

/-! what is made, but not yet laid -/
def Dist (D : Made) : Prop := ∀ d ∈ D, ∀ d' ∈ D, d.2.1 = d'.2.1 → d = d'
theorem commit_next (m : Nat) (H : Heap) : ∀ D : Made, (commit m H D).next = H.next
  | [] => rfl
  | (i, id, ob) :: r => by
    simp only [commit]
    cases Nat.testBit m i with
    | true => exact commit_next m H r
    | false => exact commit_next m H r
theorem commit_get {m : Nat} {H : Heap} : ∀ {D : Made}, Dist D → ∀ (id : Nat) (o : AObj), (commit m H D).get id = some o ↔ (∃ d ∈ D, m.testBit d.1 = true ∧ d.2.1 = id ∧ d.2.2 = o) ∨ ((∀ d ∈ D, m.testBit d.1 = true → d.2.1 ≠ id) ∧ H.get id = some o)
  | [], _, id, o => by simp [commit]
  | (i, jd, ob) :: r, hd, id, o => by
    have ih := commit_get (m := m) (H := H) (D := r) (fun d h d' h' => hd d (by simp [h]) d' (by simp [h'])) id o
    simp only [commit]
    cases hb : Nat.testBit m i with
    | false =>
      simp only [cond_false]
      rw [ih]
      constructor
      · rintro (⟨d, h1, h2, h3⟩ | ⟨h1, h2⟩)
        · exact .inl ⟨d, by simp [h1], h2, h3⟩
        · refine .inr ⟨fun d hm ht => ?_, h2⟩
          rcases List.mem_cons.1 hm with rfl | hm
          · rw [hb] at ht; cases ht
          · exact h1 d hm ht
      · rintro (⟨d, h1, h2, h3⟩ | ⟨h1, h2⟩)
        · rcases List.mem_cons.1 h1 with rfl | hm
          · rw [hb] at h2; cases h2
          · exact .inl ⟨d, hm, h2, h3⟩
        · exact .inr ⟨fun d hm ht => h1 d (by simp [hm]) ht, h2⟩
    | true =>
      simp only [cond_true]
      rw [Heap.get_put]
      by_cases e : id = jd
      · subst e
        simp only [if_true]
        constructor
        · intro h; cases h
          exact .inl ⟨_, List.mem_cons_self, hb, rfl, rfl⟩
        · rintro (⟨d, h1, h2, h3, h4⟩ | ⟨h1, h2⟩)
          · have := hd d h1 (i, id, ob) List.mem_cons_self h3
            subst this; rw [← h4]
          · exact absurd rfl (h1 (i, id, ob) List.mem_cons_self hb)
      · rw [if_neg e, ih]
        constructor
        · rintro (⟨d, h1, h2, h3⟩ | ⟨h1, h2⟩)
          · exact .inl ⟨d, by simp [h1], h2, h3⟩
          · refine .inr ⟨fun d hm ht => ?_, h2⟩
            rcases List.mem_cons.1 hm with rfl | hm
            · exact fun x => e x.symm
            · exact h1 d hm ht
        · rintro (⟨d, h1, h2, h3, h4⟩ | ⟨h1, h2⟩)
          · rcases List.mem_cons.1 h1 with rfl | hm
            · exact absurd h3.symm e
            · exact .inl ⟨d, hm, h2, h3, h4⟩
          · exact .inr ⟨fun d hm ht => h1 d (by simp [hm]) ht, h2⟩

/-- a step of a part of memory is one of the whole -/
theorem glue {η' : Env} {K K' G G' : Heap} {w' : World} (hG : HRel P η E G w) (hK : ∀ id o, K.get id = some o → G.get id = some o) (t : Trans P E η K w η' K' w')
    (hG' : ∀ id o, G'.get id = some o → K'.get id = some o ∨ (G.get id = some o ∧ K.get id = none)) : Trans P E η G w η' G' w' := by
  have old : ∀ id o, G.get id = some o → K.get id = none → ∃ b ob, η.ρ id = some b ∧ η'.ρ id = some b ∧ b < w.heap.size ∧ ¬ Live η K b ∧ w'.heap[b]? = some ob ∧ ORel P η' E id o ob := by
    intro id o hg hk
    obtain ⟨b, ob, h1, h2, h3⟩ := hG.obj id o hg
    have hlt := lt_of_get h2
    have hnl : ¬ Live η K b := by
      rintro ⟨id', o', g1, g2⟩
      have := hG.inj _ _ _ _ _ (hK _ _ g1) hg g2 h1
      subst this; rw [hk] at g1; cases g1
    exact ⟨b, ob, h1, t.le.ρ _ _ h1, hlt, hnl, by rw [t.frame b hlt hnl]; exact h2, ORel_mono t.le h3⟩
  have kl : ∀ b, Live η K b → Live η G b := fun b ⟨id, o, h1, h2⟩ => ⟨id, o, hK _ _ h1, h2⟩
  refine ⟨t.le, ⟨fun id o ho => ?_, fun i j oi oj b hi hj hbi hbj => ?_⟩, fun b hb hl => t.frame b hb fun x => hl (kl b x), fun b hb hl => ?_, t.keeps⟩
  · rcases hG' id o ho with h | ⟨h1, h2⟩
    · exact t.rel.obj id o h
    · obtain ⟨b, ob, _, g2, _, _, g5, g6⟩ := old id o h1 h2
      exact ⟨b, ob, g2, g5, g6⟩
  · rcases hG' i oi hi with h | ⟨h1, h2⟩ <;> rcases hG' j oj hj with g | ⟨g1, g2⟩
    · exact t.rel.inj _ _ _ _ _ h g hbi hbj
    · obtain ⟨b', ob, k1, k2, k3, k4, _, _⟩ := old j oj g1 g2
      rw [hbj] at k2; cases k2
      exact absurd (t.shr b k3 ⟨i, oi, h, hbi⟩) k4
    · obtain ⟨b', ob, k1, k2, k3, k4, _, _⟩ := old i oi h1 h2
      rw [hbi] at k2; cases k2
      exact absurd (t.shr b k3 ⟨j, oj, g, hbj⟩) k4
    · obtain ⟨b', ob, k1, k2, _⟩ := old i oi h1 h2
      obtain ⟨b'', ob', l1, l2, _⟩ := old j oj g1 g2
      rw [hbi] at k2; cases k2
      rw [hbj] at l2; cases l2
      exact hG.inj _ _ _ _ _ h1 g1 k1 l1
  · obtain ⟨id, o, h1, h2⟩ := hl
    rcases hG' id o h1 with h | ⟨g1, g2⟩
    · exact kl b (t.shr b hb ⟨id, o, h, h2⟩)
    · obtain ⟨b', ob, k1, k2, _⟩ := old id o g1 g2
      rw [h2] at k2; cases k2
      exact ⟨id, o, g1, k1⟩

theorem read_same {tmps : Tr AV} {op : Op} {v : AV} {H' : Heap} (hk : kin C op = .read) (h : opStep C H tmps op = some (.val v H')) : H' = H := by
  cases op <;> simp only [kin] at hk <;> try (cases hk; done)
  case load t a =>
    obtain ⟨u, _, h⟩ := with1_some h
    obtain ⟨u, e⟩ := doLoad_val h
    cases e; rfl
  case convert s d x =>
    obtain ⟨u, _, h⟩ := with1_some h
    obtain ⟨u, H2, hv, e⟩ := pairO_some h
    cases e
    unfold convertOp at hv
    unfold kinConv at hk
    split at hk <;> try (cases hk; done)
    rename_i e1 e2
    rw [e1, e2] at hv
    simp only at hv
    split at hv
    · cases hv; rfl
    · split at hv
      · cases hq : asBytes _ with
        | none => rw [hq] at hv; cases hv
        | some s => rw [hq] at hv; cases hv; rfl
      · cases hv
    · cases hv
  case lookup t x i ok =>
    obtain ⟨a, b, _, _, h⟩ := with2_some h
    obtain ⟨u, _, e⟩ := valO_some h
    cases e; rfl
  case makeMap t r => cases r <;> cases hk
  case call c =>
    simp only [opStep] at h
    unfold callOp at h
    split at h
    · cases h
    · rename_i args ha
      unfold callArgs at h
      split at h
      · rename_i b hb
        rw [hb] at hk
        unfold builtinOp at h
        split at h <;> try (cases hk; done)
        · simp only [Option.map_eq_some_iff] at h
          obtain ⟨u, _, e⟩ := h
          cases e; rfl
        · simp only [Option.map_eq_some_iff] at h
          obtain ⟨u, _, e⟩ := h
          cases e; rfl
        · simp only [Option.map_eq_some_iff] at h
          obtain ⟨u, _, e⟩ := h
          cases e; rfl
        · simp only [Option.map_eq_some_iff] at h
          obtain ⟨u, _, e⟩ := h
          cases e; rfl
        · cases h
      · rename_i f hf
        rw [hf] at hk; cases hk
      · rename_i r m hf
        rw [hf] at hk; cases hk
end Go.VmK
