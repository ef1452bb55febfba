/-
  A machine that runs the model with abstract blocks, and lemmas on it: whatever it answers of a call is what the model does (ProgOK, Base: the conditions).
-/
import Derived.Test.YthcnhdiipbpdgaaGreatDoorR4m
namespace Go.VmK
variable {P : Program} {C : Ctx} {E : List LoopInfo} {η : Env} {H : Heap} {w : World}

theorem EsRel_filter {p : Nat → Bool} : ∀ {es : List (AV × AV × Nat)} {ces : List MapEntry}, EsRel η es ces → EsRel η (es.filter fun e => p e.2.2) (ces.filter fun e => p e.born)
  | [], [], _ => trivial
  | [], _ :: _, h => h.elim
  | _ :: _, [], h => h.elim
  | (k, v, b) :: es, e :: ces, ⟨h1, h2, h3, h4⟩ => by
    subst h3
    simp only [List.filter_cons]
    cases hp : p e.born with
    | true => simp only [if_true]; exact ⟨h1, h2, rfl, EsRel_filter h4⟩
    | false => simp only [Bool.false_eq_true, if_false]; exact EsRel_filter h4
theorem EsRel_app : ∀ {es : List (AV × AV × Nat)} {ces : List MapEntry} {fs : List (AV × AV × Nat)} {cfs : List MapEntry}, EsRel η es ces → EsRel η fs cfs → EsRel η (es ++ fs) (ces ++ cfs)
  | [], [], _, _, _, h => h
  | [], _ :: _, _, _, h, _ => h.elim
  | _ :: _, [], _, _, h, _ => h.elim
  | (_, _, _) :: _, _ :: _, _, _, ⟨h1, h2, h3, h4⟩, h => ⟨h1, h2, h3, EsRel_app h4 h⟩
theorem elemN_eq (l : List Nat) (n : Nat) : elemN l n = l.contains n := by
  induction l with
  | nil => rfl
  | cons a l ih =>
    simp only [elemN, List.any_cons, List.contains_cons] at ih ⊢
    rw [ih]
    congr 1
    rw [Bool.eq_iff_iff, Nat.beq_eq]; simp

theorem EsRel_back {es : List (AV × AV × Nat)} {ces : List MapEntry} (h : EsRel η es ces) {i : Nat} {e : MapEntry} (hi : ces[i]? = some e) : ∃ p, p ∈ es ∧ conc η p.1 = some e.key ∧ conc η p.2.1 = some e.val ∧ e.born = p.2.2 := by
  obtain ⟨hl, hg⟩ := EsRel_get h
  have hlt : i < es.length := by rw [hl]; exact (List.getElem?_eq_some_iff.1 hi).1
  obtain ⟨e', he', h1, h2, h3⟩ := hg i es[i].1 es[i].2.1 es[i].2.2 (List.getElem?_eq_getElem hlt)
  rw [hi] at he'; cases he'
  exact ⟨es[i], List.getElem_mem _, h1, h2, h3⟩

def SimW (P : Program) (E : List LoopInfo) (η : Env) (H : Heap) (w : World) (s : Sem Value) (l : List (AV × Heap)) : Prop :=
  ∃ p ∈ l, SimS P E η H w s p.1 p.2

theorem choose_in {n : Nat} (h : 0 < n) (w : World) : ∃ k w', k < n ∧ (choose (.mapNext n)).run P w = .ok k w' ∧ (w' = w ∨ w' = w.drew) := by
  rw [run_choose]
  by_cases hf : (Question.mapNext n).forced = true
  · rw [if_pos hf]; exact ⟨0, w, h, rfl, .inl rfl⟩
  · rw [if_neg hf]; exact ⟨_, _, Nat.mod_lt _ h, rfl, .inr rfl⟩

theorem nextOp_sound (hr : HRel P η E H w) {a : AV} {x : Value} (hx : conc η a = some x) {isS : Bool} {l : List (AV × Heap)} (h : nextOp H a isS = some l) (ty : TypeId) : SimW P E η H w (Instr.next x isS ty) l := by
  unfold nextOp at h
  split at h
  · rename_i b
    obtain ⟨r, hb, rfl⟩ := conc_ptr hx
    split at h
    · rename_i s0 seen0 st0 hg
      cases h
      obtain ⟨r', m', seen', hb', hh, hse, hm⟩ := getIter hr hg
      rw [hb] at hb'; cases hb'
      have hm : m' = none := hm
      subst hm
      exact ⟨(.tuple [.bool false], H), by simp, SimS.pure hr (x := .tuple #[.bool false]) (by simp [conc, concL]) (by simp [Instr.next, getObj, Sem.run, hh])⟩
    · rename_i m since seen last hg
      obtain ⟨r', m', seen', hb', hh, hse, rm, hrm, rfl⟩ := getIter hr hg
      rw [hb] at hb'; cases hb'
      unfold nextMap at h
      split at h
      · rename_i es clock hgm
        obtain ⟨rm2, ces, hbm, hhm, he⟩ := getMap hr hgm
        rw [hrm] at hbm; cases hbm
        cases hq : goneAll seen es last with
        | true => rw [hq] at h; cases h
        | false =>
          rw [hq] at h; simp only [cond_false, Option.some.injEq] at h
          subst h
          obtain ⟨hlen, hget⟩ := EsRel_get he
          -- the test ahead
          have htest : (!seen'.isEmpty && !ces.isEmpty && ces.all (fun e => decide (e.born ≥ last))) = false := by
            cases hs : seen with
            | nil => have : seen' = #[] := by rw [← Array.toList_eq_nil_iff, hse, hs]
                     simp [this]
            | cons s0 sr =>
              cases hes : es with
              | nil =>
                rw [hes] at hlen
                have : ces = #[] := by rw [← Array.toList_eq_nil_iff]; exact List.length_eq_zero_iff.1 (by simpa using hlen.symm)
                simp [this]
              | cons e0 er =>
                have hq2 : (es.all fun e => Nat.ble last e.2.2) = false := by rw [hs, hes] at hq; rw [hes]; exact hq
                have : (ces.all fun e => decide (e.born ≥ last)) = false := by
                  rw [Bool.eq_false_iff] at hq2 ⊢
                  intro hall
                  apply hq2
                  rw [List.all_eq_true]
                  rintro ⟨k, v, b0⟩ hm0
                  obtain ⟨i, hi, hie⟩ := List.getElem_of_mem hm0
                  obtain ⟨e, hce, _, _, hbo⟩ := hget i k v b0 (by rw [List.getElem?_eq_getElem hi, hie])
                  rw [Array.all_eq_true'] at hall
                  have := hall e (by rw [Array.mem_def]; exact List.mem_of_getElem? hce)
                  rw [hbo] at this
                  exact Nat.ble_eq_true_of_le (by simpa using this)
                rw [this]; simp
          obtain ⟨left, hleft⟩ : ∃ left, left = ces.filter fun e => !seen'.contains e.born := ⟨_, rfl⟩
          have hsc : ∀ n, seen'.contains n = elemN seen n := fun n => by rw [elemN_eq, ← hse]; simp
          have hl1 : EsRel η (es.filter fun e => notB (elemN seen e.2.2)) left.toList := by
            have := EsRel_filter (p := fun n => notB (elemN seen n)) he
            rw [hleft, Array.toList_filter]
            have e2 : (fun e : MapEntry => !seen'.contains e.born) = fun e => notB (elemN seen e.born) := by funext e; rw [hsc, notB_eq]
            rw [e2]; exact this
          have ho := EsRel_filter (p := fun n => Nat.blt n since) hl1
          have hn := EsRel_filter (p := fun n => Nat.ble since n) hl1
          obtain ⟨oldA, hoA⟩ : ∃ z, z = (es.filter fun e => notB (elemN seen e.2.2)).filter fun e => Nat.blt e.2.2 since := ⟨_, rfl⟩
          obtain ⟨newA, hnA⟩ : ∃ z, z = (es.filter fun e => notB (elemN seen e.2.2)).filter fun e => Nat.ble since e.2.2 := ⟨_, rfl⟩
          rw [← hoA] at ho; rw [← hnA] at hn
          have eo : (left.filter fun e => decide (e.born < since)).toList = left.toList.filter fun e => Nat.blt e.born since := by
            rw [Array.toList_filter]; congr 1; funext e; rw [Bool.eq_iff_iff]; simp [Nat.blt_eq]
          have en : (left.filter fun e => decide (e.born ≥ since)).toList = left.toList.filter fun e => Nat.ble since e.born := by
            rw [Array.toList_filter]; congr 1; funext e; rw [Bool.eq_iff_iff]; simp [Nat.ble_eq]
          rw [← eo] at ho; rw [← en] at hn
          obtain ⟨oldC, hoC⟩ : ∃ z, z = left.filter fun e => decide (e.born < since) := ⟨_, rfl⟩
          obtain ⟨newC, hnC⟩ : ∃ z, z = left.filter fun e => decide (e.born ≥ since) := ⟨_, rfl⟩
          rw [← hoC] at ho; rw [← hnC] at hn
          have hall := EsRel_app ho hn
          obtain ⟨hall1, hall2⟩ := EsRel_get hall
          obtain ⟨ho1, _⟩ := EsRel_get ho
          simp only [← hoA, ← hnA]
          -- what the model does
          have hrun : ∀ (k : Nat) (w' : World), (choose (.mapNext ((if oldC.isEmpty then #[none] else #[]) ++ (oldC ++ newC).map some : Array (Option MapEntry)).size)).run P w = .ok k w' → w'.heap = w.heap →
              (Instr.next (.pointer (some ⟨r, 0, none⟩)) false ty).run P w = (match ((if oldC.isEmpty then #[none] else #[]) ++ (oldC ++ newC).map some : Array (Option MapEntry))[k]? with
                | some (some e) => .ok (.tuple #[.bool true, e.key, e.val]) (World.putBlock w' r (.mapIter (some rm) since (seen'.push e.born) clock))
                | some none => .ok (.tuple #[.bool false]) w'
                | none => .halt (.stuck "Next: no such candidate") w') := by
            intro k w' hch hw'
            have hso : ∀ o, (setObj r o).run P w' = .ok () (World.putBlock w' r o) := fun o => by simp [setObj, Sem.run, hw', hh, World.putBlock]
            simp only [Instr.next, Sem.run_bind, getObj, Sem.run, hh, Result.andThen_ok, hhm, htest, Bool.false_eq_true, if_false]
            simp only [← hleft, ← hoC, ← hnC, hch, Result.andThen_ok]
            split <;> simp_all
          have over : ∀ w', w' = w ∨ w' = w.drew → SimS P E η H w (.pure (.tuple #[.bool false]) : Sem Value) (.tuple [.bool false]) H := fun _ _ => SimS.pure hr (by simp [conc, concL]) rfl
          -- the choice
          have hpos : 0 < ((if oldC.isEmpty then #[none] else #[]) ++ (oldC ++ newC).map some : Array (Option MapEntry)).size := by
            by_cases hoe : oldC.isEmpty = true
            · rw [if_pos hoe, Array.size_append]; exact Nat.lt_of_lt_of_le Nat.zero_lt_one (Nat.le_add_right 1 _)
            · have : 0 < oldC.size := by
                rcases Nat.eq_zero_or_pos oldC.size with h0 | h0
                · exact absurd (by simp [Array.eq_empty_of_size_eq_zero h0]) hoe
                · exact h0
              rw [Array.size_append, Array.size_map, Array.size_append]; omega
          obtain ⟨k, w', hk, hch, hw'⟩ := choose_in hpos w
          have hheap : w'.heap = w.heap := hw'.elim (fun e => by rw [e]) (fun e => by rw [e]; rfl)
          have hr' : HRel P η E H w' := hw'.elim (fun e => e ▸ hr) (fun e => e ▸ hr.drew)
          have tr0 : ∀ {η' H' w''}, Trans P E η H w' η' H' w'' → Trans P E η H w η' H' w'' := fun t => hw'.elim (fun e => e ▸ t) (fun e => by rw [e] at t; exact t.drew)
          have hmain := hrun k w' hch hheap
          obtain ⟨c, hc⟩ : ∃ c, ((if oldC.isEmpty then #[none] else #[]) ++ (oldC ++ newC).map some : Array (Option MapEntry))[k]? = some c := ⟨_, Array.getElem?_eq_getElem hk⟩
          rw [hc] at hmain
          have hmem : c ∈ ((if oldC.isEmpty then #[none] else #[]) ++ (oldC ++ newC).map some : Array (Option MapEntry)) := Array.mem_of_getElem? hc
          cases c with
          | none =>
            have hoe : oldC.isEmpty = true := by
              cases hoe : oldC.isEmpty with
              | true => rfl
              | false => rw [hoe] at hmem; simp at hmem
            have hoA0 : oldA = [] := by
              have : oldC = #[] := Array.isEmpty_iff.1 hoe
              rw [this] at ho1; exact List.length_eq_zero_iff.1 (by simpa using ho1)
            refine ⟨(.tuple [.bool false], H), ?_, η, .tuple #[.bool false], w', hmain, by simp [conc, concL], tr0 (Trans.refl hr'), Grow.same _ _⟩
            rw [hoA0]; simp [overOf]
          | some e =>
            have hin : e ∈ (oldC ++ newC) := by
              cases hoe : oldC.isEmpty with
              | true => rw [hoe] at hmem; simpa using hmem
              | false => rw [hoe] at hmem; simpa using hmem
            obtain ⟨i, hi⟩ := List.getElem?_of_mem (Array.mem_def.1 hin)
            rw [Array.toList_append] at hi
            obtain ⟨p, hp, h1, h2, h3⟩ := EsRel_back hall hi
            refine ⟨stepTo H b m since clock seen p, ?_, η, .tuple #[.bool true, e.key, e.val], _, hmain, by simp [stepTo, conc, concL, h1, h2], tr0 (Trans.put hr' hg hb (.mapIter (some m) since (seen ++ [p.2.2]) clock) _ ?_ rfl), Grow.put hg⟩
            · exact List.mem_append.2 (.inr (List.mem_map.2 ⟨p, hp, rfl⟩))
            · exact ⟨⟨rm, hrm, rfl⟩, rfl, by rw [Array.toList_push, hse, h3], rfl⟩
      · cases h
    · cases h
  · cases h
end Go.VmK
