/-
  A machine that runs the model with abstract blocks, and lemmas on it: whatever it answers of a call is what the model does (ProgOK, Base: the conditions).
-/
import Derived.Test.YthcnhdiipbpdgaaGreatDoorR5c
import Derived.Orders
namespace Go.VmK

theorem tb_or (S i j : Nat) : (S ||| 2 ^ i).testBit j = (S.testBit j || decide (i = j)) := by rw [Nat.testBit_or, Nat.testBit_two_pow]
theorem tb_true {S i j : Nat} (h : (S ||| 2 ^ i).testBit j = true) : S.testBit j = true ∨ j = i := by
  rw [tb_or, Bool.or_eq_true] at h
  exact h.imp id fun x => (of_decide_eq_true x).symm
theorem tb_false {S i j : Nat} (h : (S ||| 2 ^ i).testBit j = false) : S.testBit j = false ∧ j ≠ i := by
  rw [tb_or, Bool.or_eq_false_iff] at h
  exact ⟨h.1, fun e => by have := h.2; simp [e] at this⟩
theorem tb_old {S i j : Nat} (h : S.testBit j = true) : (S ||| 2 ^ i).testBit j = true := by rw [tb_or, h]; rfl
theorem tb_new (S i : Nat) : (S ||| 2 ^ i).testBit i = true := by rw [tb_or]; simp
theorem tb_ne {S i j : Nat} (h : j ≠ i) : (S ||| 2 ^ i).testBit j = S.testBit j := by rw [tb_or, decide_eq_false (Ne.symm h), Bool.or_false]

/-- a list of operations that may be an order of what is left behind S -/
inductive Lin (ops : Array Oper) : Nat → List Nat → Prop
  | nil {S : Nat} : (∀ (i : Nat) (o : Oper), ops[i]? = some o → S.testBit i = false → readyIn S o = false) → Lin ops S []
  | cons {S i : Nat} {o : Oper} {l : List Nat} : ops[i]? = some o → S.testBit i = false → readyIn S o = true → Lin ops (S ||| 2 ^ i) l → Lin ops S (i :: l)
theorem binds_any (e : Edge) : Region.binds .any e = bindsAny e := by
  unfold Region.binds bindsAny
  cases e.ground <;> rfl
theorem readyIn_iff {S : Nat} {o : Oper} : readyIn S o = true ↔ ∀ e ∈ o.after, bindsAny e = true → S.testBit e.on = true := by
  unfold readyIn
  rw [List.all_eq_true]
  constructor
  · intro h e he hb
    have := h e (by simpa using he)
    simpa [hb] using this
  · intro h e he
    cases hb : bindsAny e with
    | false => rfl
    | true => simp [h e (by simpa using he) hb]
theorem filter_lt {S i n : Nat} (hi : i < n) (h : S.testBit i = false) : ((List.range n).filter fun j => !(S ||| 2 ^ i).testBit j).length < ((List.range n).filter fun j => !S.testBit j).length := by
  have e : ((List.range n).filter fun j => !(S ||| 2 ^ i).testBit j) = ((List.range n).filter fun j => !S.testBit j).filter fun j => !decide (i = j) := by
    rw [List.filter_filter]
    congr 1; funext j
    rw [tb_or]
    cases S.testBit j <;> cases decide (i = j) <;> rfl
  rw [e]
  refine List.length_filter_lt_length_iff_exists.2 ⟨i, ?_, by simp⟩
  rw [List.mem_filter]
  exact ⟨List.mem_range.2 hi, by simp [h]⟩
theorem lin_go {ops : Array Oper} : ∀ (fuel t : Nat) (listed : Array Bool) (S : Nat), listed.size = ops.size → (∀ j, listed.getD j false = S.testBit j) →
    ((List.range ops.size).filter fun j => !S.testBit j).length ≤ fuel → Lin ops S (Region.linearise.go .any ops fuel t listed [])
  | 0, t, listed, S, hs, hl, hf => by
    refine .nil fun i o ho hi => ?_
    have hlt : i < ops.size := (Array.getElem?_eq_some_iff.1 ho).1
    have h0 : ((List.range ops.size).filter fun j => !S.testBit j) = [] := List.length_eq_zero_iff.1 (by omega)
    have : i ∈ ((List.range ops.size).filter fun j => !S.testBit j) := List.mem_filter.2 ⟨List.mem_range.2 hlt, by simp [hi]⟩
    rw [h0] at this; cases this
  | fuel + 1, t, listed, S, hs, hl, hf => by
    simp only [Region.linearise.go]
    change Lin ops S (match (Region.ready .any ops listed)[t % (Region.ready .any ops listed).length]? with
      | some i => Region.linearise.go .any ops fuel (t / (Region.ready .any ops listed).length) (listed.setIfInBounds i true) [i]
      | none => [].reverse)
    have hget : ∀ j, j < ops.size → listed.getD j true = S.testBit j := fun j hj => by
      rw [← hl j]; simp [Array.getD, hs, hj]
    cases hi : (Region.ready .any ops listed)[t % (Region.ready .any ops listed).length]? with
    | none =>
      have hnil : Region.ready .any ops listed = [] := by
        cases hr : Region.ready .any ops listed with
        | nil => rfl
        | cons x xs =>
          rw [hr] at hi
          have hlt : t % (x :: xs).length < (x :: xs).length := Nat.mod_lt _ (by simp)
          simp at hi
          simp at hlt
          omega
      refine .nil fun i o ho hS => ?_
      have hlt : i < ops.size := (Array.getElem?_eq_some_iff.1 ho).1
      cases hq : readyIn S o with
      | false => rfl
      | true =>
        have : i ∈ Region.ready .any ops listed := mem_ready.2 ⟨by rw [hget i hlt, hS], o, ho, fun e he hb => by rw [hl]; exact readyIn_iff.1 hq e he (by rw [← binds_any]; exact hb)⟩
        rw [hnil] at this; cases this
    | some i =>
      simp only []
      rw [linearise_go_acc, List.reverse_singleton, List.singleton_append]
      obtain ⟨h0, o, ho, h1⟩ := mem_ready.1 (List.mem_of_getElem? hi)
      have hlt : i < ops.size := (Array.getElem?_eq_some_iff.1 ho).1
      have hS : S.testBit i = false := by rw [← hget i hlt]; exact h0
      refine .cons ho hS (readyIn_iff.2 fun e he hb => by rw [← hl]; exact h1 e he (by rw [binds_any]; exact hb)) (lin_go fuel _ _ _ (by simp [hs]) ?_ ?_)
      · intro j
        by_cases e : j = i
        · subst e; rw [tb_new]; simp [Array.getD, hs, hlt]
        · rw [getD_set_ne _ (Ne.symm e), hl, tb_ne e]
      · have := filter_lt hlt hS
        omega
theorem lin_all (ops : Array Oper) (t : Nat) : Lin ops 0 (Region.linearise .any ops t) := by
  unfold Region.linearise
  refine lin_go ops.size t _ 0 (by simp) (fun j => ?_) ?_
  · rw [Nat.zero_testBit]
    simp only [Array.getD]
    split <;> simp
  · have := List.length_filter_le (fun j => !Nat.testBit 0 j) (List.range ops.size)
    simpa using this

/-! the masks -/
theorem mask_fold (acc : List Nat) : ∀ (l : List Edge) (s j : Nat), (l.foldl (fun s e => bif bindsAny e then s ||| 2 ^ e.on ||| acc.getD e.on 0 else s) s).testBit j = true →
    s.testBit j = true ∨ ∃ e ∈ l, bindsAny e = true ∧ (e.on = j ∨ (acc.getD e.on 0).testBit j = true)
  | [], s, j, h => .inl h
  | e :: l, s, j, h => by
    simp only [List.foldl_cons] at h
    rcases mask_fold acc l _ j h with h1 | ⟨e', he', h2⟩
    · cases hb : bindsAny e with
      | false => rw [hb] at h1; exact .inl h1
      | true =>
        rw [hb] at h1; simp only [cond_true] at h1
        rw [Nat.testBit_or, Bool.or_eq_true] at h1
        rcases h1 with h1 | h1
        · rcases tb_true h1 with h1 | h1
          · exact .inl h1
          · exact .inr ⟨e, by simp, hb, .inl h1.symm⟩
        · exact .inr ⟨e, by simp, hb, .inr h1⟩
    · exact .inr ⟨e', by simp [he'], h2⟩
theorem masks_spec : ∀ (l : List Oper) (acc : List Nat), (∀ i, i < acc.length → (masks l acc).getD i 0 = acc.getD i 0) ∧
    ∀ (i : Nat) (o : Oper), l[i]? = some o → ∀ j, ((masks l acc).getD (acc.length + i) 0).testBit j = true → ∃ e ∈ o.after, bindsAny e = true ∧ (e.on = j ∨ ((masks l acc).getD e.on 0).testBit j = true)
  | [], acc => ⟨fun i _ => rfl, fun i o h => by simp at h⟩
  | x :: r, acc => by
    obtain ⟨y, hy⟩ : ∃ y, y = x.after.toList.foldl (fun s e => bif bindsAny e then s ||| 2 ^ e.on ||| acc.getD e.on 0 else s) 0 := ⟨_, rfl⟩
    obtain ⟨h1, h2⟩ := masks_spec r (acc ++ [y])
    have hm : masks (x :: r) acc = masks r (acc ++ [y]) := by rw [hy]; rfl
    rw [hm]
    have hold : ∀ i, i < acc.length → (masks r (acc ++ [y])).getD i 0 = acc.getD i 0 := fun i hi => by
      rw [h1 i (by simp; omega)]
      simp [List.getD, List.getElem?_append_left hi]
    refine ⟨hold, fun i o ho j hj => ?_⟩
    cases i with
    | zero =>
      simp only [List.getElem?_cons_zero, Option.some.injEq] at ho; subst ho
      rw [Nat.add_zero, h1 _ (by simp)] at hj
      have e : (acc ++ [y]).getD acc.length 0 = y := by simp [List.getD]
      rw [e, hy] at hj
      rcases mask_fold acc _ _ _ hj with h3 | ⟨e', he', hb, h3⟩
      · simp at h3
      · refine ⟨e', by simpa using he', hb, h3.imp id fun h4 => ?_⟩
        by_cases hlt : e'.on < acc.length
        · rw [hold _ hlt]; exact h4
        · simp [List.getD, Nat.le_of_not_lt hlt] at h4
    | succ i =>
      simp only [List.getElem?_cons_succ] at ho
      have := h2 i o ho j (by
        have e : (acc ++ [y]).length + i = acc.length + (i + 1) := by simp; omega
        rw [e]; exact hj)
      exact this
def mask (ops : Array Oper) (i : Nat) : Nat := (masks ops.toList []).getD i 0
theorem mask_spec {ops : Array Oper} {i : Nat} {o : Oper} (ho : ops[i]? = some o) {j : Nat} (h : (mask ops i).testBit j = true) : ∃ e ∈ o.after, bindsAny e = true ∧ (e.on = j ∨ (mask ops e.on).testBit j = true) :=
  (masks_spec ops.toList []).2 i o (by simpa using ho) j (by simpa [mask] using h)
/-- whatever must be ahead of what is done, is done -/
def Closed (ops : Array Oper) (S : Nat) : Prop := ∀ i, S.testBit i = true → ∀ j, (mask ops i).testBit j = true → S.testBit j = true
theorem Closed.ready {ops : Array Oper} {S i : Nat} {o : Oper} (hc : Closed ops S) (ho : ops[i]? = some o) (hr : readyIn S o = true) {j : Nat} (h : (mask ops i).testBit j = true) : S.testBit j = true := by
  obtain ⟨e, he, hb, h1⟩ := mask_spec ho h
  have := readyIn_iff.1 hr e he hb
  rcases h1 with h1 | h1
  · rw [← h1]; exact this
  · exact hc _ this _ h1
theorem Closed.add {ops : Array Oper} {S i : Nat} {o : Oper} (hc : Closed ops S) (ho : ops[i]? = some o) (hr : readyIn S o = true) : Closed ops (S ||| 2 ^ i) := by
  intro j hj k hk
  rcases tb_true hj with h | h
  · exact tb_old (hc j h k hk)
  · subst h; exact tb_old (hc.ready ho hr hk)
theorem Closed.zero (ops : Array Oper) : Closed ops 0 := fun i h => by simp at h

/-- the order in which the machine's own run goes -/
def Ranked (ops : Array Oper) (A : Nat) : Prop := ∃ (rk : Nat → Nat) (c : Nat), ∀ i, A.testBit i = true → rk i < c ∧ ∀ o, ops[i]? = some o → ∀ e ∈ o.after, bindsAny e = true → A.testBit e.on = true ∧ rk e.on < rk i
theorem Ranked.zero (ops : Array Oper) : Ranked ops 0 := ⟨fun _ => 0, 0, fun i h => by simp at h⟩
theorem Ranked.add {ops : Array Oper} {A i : Nat} {o : Oper} (h : Ranked ops A) (ho : ops[i]? = some o) (hi : A.testBit i = false) (hr : readyIn A o = true) : Ranked ops (A ||| 2 ^ i) := by
  obtain ⟨rk, c, h⟩ := h
  refine ⟨fun j => if j = i then c else rk j, c + 1, fun j hj => ?_⟩
  rcases tb_true hj with h1 | h1
  · obtain ⟨g1, g2⟩ := h j h1
    have hne : j ≠ i := fun e => by subst e; rw [hi] at h1; cases h1
    simp only [hne, if_false]
    refine ⟨by omega, fun o' ho' e he hb => ?_⟩
    obtain ⟨k1, k2⟩ := g2 o' ho' e he hb
    have hne2 : e.on ≠ i := fun x => by rw [x, hi] at k1; cases k1
    exact ⟨tb_old k1, by simp only [hne2, if_false]; exact k2⟩
  · subst h1
    simp only [if_true]
    refine ⟨by omega, fun o' ho' e he hb => ?_⟩
    rw [ho] at ho'; cases ho'
    have k1 := readyIn_iff.1 hr e he hb
    have hne2 : e.on ≠ j := fun x => by rw [x, hi] at k1; cases k1
    exact ⟨tb_old k1, by simp only [hne2, if_false]; exact (h _ k1).1⟩
/-- where something is ahead, something of it is ready -/
theorem Ranked.first {ops : Array Oper} {A S : Nat} (h : Ranked ops A) (hb : ∀ i, A.testBit i = true → i < ops.size) {i : Nat} (hA : A.testBit i = true) (hS : S.testBit i = false) :
    ∃ j o, ops[j]? = some o ∧ S.testBit j = false ∧ readyIn S o = true := by
  obtain ⟨rk, c, h⟩ := h
  suffices H : ∀ r i, rk i = r → A.testBit i = true → S.testBit i = false → ∃ j o, ops[j]? = some o ∧ S.testBit j = false ∧ readyIn S o = true from H _ i rfl hA hS
  intro r
  induction r using Nat.strongRecOn with
  | _ r ih =>
    intro i hr hA hS
    obtain ⟨o, ho⟩ : ∃ o, ops[i]? = some o := ⟨_, Array.getElem?_eq_getElem (hb i hA)⟩
    cases hq : readyIn S o with
    | true => exact ⟨i, o, ho, hS, hq⟩
    | false =>
      obtain ⟨e, he, hbi, hn⟩ : ∃ e ∈ o.after, bindsAny e = true ∧ S.testBit e.on = false := by
        apply Classical.byContradiction
        intro hcon
        have : readyIn S o = true := readyIn_iff.2 fun e he hbi => by
          cases hn : S.testBit e.on with
          | true => rfl
          | false => exact absurd ⟨e, he, hbi, hn⟩ hcon
        rw [hq] at this; cases this
      obtain ⟨k1, k2⟩ := (h i hA).2 o ho e he hbi
      exact ih (rk e.on) (hr ▸ k2) e.on rfl k1 hn
end Go.VmK
