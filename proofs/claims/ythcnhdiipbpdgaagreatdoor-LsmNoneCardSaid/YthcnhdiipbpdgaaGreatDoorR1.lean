/-
  A machine that runs the model with abstract blocks, and lemmas on it: whatever it answers of a call is what the model does (ProgOK, Base: the conditions).
-/
import Derived.Test.YthcnhdiipbpdgaaGreatDoorVmK
import Derived.Calls
namespace Go.VmK

/-! The trie -/
theorem Tr.get_lf {α : Type} (i : Nat) : (Tr.lf : Tr α).get i = none := rfl
theorem Tr.get_nd {α : Type} (l : Tr α) (v : Option α) (r : Tr α) (i : Nat) :
    (Tr.nd l v r).get i = if i = 0 then v else if i % 2 = 1 then l.get (i / 2) else r.get (i / 2 - 1) := by
  show Bool.rec (motive := fun _ => Option α) (Bool.rec (motive := fun _ => Option α) (r.get (Nat.pred (Nat.div i 2))) (l.get (Nat.div i 2)) (Nat.beq (Nat.mod i 2) 1)) v (Nat.beq i 0) = _
  have e1 : Nat.beq i 0 = decide (i = 0) := by cases i <;> rfl
  have e2 : Nat.beq (Nat.mod i 2) 1 = decide (i % 2 = 1) := by
    show Nat.beq (i % 2) 1 = _
    rw [Bool.eq_iff_iff]; simp [Nat.beq_eq]
  rw [e1, e2]
  by_cases h : i = 0
  · simp [h]
  · by_cases h2 : i % 2 = 1
    · simp [h, h2]; rfl
    · simp [h, h2]; rfl
theorem Tr.putF_lf {α : Type} (i : Nat) (x : Option α) : (Tr.lf : Tr α).putF i x = Tr.leafPut x (i + 1) i := rfl
theorem Tr.leafPut_succ {α : Type} (x : Option α) (k i : Nat) :
    Tr.leafPut x (k + 1) i = if i = 0 then .nd .lf x .lf else if i % 2 = 1 then .nd (Tr.leafPut x k (i / 2)) none .lf else .nd .lf none (Tr.leafPut x k (i / 2 - 1)) := by
  show Bool.rec (motive := fun _ => Tr α) (Bool.rec (motive := fun _ => Tr α) (Tr.nd .lf none (Tr.leafPut x k (Nat.pred (Nat.div i 2)))) (.nd (Tr.leafPut x k (Nat.div i 2)) none .lf) (Nat.beq (Nat.mod i 2) 1)) (.nd .lf x .lf) (Nat.beq i 0) = _
  have e1 : Nat.beq i 0 = decide (i = 0) := by cases i <;> rfl
  have e2 : Nat.beq (Nat.mod i 2) 1 = decide (i % 2 = 1) := by
    show Nat.beq (i % 2) 1 = _
    rw [Bool.eq_iff_iff]; simp [Nat.beq_eq]
  rw [e1, e2]
  by_cases h : i = 0
  · simp [h]
  · by_cases h2 : i % 2 = 1
    · simp [h, h2]; rfl
    · simp [h, h2]; rfl
theorem Tr.putF_nd {α : Type} (l : Tr α) (v : Option α) (r : Tr α) (i : Nat) (x : Option α) :
    (Tr.nd l v r).putF i x = if i = 0 then .nd l x r else if i % 2 = 1 then .nd (l.putF (i / 2) x) v r else .nd l v (r.putF (i / 2 - 1) x) := by
  show Bool.rec (motive := fun _ => Tr α) (Bool.rec (motive := fun _ => Tr α) (Tr.nd l v (r.putF (Nat.pred (Nat.div i 2)) x)) (.nd (l.putF (Nat.div i 2) x) v r) (Nat.beq (Nat.mod i 2) 1)) (.nd l x r) (Nat.beq i 0) = _
  have e1 : Nat.beq i 0 = decide (i = 0) := by cases i <;> rfl
  have e2 : Nat.beq (Nat.mod i 2) 1 = decide (i % 2 = 1) := by
    show Nat.beq (i % 2) 1 = _
    rw [Bool.eq_iff_iff]; simp [Nat.beq_eq]
  rw [e1, e2]
  by_cases h : i = 0
  · simp [h]
  · by_cases h2 : i % 2 = 1
    · simp [h, h2]; rfl
    · simp [h, h2]; rfl
theorem Tr.get_leafPut {α : Type} (x : Option α) : ∀ (k i j : Nat), i < k → (Tr.leafPut x k i).get j = if j = i then x else none
  | 0, i, j, h => by omega
  | k + 1, i, j, h => by
    rw [Tr.leafPut_succ]
    by_cases h0 : i = 0
    · subst h0
      rw [if_pos rfl, Tr.get_nd]
      by_cases hj : j = 0
      · simp [hj]
      · simp [hj, Tr.get_lf]
    · rw [if_neg h0]
      by_cases h1 : i % 2 = 1
      · rw [if_pos h1, Tr.get_nd, Tr.get_leafPut x k (i / 2) _ (by omega), Tr.get_lf]
        by_cases hj : j = 0
        · have : ¬ 0 = i := by omega
          simp [hj, this]
        · by_cases hj1 : j % 2 = 1
          · simp only [hj, hj1, if_true, if_false]
            by_cases he : j = i
            · simp [he]
            · rw [if_neg he, if_neg (by omega)]
          · simp only [hj, hj1, if_false]
            rw [if_neg (by omega)]
      · rw [if_neg h1, Tr.get_nd, Tr.get_leafPut x k (i / 2 - 1) _ (by omega), Tr.get_lf]
        by_cases hj : j = 0
        · have : ¬ 0 = i := by omega
          simp [hj, this]
        · by_cases hj1 : j % 2 = 1
          · simp only [hj, hj1, if_true, if_false]
            rw [if_neg (by omega)]
          · simp only [hj, hj1, if_false]
            by_cases he : j = i
            · simp [he]
            · rw [if_neg he, if_neg (by omega)]
theorem Tr.get_putF {α : Type} (x : Option α) (t : Tr α) : ∀ (i j : Nat), (t.putF i x).get j = if j = i then x else t.get j := by
  induction t with
  | lf => intro i j; rw [Tr.putF_lf, Tr.get_leafPut x _ _ _ (by omega), Tr.get_lf]
  | nd l v r ihl ihr =>
    intro i j
    rw [Tr.putF_nd]
    by_cases h0 : i = 0
    · subst h0
      rw [if_pos rfl, Tr.get_nd, Tr.get_nd]
      by_cases hj : j = 0 <;> simp [hj]
    · rw [if_neg h0]
      by_cases h1 : i % 2 = 1
      · rw [if_pos h1, Tr.get_nd, Tr.get_nd, ihl]
        by_cases hj : j = 0
        · have : ¬ 0 = i := by omega
          simp [hj, this]
        · by_cases hj1 : j % 2 = 1
          · simp only [hj, hj1, if_true, if_false]
            by_cases he : j = i
            · simp [he]
            · rw [if_neg he, if_neg (by omega)]
          · simp only [hj, hj1, if_false]
            rw [if_neg (by omega : ¬ j = i)]
      · rw [if_neg h1, Tr.get_nd, Tr.get_nd, ihr]
        by_cases hj : j = 0
        · have : ¬ 0 = i := by omega
          simp [hj, this]
        · by_cases hj1 : j % 2 = 1
          · simp only [hj, hj1, if_true, if_false]
            rw [if_neg (by omega : ¬ j = i)]
          · simp only [hj, hj1, if_false]
            by_cases he : j = i
            · simp [he]
            · rw [if_neg he, if_neg (by omega)]
theorem Tr.get_set {α : Type} (t : Tr α) (i j : Nat) (v : α) : (t.set i v).get j = if j = i then some v else t.get j := Tr.get_putF _ _ _ _
theorem Tr.get_del {α : Type} (t : Tr α) (i j : Nat) : (t.del i).get j = if j = i then none else t.get j := Tr.get_putF _ _ _ _
theorem Tr.get_setL {α : Type} (l : List α) : ∀ (t : Tr α) (i j : Nat), (t.setL i l).get j = if i ≤ j ∧ j < i + l.length then l[j - i]? else t.get j := by
  induction l with
  | nil => intro t i j; simp only [Tr.setL, List.length_nil]; rw [if_neg (by omega)]
  | cons v vs ih =>
    intro t i j
    simp only [Tr.setL, ih, List.length_cons, Tr.get_set]
    by_cases h : i + 1 ≤ j ∧ j < i + 1 + vs.length
    · rw [if_pos h, if_pos (by omega)]
      have : j - i = (j - (i + 1)) + 1 := by omega
      rw [this, List.getElem?_cons_succ]
    · rw [if_neg h]
      by_cases he : j = i
      · subst he; simp
      · rw [if_neg he, if_neg (by omega)]
theorem Tr.getL_some {α : Type} (t : Tr α) : ∀ (n i : Nat) (l : List α), t.getL i n = some l → l.length = n ∧ ∀ k, k < n → t.get (i + k) = l[k]?
  | 0, i, l, h => by simp [Tr.getL] at h; subst h; simp
  | n + 1, i, l, h => by
    simp only [Tr.getL] at h
    cases h1 : t.get i with
    | none => simp [h1] at h
    | some v =>
      cases h2 : t.getL (i + 1) n with
      | none => simp [h1, h2] at h
      | some vs =>
        simp [h1, h2] at h; subst h
        obtain ⟨hl, hk⟩ := Tr.getL_some t n (i + 1) vs h2
        refine ⟨by simp [hl], fun k hk' => ?_⟩
        cases k with
        | zero => simpa using h1
        | succ k => rw [List.getElem?_cons_succ, ← hk k (by omega)]; exact congrArg t.get (by omega)
theorem Tr.get_ofL {α : Type} (l : List α) (j : Nat) : (Tr.ofL l).get j = l[j]? := by
  unfold Tr.ofL; rw [Tr.get_setL]
  by_cases h : j < l.length
  · rw [if_pos (by omega)]; simp
  · rw [if_neg (by omega), Tr.get_lf, List.getElem?_eq_none (by omega)]

theorem evens_get {α : Type} : ∀ (l : List α) (i : Nat), (evens l)[i]? = l[2 * i]?
  | [], i => by simp [evens]
  | [x], i => by
    cases i with
    | zero => simp [evens]
    | succ i => simp [evens]
  | x :: y :: r, i => by
    cases i with
    | zero => simp [evens]
    | succ i =>
      have := evens_get r i
      simp only [evens, List.getElem?_cons_succ, this]
      rw [show 2 * (i + 1) = 2 * i + 1 + 1 from by omega, List.getElem?_cons_succ, List.getElem?_cons_succ]
theorem odds_get {α : Type} : ∀ (l : List α) (i : Nat), (odds l)[i]? = l[2 * i + 1]?
  | [], i => by simp [odds]
  | [x], i => by simp [odds]
  | x :: y :: r, i => by
    cases i with
    | zero => simp [odds]
    | succ i =>
      have := odds_get r i
      simp only [odds, List.getElem?_cons_succ, this]
      rw [show 2 * (i + 1) = 2 * i + 1 + 1 from by omega, List.getElem?_cons_succ]
theorem Tr.build_get {α : Type} : ∀ (k : Nat) (l : List α) (i : Nat) (v : α), (Tr.build k l).get i = some v → l[i]? = some v
  | 0, l, i, v, h => by simp [Tr.build, Tr.get_lf] at h
  | k + 1, [], i, v, h => by simp [Tr.build, Tr.get_lf] at h
  | k + 1, x :: r, i, v, h => by
    simp only [Tr.build, Tr.get_nd] at h
    by_cases h0 : i = 0
    · simp [h0] at h ⊢; exact h
    · rw [if_neg h0] at h
      by_cases h1 : i % 2 = 1
      · rw [if_pos h1] at h
        have := Tr.build_get k _ _ _ h
        rw [evens_get] at this
        obtain ⟨j, rfl⟩ : ∃ j, i = j + 1 := ⟨i - 1, by omega⟩
        rw [List.getElem?_cons_succ, ← this]; congr 1; omega
      · rw [if_neg h1] at h
        have := Tr.build_get k _ _ _ h
        rw [odds_get] at this
        obtain ⟨j, rfl⟩ : ∃ j, i = j + 1 := ⟨i - 1, by omega⟩
        rw [List.getElem?_cons_succ, ← this]; congr 1; omega

/-! What the abstract numbers stand for -/
structure Env where
  ρ : Nat → Option Nat
  κ : Nat → Option Nat
  σ : Nat → Option Value

structure Env.le (η η' : Env) : Prop where
  ρ : ∀ i r, η.ρ i = some r → η'.ρ i = some r
  κ : ∀ i r, η.κ i = some r → η'.κ i = some r
  σ : ∀ i r, η.σ i = some r → η'.σ i = some r
theorem Env.le.refl (η : Env) : η.le η := ⟨fun _ _ h => h, fun _ _ h => h, fun _ _ h => h⟩
theorem Env.le.trans {a b c : Env} (h : a.le b) (g : b.le c) : a.le c := ⟨fun i r x => g.ρ i r (h.ρ i r x), fun i r x => g.κ i r (h.κ i r x), fun i r x => g.σ i r (h.σ i r x)⟩

def capOf (η : Env) : Cap → Option Nat
  | .lit n => some n
  | .var b less => match η.κ b with
    | some n => if less ≤ n then some (n - less) else none
    | none => none

mutual
def conc (η : Env) : AV → Option Value
  | .bool b => some (.bool b)
  | .int k n => some (.int k n)
  | .str s => some (.string ⟨s.toArray⟩)
  | .nilp => some (.pointer none)
  | .ptr b off => match η.ρ b with | some r => some (.pointer (some ⟨r, off, none⟩)) | none => none
  | .gptr g off => some (.pointer (some ⟨g, off, none⟩))
  | .nils => some (.slice none 0 0)
  | .slice b off len cap => match η.ρ b, capOf η cap with
    | some r, some c => if len ≤ c then some (.slice (some ⟨r, off, none⟩) len c) else none
    | _, _ => none
  | .nilm => some (.map none)
  | .map b => match η.ρ b with | some r => some (.map (some r)) | none => none
  | .func f a b => match concL η a, concL η b with
    | some x, some y => some (.func (.func f) x.toArray y.toArray)
    | _, _ => none
  | .yield l => match η.ρ l with | some r => some (.func (.yield r) #[] #[]) | none => none
  | .nilFunc => some .nilFunc
  | .iface t v => match conc η v with | some x => some (.iface t x) | none => none
  | .nilIface => some .nilIface
  | .agg l => match concL η l with | some x => some (.agg x.toArray) | none => none
  | .tuple l => match concL η l with | some x => some (.tuple x.toArray) | none => none
  | .sym i => η.σ i
  | .slice0 b off off' k less => match η.ρ b, capOf η (.var k less) with
    | some r, some c => some (.slice (some ⟨r, bif Nat.beq c 0 then off else off', none⟩) 0 c)
    | _, _ => none
  | .symStr i => match η.σ i with
    | some (.string s) => some (.string s)
    | _ => none
  | .symLen i => match η.σ i with
    | some (.string s) => some (.int .i64 (Int.ofNat s.size))
    | _ => none
  | .symInt k i => match η.σ i with
    | some (.int k' n) => if k' = k then some (.int k n) else none
    | _ => none
def concL (η : Env) : List AV → Option (List Value)
  | [] => some []
  | a :: l => match conc η a, concL η l with
    | some x, some xs => some (x :: xs)
    | _, _ => none
end

theorem capOf_mono {η η' : Env} (h : η.le η') {c : Cap} {n : Nat} (hc : capOf η c = some n) : capOf η' c = some n := by
  cases c with
  | lit m => exact hc
  | var b less =>
    simp only [capOf] at hc ⊢
    cases hk : η.κ b with
    | none => simp [hk] at hc
    | some m => rw [hk] at hc; rw [h.κ _ _ hk]; exact hc

mutual
theorem conc_mono {η η' : Env} (h : η.le η') : ∀ (v : AV) (x : Value), conc η v = some x → conc η' v = some x
  | .bool _, _, hc | .int _ _, _, hc | .str _, _, hc | .nilp, _, hc | .gptr _ _, _, hc | .nils, _, hc | .nilm, _, hc | .nilFunc, _, hc | .nilIface, _, hc => by
    simpa [conc] using hc
  | .ptr b off, x, hc => by
    simp only [conc] at hc ⊢
    cases hk : η.ρ b with
    | none => simp [hk] at hc
    | some r => rw [hk] at hc; rw [h.ρ _ _ hk]; exact hc
  | .map b, x, hc => by
    simp only [conc] at hc ⊢
    cases hk : η.ρ b with
    | none => simp [hk] at hc
    | some r => rw [hk] at hc; rw [h.ρ _ _ hk]; exact hc
  | .yield b, x, hc => by
    simp only [conc] at hc ⊢
    cases hk : η.ρ b with
    | none => simp [hk] at hc
    | some r => rw [hk] at hc; rw [h.ρ _ _ hk]; exact hc
  | .slice b off len cap, x, hc => by
    simp only [conc] at hc ⊢
    cases hk : η.ρ b with
    | none => simp [hk] at hc
    | some r =>
      cases hm : capOf η cap with
      | none => simp [hk, hm] at hc
      | some c => rw [hk, hm] at hc; rw [h.ρ _ _ hk, capOf_mono h hm]; exact hc
  | .func f a b, x, hc => by
    simp only [conc] at hc ⊢
    cases h1 : concL η a with
    | none => simp [h1] at hc
    | some a' =>
      cases h2 : concL η b with
      | none => simp [h1, h2] at hc
      | some b' => rw [h1, h2] at hc; rw [concL_mono h a a' h1, concL_mono h b b' h2]; exact hc
  | .iface t v, x, hc => by
    simp only [conc] at hc ⊢
    cases h1 : conc η v with
    | none => simp [h1] at hc
    | some a' => rw [h1] at hc; rw [conc_mono h v a' h1]; exact hc
  | .agg l, x, hc => by
    simp only [conc] at hc ⊢
    cases h1 : concL η l with
    | none => simp [h1] at hc
    | some a' => rw [h1] at hc; rw [concL_mono h l a' h1]; exact hc
  | .tuple l, x, hc => by
    simp only [conc] at hc ⊢
    cases h1 : concL η l with
    | none => simp [h1] at hc
    | some a' => rw [h1] at hc; rw [concL_mono h l a' h1]; exact hc
  | .sym i, x, hc => by simp only [conc] at hc ⊢; exact h.σ _ _ hc
  | .slice0 b off off' k less, x, hc => by
    simp only [conc] at hc ⊢
    cases h1 : η.ρ b with
    | none => simp [h1] at hc
    | some r =>
      cases h2 : capOf η (.var k less) with
      | none => simp [h1, h2] at hc
      | some c => rw [h1, h2] at hc; rw [h.ρ _ _ h1, capOf_mono h h2]; exact hc
  | .symStr i, x, hc => by
    simp only [conc] at hc ⊢
    cases hk : η.σ i with
    | none => simp [hk] at hc
    | some r => rw [hk] at hc; rw [h.σ _ _ hk]; exact hc
  | .symLen i, x, hc => by
    simp only [conc] at hc ⊢
    cases hk : η.σ i with
    | none => simp [hk] at hc
    | some r => rw [hk] at hc; rw [h.σ _ _ hk]; exact hc
  | .symInt k i, x, hc => by
    simp only [conc] at hc ⊢
    cases hk : η.σ i with
    | none => simp [hk] at hc
    | some r => rw [hk] at hc; rw [h.σ _ _ hk]; exact hc
theorem concL_mono {η η' : Env} (h : η.le η') : ∀ (l : List AV) (x : List Value), concL η l = some x → concL η' l = some x
  | [], _, hc => hc
  | a :: l, x, hc => by
    simp only [concL] at hc ⊢
    cases h1 : conc η a with
    | none => simp [h1] at hc
    | some a' =>
      cases h2 : concL η l with
      | none => simp [h1, h2] at hc
      | some b' => rw [h1, h2] at hc; rw [conc_mono h a a' h1, concL_mono h l b' h2]; exact hc
end

theorem concL_length {η : Env} : ∀ {l : List AV} {x : List Value}, concL η l = some x → x.length = l.length
  | [], x, h => by simp [concL] at h; simp [h]
  | a :: l, x, h => by
    simp only [concL] at h
    cases h1 : conc η a with
    | none => simp [h1] at h
    | some a' =>
      cases h2 : concL η l with
      | none => simp [h1, h2] at h
      | some b' => rw [h1, h2] at h; simp at h; subst h; simp [concL_length h2]
theorem concL_get {η : Env} : ∀ {l : List AV} {x : List Value}, concL η l = some x → ∀ (i : Nat) (v : AV), l[i]? = some v → ∃ y, x[i]? = some y ∧ conc η v = some y
  | [], x, h, i, v, hv => by simp at hv
  | a :: l, x, h, i, v, hv => by
    simp only [concL] at h
    cases h1 : conc η a with
    | none => simp [h1] at h
    | some a' =>
      cases h2 : concL η l with
      | none => simp [h1, h2] at h
      | some b' =>
        rw [h1, h2] at h; simp at h; subst h
        cases i with
        | zero => simp at hv; subst hv; exact ⟨a', by simp, h1⟩
        | succ i => rw [List.getElem?_cons_succ] at hv; obtain ⟨y, hy, hc⟩ := concL_get h2 i v hv; exact ⟨y, by rw [List.getElem?_cons_succ]; exact hy, hc⟩
theorem concL_append {η : Env} : ∀ {l m : List AV} {x y : List Value}, concL η l = some x → concL η m = some y → concL η (l ++ m) = some (x ++ y)
  | [], m, x, y, h, g => by simp [concL] at h; subst h; simpa using g
  | a :: l, m, x, y, h, g => by
    simp only [concL] at h
    cases h1 : conc η a with
    | none => simp [h1] at h
    | some a' =>
      cases h2 : concL η l with
      | none => simp [h1, h2] at h
      | some b' => rw [h1, h2] at h; simp at h; subst h; simp [concL, h1, concL_append h2 g]
theorem concL_of_get {η : Env} : ∀ {l : List AV} {x : List Value}, x.length = l.length → (∀ (i : Nat) (v : AV), l[i]? = some v → ∃ y, x[i]? = some y ∧ conc η v = some y) → concL η l = some x
  | [], x, h, _ => by simp at h; subst h; rfl
  | a :: l, [], h, _ => by simp at h
  | a :: l, b :: x, h, g => by
    obtain ⟨y, hy, hc⟩ := g 0 a (by simp)
    simp at hy; subst hy
    have := concL_of_get (η := η) (l := l) (x := x) (by simpa using h) (fun i v hv => by
      obtain ⟨y, hy, hc⟩ := g (i + 1) v (by simpa using hv)
      exact ⟨y, by simpa using hy, hc⟩)
    simp [concL, hc, this]
end Go.VmK
