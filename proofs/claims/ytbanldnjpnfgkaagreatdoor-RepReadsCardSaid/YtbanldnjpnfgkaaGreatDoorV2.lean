/-
  A machine that runs the model with abstract blocks, and lemmas on it: whatever it answers of a call is what the model does (ProgOK, Base: the conditions).
-/
import Derived.Test.YtbanldnjpnfgkaaGreatDoorV1
import Derived.Calls
import Derived.Laws.Sem
import Derived.Laws.Cells
import Derived.Laws.World
import Derived.DeepKeys3
import Derived.Control
namespace Go.VmK

/-! The trie -/
theorem Tr.get_lf {α : Type} (i : Nat) : (Tr.lf : Tr α).get i = none := rfl
theorem Tr.get_nd {α : Type} (l : Tr α) (v : Option α) (r : Tr α) (i : Nat) :
    (Tr.nd l v r).get i = if i = 0 then v else if i % 2 = 1 then l.get (i / 2) else r.get (i / 2 - 1) := by
  show Bool.rec (motive := fun _ => Option α) (Bool.rec (motive := fun _ => Option α) (r.get (Nat.pred (Nat.div i 2))) (l.get (Nat.div i 2)) (Nat.beq (Nat.mod i 2) 1)) v (Nat.beq i 0) = _
  have e1 : Nat.beq i 0 = decide (i = 0) := by cases i <;> rfl
  have e2 : Nat.beq (Nat.mod i 2) 1 = decide (i % 2 = 1) := by
    show Nat.beq (i % 2) 1 = _
    rw [Bool.eq_iff_iff]; simp [Nat.beq_eq]
  rw [e1, e2]
  by_cases h : i = 0
  · simp [h]
  · by_cases h2 : i % 2 = 1
    · simp [h, h2]; rfl
    · simp [h, h2]; rfl
theorem Tr.putF_lf {α : Type} (i : Nat) (x : Option α) : (Tr.lf : Tr α).putF i x = Tr.leafPut x (i + 1) i := rfl
theorem Tr.leafPut_succ {α : Type} (x : Option α) (k i : Nat) :
    Tr.leafPut x (k + 1) i = if i = 0 then .nd .lf x .lf else if i % 2 = 1 then .nd (Tr.leafPut x k (i / 2)) none .lf else .nd .lf none (Tr.leafPut x k (i / 2 - 1)) := by
  show Bool.rec (motive := fun _ => Tr α) (Bool.rec (motive := fun _ => Tr α) (Tr.nd .lf none (Tr.leafPut x k (Nat.pred (Nat.div i 2)))) (.nd (Tr.leafPut x k (Nat.div i 2)) none .lf) (Nat.beq (Nat.mod i 2) 1)) (.nd .lf x .lf) (Nat.beq i 0) = _
  have e1 : Nat.beq i 0 = decide (i = 0) := by cases i <;> rfl
  have e2 : Nat.beq (Nat.mod i 2) 1 = decide (i % 2 = 1) := by
    show Nat.beq (i % 2) 1 = _
    rw [Bool.eq_iff_iff]; simp [Nat.beq_eq]
  rw [e1, e2]
  by_cases h : i = 0
  · simp [h]
  · by_cases h2 : i % 2 = 1
    · simp [h, h2]; rfl
    · simp [h, h2]; rfl
theorem Tr.putF_nd {α : Type} (l : Tr α) (v : Option α) (r : Tr α) (i : Nat) (x : Option α) :
    (Tr.nd l v r).putF i x = if i = 0 then .nd l x r else if i % 2 = 1 then .nd (l.putF (i / 2) x) v r else .nd l v (r.putF (i / 2 - 1) x) := by
  show Bool.rec (motive := fun _ => Tr α) (Bool.rec (motive := fun _ => Tr α) (Tr.nd l v (r.putF (Nat.pred (Nat.div i 2)) x)) (.nd (l.putF (Nat.div i 2) x) v r) (Nat.beq (Nat.mod i 2) 1)) (.nd l x r) (Nat.beq i 0) = _
  have e1 : Nat.beq i 0 = decide (i = 0) := by cases i <;> rfl
  have e2 : Nat.beq (Nat.mod i 2) 1 = decide (i % 2 = 1) := by
    show Nat.beq (i % 2) 1 = _
    rw [Bool.eq_iff_iff]; simp [Nat.beq_eq]
  rw [e1, e2]
  by_cases h : i = 0
  · simp [h]
  · by_cases h2 : i % 2 = 1
    · simp [h, h2]; rfl
    · simp [h, h2]; rfl
theorem Tr.get_leafPut {α : Type} (x : Option α) : ∀ (k i j : Nat), i < k → (Tr.leafPut x k i).get j = if j = i then x else none
  | 0, i, j, h => by omega
  | k + 1, i, j, h => by
    rw [Tr.leafPut_succ]
    by_cases h0 : i = 0
    · subst h0
      rw [if_pos rfl, Tr.get_nd]
      by_cases hj : j = 0
      · simp [hj]
      · simp [hj, Tr.get_lf]
    · rw [if_neg h0]
      by_cases h1 : i % 2 = 1
      · rw [if_pos h1, Tr.get_nd, Tr.get_leafPut x k (i / 2) _ (by omega), Tr.get_lf]
        by_cases hj : j = 0
        · have : ¬ 0 = i := by omega
          simp [hj, this]
        · by_cases hj1 : j % 2 = 1
          · simp only [hj, hj1, if_true, if_false]
            by_cases he : j = i
            · simp [he]
            · rw [if_neg he, if_neg (by omega)]
          · simp only [hj, hj1, if_false]
            rw [if_neg (by omega)]
      · rw [if_neg h1, Tr.get_nd, Tr.get_leafPut x k (i / 2 - 1) _ (by omega), Tr.get_lf]
        by_cases hj : j = 0
        · have : ¬ 0 = i := by omega
          simp [hj, this]
        · by_cases hj1 : j % 2 = 1
          · simp only [hj, hj1, if_true, if_false]
            rw [if_neg (by omega)]
          · simp only [hj, hj1, if_false]
            by_cases he : j = i
            · simp [he]
            · rw [if_neg he, if_neg (by omega)]
theorem Tr.get_putF {α : Type} (x : Option α) (t : Tr α) : ∀ (i j : Nat), (t.putF i x).get j = if j = i then x else t.get j := by
  induction t with
  | lf => intro i j; rw [Tr.putF_lf, Tr.get_leafPut x _ _ _ (by omega), Tr.get_lf]
  | nd l v r ihl ihr =>
    intro i j
    rw [Tr.putF_nd]
    by_cases h0 : i = 0
    · subst h0
      rw [if_pos rfl, Tr.get_nd, Tr.get_nd]
      by_cases hj : j = 0 <;> simp [hj]
    · rw [if_neg h0]
      by_cases h1 : i % 2 = 1
      · rw [if_pos h1, Tr.get_nd, Tr.get_nd, ihl]
        by_cases hj : j = 0
        · have : ¬ 0 = i := by omega
          simp [hj, this]
        · by_cases hj1 : j % 2 = 1
          · simp only [hj, hj1, if_true, if_false]
            by_cases he : j = i
            · simp [he]
            · rw [if_neg he, if_neg (by omega)]
          · simp only [hj, hj1, if_false]
            rw [if_neg (by omega : ¬ j = i)]
      · rw [if_neg h1, Tr.get_nd, Tr.get_nd, ihr]
        by_cases hj : j = 0
        · have : ¬ 0 = i := by omega
          simp [hj, this]
        · by_cases hj1 : j % 2 = 1
          · simp only [hj, hj1, if_true, if_false]
            rw [if_neg (by omega : ¬ j = i)]
          · simp only [hj, hj1, if_false]
            by_cases he : j = i
            · simp [he]
            · rw [if_neg he, if_neg (by omega)]
theorem Tr.get_set {α : Type} (t : Tr α) (i j : Nat) (v : α) : (t.set i v).get j = if j = i then some v else t.get j := Tr.get_putF _ _ _ _
theorem Tr.get_del {α : Type} (t : Tr α) (i j : Nat) : (t.del i).get j = if j = i then none else t.get j := Tr.get_putF _ _ _ _
theorem Tr.get_setL {α : Type} (l : List α) : ∀ (t : Tr α) (i j : Nat), (t.setL i l).get j = if i ≤ j ∧ j < i + l.length then l[j - i]? else t.get j := by
  induction l with
  | nil => intro t i j; simp only [Tr.setL, List.length_nil]; rw [if_neg (by omega)]
  | cons v vs ih =>
    intro t i j
    simp only [Tr.setL, ih, List.length_cons, Tr.get_set]
    by_cases h : i + 1 ≤ j ∧ j < i + 1 + vs.length
    · rw [if_pos h, if_pos (by omega)]
      have : j - i = (j - (i + 1)) + 1 := by omega
      rw [this, List.getElem?_cons_succ]
    · rw [if_neg h]
      by_cases he : j = i
      · subst he; simp
      · rw [if_neg he, if_neg (by omega)]
theorem Tr.getL_some {α : Type} (t : Tr α) : ∀ (n i : Nat) (l : List α), t.getL i n = some l → l.length = n ∧ ∀ k, k < n → t.get (i + k) = l[k]?
  | 0, i, l, h => by simp [Tr.getL] at h; subst h; simp
  | n + 1, i, l, h => by
    simp only [Tr.getL] at h
    cases h1 : t.get i with
    | none => simp [h1] at h
    | some v =>
      cases h2 : t.getL (i + 1) n with
      | none => simp [h1, h2] at h
      | some vs =>
        simp [h1, h2] at h; subst h
        obtain ⟨hl, hk⟩ := Tr.getL_some t n (i + 1) vs h2
        refine ⟨by simp [hl], fun k hk' => ?_⟩
        cases k with
        | zero => simpa using h1
        | succ k => rw [List.getElem?_cons_succ, ← hk k (by omega)]; exact congrArg t.get (by omega)
theorem Tr.get_ofL {α : Type} (l : List α) (j : Nat) : (Tr.ofL l).get j = l[j]? := by
  unfold Tr.ofL; rw [Tr.get_setL]
  by_cases h : j < l.length
  · rw [if_pos (by omega)]; simp
  · rw [if_neg (by omega), Tr.get_lf, List.getElem?_eq_none (by omega)]

theorem evens_get {α : Type} : ∀ (l : List α) (i : Nat), (evens l)[i]? = l[2 * i]?
  | [], i => by simp [evens]
  | [x], i => by
    cases i with
    | zero => simp [evens]
    | succ i => simp [evens]
  | x :: y :: r, i => by
    cases i with
    | zero => simp [evens]
    | succ i =>
      have := evens_get r i
      simp only [evens, List.getElem?_cons_succ, this]
      rw [show 2 * (i + 1) = 2 * i + 1 + 1 from by omega, List.getElem?_cons_succ, List.getElem?_cons_succ]
theorem odds_get {α : Type} : ∀ (l : List α) (i : Nat), (odds l)[i]? = l[2 * i + 1]?
  | [], i => by simp [odds]
  | [x], i => by simp [odds]
  | x :: y :: r, i => by
    cases i with
    | zero => simp [odds]
    | succ i =>
      have := odds_get r i
      simp only [odds, List.getElem?_cons_succ, this]
      rw [show 2 * (i + 1) = 2 * i + 1 + 1 from by omega, List.getElem?_cons_succ]
theorem Tr.build_get {α : Type} : ∀ (k : Nat) (l : List α) (i : Nat) (v : α), (Tr.build k l).get i = some v → l[i]? = some v
  | 0, l, i, v, h => by simp [Tr.build, Tr.get_lf] at h
  | k + 1, [], i, v, h => by simp [Tr.build, Tr.get_lf] at h
  | k + 1, x :: r, i, v, h => by
    simp only [Tr.build, Tr.get_nd] at h
    by_cases h0 : i = 0
    · simp [h0] at h ⊢; exact h
    · rw [if_neg h0] at h
      by_cases h1 : i % 2 = 1
      · rw [if_pos h1] at h
        have := Tr.build_get k _ _ _ h
        rw [evens_get] at this
        obtain ⟨j, rfl⟩ : ∃ j, i = j + 1 := ⟨i - 1, by omega⟩
        rw [List.getElem?_cons_succ, ← this]; congr 1; omega
      · rw [if_neg h1] at h
        have := Tr.build_get k _ _ _ h
        rw [odds_get] at this
        obtain ⟨j, rfl⟩ : ∃ j, i = j + 1 := ⟨i - 1, by omega⟩
        rw [List.getElem?_cons_succ, ← this]; congr 1; omega

/-! What the abstract numbers stand for -/
structure Env where
  ρ : Nat → Option Nat
  κ : Nat → Option Nat
  σ : Nat → Option Value

structure Env.le (η η' : Env) : Prop where
  ρ : ∀ i r, η.ρ i = some r → η'.ρ i = some r
  κ : ∀ i r, η.κ i = some r → η'.κ i = some r
  σ : ∀ i r, η.σ i = some r → η'.σ i = some r
theorem Env.le.refl (η : Env) : η.le η := ⟨fun _ _ h => h, fun _ _ h => h, fun _ _ h => h⟩
theorem Env.le.trans {a b c : Env} (h : a.le b) (g : b.le c) : a.le c := ⟨fun i r x => g.ρ i r (h.ρ i r x), fun i r x => g.κ i r (h.κ i r x), fun i r x => g.σ i r (h.σ i r x)⟩

def capOf (η : Env) : Cap → Option Nat
  | .lit n => some n
  | .var b less => match η.κ b with
    | some n => if less ≤ n then some (n - less) else none
    | none => none

mutual
def conc (η : Env) : AV → Option Value
  | .bool b => some (.bool b)
  | .int k n => some (.int k n)
  | .str s => some (.string ⟨s.toArray⟩)
  | .nilp => some (.pointer none)
  | .ptr b off => match η.ρ b with | some r => some (.pointer (some ⟨r, off, none⟩)) | none => none
  | .gptr g off => some (.pointer (some ⟨g, off, none⟩))
  | .nils => some (.slice none 0 0)
  | .slice b off len cap => match η.ρ b, capOf η cap with
    | some r, some c => if len ≤ c then some (.slice (some ⟨r, off, none⟩) len c) else none
    | _, _ => none
  | .nilm => some (.map none)
  | .map b => match η.ρ b with | some r => some (.map (some r)) | none => none
  | .func f a b => match concL η a, concL η b with
    | some x, some y => some (.func (.func f) x.toArray y.toArray)
    | _, _ => none
  | .yield l => match η.ρ l with | some r => some (.func (.yield r) #[] #[]) | none => none
  | .nilFunc => some .nilFunc
  | .iface t v => match conc η v with | some x => some (.iface t x) | none => none
  | .nilIface => some .nilIface
  | .agg l => match concL η l with | some x => some (.agg x.toArray) | none => none
  | .tuple l => match concL η l with | some x => some (.tuple x.toArray) | none => none
  | .sym i => η.σ i
  | .slice0 b off off' k less => match η.ρ b, capOf η (.var k less) with
    | some r, some c => some (.slice (some ⟨r, bif Nat.beq c 0 then off else off', none⟩) 0 c)
    | _, _ => none
  | .symStr i => match η.σ i with
    | some (.string s) => some (.string s)
    | _ => none
  | .symLen i => match η.σ i with
    | some (.string s) => some (.int .i64 (Int.ofNat s.size))
    | _ => none
  | .symInt k i => match η.σ i with
    | some (.int k' n) => if k' = k then some (.int k n) else none
    | _ => none
  | .symC i => match η.σ i with
    | some v => if v.oneCell' = true then some v else none
    | none => none
def concL (η : Env) : List AV → Option (List Value)
  | [] => some []
  | a :: l => match conc η a, concL η l with
    | some x, some xs => some (x :: xs)
    | _, _ => none
end

theorem capOf_mono {η η' : Env} (h : η.le η') {c : Cap} {n : Nat} (hc : capOf η c = some n) : capOf η' c = some n := by
  cases c with
  | lit m => exact hc
  | var b less =>
    simp only [capOf] at hc ⊢
    cases hk : η.κ b with
    | none => simp [hk] at hc
    | some m => rw [hk] at hc; rw [h.κ _ _ hk]; exact hc

mutual
theorem conc_mono {η η' : Env} (h : η.le η') : ∀ (v : AV) (x : Value), conc η v = some x → conc η' v = some x
  | .bool _, _, hc | .int _ _, _, hc | .str _, _, hc | .nilp, _, hc | .gptr _ _, _, hc | .nils, _, hc | .nilm, _, hc | .nilFunc, _, hc | .nilIface, _, hc => by
    simpa [conc] using hc
  | .ptr b off, x, hc => by
    simp only [conc] at hc ⊢
    cases hk : η.ρ b with
    | none => simp [hk] at hc
    | some r => rw [hk] at hc; rw [h.ρ _ _ hk]; exact hc
  | .map b, x, hc => by
    simp only [conc] at hc ⊢
    cases hk : η.ρ b with
    | none => simp [hk] at hc
    | some r => rw [hk] at hc; rw [h.ρ _ _ hk]; exact hc
  | .yield b, x, hc => by
    simp only [conc] at hc ⊢
    cases hk : η.ρ b with
    | none => simp [hk] at hc
    | some r => rw [hk] at hc; rw [h.ρ _ _ hk]; exact hc
  | .slice b off len cap, x, hc => by
    simp only [conc] at hc ⊢
    cases hk : η.ρ b with
    | none => simp [hk] at hc
    | some r =>
      cases hm : capOf η cap with
      | none => simp [hk, hm] at hc
      | some c => rw [hk, hm] at hc; rw [h.ρ _ _ hk, capOf_mono h hm]; exact hc
  | .func f a b, x, hc => by
    simp only [conc] at hc ⊢
    cases h1 : concL η a with
    | none => simp [h1] at hc
    | some a' =>
      cases h2 : concL η b with
      | none => simp [h1, h2] at hc
      | some b' => rw [h1, h2] at hc; rw [concL_mono h a a' h1, concL_mono h b b' h2]; exact hc
  | .iface t v, x, hc => by
    simp only [conc] at hc ⊢
    cases h1 : conc η v with
    | none => simp [h1] at hc
    | some a' => rw [h1] at hc; rw [conc_mono h v a' h1]; exact hc
  | .agg l, x, hc => by
    simp only [conc] at hc ⊢
    cases h1 : concL η l with
    | none => simp [h1] at hc
    | some a' => rw [h1] at hc; rw [concL_mono h l a' h1]; exact hc
  | .tuple l, x, hc => by
    simp only [conc] at hc ⊢
    cases h1 : concL η l with
    | none => simp [h1] at hc
    | some a' => rw [h1] at hc; rw [concL_mono h l a' h1]; exact hc
  | .sym i, x, hc => by simp only [conc] at hc ⊢; exact h.σ _ _ hc
  | .slice0 b off off' k less, x, hc => by
    simp only [conc] at hc ⊢
    cases h1 : η.ρ b with
    | none => simp [h1] at hc
    | some r =>
      cases h2 : capOf η (.var k less) with
      | none => simp [h1, h2] at hc
      | some c => rw [h1, h2] at hc; rw [h.ρ _ _ h1, capOf_mono h h2]; exact hc
  | .symStr i, x, hc => by
    simp only [conc] at hc ⊢
    cases hk : η.σ i with
    | none => simp [hk] at hc
    | some r => rw [hk] at hc; rw [h.σ _ _ hk]; exact hc
  | .symLen i, x, hc => by
    simp only [conc] at hc ⊢
    cases hk : η.σ i with
    | none => simp [hk] at hc
    | some r => rw [hk] at hc; rw [h.σ _ _ hk]; exact hc
  | .symInt k i, x, hc => by
    simp only [conc] at hc ⊢
    cases hk : η.σ i with
    | none => simp [hk] at hc
    | some r => rw [hk] at hc; rw [h.σ _ _ hk]; exact hc
  | .symC i, x, hc => by
    simp only [conc] at hc ⊢
    cases hk : η.σ i with
    | none => simp [hk] at hc
    | some r => rw [hk] at hc; rw [h.σ _ _ hk]; exact hc
theorem concL_mono {η η' : Env} (h : η.le η') : ∀ (l : List AV) (x : List Value), concL η l = some x → concL η' l = some x
  | [], _, hc => hc
  | a :: l, x, hc => by
    simp only [concL] at hc ⊢
    cases h1 : conc η a with
    | none => simp [h1] at hc
    | some a' =>
      cases h2 : concL η l with
      | none => simp [h1, h2] at hc
      | some b' => rw [h1, h2] at hc; rw [conc_mono h a a' h1, concL_mono h l b' h2]; exact hc
end

theorem concL_length {η : Env} : ∀ {l : List AV} {x : List Value}, concL η l = some x → x.length = l.length
  | [], x, h => by simp [concL] at h; simp [h]
  | a :: l, x, h => by
    simp only [concL] at h
    cases h1 : conc η a with
    | none => simp [h1] at h
    | some a' =>
      cases h2 : concL η l with
      | none => simp [h1, h2] at h
      | some b' => rw [h1, h2] at h; simp at h; subst h; simp [concL_length h2]
theorem concL_get {η : Env} : ∀ {l : List AV} {x : List Value}, concL η l = some x → ∀ (i : Nat) (v : AV), l[i]? = some v → ∃ y, x[i]? = some y ∧ conc η v = some y
  | [], x, h, i, v, hv => by simp at hv
  | a :: l, x, h, i, v, hv => by
    simp only [concL] at h
    cases h1 : conc η a with
    | none => simp [h1] at h
    | some a' =>
      cases h2 : concL η l with
      | none => simp [h1, h2] at h
      | some b' =>
        rw [h1, h2] at h; simp at h; subst h
        cases i with
        | zero => simp at hv; subst hv; exact ⟨a', by simp, h1⟩
        | succ i => rw [List.getElem?_cons_succ] at hv; obtain ⟨y, hy, hc⟩ := concL_get h2 i v hv; exact ⟨y, by rw [List.getElem?_cons_succ]; exact hy, hc⟩
theorem concL_append {η : Env} : ∀ {l m : List AV} {x y : List Value}, concL η l = some x → concL η m = some y → concL η (l ++ m) = some (x ++ y)
  | [], m, x, y, h, g => by simp [concL] at h; subst h; simpa using g
  | a :: l, m, x, y, h, g => by
    simp only [concL] at h
    cases h1 : conc η a with
    | none => simp [h1] at h
    | some a' =>
      cases h2 : concL η l with
      | none => simp [h1, h2] at h
      | some b' => rw [h1, h2] at h; simp at h; subst h; simp [concL, h1, concL_append h2 g]
theorem concL_of_get {η : Env} : ∀ {l : List AV} {x : List Value}, x.length = l.length → (∀ (i : Nat) (v : AV), l[i]? = some v → ∃ y, x[i]? = some y ∧ conc η v = some y) → concL η l = some x
  | [], x, h, _ => by simp at h; subst h; rfl
  | a :: l, [], h, _ => by simp at h
  | a :: l, b :: x, h, g => by
    obtain ⟨y, hy, hc⟩ := g 0 a (by simp)
    simp at hy; subst hy
    have := concL_of_get (η := η) (l := l) (x := x) (by simpa using h) (fun i v hv => by
      obtain ⟨y, hy, hc⟩ := g (i + 1) v (by simpa using hv)
      exact ⟨y, by simpa using hy, hc⟩)
    simp [concL, hc, this]
end Go.VmK
namespace Go.VmK

def EsRel (η : Env) : List (AV × AV × Nat) → List MapEntry → Prop
  | [], [] => True
  | (k, v, b) :: r, e :: es => conc η k = some e.key ∧ conc η v = some e.val ∧ e.born = b ∧ EsRel η r es
  | _, _ => False

/-- temporaries -/
structure TRel (η : Env) (t : Tr AV) (n : Nat) (c : Array Value) : Prop where
  size : c.size = n
  get : ∀ j v, t.get j = some v → ∃ x, c[j]? = some x ∧ conc η v = some x

structure CRel (P : Program) (η : Env) (id : Nat) (t : Tr AV) (n : Nat) (e : TypeId) (opn : Bool) (lo hi : Nat) (mk : Bool) (c : Array Value) (e' : TypeId) (fz : Nat × Nat) : Prop where
  elem : e' = e
  get : ∀ i v, t.get i = some v → i < n → ∃ x, c[i]? = some x ∧ conc η v = some x
  le : n ≤ c.size
  shut : opn = false → c.size = n
  opened : opn = true → ∃ k, η.κ id = some k ∧ k < 2 ^ 63 ∧ c.size = k * P.cellsOf e
  fzle : fz.1 ≤ fz.2
  cover : ∀ off, fz.1 ≤ off → off < fz.2 → (lo ≤ off ∧ off < hi) ∨ (mk = true ∧ off = c.size)
  small : mk = true → c.size < 18446744073709551615

def ORel (P : Program) (η : Env) (E : List LoopInfo) (id : Nat) : AObj → Obj → Prop
  | .cells t n e opn lo hi mk, .cells c e' fz => CRel P η id t n e opn lo hi mk c e' fz
  | .map es clock, .map ces clock' => clock' = clock ∧ EsRel η es ces.toList
  | .mapIter m s seen st, .mapIter m' s' seen' st' => (match m with | none => m' = none | some i => ∃ r, η.ρ i = some r ∧ m' = some r) ∧ s' = s ∧ seen'.toList = seen ∧ st' = st
  | .striter s p, .stringIter s' p' => s' = ⟨s.toArray⟩ ∧ p' = p
  | .loop st pd, .loop L => L.state = st ∧ L.pending = pd.map Jump.code ∧ ∀ i, findLoop id E = some i → L.fn = i.fn ∧ TRel η i.tmps i.n L.tmps ∧ L.params.toList = i.params ∧ L.assign = i.assign ∧ L.body = i.body ∧ η.ρ i.defers = some L.defers
  | .deferred b, .deferred d => d = if b then some [] else none
  | _, _ => False

structure HRel (P : Program) (η : Env) (E : List LoopInfo) (H : Heap) (w : World) : Prop where
  obj : ∀ id o, H.get id = some o → ∃ b ob, η.ρ id = some b ∧ w.heap[b]? = some ob ∧ ORel P η E id o ob
  inj : ∀ i j oi oj b, H.get i = some oi → H.get j = some oj → η.ρ i = some b → η.ρ j = some b → i = j

structure Fresh (η : Env) (H : Heap) (id : Nat) : Prop where
  get : H.get id = none
  ρ : η.ρ id = none
  κ : η.κ id = none
  σ : η.σ id = none

/-- nothing but the numbers of S has turned -/
structure Only (S : Nat → Prop) (η η' : Env) : Prop where
  ρ : ∀ i, ¬ S i → η'.ρ i = η.ρ i
  κ : ∀ i, ¬ S i → η'.κ i = η.κ i
  σ : ∀ i, ¬ S i → η'.σ i = η.σ i
theorem Only.refl (S : Nat → Prop) (η : Env) : Only S η η := ⟨fun _ _ => rfl, fun _ _ => rfl, fun _ _ => rfl⟩
theorem Only.mono {S T : Nat → Prop} {η η' : Env} (h : Only S η η') (st : ∀ i, S i → T i) : Only T η η' :=
  ⟨fun i x => h.ρ i fun y => x (st i y), fun i x => h.κ i fun y => x (st i y), fun i x => h.σ i fun y => x (st i y)⟩
theorem Only.trans {S : Nat → Prop} {a b c : Env} (h : Only S a b) (g : Only S b c) : Only S a c :=
  ⟨fun i x => (g.ρ i x).trans (h.ρ i x), fun i x => (g.κ i x).trans (h.κ i x), fun i x => (g.σ i x).trans (h.σ i x)⟩

structure Keeps (w w' : World) : Prop where
  os : w'.os = w.os
  output : w'.output = w.output
  size : w.heap.size ≤ w'.heap.size
theorem Keeps.refl (w : World) : Keeps w w := ⟨rfl, rfl, Nat.le_refl _⟩
theorem Keeps.trans {a b c : World} (h : Keeps a b) (g : Keeps b c) : Keeps a c := ⟨g.os.trans h.os, g.output.trans h.output, Nat.le_trans h.size g.size⟩

def Live (η : Env) (H : Heap) (b : Nat) : Prop := ∃ id o, H.get id = some o ∧ η.ρ id = some b

/-- a step of memory -/
structure Trans (P : Program) (E : List LoopInfo) (η : Env) (H : Heap) (w : World) (η' : Env) (H' : Heap) (w' : World) : Prop where
  le : η.le η'
  rel : HRel P η' E H' w'
  frame : ∀ b, b < w.heap.size → ¬ Live η H b → w'.heap[b]? = w.heap[b]?
  shr : ∀ b, b < w.heap.size → Live η' H' b → Live η H b
  keeps : Keeps w w'
theorem Trans.refl {P : Program} {E : List LoopInfo} {η : Env} {H : Heap} {w : World} (h : HRel P η E H w) : Trans P E η H w η H w :=
  ⟨Env.le.refl _, h, fun _ _ _ => rfl, fun _ _ x => x, Keeps.refl _⟩
theorem Trans.trans {P : Program} {E : List LoopInfo} {η η1 η2 : Env} {H H1 H2 : Heap} {w w1 w2 : World} (h : Trans P E η H w η1 H1 w1) (g : Trans P E η1 H1 w1 η2 H2 w2) : Trans P E η H w η2 H2 w2 :=
  ⟨h.le.trans g.le, g.rel, fun b hb hl => (g.frame b (Nat.lt_of_lt_of_le hb h.keeps.size) fun x => hl (h.shr b hb x)).trans (h.frame b hb hl),
   fun b hb x => h.shr b hb (g.shr b (Nat.lt_of_lt_of_le hb h.keeps.size) x), h.keeps.trans g.keeps⟩

/-! monotony -/
theorem EsRel_mono {η η' : Env} (h : η.le η') : ∀ (es : List (AV × AV × Nat)) (ces : List MapEntry), EsRel η es ces → EsRel η' es ces
  | [], [], _ => trivial
  | (_k, _v, _b) :: r, _e :: es, ⟨h1, h2, h3, h4⟩ => ⟨conc_mono h _ _ h1, conc_mono h _ _ h2, h3, EsRel_mono h r es h4⟩
  | [], _ :: _, x => x.elim
  | _ :: _, [], x => x.elim
theorem TRel.mono {η η' : Env} (h : η.le η') {t : Tr AV} {n : Nat} {c : Array Value} (g : TRel η t n c) : TRel η' t n c :=
  ⟨g.size, fun j v hv => let ⟨x, hx, hc⟩ := g.get j v hv; ⟨x, hx, conc_mono h _ _ hc⟩⟩
theorem CRel.mono {P : Program} {η η' : Env} (h : η.le η') {id : Nat} {t : Tr AV} {n : Nat} {e : TypeId} {opn : Bool} {lo hi : Nat} {mk : Bool} {c : Array Value} {e' : TypeId} {fz : Nat × Nat}
    (g : CRel P η id t n e opn lo hi mk c e' fz) : CRel P η' id t n e opn lo hi mk c e' fz :=
  ⟨g.elem, fun i v hv hi => let ⟨x, hx, hc⟩ := g.get i v hv hi; ⟨x, hx, conc_mono h _ _ hc⟩, g.le, g.shut, fun ho => let ⟨k, hk, h1, h2⟩ := g.opened ho; ⟨k, h.κ _ _ hk, h1, h2⟩, g.fzle, g.cover, g.small⟩
theorem ORel_mono {P : Program} {η η' : Env} (h : η.le η') {E : List LoopInfo} {id : Nat} {o : AObj} {ob : Obj} (g : ORel P η E id o ob) : ORel P η' E id o ob := by
  cases o <;> cases ob <;> try exact g.elim
  · exact CRel.mono h g
  · exact ⟨g.1, EsRel_mono h _ _ g.2⟩
  · rename_i m s seen st m' s' seen' st'
    refine ⟨?_, g.2⟩
    cases m with
    | none => exact g.1
    | some i => obtain ⟨r, hr, hm⟩ := g.1; exact ⟨r, h.ρ _ _ hr, hm⟩
  · exact g
  · obtain ⟨h2, h3, hE⟩ := g
    refine ⟨h2, h3, fun i hi => ?_⟩
    obtain ⟨h4, h5, h6, h7, h8, h9⟩ := hE i hi
    exact ⟨h4, h5.mono h, h6, h7, h8, h.ρ _ _ h9⟩
  · exact g

/-! one object turned, one made -/
theorem Heap.get_put (H : Heap) (b : Nat) (o : AObj) (j : Nat) : (H.put b o).get j = if j = b then some o else H.get j := Tr.get_set _ _ _ _
theorem Heap.get_new (H : Heap) (o : AObj) (j : Nat) : (H.new o).get j = if j = H.next then some o else H.get j := Tr.get_set _ _ _ _

def World.putBlock (w : World) (b : Nat) (o : Obj) : World := { w with heap := w.heap.setIfInBounds b o }
theorem putBlock_get (w : World) (b j : Nat) (o : Obj) (hb : b < w.heap.size) : (World.putBlock w b o).heap[j]? = if j = b then some o else w.heap[j]? := by
  simp only [World.putBlock]
  rw [Array.getElem?_setIfInBounds]
  by_cases h : j = b
  · subst h; simp [hb]
  · simp [h, Ne.symm h]

theorem lt_of_get {w : World} {b : Nat} {ob : Obj} (h : w.heap[b]? = some ob) : b < w.heap.size := by
  rcases Nat.lt_or_ge b w.heap.size with h' | h'
  · exact h'
  · simp [Array.getElem?_eq_none h'] at h

/-- an object that stands is turned -/
theorem Trans.put {P : Program} {E : List LoopInfo} {η : Env} {H : Heap} {w : World} (hr : HRel P η E H w) {id : Nat} {o : AObj} {b : Nat} (hg : H.get id = some o) (hb : η.ρ id = some b)
    (o' : AObj) (ob' : Obj) (ho : ORel P η E id o' ob') {w' : World} (hw : w' = World.putBlock w b ob') : Trans P E η H w η (H.put id o') w' := by
  subst hw
  obtain ⟨b', ob, hb', hob, _⟩ := hr.obj id o hg
  obtain rfl : b' = b := by rw [hb] at hb'; exact (Option.some.inj hb').symm
  have hlt := lt_of_get hob
  refine ⟨Env.le.refl _, ⟨?_, ?_⟩, ?_, ?_, ⟨rfl, rfl, by simp [World.putBlock]⟩⟩
  · intro j oj hj
    rw [Heap.get_put] at hj
    by_cases h : j = id
    · subst h; simp at hj; subst hj
      exact ⟨b', ob', hb, by rw [putBlock_get _ _ _ _ hlt]; simp, ho⟩
    · rw [if_neg h] at hj
      obtain ⟨c, oc, hc, hoc, hrel⟩ := hr.obj j oj hj
      have hne : c ≠ b' := fun he => h (hr.inj _ _ _ _ _ hj hg (he ▸ hc) hb)
      exact ⟨c, oc, hc, by rw [putBlock_get _ _ _ _ hlt, if_neg hne]; exact hoc, hrel⟩
  · intro i j oi oj c hi hj hci hcj
    rw [Heap.get_put] at hi hj
    by_cases h1 : i = id <;> by_cases h2 : j = id
    · rw [h1, h2]
    · subst h1; rw [if_neg h2] at hj; exact hr.inj _ _ _ _ _ hg hj hci hcj
    · subst h2; rw [if_neg h1] at hi; exact hr.inj _ _ _ _ _ hi hg hci hcj
    · rw [if_neg h1] at hi; rw [if_neg h2] at hj; exact hr.inj _ _ _ _ _ hi hj hci hcj
  · intro c _ hn
    rw [putBlock_get _ _ _ _ hlt, if_neg]
    intro he; exact hn ⟨id, o, hg, he ▸ hb⟩
  · rintro c _ ⟨j, oj, hj, hc⟩
    rw [Heap.get_put] at hj
    by_cases h : j = id
    · subst h; exact ⟨_, o, hg, hc⟩
    · rw [if_neg h] at hj; exact ⟨j, oj, hj, hc⟩

def Env.bind (η : Env) (id b : Nat) : Env := { η with ρ := fun i => if i = id then some b else η.ρ i }
def Env.bindK (η : Env) (id b k : Nat) : Env := { η with ρ := fun i => if i = id then some b else η.ρ i, κ := fun i => if i = id then some k else η.κ i }
theorem Env.le_bind {η : Env} {id b : Nat} (h : η.ρ id = none) : η.le (η.bind id b) :=
  ⟨fun i r hr => by simp only [Env.bind]; by_cases e : i = id; · subst e; rw [h] at hr; cases hr
                    · rw [if_neg e]; exact hr, fun _ _ h => h, fun _ _ h => h⟩
theorem Env.le_bindK {η : Env} {id b k : Nat} (h : η.ρ id = none) (hk : η.κ id = none) : η.le (η.bindK id b k) :=
  ⟨fun i r hr => by simp only [Env.bindK]; by_cases e : i = id; · subst e; rw [h] at hr; cases hr
                    · rw [if_neg e]; exact hr,
   fun i r hr => by simp only [Env.bindK]; by_cases e : i = id; · subst e; rw [hk] at hr; cases hr
                    · rw [if_neg e]; exact hr, fun _ _ h => h⟩
theorem Only.bind (η : Env) (id b : Nat) : Only (· = id) η (η.bind id b) := ⟨fun i h => by simp only [Env.bind]; rw [if_neg h], fun _ _ => rfl, fun _ _ => rfl⟩
theorem Only.bindK (η : Env) (id b k : Nat) : Only (· = id) η (η.bindK id b k) := ⟨fun i h => by simp only [Env.bindK]; rw [if_neg h], fun i h => by simp only [Env.bindK]; rw [if_neg h], fun _ _ => rfl⟩

/-- an object is made; w0: what was drawn ahead -/
theorem Trans.new {P : Program} {E : List LoopInfo} {η η' : Env} {H H' : Heap} {w w' : World} (hr : HRel P η E H w) (_hf : Fresh η H H.next) (o : AObj) (ob : Obj)
    (hle : η.le η') (hρ : ∀ i, η'.ρ i = if i = H.next then some w.heap.size else η.ρ i) (ho : ORel P η' E H.next o ob)
    (hH : ∀ j, H'.get j = if j = H.next then some o else H.get j) (hw : w'.heap = w.heap.push ob) (hos : w'.os = w.os) (hout : w'.output = w.output) : Trans P E η H w η' H' w' := by
  have hsz : w'.heap.size = w.heap.size + 1 := by rw [hw]; simp
  have hold : ∀ b, b < w.heap.size → w'.heap[b]? = w.heap[b]? := fun b hb => by rw [hw, Array.getElem?_push]; rw [if_neg (by omega)]
  have lt : ∀ j oj c, H.get j = some oj → η.ρ j = some c → c < w.heap.size := fun j oj c hj hc => by
    obtain ⟨b, ob, hb, hob, _⟩ := hr.obj j oj hj
    rw [hc] at hb; cases hb; exact lt_of_get hob
  refine ⟨hle, ⟨?_, ?_⟩, fun b hb _ => hold b hb, ?_, ⟨hos, hout, by omega⟩⟩
  · intro j oj hj
    rw [hH] at hj
    by_cases h : j = H.next
    · subst h; simp at hj; subst hj
      exact ⟨w.heap.size, ob, by rw [hρ]; simp, by rw [hw]; simp, ho⟩
    · rw [if_neg h] at hj
      obtain ⟨c, oc, hc, hoc, hrel⟩ := hr.obj j oj hj
      exact ⟨c, oc, by rw [hρ, if_neg h]; exact hc, by rw [hold c (lt_of_get hoc)]; exact hoc, ORel_mono hle hrel⟩
  · intro i j oi oj c hi hj hci hcj
    rw [hH] at hi hj; rw [hρ] at hci hcj
    by_cases h1 : i = H.next <;> by_cases h2 : j = H.next
    · rw [h1, h2]
    · subst h1; rw [if_neg h2] at hj hcj; simp at hci; subst hci
      exact absurd (lt _ _ _ hj hcj) (Nat.lt_irrefl _)
    · subst h2; rw [if_neg h1] at hi hci; simp at hcj; subst hcj
      exact absurd (lt _ _ _ hi hci) (Nat.lt_irrefl _)
    · rw [if_neg h1] at hi hci; rw [if_neg h2] at hj hcj; exact hr.inj _ _ _ _ _ hi hj hci hcj
  · rintro b hb ⟨j, oj, hj, hc⟩
    rw [hH] at hj; rw [hρ] at hc
    by_cases h : j = H.next
    · subst h; simp at hc; omega
    · rw [if_neg h] at hj hc; exact ⟨j, oj, hj, hc⟩

/-- drawing moves nothing -/
theorem Trans.drew {P : Program} {E : List LoopInfo} {η η' : Env} {H H' : Heap} {w w' : World} (h : Trans P E η H w.drew η' H' w') : Trans P E η H w η' H' w' :=
  ⟨h.le, h.rel, h.frame, h.shr, ⟨h.keeps.os, h.keeps.output, h.keeps.size⟩⟩
theorem HRel.drew {P : Program} {E : List LoopInfo} {η : Env} {H : Heap} {w : World} (h : HRel P η E H w) : HRel P η E H w.drew := ⟨h.obj, h.inj⟩

end Go.VmK
namespace Go.VmK

/-! values that bear no block -/
theorem mapO_some {α β : Type} {f : α → Option β} : ∀ {l : List α} {r : List β}, mapO f l = some r → r.length = l.length ∧ ∀ (i : Nat) (x : α), l[i]? = some x → ∃ y, r[i]? = some y ∧ f x = some y
  | [], r, h => by simp [mapO] at h; subst h; simp
  | x :: xs, r, h => by
    simp only [mapO] at h
    cases h1 : f x with
    | none => simp [h1] at h
    | some y =>
      cases h2 : mapO f xs with
      | none => simp [h1, h2] at h
      | some ys =>
        simp [h1, h2] at h; subst h
        obtain ⟨hl, hg⟩ := mapO_some h2
        refine ⟨by simp [hl], fun i z hz => ?_⟩
        cases i with
        | zero => simp at hz; subst hz; exact ⟨y, by simp, h1⟩
        | succ i => rw [List.getElem?_cons_succ] at hz; obtain ⟨u, hu, hf⟩ := hg i z hz; exact ⟨u, by rw [List.getElem?_cons_succ]; exact hu, hf⟩

/-- what is laid of a plain value is that value -/
theorem ofVal_conc (η : Env) : ∀ (k : Nat) (v : Value) (a : AV), ofVal k v = some a → conc η a = some v
  | 0, _, _, h => by simp [ofVal] at h
  | k + 1, v, a, h => by
    have L : ∀ (l : List Value) (r : List AV), mapO (ofVal k) l = some r → concL η r = some l := fun l r hr => by
      obtain ⟨hl, hg⟩ := mapO_some hr
      refine concL_of_get hl.symm fun i y hy => ?_
      have hi : i < l.length := by rw [← hl]; exact (List.getElem?_eq_some_iff.1 hy).1
      obtain ⟨y', hy', hf⟩ := hg i l[i] (List.getElem?_eq_getElem hi)
      rw [hy] at hy'; cases hy'
      exact ⟨l[i], List.getElem?_eq_getElem hi, ofVal_conc η k _ _ hf⟩
    cases v with
    | bool b => simp [ofVal] at h; subst h; rfl
    | int k n => simp [ofVal] at h; subst h; rfl
    | float _ _ => simp [ofVal] at h
    | complex _ _ _ => simp [ofVal] at h
    | string s => simp [ofVal] at h; subst h; simp [conc]
    | pointer p => cases p with
      | none => simp [ofVal] at h; subst h; rfl
      | some _ => simp [ofVal] at h
    | slice p len cap => cases p with
      | none =>
        simp only [ofVal] at h
        by_cases hz : len + cap = 0
        · have h1 : len = 0 := by omega
          have h2 : cap = 0 := by omega
          subst h1; subst h2
          simp at h; subst h; rfl
        · have : Nat.beq (len + cap) 0 = false := by
            cases hq : Nat.beq (len + cap) 0 with
            | false => rfl
            | true => exact absurd (Nat.eq_of_beq_eq_true hq) hz
          simp [this] at h
      | some _ => simp [ofVal] at h
    | map r => cases r with
      | none => simp [ofVal] at h; subst h; rfl
      | some _ => simp [ofVal] at h
    | chan _ => simp [ofVal] at h
    | func fn first captured =>
      cases fn with
      | func f =>
        simp only [ofVal] at h
        cases h1 : mapO (ofVal k) first.toList with
        | none => simp [h1] at h
        | some x =>
          cases h2 : mapO (ofVal k) captured.toList with
          | none => simp [h1, h2] at h
          | some y => simp [h1, h2] at h; subst h; simp [conc, L _ _ h1, L _ _ h2]
      | _ => simp [ofVal] at h
    | nilFunc => simp [ofVal] at h; subst h; rfl
    | iface t v =>
      simp only [ofVal] at h
      cases h1 : ofVal k v with
      | none => simp [h1] at h
      | some x => simp [h1] at h; subst h; simp [conc, ofVal_conc η k v x h1]
    | nilIface => simp [ofVal] at h; subst h; rfl
    | agg cs =>
      simp only [ofVal] at h
      cases h1 : mapO (ofVal k) cs.toList with
      | none => simp [h1] at h
      | some x => simp [h1] at h; subst h; simp [conc, L _ _ h1]
    | tuple cs =>
      simp only [ofVal] at h
      cases h1 : mapO (ofVal k) cs.toList with
      | none => simp [h1] at h
      | some x => simp [h1] at h; subst h; simp [conc, L _ _ h1]

theorem evC_conc (η : Env) (v : Value) (a : AV) (h : evC v = some a) : conc η a = some v := by
  cases v with
  | bool b => simp [evC] at h; subst h; rfl
  | int k n => simp [evC] at h; subst h; rfl
  | string s => simp [evC] at h; subst h; simp [conc]
  | float _ _ => simp [evC] at h
  | complex _ _ _ => simp [evC] at h
  | chan _ => simp [evC] at h
  | _ => exact ofVal_conc η 4 _ _ h

/-- an operand -/
theorem ev_sound {η : Env} {tmps : Tr AV} {n : Nat} {a : Act} (ht : TRel η tmps n a.tmps) {x : Operand} {v : AV} (h : ev tmps x = some v) : conc η v = some (a.eval x) := by
  cases x with
  | tmp t =>
    obtain ⟨y, hy, hc⟩ := ht.get t v h
    rw [hc]; simp [Act.eval, Array.getD]
    obtain ⟨hlt, he⟩ := Array.getElem?_eq_some_iff.1 hy
    simp [hlt, he]
  | const c => exact evC_conc η c v h
  | global g => simp [ev] at h; subst h; rfl
  | func f => simp [ev] at h; subst h; simp [conc, concL, Act.eval]

/-! the tables of the program -/
structure TypeOK (P : Program) (t : TypeId) (i : TI) : Prop where
  und : P.underlying t = some i.und
  info : ∃ inf, P.info? t = some inf ∧ inf.size = i.size ∧ inf.bytes = i.bytes ∧ ∀ z, i.zero = some z → ∃ v, inf.zero = some v ∧ ∀ η, conc η z = some v
def ExtOK (P : Program) (f : FuncId) : Ext → Prop
  | .same => ∀ (x : Value) (w : World), (callFunc f #[x]).run P w = .ok (.value x) w
  | .mapsClone => ∀ (t b : Nat) (es : Array MapEntry) (c : Nat) (w : World), w.heap[b]? = some (.map es c) → (callFunc f #[.iface t (.map (some b))]).run P w = .ok (.value (.iface t (.map (some w.heap.size)))) (w.alloc (.map es c))
  | .count => ∀ (s : List UInt8) (c : Int) (w : World), (callFunc f #[.string ⟨s.toArray⟩, .int .u8 c]).run P w = .ok (.value (.int .i64 (Int.ofNat (cntByte (Nat.mod c.toNat 256) s)))) w
  | .indexByte => ∀ (s : List UInt8) (c : Int) (w : World), (callFunc f #[.string ⟨s.toArray⟩, .int .u8 c]).run P w = .ok (.value (.int .i64 (idxByte (Nat.mod c.toNat 256) s 0))) w
  | .compare => ∀ (x y : List UInt8) (w : World), (callFunc f #[.string ⟨x.toArray⟩, .string ⟨y.toArray⟩]).run P w = .ok (.value (.int .i64 (bif ltL x y then Int.negSucc 0 else bif ltL y x then Int.ofNat 1 else Int.ofNat 0))) w
  | .makeNoZero e => P.cellsOf e = 1 ∧ ∀ (n : Nat) (w : World), n ≤ 65536 → ∃ cs : Array Value, n ≤ cs.size ∧ cs.size < 2 ^ 63 ∧ (callFunc f #[.int .i64 (Int.ofNat n)]).run P w = .ok (.value (.slice (some ⟨w.heap.size, 0, none⟩) n cs.size)) (w.drew.drew.alloc (.cells cs e))
  | .other => True
/-- what is handed from outside is what the machine was told -/
structure Fit (C : Ctx) (η : Env) (w : World) : Prop where
  base : ∀ i x, C.base i = some x → η.σ i = some x
  mem : ∀ b o x, C.mem b o = some x → w.cell? ⟨b, o, none⟩ = some x
def FactOK (P : Program) (C : Ctx) (f : BinOp × AV × AV × AV) : Prop := ∀ (η : Env) (w : World), Fit C η w → ∀ x y, conc η f.2.1 = some x → conc η f.2.2.1 = some y → ∃ r, conc η f.2.2.2 = some r ∧ ∀ (t : TypeId) (p q : Operand), (do eqGuard f.1 t p q x y; Go.binOp f.1 t x y : Sem Value).run P w = .ok r w
/-- an operation on what is outside: its answer -/
def OFactOK (P : Program) (C : Ctx) (f : (Nat × Nat × Nat) × List AV × AV) : Prop := ∀ (η : Env) (w : World), Fit C η w → ∀ xs, concL η f.2.1 = some xs → ∃ r, conc η f.2.2 = some r ∧ ∀ (o : Oper) (ρ : Operand → Value), okey o.op = some f.1 → o.op.operands.toList.map ρ = xs → (execOp ρ o).run P w = .ok (.value r) w
/-- a method through an interface: how the receiver is found -/
def MethOK (P : Program) (t : TypeId) (name : String) (f : FuncId) : Recv → Prop
  | .ptr => ∀ (x : Value) (w : World), (method (P.types.size + Made.depth) t x name).run P w = .ok (f, x) w
  | .load e => ∀ (a : Addr) (y : Value) (w : World), (Go.loadVar e a).run P w = .ok y w → (method (P.types.size + Made.depth) t (.pointer (some a)) name).run P w = .ok (f, y) w
structure CtxOK (P : Program) (C : Ctx) : Prop where
  types : ∀ t i, C.types.get t = some i → TypeOK P t i
  funcs : ∀ (f : Nat) (i : FI), C.funcs.get f = some i → ∃ fn : Func, P.funcs[f]? = some fn ∧ fn.body = i.body ∧ fn.ntmps = i.ntmps ∧ fn.results.toList = i.results
  named : ∀ (f : Nat) (fn : Func), P.funcs[f]? = some fn → fn.body.isSome = true → (fn.name == "runtime.NumGoroutine") = false
  exts : ∀ (f : Nat) (e : Ext), C.exts.get f = some e → ExtOK P f e
  keys : ∀ (t m : Nat), C.keys.get t = some m → (m ≤ 10000 ∧ P.keyTypeAt m t = true) ∧ P.eqGuardType P.depth t = false
  facts : ∀ f ∈ C.facts, FactOK P C f
  ofacts : ∀ f ∈ C.ofacts, OFactOK P C f
  meths : ∀ (t : Nat) (l : List (String × Option (FuncId × Recv))), C.meths.get t = some l → ∀ (name q : String) (f : FuncId) (r : Recv), l.find? (fun m => m.1 == name) = some (q, some (f, r)) → MethOK P t name f r

theorem TypeOK.underlying {P : Program} {t : TypeId} {i : TI} (h : TypeOK P t i) (w : World) : (Go.underlying t).run P w = .ok i.und w := by
  simp [Go.underlying, h.und]
theorem TypeOK.sizeOf {P : Program} {t : TypeId} {i : TI} (h : TypeOK P t i) (w : World) : (Go.sizeOf t).run P w = .ok i.size w := by
  obtain ⟨inf, h1, h2, _⟩ := h.info
  simp [Go.sizeOf, Go.typeInfo, h1, h2]
theorem TypeOK.cellsOf {P : Program} {t : TypeId} {i : TI} (h : TypeOK P t i) : P.cellsOf t = i.size := by
  obtain ⟨inf, h1, h2, _⟩ := h.info
  simp [Program.cellsOf, h1, h2]
theorem TypeOK.zeroValue {P : Program} {t : TypeId} {i : TI} (h : TypeOK P t i) {z : AV} (hz : i.zero = some z) (w : World) : ∃ v, (Go.zeroValue t).run P w = .ok v w ∧ ∀ η, conc η z = some v := by
  obtain ⟨inf, h1, _, _, h4⟩ := h.info
  obtain ⟨v, hv, hc⟩ := h4 z hz
  exact ⟨v, by simp [Go.zeroValue, Go.typeInfo, h1, hv], hc⟩
theorem TypeOK.isAgg {P : Program} {t : TypeId} {i : TI} (h : TypeOK P t i) (w : World) : (Go.isAgg t).run P w = .ok (isAggD i.und) w := by
  unfold Go.isAgg
  simp only [Sem.run_bind, h.underlying, Result.andThen_ok]
  cases i.und <;> rfl

/-! cells of values -/
theorem cells_conc {η : Env} {v : AV} {x : Value} (hs : ∀ i, v ≠ .sym i) (h : conc η v = some x) : concL η v.cells = some x.cells.toList := by
  cases v with
  | agg l =>
    simp only [conc] at h
    cases h1 : concL η l with
    | none => simp [h1] at h
    | some y => simp [h1] at h; subst h; simpa [AV.cells, Value.cells] using h1
  | sym i => exact absurd rfl (hs i)
  | slice0 b off off' k less =>
    have h' := h
    simp only [conc] at h'
    have : x.cells = #[x] := by
      split at h'
      · cases h'; rfl
      · cases h'
    simp [AV.cells, this, concL, h]
  | symStr i =>
    have h' := h
    simp only [conc] at h'
    have : x.cells = #[x] := by
      split at h'
      · simp at h'; subst h'; rfl
      · simp at h'
    simp [AV.cells, this, concL, h]
  | symLen i =>
    have h' := h
    simp only [conc] at h'
    have : x.cells = #[x] := by
      split at h'
      · simp at h'; subst h'; rfl
      · simp at h'
    simp [AV.cells, this, concL, h]
  | symInt k i =>
    have h' := h
    simp only [conc] at h'
    have : x.cells = #[x] := by
      split at h'
      · split at h' <;> simp at h'
        subst h'; rfl
      · simp at h'
    simp [AV.cells, this, concL, h]
  | symC i =>
    have h' := h
    simp only [conc] at h'
    have : x.cells = #[x] := by
      split at h'
      · split at h'
        · rename_i hv; cases h'; cases x <;> first | rfl | simp [Value.oneCell'] at hv
        · cases h'
      · cases h'
    simp [AV.cells, this, concL, h]
  | ptr b off =>
    have h' := h; simp only [conc] at h'
    split at h' <;> simp at h'; subst h'; simp [AV.cells, Value.cells, concL, h]
  | slice b off len c =>
    have h' := h; simp only [conc] at h'
    split at h'
    · split at h'
      · cases h'; simp [AV.cells, Value.cells, concL, h]
      · cases h'
    · cases h'
  | map b =>
    have h' := h; simp only [conc] at h'
    split at h' <;> simp at h'; subst h'; simp [AV.cells, Value.cells, concL, h]
  | yield b =>
    have h' := h; simp only [conc] at h'
    split at h' <;> simp at h'; subst h'; simp [AV.cells, Value.cells, concL, h]
  | func f a b =>
    have h' := h; simp only [conc] at h'
    split at h' <;> simp at h'; subst h'; simp [AV.cells, Value.cells, concL, h]
  | iface t v =>
    have h' := h; simp only [conc] at h'
    split at h' <;> simp at h'; subst h'; simp [AV.cells, Value.cells, concL, h]
  | tuple l =>
    have h' := h; simp only [conc] at h'
    split at h' <;> simp at h'; subst h'; simp [AV.cells, Value.cells, concL, h]
  | _ => simp only [conc, Option.some.injEq] at h; subst h; simp [AV.cells, Value.cells, concL, conc]

theorem oneCell_conc {η : Env} {v : AV} {x : Value} (ho : v.oneCell = true) (h : conc η v = some x) : x.oneCell' = true := by
  cases v <;> simp [AV.oneCell] at ho <;> simp only [conc] at h
  all_goals first
    | (simp at h; subst h; rfl)
    | (split at h <;> simp at h; subst h; rfl)
    | (split at h
       · split at h
         · cases h; rfl
         · cases h
       · cases h)
    | (split at h
       · split at h
         · rename_i hv; cases h; exact hv
         · cases h
       · cases h)

/-! reading -/
theorem getC {P : Program} {E : List LoopInfo} {η : Env} {H : Heap} {w : World} (hr : HRel P η E H w) {b : Nat} {t : Tr AV} {n : Nat} {e : TypeId} {opn : Bool} {lo hi : Nat} {mk : Bool}
    (hg : H.get b = some (.cells t n e opn lo hi mk)) : ∃ r c fz, η.ρ b = some r ∧ w.heap[r]? = some (.cells c e fz) ∧ CRel P η b t n e opn lo hi mk c e fz := by
  obtain ⟨r, ob, hb, hob, hrel⟩ := hr.obj b _ hg
  cases ob with
  | cells c e' fz =>
    have hrel : CRel P η b t n e opn lo hi mk c e' fz := hrel
    have he := hrel.elem; subst he
    exact ⟨r, c, fz, hb, hob, hrel⟩
  | _ => exact hrel.elim
theorem cell_of_heap {w : World} {r : Nat} {c : Array Value} {e : TypeId} {fz : Nat × Nat} (h : w.heap[r]? = some (.cells c e fz)) (off : Nat) : w.cell? ⟨r, off, none⟩ = c[off]? := by
  simp [World.cell?, h]
theorem blt_lt {a b : Nat} (h : Nat.blt a b = true) : a < b := by simpa [Nat.blt_eq] using h
theorem ble_le {a b : Nat} (h : Nat.ble a b = true) : a ≤ b := Nat.le_of_ble_eq_true h
theorem beq_eq {a b : Nat} (h : Nat.beq a b = true) : a = b := Nat.eq_of_beq_eq_true h

theorem load1_sound {P : Program} {E : List LoopInfo} {η : Env} {H : Heap} {w : World} (hr : HRel P η E H w) {b off : Nat} {v : AV} (h : load1 H b off = some v) :
    ∃ r x, η.ρ b = some r ∧ w.cell? ⟨r, off, none⟩ = some x ∧ conc η v = some x := by
  unfold load1 at h
  split at h
  · rename_i t n e o lo hi mk hg
    cases hb : Nat.blt off n with
    | false => simp [hb] at h
    | true =>
      simp [hb] at h
      obtain ⟨r, c, fz, hρ, hh, hc⟩ := getC hr hg
      obtain ⟨x, hx, hcx⟩ := hc.get off v h (blt_lt hb)
      exact ⟨r, x, hρ, by rw [cell_of_heap hh]; exact hx, hcx⟩
  · simp at h
theorem loadN_sound {P : Program} {E : List LoopInfo} {η : Env} {H : Heap} {w : World} (hr : HRel P η E H w) {b off k : Nat} {l : List AV} (h : loadN H b off k = some l) :
    ∃ r xs, η.ρ b = some r ∧ concL η l = some xs ∧ xs.length = k ∧ l.length = k ∧ (∀ j x, xs[j]? = some x → w.cell? ⟨r, off + j, none⟩ = some x) ∧ (loadCells ⟨r, off, none⟩ k).run P w = .ok xs.toArray w := by
  unfold loadN at h
  split at h
  · rename_i t n e o lo hi mk hg
    cases hb : Nat.ble (off + k) n with
    | false => simp [hb] at h
    | true =>
      simp [hb] at h
      have hb := ble_le hb
      obtain ⟨r, c, fz, hρ, hh, hc⟩ := getC hr hg
      obtain ⟨hl, hk⟩ := Tr.getL_some _ _ _ _ h
      have hx : ∀ j, j < k → ∃ v x, l[j]? = some v ∧ c[off + j]? = some x ∧ conc η v = some x := fun j hj => by
        have hv : l[j]? = some l[j] := List.getElem?_eq_getElem (by omega)
        have h2 := hk j hj
        rw [hv] at h2
        obtain ⟨x, hx, hcx⟩ := hc.get (off + j) _ h2 (by omega)
        exact ⟨_, x, hv, hx, hcx⟩
      have hlen : (((List.range k).map fun j => (c[off + j]?).getD undef)).length = l.length := by simp [hl]
      refine ⟨r, (List.range k).map fun j => (c[off + j]?).getD undef, hρ, ?_, by simp, hl, ?_, ?_⟩
      · refine concL_of_get hlen fun i v hv => ?_
        have hi : i < k := by rw [← hl]; exact (List.getElem?_eq_some_iff.1 hv).1
        obtain ⟨v', x, hv', hx, hcx⟩ := hx i hi
        rw [hv] at hv'; cases hv'
        exact ⟨x, by simp [hi, hx], hcx⟩
      · intro j x hj
        have hi : j < k := by have := (List.getElem?_eq_some_iff.1 hj).1; simpa using this
        obtain ⟨v', x', hv', hx', hcx⟩ := hx j hi
        simp [hi, hx'] at hj; subst hj
        rw [cell_of_heap hh]; exact hx'
      · have := run_loadCells (P := P) w ⟨r, off, none⟩ k (fun j => (c[off + j]?).getD undef) (fun j hj => by
          obtain ⟨v', x', hv', hx', hcx⟩ := hx j hj
          have : (Addr.mk r off none).add j = ⟨r, off + j, none⟩ := by unfold Addr.add; by_cases h0 : j = 0 <;> simp [h0]
          rw [this, cell_of_heap hh, hx']; simp)
        simpa using this
  · simp at h

/-! writing -/
theorem modify_eq {α : Type} {a : Array α} {i : Nat} {x : α} (f : α → α) (h : a[i]? = some x) : a.modify i f = a.setIfInBounds i (f x) := by
  apply Array.ext_getElem?
  intro j
  rw [Array.getElem?_modify, Array.getElem?_setIfInBounds]
  by_cases hij : i = j
  · subst hij
    obtain ⟨h1, h2⟩ := Array.getElem?_eq_some_iff.1 h
    simp [h1, h2]
  · simp [hij]
theorem setCell_put {w : World} {r off : Nat} {c : Array Value} {e : TypeId} {fz : Nat × Nat} (h : w.heap[r]? = some (.cells c e fz)) (v : Value) :
    w.setCell ⟨r, off, none⟩ v = World.putBlock w r (.cells (c.setIfInBounds off v) e fz) := by
  unfold World.setCell World.putBlock
  rw [modify_eq _ h]; simp

def writeL (c : Array Value) (off : Nat) : List Value → Array Value
  | [] => c
  | x :: xs => writeL (c.setIfInBounds off x) (off + 1) xs
theorem writeL_size : ∀ (xs : List Value) (c : Array Value) (off : Nat), (writeL c off xs).size = c.size
  | [], _, _ => rfl
  | x :: xs, c, off => by simp [writeL, writeL_size xs]
theorem writeL_get : ∀ (xs : List Value) (c : Array Value) (off : Nat), off + xs.length ≤ c.size → ∀ j, (writeL c off xs)[j]? = if off ≤ j ∧ j < off + xs.length then xs[j - off]? else c[j]?
  | [], c, off, _, j => by simp only [writeL, List.length_nil]; rw [if_neg (by omega)]
  | x :: xs, c, off, h, j => by
    simp only [List.length_cons] at h ⊢
    simp only [writeL]
    rw [writeL_get xs _ _ (by simp; omega)]
    by_cases h1 : off + 1 ≤ j ∧ j < off + 1 + xs.length
    · rw [if_pos h1, if_pos (by omega), show j - off = (j - (off + 1)) + 1 from by omega, List.getElem?_cons_succ]
    · rw [if_neg h1, Array.getElem?_setIfInBounds]
      by_cases h2 : off = j
      · subst h2; rw [if_pos rfl, if_pos (by omega), if_pos (by omega)]; simp
      · rw [if_neg h2, if_neg (by omega)]
theorem putBlock_putBlock (w : World) (r : Nat) (a b : Obj) : World.putBlock (World.putBlock w r a) r b = World.putBlock w r b := by
  unfold World.putBlock; simp
theorem run_storeCells_go {P : Program} (r off : Nat) (e : TypeId) (fz : Nat × Nat) : ∀ (xs : List Value) (i : Nat) (w : World) (c : Array Value), w.heap[r]? = some (.cells c e fz) → off + i + xs.length ≤ c.size →
    (∀ x ∈ xs, x.oneCell' = true) → (∀ j, j < xs.length → ¬ (fz.1 ≤ off + i + j ∧ off + i + j < fz.2)) →
    (storeCells ⟨r, off, none⟩ xs i).run P w = .ok () (if xs = [] then w else World.putBlock w r (.cells (writeL c (off + i) xs) e fz))
  | [], _, _, _, _, _, _, _ => by simp [storeCells]
  | x :: xs, i, w, c, hw, hle, ho, hf => by
    have hlt := lt_of_get hw
    simp only [List.length_cons] at hle hf
    have hadd : (Addr.mk r off none).add i = ⟨r, off + i, none⟩ := by unfold Addr.add; by_cases h0 : i = 0 <;> simp [h0]
    have hcell : w.cell? ⟨r, off + i, none⟩ = some c[off + i] := by rw [cell_of_heap hw]; exact Array.getElem?_eq_getElem (by omega)
    have hfr : w.frozen? ⟨r, off + i, none⟩ = false := by
      simp only [World.frozen?, hw]
      have := hf 0 (by omega)
      simp at this ⊢; omega
    simp only [storeCells, Sem.run_bind, hadd, run_store P w _ x _ (ho x (by simp)), hcell, hfr]
    simp only [Bool.false_eq_true, if_false, Result.andThen_ok]
    rw [setCell_put hw]
    rw [run_storeCells_go r off e fz xs (i + 1) _ (c.setIfInBounds (off + i) x) (by rw [putBlock_get _ _ _ _ hlt]; simp) (by simp; omega) (fun y hy => ho y (by simp [hy])) (fun j hj => by have := hf (j + 1) (by omega); intro hh; exact this ⟨by omega, by omega⟩)]
    simp only [List.cons_ne_nil, if_false]
    cases xs with
    | nil => simp [writeL]
    | cons y ys =>
      simp only [List.cons_ne_nil, if_false, putBlock_putBlock]
      rfl

theorem storeL_sound {P : Program} {E : List LoopInfo} {η : Env} {H H' : Heap} {w : World} (hr : HRel P η E H w) {b off : Nat} {vs : List AV} (h : storeL H b off vs = some H') {xs : List Value} (hx : concL η vs = some xs) :
    ∃ r w', η.ρ b = some r ∧ (storeCells ⟨r, off, none⟩ xs 0).run P w = .ok () w' ∧ Trans P E η H w η H' w' ∧ H'.next = H.next := by
  unfold storeL at h
  split at h
  · rename_i t n e o lo hi mk hg
    cases hb : (Nat.ble (off + vs.length) n && (Nat.ble hi off || Nat.ble (off + vs.length) lo) && vs.all AV.oneCell) with
    | false => simp [hb] at h
    | true =>
      simp only [hb, cond_true, Option.some.injEq] at h
      subst h
      simp only [Bool.and_eq_true, Bool.or_eq_true, List.all_eq_true] at hb
      obtain ⟨⟨h1, h2⟩, h3⟩ := hb
      have h1 := ble_le h1
      obtain ⟨r, c, fz, hρ, hh, hc⟩ := getC hr hg
      have hxl := concL_length hx
      have hle := hc.le
      have hone : ∀ x ∈ xs, x.oneCell' = true := fun x hxm => by
        obtain ⟨i, hi, rfl⟩ := List.getElem_of_mem hxm
        obtain ⟨y, hy, hcy⟩ := concL_get hx i vs[i] (List.getElem?_eq_getElem (by omega))
        rw [List.getElem?_eq_getElem hi] at hy; cases hy
        exact oneCell_conc (h3 _ (List.getElem_mem _)) hcy
      have hnf : ∀ j, j < xs.length → ¬ (fz.1 ≤ off + 0 + j ∧ off + 0 + j < fz.2) := fun j hj hh => by
        rcases hc.cover (off + j) (by omega) (by omega) with ⟨p, q⟩ | ⟨_, p⟩
        · rcases h2 with h2 | h2 <;> have := ble_le h2 <;> omega
        · omega
      have hrun := run_storeCells_go (P := P) r off e fz xs 0 w c hh (by omega) hone hnf
      have hput : (if xs = [] then w else World.putBlock w r (.cells (writeL c (off + 0) xs) e fz)) = World.putBlock w r (.cells (writeL c off xs) e fz) := by
        by_cases hn : xs = []
        · subst hn; simp only [if_true, writeL]
          unfold World.putBlock
          have : w.heap.setIfInBounds r (.cells c e fz) = w.heap := by
            apply Array.ext_getElem?
            intro j; rw [Array.getElem?_setIfInBounds]
            by_cases hj : r = j
            · subst hj; rw [if_pos rfl, if_pos (lt_of_get hh), hh]
            · simp [hj]
          rw [this]
        · rw [if_neg hn]; rfl
      rw [hput] at hrun
      refine ⟨r, _, hρ, hrun, Trans.put hr hg hρ _ _ ?_ rfl, rfl⟩
      have hsz := writeL_size xs c off
      exact ⟨rfl, fun i v hv hi => by
        rw [Tr.get_setL] at hv
        rw [writeL_get xs c off (by omega)]
        by_cases hin : off ≤ i ∧ i < off + vs.length
        · rw [if_pos hin] at hv; rw [if_pos (by omega)]
          exact concL_get hx _ _ hv
        · rw [if_neg hin] at hv; rw [if_neg (by omega)]
          exact hc.get i v hv hi, by rw [hsz]; exact hc.le, fun hh => by rw [hsz]; exact hc.shut hh, fun hh => by rw [hsz]; exact hc.opened hh, hc.fzle, by rw [hsz]; exact hc.cover, by rw [hsz]; exact hc.small⟩
  · simp at h
end Go.VmK
