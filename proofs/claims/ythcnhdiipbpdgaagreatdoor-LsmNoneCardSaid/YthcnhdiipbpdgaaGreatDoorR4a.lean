/-
  A machine that runs the model with abstract blocks, and lemmas on it: whatever it answers of a call is what the model does (ProgOK, Base: the conditions).
-/
import Derived.Test.YthcnhdiipbpdgaaGreatDoorVmK
import GoSem.Dispatch
import Derived.Laws.Sem
import Derived.IntWalk
namespace Go.VmK

theorem eqI_eq (x y : Int) : eqI x y = (x == y) := by
  rw [Bool.eq_iff_iff, beq_iff_eq]
  cases x with
  | ofNat a =>
    cases y with
    | ofNat b => show Nat.beq a b = true ↔ _; rw [Nat.beq_eq]; simp; omega
    | negSucc b => show false = true ↔ _; constructor <;> intro h <;> cases h
  | negSucc a =>
    cases y with
    | ofNat b => show false = true ↔ _; constructor <;> intro h <;> cases h
    | negSucc b => show Nat.beq a b = true ↔ _; rw [Nat.beq_eq]; simp
theorem ltI_eq (x y : Int) : ltI x y = decide (x < y) := by
  rw [Bool.eq_iff_iff, decide_eq_true_iff]
  cases x with
  | ofNat a =>
    cases y with
    | ofNat b => show Nat.blt a b = true ↔ _; rw [Nat.blt_eq]; simp
    | negSucc b => show false = true ↔ _; constructor; · intro h; cases h
                   · intro h; exfalso; simp at h; omega
  | negSucc a =>
    cases y with
    | ofNat b => show true = true ↔ _; constructor; · intro _; simp; omega
                 · intro _; rfl
    | negSucc b => show Nat.blt b a = true ↔ _; rw [Nat.blt_eq]; omega
theorem notB_eq (b : Bool) : notB b = !b := by cases b <;> rfl
theorem kindNo_inj {a b : IntKind} (h : Nat.beq (kindNo a) (kindNo b) = true) : a = b := by
  have := Nat.eq_of_beq_eq_true h
  cases a <;> cases b <;> simp [kindNo] at this <;> rfl

theorem leI64_le {n : Int} (h : leI64 n = true) : -9223372036854775808 ≤ n ∧ n ≤ 9223372036854775807 := by
  cases n with
  | ofNat m => simp only [leI64] at h; have := Nat.le_of_ble_eq_true h; simp; omega
  | negSucc m => simp only [leI64] at h; have := Nat.le_of_ble_eq_true h; omega
theorem leNat_le {b : Nat} {n : Int} (h : leNat b n = true) : 0 ≤ n ∧ n ≤ b := by
  cases n with
  | ofNat m => simp only [leNat] at h; have := Nat.le_of_ble_eq_true h; simp; omega
  | negSucc m => simp [leNat] at h
theorem wrapK_eq (k : IntKind) (n : Int) : wrapK k n = k.wrap n := by
  cases k <;> try rfl
  · show wrapIf (leI64 n) .i64 n = _
    cases h : leI64 n with
    | false => rfl
    | true => obtain ⟨h1, h2⟩ := leI64_le h; exact (IntWalk.i64_in n ⟨h1, h2⟩).symm
  · show wrapIf (leNat 255 n) .u8 n = _
    cases h : leNat 255 n with
    | false => rfl
    | true => obtain ⟨h1, h2⟩ := leNat_le h; exact (IntWalk.u8_in n ⟨h1, by omega⟩).symm
  · show wrapIf (leNat 4294967295 n) .u32 n = _
    cases h : leNat 4294967295 n with
    | false => rfl
    | true => obtain ⟨h1, h2⟩ := leNat_le h; exact (IntWalk.u32_in n ⟨h1, by omega⟩).symm
  · show wrapIf (leNat 18446744073709551615 n) .u64 n = _
    cases h : leNat 18446744073709551615 n with
    | false => rfl
    | true => obtain ⟨h1, h2⟩ := leNat_le h; exact (IntWalk.u64_in n ⟨h1, by omega⟩).symm

/-- a plain value: the same in every reading -/
inductive Flat : AV → Value → Prop
  | bool (b : Bool) : Flat (.bool b) (.bool b)
  | int (k : IntKind) (n : Int) : Flat (.int k n) (.int k n)
  | str (s : List UInt8) : Flat (.str s) (.string ⟨s.toArray⟩)

variable (P : Program) (w : World) {t : TypeId}

theorem maxNat_lt (k : IntKind) : maxNat k < 2 ^ k.bits := by cases k <;> decide
theorem bit_wrap (k : IntKind) (r : Nat) (h : r ≤ maxNat k) : k.wrap r = r := by
  cases k <;> simp only [maxNat] at h
  · exact IntWalk.i8_in _ ⟨by omega, by omega⟩
  · exact IntWalk.i16_in _ ⟨by omega, by omega⟩
  · exact IntWalk.i32_in _ ⟨by omega, by omega⟩
  · exact IntWalk.i64_in _ ⟨by omega, by omega⟩
  · exact IntWalk.u8_in _ ⟨by omega, by omega⟩
  · exact IntWalk.u16_in _ ⟨by omega, by omega⟩
  · exact IntWalk.u32_in _ ⟨by omega, by omega⟩
  · exact IntWalk.u64_in _ ⟨by omega, by omega⟩
theorem ofInt_toNat (k : IntKind) (a : Nat) (h : a ≤ maxNat k) : (BitVec.ofInt k.bits (Int.ofNat a)).toNat = a := by
  rw [show (Int.ofNat a) = ((a : Nat) : Int) from rfl, BitVec.ofInt_natCast, BitVec.toNat_ofNat]
  exact Nat.mod_eq_of_lt (Nat.lt_of_le_of_lt h (maxNat_lt k))

def modelBit (op : BinOp) (k : IntKind) (x y : Int) : Option Int := bitSlow op k x y
theorem intBits_run {op : BinOp} {k : IntKind} {x y : Int} {n : Int} (h : bitSlow op k x y = some n) : (Op.intBits op k x y).run P w = .ok (.int k n) w := by
  unfold bitSlow at h
  cases op <;> simp at h <;> subst h <;> simp [Op.intBits]
theorem maxNat_pow (k : IntKind) : ∃ m, maxNat k = 2 ^ m - 1 := by cases k <;> first | exact ⟨7, rfl⟩ | exact ⟨15, rfl⟩ | exact ⟨31, rfl⟩ | exact ⟨63, rfl⟩ | exact ⟨8, rfl⟩ | exact ⟨16, rfl⟩ | exact ⟨32, rfl⟩ | exact ⟨64, rfl⟩
theorem lt_of_le_max {k : IntKind} {a m : Nat} (hm : maxNat k = 2 ^ m - 1) (h : a ≤ maxNat k) : a < 2 ^ m := by have := Nat.two_pow_pos m; omega
theorem bitN_sound {f : Nat → Nat → Nat} {op : BinOp} {k : IntKind} {a b : Nat} {v : AV} (hop : (op = .and ∧ f = Nat.land) ∨ (op = .or ∧ f = Nat.lor) ∨ (op = .xor ∧ f = Nat.xor))
    (h : bitN f op k a b = some v) : ∃ n, v = .int k n ∧ (Op.intBits op k (.ofNat a) (.ofNat b)).run P w = .ok (.int k n) w := by
  have gen : bitGen op k (.ofNat a) (.ofNat b) = some v → ∃ n, v = .int k n ∧ (Op.intBits op k (.ofNat a) (.ofNat b)).run P w = .ok (.int k n) w := fun h => by
    unfold bitGen at h
    split at h
    · cases h
    · rename_i n hs; exact ⟨n, (Option.some.inj h).symm, intBits_run P w hs⟩
  unfold bitN at h
  cases h1 : Nat.ble a (maxNat k) with
  | false => rw [h1] at h; exact gen h
  | true =>
    rw [h1] at h
    cases h2 : Nat.ble b (maxNat k) with
    | false => rw [h2] at h; exact gen h
    | true =>
      rw [h2] at h
      have h : v = .int k (.ofNat (f a b)) := (Option.some.inj h).symm
      refine ⟨_, h, ?_⟩
      have ha := Nat.le_of_ble_eq_true h1
      have hb := Nat.le_of_ble_eq_true h2
      obtain ⟨m, hm⟩ := maxNat_pow k
      have la := lt_of_le_max hm ha
      have lb := lt_of_le_max hm hb
      have w1 : ∀ r, r < 2 ^ m → k.wrap (r : Nat) = (r : Int) := fun r hr => bit_wrap k r (by omega)
      rcases hop with ⟨rfl, rfl⟩ | ⟨rfl, rfl⟩ | ⟨rfl, rfl⟩
      · apply intBits_run
        simp only [bitSlow, BitVec.toNat_and, ofInt_toNat k a ha, ofInt_toNat k b hb]
        rw [w1 _ (Nat.and_lt_two_pow a lb)]; rfl
      · apply intBits_run
        simp only [bitSlow, BitVec.toNat_or, ofInt_toNat k a ha, ofInt_toNat k b hb]
        rw [w1 _ (Nat.or_lt_two_pow la lb)]; rfl
      · apply intBits_run
        simp only [bitSlow, BitVec.toNat_xor, ofInt_toNat k a ha, ofInt_toNat k b hb]
        rw [w1 _ (Nat.xor_lt_two_pow la lb)]; rfl
theorem bitGen_sound {op : BinOp} {k : IntKind} {x y : Int} {v : AV} (h : bitGen op k x y = some v) : ∃ n, v = .int k n ∧ (Op.intBits op k x y).run P w = .ok (.int k n) w := by
  unfold bitGen at h
  split at h
  · cases h
  · rename_i n hs; exact ⟨n, (Option.some.inj h).symm, intBits_run P w hs⟩
theorem bitOp_sound {f : Nat → Nat → Nat} {op : BinOp} {k : IntKind} {x y : Int} {v : AV} (hop : (op = .and ∧ f = Nat.land) ∨ (op = .or ∧ f = Nat.lor) ∨ (op = .xor ∧ f = Nat.xor))
    (h : bitOp f op k x y = some v) : ∃ n, v = .int k n ∧ (Op.intBits op k x y).run P w = .ok (.int k n) w := by
  unfold bitOp at h
  cases x with
  | ofNat a =>
    cases y with
    | ofNat b => exact bitN_sound P w hop h
    | negSucc b => exact bitGen_sound P w h
  | negSucc a => exact bitGen_sound P w h

/-- two whole numbers of one kind -/
theorem intOp_sound {op : BinOp} {k : IntKind} {x y : Int} {v : AV} (hns : isShift op = false) (h : intOp op k x y = some v) :
    ∃ u, Flat v u ∧ (Go.binOp op t (.int k x) (.int k y)).run P w = .ok u w := by
  cases op <;> simp [isShift] at hns
  all_goals (simp only [intOp] at h)
  · simp only [opAdd, Option.some.injEq] at h; subst h; exact ⟨_, .int _ _, by simp [Go.binOp, Op.intArith, wrapK_eq]⟩
  · simp only [opSub, Option.some.injEq] at h; subst h; exact ⟨_, .int _ _, by simp [Go.binOp, Op.intArith, wrapK_eq]; rfl⟩
  · simp only [opMul, Option.some.injEq] at h; subst h; exact ⟨_, .int _ _, by simp [Go.binOp, Op.intArith, wrapK_eq]⟩
  · unfold opQuo at h
    cases h0 : eqI y 0 with
    | true => rw [h0] at h; simp at h
    | false =>
      rw [h0] at h; simp at h; subst h
      rw [eqI_eq] at h0
      exact ⟨_, .int _ _, by simp at h0; simp [Go.binOp, Op.intDiv, wrapK_eq, h0]⟩
  · unfold opRem at h
    cases h0 : eqI y 0 with
    | true => rw [h0] at h; simp at h
    | false =>
      rw [h0] at h; simp at h; subst h
      rw [eqI_eq] at h0
      exact ⟨_, .int _ _, by simp at h0; simp [Go.binOp, Op.intDiv, h0]⟩
  · obtain ⟨n, rfl, hr⟩ := bitOp_sound P w (.inl ⟨rfl, rfl⟩) h; exact ⟨_, .int _ _, by simpa [Go.binOp] using hr⟩
  · obtain ⟨n, rfl, hr⟩ := bitOp_sound P w (.inr (.inl ⟨rfl, rfl⟩)) h; exact ⟨_, .int _ _, by simpa [Go.binOp] using hr⟩
  · obtain ⟨n, rfl, hr⟩ := bitOp_sound P w (.inr (.inr ⟨rfl, rfl⟩)) h; exact ⟨_, .int _ _, by simpa [Go.binOp] using hr⟩
  · first
      | (obtain ⟨n, rfl, hr⟩ := bitGen_sound P w h; exact ⟨_, .int _ _, by simpa [Go.binOp] using hr⟩)
      | simp at h
  · simp only [opB, Option.some.injEq] at h; subst h; exact ⟨_, .bool _, by simp [Go.binOp, Op.intCmp, eqI_eq]⟩
  · simp only [opB, Option.some.injEq] at h; subst h; exact ⟨_, .bool _, by simp [Go.binOp, Op.intCmp, eqI_eq, notB_eq]; rfl⟩
  · simp only [opB, Option.some.injEq] at h; subst h; exact ⟨_, .bool _, by simp [Go.binOp, Op.intCmp, ltI_eq]⟩
  · simp only [opB, Option.some.injEq] at h; subst h; exact ⟨_, .bool _, by simp [Go.binOp, Op.intCmp, ltI_eq, notB_eq]; rw [Bool.eq_iff_iff]; simp⟩
  · simp only [opB, Option.some.injEq] at h; subst h; exact ⟨_, .bool _, by simp [Go.binOp, Op.intCmp, ltI_eq]⟩
  · simp only [opB, Option.some.injEq] at h; subst h; exact ⟨_, .bool _, by simp [Go.binOp, Op.intCmp, ltI_eq, notB_eq]; rw [Bool.eq_iff_iff]; simp⟩
theorem shift_sound {op : BinOp} {k k' : IntKind} {x y : Int} {v : AV} (hs : isShift op = true) (h : intOp op k x y = some v) :
    ∃ u, Flat v u ∧ (Go.binOp op t (.int k x) (.int k' y)).run P w = .ok u w := by
  cases op <;> simp [isShift] at hs
  · simp only [intOp, opShl] at h
    cases h0 : ltI y 0 with
    | true => rw [h0] at h; simp at h
    | false =>
      rw [h0] at h; simp at h; subst h
      rw [ltI_eq] at h0
      refine ⟨_, .int _ _, ?_⟩
      have h0 : ¬ y < 0 := by simpa using h0
      simp [Go.binOp, Op.shift, h0, wrapK_eq]
  · simp only [intOp, opShr] at h
    cases h0 : ltI y 0 with
    | true => rw [h0] at h; simp at h
    | false =>
      rw [h0] at h; simp at h; subst h
      rw [ltI_eq] at h0
      refine ⟨_, .int _ _, ?_⟩
      have h0 : ¬ y < 0 := by simpa using h0
      simp [Go.binOp, Op.shift, h0]
theorem intOp2_sound {op : BinOp} {k k' : IntKind} {x y : Int} {v : AV} (h : intOp2 op k x k' y = some v) :
    ∃ u, Flat v u ∧ (Go.binOp op t (.int k x) (.int k' y)).run P w = .ok u w := by
  unfold intOp2 at h
  cases hk : Nat.beq (kindNo k) (kindNo k') with
  | true =>
    rw [hk] at h
    have := kindNo_inj hk; subst this
    cases hs : isShift op with
    | true => exact shift_sound P w hs h
    | false => exact intOp_sound P w hs h
  | false =>
    rw [hk] at h
    cases hs : isShift op with
    | true => rw [hs] at h; exact shift_sound P w hs h
    | false => rw [hs] at h; simp at h
end Go.VmK
