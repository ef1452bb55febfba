/-
  A machine that runs the model with abstract blocks, and lemmas on it: whatever it answers of a call is what the model does (ProgOK, Base: the conditions).
-/
import Derived.Test.YtbanldnjpnfgkaaGreatDoorV2
import GoSem.Dispatch
import Derived.Laws.Sem
import Derived.IntWalk
import Derived.Laws.Strings
namespace Go.VmK

theorem eqI_eq (x y : Int) : eqI x y = (x == y) := by
  rw [Bool.eq_iff_iff, beq_iff_eq]
  cases x with
  | ofNat a =>
    cases y with
    | ofNat b => show Nat.beq a b = true ↔ _; rw [Nat.beq_eq]; simp; omega
    | negSucc b => show false = true ↔ _; constructor <;> intro h <;> cases h
  | negSucc a =>
    cases y with
    | ofNat b => show false = true ↔ _; constructor <;> intro h <;> cases h
    | negSucc b => show Nat.beq a b = true ↔ _; rw [Nat.beq_eq]; simp
theorem ltI_eq (x y : Int) : ltI x y = decide (x < y) := by
  rw [Bool.eq_iff_iff, decide_eq_true_iff]
  cases x with
  | ofNat a =>
    cases y with
    | ofNat b => show Nat.blt a b = true ↔ _; rw [Nat.blt_eq]; simp
    | negSucc b => show false = true ↔ _; constructor; · intro h; cases h
                   · intro h; exfalso; simp at h; omega
  | negSucc a =>
    cases y with
    | ofNat b => show true = true ↔ _; constructor; · intro _; simp; omega
                 · intro _; rfl
    | negSucc b => show Nat.blt b a = true ↔ _; rw [Nat.blt_eq]; omega
theorem notB_eq (b : Bool) : notB b = !b := by cases b <;> rfl
theorem kindNo_inj {a b : IntKind} (h : Nat.beq (kindNo a) (kindNo b) = true) : a = b := by
  have := Nat.eq_of_beq_eq_true h
  cases a <;> cases b <;> simp [kindNo] at this <;> rfl

theorem leI64_le {n : Int} (h : leI64 n = true) : -9223372036854775808 ≤ n ∧ n ≤ 9223372036854775807 := by
  cases n with
  | ofNat m => simp only [leI64] at h; have := Nat.le_of_ble_eq_true h; simp; omega
  | negSucc m => simp only [leI64] at h; have := Nat.le_of_ble_eq_true h; omega
theorem leNat_le {b : Nat} {n : Int} (h : leNat b n = true) : 0 ≤ n ∧ n ≤ b := by
  cases n with
  | ofNat m => simp only [leNat] at h; have := Nat.le_of_ble_eq_true h; simp; omega
  | negSucc m => simp [leNat] at h
theorem wrapK_eq (k : IntKind) (n : Int) : wrapK k n = k.wrap n := by
  cases k <;> try rfl
  · show wrapIf (leI64 n) .i64 n = _
    cases h : leI64 n with
    | false => rfl
    | true => obtain ⟨h1, h2⟩ := leI64_le h; exact (IntWalk.i64_in n ⟨h1, h2⟩).symm
  · show wrapIf (leNat 255 n) .u8 n = _
    cases h : leNat 255 n with
    | false => rfl
    | true => obtain ⟨h1, h2⟩ := leNat_le h; exact (IntWalk.u8_in n ⟨h1, by omega⟩).symm
  · show wrapIf (leNat 4294967295 n) .u32 n = _
    cases h : leNat 4294967295 n with
    | false => rfl
    | true => obtain ⟨h1, h2⟩ := leNat_le h; exact (IntWalk.u32_in n ⟨h1, by omega⟩).symm
  · show wrapIf (leNat 18446744073709551615 n) .u64 n = _
    cases h : leNat 18446744073709551615 n with
    | false => rfl
    | true => obtain ⟨h1, h2⟩ := leNat_le h; exact (IntWalk.u64_in n ⟨h1, by omega⟩).symm

/-- a plain value: the same in every reading -/
inductive Flat : AV → Value → Prop
  | bool (b : Bool) : Flat (.bool b) (.bool b)
  | int (k : IntKind) (n : Int) : Flat (.int k n) (.int k n)
  | str (s : List UInt8) : Flat (.str s) (.string ⟨s.toArray⟩)

variable (P : Program) (w : World) {t : TypeId}

theorem maxNat_lt (k : IntKind) : maxNat k < 2 ^ k.bits := by cases k <;> decide
theorem bit_wrap (k : IntKind) (r : Nat) (h : r ≤ maxNat k) : k.wrap r = r := by
  cases k <;> simp only [maxNat] at h
  · exact IntWalk.i8_in _ ⟨by omega, by omega⟩
  · exact IntWalk.i16_in _ ⟨by omega, by omega⟩
  · exact IntWalk.i32_in _ ⟨by omega, by omega⟩
  · exact IntWalk.i64_in _ ⟨by omega, by omega⟩
  · exact IntWalk.u8_in _ ⟨by omega, by omega⟩
  · exact IntWalk.u16_in _ ⟨by omega, by omega⟩
  · exact IntWalk.u32_in _ ⟨by omega, by omega⟩
  · exact IntWalk.u64_in _ ⟨by omega, by omega⟩
theorem ofInt_toNat (k : IntKind) (a : Nat) (h : a ≤ maxNat k) : (BitVec.ofInt k.bits (Int.ofNat a)).toNat = a := by
  rw [show (Int.ofNat a) = ((a : Nat) : Int) from rfl, BitVec.ofInt_natCast, BitVec.toNat_ofNat]
  exact Nat.mod_eq_of_lt (Nat.lt_of_le_of_lt h (maxNat_lt k))

def modelBit (op : BinOp) (k : IntKind) (x y : Int) : Option Int := bitSlow op k x y
theorem intBits_run {op : BinOp} {k : IntKind} {x y : Int} {n : Int} (h : bitSlow op k x y = some n) : (Op.intBits op k x y).run P w = .ok (.int k n) w := by
  unfold bitSlow at h
  cases op <;> simp at h <;> subst h <;> simp [Op.intBits]
theorem maxNat_pow (k : IntKind) : ∃ m, maxNat k = 2 ^ m - 1 := by cases k <;> first | exact ⟨7, rfl⟩ | exact ⟨15, rfl⟩ | exact ⟨31, rfl⟩ | exact ⟨63, rfl⟩ | exact ⟨8, rfl⟩ | exact ⟨16, rfl⟩ | exact ⟨32, rfl⟩ | exact ⟨64, rfl⟩
theorem lt_of_le_max {k : IntKind} {a m : Nat} (hm : maxNat k = 2 ^ m - 1) (h : a ≤ maxNat k) : a < 2 ^ m := by have := Nat.two_pow_pos m; omega
theorem bitN_sound {f : Nat → Nat → Nat} {op : BinOp} {k : IntKind} {a b : Nat} {v : AV} (hop : (op = .and ∧ f = Nat.land) ∨ (op = .or ∧ f = Nat.lor) ∨ (op = .xor ∧ f = Nat.xor))
    (h : bitN f op k a b = some v) : ∃ n, v = .int k n ∧ (Op.intBits op k (.ofNat a) (.ofNat b)).run P w = .ok (.int k n) w := by
  have gen : bitGen op k (.ofNat a) (.ofNat b) = some v → ∃ n, v = .int k n ∧ (Op.intBits op k (.ofNat a) (.ofNat b)).run P w = .ok (.int k n) w := fun h => by
    unfold bitGen at h
    split at h
    · cases h
    · rename_i n hs; exact ⟨n, (Option.some.inj h).symm, intBits_run P w hs⟩
  unfold bitN at h
  cases h1 : Nat.ble a (maxNat k) with
  | false => rw [h1] at h; exact gen h
  | true =>
    rw [h1] at h
    cases h2 : Nat.ble b (maxNat k) with
    | false => rw [h2] at h; exact gen h
    | true =>
      rw [h2] at h
      have h : v = .int k (.ofNat (f a b)) := (Option.some.inj h).symm
      refine ⟨_, h, ?_⟩
      have ha := Nat.le_of_ble_eq_true h1
      have hb := Nat.le_of_ble_eq_true h2
      obtain ⟨m, hm⟩ := maxNat_pow k
      have la := lt_of_le_max hm ha
      have lb := lt_of_le_max hm hb
      have w1 : ∀ r, r < 2 ^ m → k.wrap (r : Nat) = (r : Int) := fun r hr => bit_wrap k r (by omega)
      rcases hop with ⟨rfl, rfl⟩ | ⟨rfl, rfl⟩ | ⟨rfl, rfl⟩
      · apply intBits_run
        simp only [bitSlow, BitVec.toNat_and, ofInt_toNat k a ha, ofInt_toNat k b hb]
        rw [w1 _ (Nat.and_lt_two_pow a lb)]; rfl
      · apply intBits_run
        simp only [bitSlow, BitVec.toNat_or, ofInt_toNat k a ha, ofInt_toNat k b hb]
        rw [w1 _ (Nat.or_lt_two_pow la lb)]; rfl
      · apply intBits_run
        simp only [bitSlow, BitVec.toNat_xor, ofInt_toNat k a ha, ofInt_toNat k b hb]
        rw [w1 _ (Nat.xor_lt_two_pow la lb)]; rfl
theorem bitGen_sound {op : BinOp} {k : IntKind} {x y : Int} {v : AV} (h : bitGen op k x y = some v) : ∃ n, v = .int k n ∧ (Op.intBits op k x y).run P w = .ok (.int k n) w := by
  unfold bitGen at h
  split at h
  · cases h
  · rename_i n hs; exact ⟨n, (Option.some.inj h).symm, intBits_run P w hs⟩
theorem bitOp_sound {f : Nat → Nat → Nat} {op : BinOp} {k : IntKind} {x y : Int} {v : AV} (hop : (op = .and ∧ f = Nat.land) ∨ (op = .or ∧ f = Nat.lor) ∨ (op = .xor ∧ f = Nat.xor))
    (h : bitOp f op k x y = some v) : ∃ n, v = .int k n ∧ (Op.intBits op k x y).run P w = .ok (.int k n) w := by
  unfold bitOp at h
  cases x with
  | ofNat a =>
    cases y with
    | ofNat b => exact bitN_sound P w hop h
    | negSucc b => exact bitGen_sound P w h
  | negSucc a => exact bitGen_sound P w h

/-- two whole numbers of one kind -/
theorem intOp_sound {op : BinOp} {k : IntKind} {x y : Int} {v : AV} (hns : isShift op = false) (h : intOp op k x y = some v) :
    ∃ u, Flat v u ∧ (Go.binOp op t (.int k x) (.int k y)).run P w = .ok u w := by
  cases op <;> simp [isShift] at hns
  all_goals (simp only [intOp] at h)
  · simp only [opAdd, Option.some.injEq] at h; subst h; exact ⟨_, .int _ _, by simp [Go.binOp, Op.intArith, wrapK_eq]⟩
  · simp only [opSub, Option.some.injEq] at h; subst h; exact ⟨_, .int _ _, by simp [Go.binOp, Op.intArith, wrapK_eq]; rfl⟩
  · simp only [opMul, Option.some.injEq] at h; subst h; exact ⟨_, .int _ _, by simp [Go.binOp, Op.intArith, wrapK_eq]⟩
  · unfold opQuo at h
    cases h0 : eqI y 0 with
    | true => rw [h0] at h; simp at h
    | false =>
      rw [h0] at h; simp at h; subst h
      rw [eqI_eq] at h0
      exact ⟨_, .int _ _, by simp at h0; simp [Go.binOp, Op.intDiv, wrapK_eq, h0]⟩
  · unfold opRem at h
    cases h0 : eqI y 0 with
    | true => rw [h0] at h; simp at h
    | false =>
      rw [h0] at h; simp at h; subst h
      rw [eqI_eq] at h0
      exact ⟨_, .int _ _, by simp at h0; simp [Go.binOp, Op.intDiv, h0]⟩
  · obtain ⟨n, rfl, hr⟩ := bitOp_sound P w (.inl ⟨rfl, rfl⟩) h; exact ⟨_, .int _ _, by simpa [Go.binOp] using hr⟩
  · obtain ⟨n, rfl, hr⟩ := bitOp_sound P w (.inr (.inl ⟨rfl, rfl⟩)) h; exact ⟨_, .int _ _, by simpa [Go.binOp] using hr⟩
  · obtain ⟨n, rfl, hr⟩ := bitOp_sound P w (.inr (.inr ⟨rfl, rfl⟩)) h; exact ⟨_, .int _ _, by simpa [Go.binOp] using hr⟩
  · first
      | (obtain ⟨n, rfl, hr⟩ := bitGen_sound P w h; exact ⟨_, .int _ _, by simpa [Go.binOp] using hr⟩)
      | simp at h
  · simp only [opB, Option.some.injEq] at h; subst h; exact ⟨_, .bool _, by simp [Go.binOp, Op.intCmp, eqI_eq]⟩
  · simp only [opB, Option.some.injEq] at h; subst h; exact ⟨_, .bool _, by simp [Go.binOp, Op.intCmp, eqI_eq, notB_eq]; rfl⟩
  · simp only [opB, Option.some.injEq] at h; subst h; exact ⟨_, .bool _, by simp [Go.binOp, Op.intCmp, ltI_eq]⟩
  · simp only [opB, Option.some.injEq] at h; subst h; exact ⟨_, .bool _, by simp [Go.binOp, Op.intCmp, ltI_eq, notB_eq]; rw [Bool.eq_iff_iff]; simp⟩
  · simp only [opB, Option.some.injEq] at h; subst h; exact ⟨_, .bool _, by simp [Go.binOp, Op.intCmp, ltI_eq]⟩
  · simp only [opB, Option.some.injEq] at h; subst h; exact ⟨_, .bool _, by simp [Go.binOp, Op.intCmp, ltI_eq, notB_eq]; rw [Bool.eq_iff_iff]; simp⟩
theorem shift_sound {op : BinOp} {k k' : IntKind} {x y : Int} {v : AV} (hs : isShift op = true) (h : intOp op k x y = some v) :
    ∃ u, Flat v u ∧ (Go.binOp op t (.int k x) (.int k' y)).run P w = .ok u w := by
  cases op <;> simp [isShift] at hs
  · simp only [intOp, opShl] at h
    cases h0 : ltI y 0 with
    | true => rw [h0] at h; simp at h
    | false =>
      rw [h0] at h; simp at h; subst h
      rw [ltI_eq] at h0
      refine ⟨_, .int _ _, ?_⟩
      have h0 : ¬ y < 0 := by simpa using h0
      simp [Go.binOp, Op.shift, h0, wrapK_eq]
  · simp only [intOp, opShr] at h
    cases h0 : ltI y 0 with
    | true => rw [h0] at h; simp at h
    | false =>
      rw [h0] at h; simp at h; subst h
      rw [ltI_eq] at h0
      refine ⟨_, .int _ _, ?_⟩
      have h0 : ¬ y < 0 := by simpa using h0
      simp [Go.binOp, Op.shift, h0]
theorem intOp2_sound {op : BinOp} {k k' : IntKind} {x y : Int} {v : AV} (h : intOp2 op k x k' y = some v) :
    ∃ u, Flat v u ∧ (Go.binOp op t (.int k x) (.int k' y)).run P w = .ok u w := by
  unfold intOp2 at h
  cases hk : Nat.beq (kindNo k) (kindNo k') with
  | true =>
    rw [hk] at h
    have := kindNo_inj hk; subst this
    cases hs : isShift op with
    | true => exact shift_sound P w hs h
    | false => exact intOp_sound P w hs h
  | false =>
    rw [hk] at h
    cases hs : isShift op with
    | true => rw [hs] at h; exact shift_sound P w hs h
    | false => rw [hs] at h; simp at h
end Go.VmK
namespace Go.VmK

/-- what an operation makes is new, and nothing else -/
structure Grow (η η' : Env) (H H' : Heap) : Prop where
  only : Only (· = H.next) η η'
  objs : ∀ id, id ≠ H.next → H.get id = none → H'.get id = none
  next : (H'.next = H.next ∧ η' = η ∧ (H.get H.next = none → H'.get H.next = none)) ∨ H'.next = H.next + 1
theorem Grow.same (η : Env) (H : Heap) : Grow η η H H := ⟨Only.refl _ _, fun _ _ h => h, .inl ⟨rfl, rfl, id⟩⟩

def SimS (P : Program) (E : List LoopInfo) (η : Env) (H : Heap) (w : World) (s : Sem Value) (v : AV) (H' : Heap) : Prop :=
  ∃ η' x w', s.run P w = .ok x w' ∧ conc η' v = some x ∧ Trans P E η H w η' H' w' ∧ Grow η η' H H'
def SimU (P : Program) (E : List LoopInfo) (η : Env) (H : Heap) (w : World) (s : Sem Unit) (H' : Heap) : Prop :=
  ∃ w', s.run P w = .ok () w' ∧ Trans P E η H w η H' w' ∧ Grow η η H H'

variable {P : Program} {C : Ctx} {E : List LoopInfo} {η : Env} {H : Heap} {w : World}

theorem SimS.pure (hr : HRel P η E H w) {s : Sem Value} {v : AV} {x : Value} (hx : conc η v = some x) (h : s.run P w = .ok x w) : SimS P E η H w s v H :=
  ⟨η, x, w, h, hx, Trans.refl hr, Grow.same _ _⟩

theorem Flat.conc {v : AV} {x : Value} (h : Flat v x) (η : Env) : conc η v = some x := by cases h <;> rfl

/-! texts -/
theorem beqL_eq : ∀ (x y : List UInt8), beqL x y = (x == y)
  | [], [] => rfl
  | [], _ :: _ => rfl
  | _ :: _, [] => rfl
  | a :: x, b :: y => by
    simp only [beqL]
    cases h : Nat.beq a.toNat b.toNat with
    | true =>
      have : a = b := UInt8.toNat_inj.1 (Nat.eq_of_beq_eq_true h)
      subst this; simp [beqL_eq x y]
    | false =>
      have : a ≠ b := fun e => by subst e; simp at h
      simp [this]
theorem ltL_eq : ∀ (x y : List UInt8), ltL x y = Op.bytesLess x y
  | _, [] => by simp [ltL, Op.bytesLess]
  | [], _ :: _ => rfl
  | a :: x, b :: y => by
    simp only [ltL, Op.bytesLess, ltL_eq x y]
    have h1 : Nat.blt a.toNat b.toNat = decide (a < b) := by
      rw [Bool.eq_iff_iff]; simp [Nat.blt_eq, UInt8.lt_iff_toNat_lt]
    have h2 : Nat.beq a.toNat b.toNat = (a == b) := by
      rw [Bool.eq_iff_iff, Nat.beq_eq]; simp [UInt8.toNat_inj]
    rw [h1, h2]
    by_cases h : a < b
    · simp [h]
    · cases hq : (a == b) <;> simp [h]
theorem bytesLess_total : ∀ (x y : List UInt8), (Op.bytesLess x y || x == y) = !Op.bytesLess y x
  | [], [] => rfl
  | [], _ :: _ => rfl
  | _ :: _, [] => rfl
  | a :: x, b :: y => by
    simp only [Op.bytesLess]
    have ih := bytesLess_total x y
    by_cases h1 : a < b
    · have h2 : ¬ b < a := by rw [UInt8.lt_iff_toNat_lt] at *; omega
      have h3 : ¬ b = a := fun e => by subst e; exact h2 h1
      simp [h1, h2, h3]
    · by_cases h2 : b < a
      · have h3 : ¬ a = b := fun e => by subst e; exact h1 h2
        simp [h1, h2, h3]
      · have : a = b := by apply UInt8.toNat_inj.1; rw [UInt8.lt_iff_toNat_lt] at h1 h2; omega
        subst this
        simp [h1]
        rw [← ih]
theorem strOp_sound {op : BinOp} {t : TypeId} {x y : List UInt8} {v : AV} (h : strOp op x y = some v) (w : World) :
    ∃ u, Flat v u ∧ (Go.binOp op t (.string ⟨x.toArray⟩) (.string ⟨y.toArray⟩)).run P w = .ok u w := by
  cases op <;> simp only [strOp] at h <;> try (cases h; done)
  · unfold strAdd at h
    cases hb : Nat.ble (x.length + y.length) 1099511627776 with
    | false => rw [hb] at h; cases h
    | true =>
      rw [hb] at h
      have h : v = .str (x ++ y) := (Option.some.inj h).symm
      subst h
      refine ⟨_, .str _, ?_⟩
      have hb := Nat.le_of_ble_eq_true hb
      have hs : ¬ (((ByteArray.mk x.toArray).size + (ByteArray.mk y.toArray).size : Nat) : Int) > IntKind.i64.max := by
        have : IntKind.i64.max = 9223372036854775807 := by decide
        rw [this]
        have e1 : (ByteArray.mk x.toArray).size = x.length := by simp [ByteArray.size]
        have e2 : (ByteArray.mk y.toArray).size = y.length := by simp [ByteArray.size]
        rw [e1, e2]; omega
      simp only [Go.binOp, Op.stringOp]
      rw [if_neg hs]
      simp
      apply ByteArray.ext
      simp
  all_goals (simp only [opB, Option.some.injEq] at h; subst h; refine ⟨_, .bool _, ?_⟩; simp [Go.binOp, Op.stringOp, beqL_eq, ltL_eq, notB_eq])
  · rw [bytesLess_total]
  · have := bytesLess_total x y
    rw [Bool.eq_iff_iff] at this ⊢
    simp at this ⊢
    grind

/-! load and store -/
theorem ti_ok (hC : CtxOK P C) {t : TypeId} {i : TI} (h : ti C t = some i) : TypeOK P t i := hC.types t i h
theorem und_ok (hC : CtxOK P C) {t : TypeId} {u : TypeDesc} (h : und C t = some u) : P.underlying t = some u := by
  unfold und at h
  cases hq : C.types.get t with
  | none => simp [hq] at h
  | some i => simp [hq] at h; rw [(hC.types t i hq).und, h]
theorem run_und (hC : CtxOK P C) {t : TypeId} {u : TypeDesc} (h : und C t = some u) (w : World) : (Go.underlying t).run P w = .ok u w := by
  simp [Go.underlying, und_ok hC h]
theorem und_of_ti {t : TypeId} {i : TI} (h : ti C t = some i) : und C t = some i.und := by unfold und; unfold ti at h; simp [h]

theorem loadVar_sound (hC : CtxOK P C) (hr : HRel P η E H w) {t : TypeId} {b off r : Nat} {v : AV} (hb : η.ρ b = some r) (h : loadVar C H t b off = some v) :
    ∃ x, (Go.loadVar t ⟨r, off, none⟩).run P w = .ok x w ∧ conc η v = some x := by
  unfold loadVar at h
  split at h
  · cases h
  · rename_i i hi
    have hT := ti_ok hC hi
    cases ha : isAggD i.und with
    | true =>
      rw [ha] at h; simp only [cond_true] at h
      cases hl : loadN H b off i.size with
      | none => rw [hl] at h; cases h
      | some l =>
        rw [hl] at h; simp at h; subst h
        obtain ⟨r', xs, hb', hx, _, _, _, hrun⟩ := loadN_sound (P := P) hr hl
        rw [hb] at hb'; cases hb'
        exact ⟨.agg xs.toArray, by simp [Go.loadVar, hT.isAgg, ha, hT.sizeOf, hrun], by simp [conc, hx]⟩
    | false =>
      rw [ha] at h; simp only [cond_false] at h
      obtain ⟨r', x, hb', hcell, hx⟩ := load1_sound (P := P) hr h
      rw [hb] at hb'; cases hb'
      exact ⟨x, by simp [Go.loadVar, hT.isAgg, ha, hcell], hx⟩

theorem doLoad_sound (hC : CtxOK P C) (hr : HRel P η E H w) {t : TypeId} {a : AV} {x : Value} {v : AV} {H' : Heap} (hx : conc η a = some x) (h : doLoad C H t a = some (.val v H')) :
    SimS P E η H w (Instr.loadAt t x) v H' := by
  unfold doLoad at h
  split at h
  · rename_i b off
    cases hl : loadVar C H t b off with
    | none => rw [hl] at h; cases h
    | some u =>
      rw [hl] at h; simp only [valO] at h; cases h
      simp only [conc] at hx
      cases hb : η.ρ b with
      | none => simp [hb] at hx
      | some r =>
        simp [hb] at hx; subst hx
        obtain ⟨y, hrun, hy⟩ := loadVar_sound hC hr hb hl
        exact SimS.pure hr hy (by simp [Instr.loadAt, Instr.sureAddr, hrun])
  · cases h

theorem doStore_sound (hC : CtxOK P C) (hr : HRel P η E H w) {t : TypeId} {a v : AV} {x y : Value} {H' : Heap} (hx : conc η a = some x) (hy : conc η v = some y) (h : doStore C H t a v = some (.skip H')) :
    SimU P E η H w (Instr.storeAt t x y) H' := by
  unfold doStore at h
  split at h
  · rename_i b off
    cases hl : storeVar C H t b off v with
    | none => rw [hl] at h; cases h
    | some u =>
      rw [hl] at h; simp only [skipO] at h; cases h
      unfold storeVar at hl
      split at hl
      · cases hl
      · rename_i i hi
        have hT := ti_ok hC hi
        cases hs : Nat.beq v.cells.length i.size with
        | false => rw [hs] at hl; cases hl
        | true =>
          rw [hs] at hl; simp only [cond_true] at hl
          have hs := beq_eq hs
          have hsym : ∀ j, v ≠ .sym j := fun j e => by
            subst e
            unfold storeL at hl
            split at hl
            · simp [AV.cells, AV.oneCell] at hl
            · cases hl
          have hcells := cells_conc hsym hy
          obtain ⟨r, w', hb, hrun, htr, hnext⟩ := storeL_sound (P := P) hr hl hcells
          simp only [conc, hb, Option.some.injEq] at hx; subst hx
          have hsz : y.cells.size = i.size := by rw [← hs, ← concL_length hcells]; simp
          refine ⟨w', ?_, htr, ⟨Only.refl _ _, ?_, .inl ⟨hnext, rfl, ?_⟩⟩⟩
          · simp [Instr.storeAt, Instr.sureAddr, Go.storeVar, hT.sizeOf, hsz, hrun]
          · intro id _ hn
            unfold storeL at hl
            split at hl
            · rename_i t' n e o lo hi mk hg
              cases hq : (Nat.ble (off + v.cells.length) n && (Nat.ble hi off || Nat.ble (off + v.cells.length) lo) && v.cells.all AV.oneCell) with
              | false => rw [hq] at hl; cases hl
              | true =>
                rw [hq] at hl; simp only [cond_true, Option.some.injEq] at hl; subst hl
                rw [Heap.get_put, if_neg]; exact hn
                intro e; subst e; rw [hg] at hn; cases hn
            · cases hl
          · intro hn
            unfold storeL at hl
            split at hl
            · rename_i t' n e o lo hi mk hg
              cases hq : (Nat.ble (off + v.cells.length) n && (Nat.ble hi off || Nat.ble (off + v.cells.length) lo) && v.cells.all AV.oneCell) with
              | false => rw [hq] at hl; cases hl
              | true =>
                rw [hq] at hl; simp only [cond_true, Option.some.injEq] at hl; subst hl
                rw [Heap.get_put, if_neg]; exact hn
                intro e; rw [e, hg] at hn; cases hn
            · cases hl
  · cases h

/-! what is made -/
theorem Grow.new {o : AObj} {η' : Env} {H' : Heap} (ho : Only (· = H.next) η η') (hH : ∀ j, H'.get j = if j = H.next then some o else H.get j) (hn : H'.next = H.next + 1) : Grow η η' H H' :=
  ⟨ho, fun id h1 h2 => by rw [hH, if_neg h1]; exact h2, .inr hn⟩

theorem newCells_sound (hr : HRel P η E H w) (hf : Fresh η H H.next) (e : TypeId) {vs : List AV} {xs : List Value} (hx : concL η vs = some xs) :
    Trans P E η H w (η.bind H.next w.heap.size) (newCells H e vs) (w.alloc (.cells xs.toArray e)) ∧ Grow η (η.bind H.next w.heap.size) H (newCells H e vs) := by
  have hl := concL_length hx
  refine ⟨Trans.new hr hf (.cells (Tr.ofL vs) vs.length e false 0 0 false) (.cells xs.toArray e) (Env.le_bind hf.ρ) (fun i => rfl) ?_ (fun j => Heap.get_new _ _ _) rfl rfl rfl, Grow.new (Only.bind _ _ _) (fun j => Heap.get_new _ _ _) rfl⟩
  exact ⟨rfl, fun i v hv _ => by
      rw [Tr.get_ofL] at hv
      obtain ⟨x, hx', hc⟩ := concL_get hx i v hv
      exact ⟨x, by simpa using hx', conc_mono (Env.le_bind hf.ρ) _ _ hc⟩,
    by simp [hl], fun _ => by simp [hl], (fun h => by cases h), Nat.le_refl _, (fun off h1 h2 => by simp at h2), (fun h => by cases h)⟩
theorem ptr_new (η : Env) (id b : Nat) : conc (η.bind id b) (.ptr id 0) = some (.pointer (some ⟨b, 0, none⟩)) := by simp [conc, Env.bind]

theorem doBox_sound (hr : HRel P η E H w) (hf : Fresh η H H.next) {t : TypeId} {a : AV} {x : Value} {v : AV} {H' : Heap} (hx : conc η a = some x) (h : doBox H t a = some (.val v H')) :
    SimS P E η H w (Instr.box t x) v H' := by
  have hs : ∀ i, a ≠ .sym i := fun i e => by subst e; simp [doBox] at h
  have h : some (Out.val (.ptr H.next 0) (newCells H t a.cells)) = some (.val v H') := by
    rw [← h]; cases a <;> first | rfl | exact absurd rfl (hs _)
  cases h
  obtain ⟨h1, h2⟩ := newCells_sound (P := P) hr hf t (cells_conc hs hx)
  exact ⟨_, _, _, by simp [Instr.box, newVar, newRow]; rfl, ptr_new _ _ _, by simpa using h1, h2⟩
theorem doAlloc_sound (hC : CtxOK P C) (hr : HRel P η E H w) (hf : Fresh η H H.next) {t : TypeId} {v : AV} {H' : Heap} (h : doAlloc C H t = some (.val v H')) :
    SimS P E η H w (Instr.alloc t true (.tuple #[])) v H' := by
  unfold doAlloc at h
  split at h
  · rename_i i hi
    split at h
    · rename_i z hz
      cases h
      obtain ⟨zv, hrun, hc⟩ := (ti_ok hC hi).zeroValue hz w
      have hs : ∀ j, z ≠ .sym j := fun j e => by
        subst e
        have h1 := hc ⟨fun _ => none, fun _ => none, fun _ => none⟩
        simp [conc] at h1
      obtain ⟨h1, h2⟩ := newCells_sound (P := P) hr hf t (cells_conc hs (hc η))
      exact ⟨_, _, _, by simp [Instr.alloc, hrun, newVar, newRow]; rfl, ptr_new _ _ _, by simpa using h1, h2⟩
    · cases h
  · cases h
end Go.VmK
namespace Go.VmK
variable {P : Program} {C : Ctx} {E : List LoopInfo} {η : Env} {H : Heap} {w : World}

theorem conc_bool {η : Env} {b : Bool} {x : Value} (h : conc η (.bool b) = some x) : x = .bool b := by simp [conc] at h; exact h.symm
theorem conc_int {η : Env} {k : IntKind} {n : Int} {x : Value} (h : conc η (.int k n) = some x) : x = .int k n := by simp [conc] at h; exact h.symm
theorem conc_str {η : Env} {s : List UInt8} {x : Value} (h : conc η (.str s) = some x) : x = .string ⟨s.toArray⟩ := by simp [conc] at h; exact h.symm
theorem conc_nilp {η : Env} {x : Value} (h : conc η .nilp = some x) : x = .pointer none := by simp [conc] at h; exact h.symm
theorem conc_nils {η : Env} {x : Value} (h : conc η .nils = some x) : x = .slice none 0 0 := by simp [conc] at h; exact h.symm
theorem conc_nilm {η : Env} {x : Value} (h : conc η .nilm = some x) : x = .map none := by simp [conc] at h; exact h.symm
theorem conc_nilFunc {η : Env} {x : Value} (h : conc η .nilFunc = some x) : x = .nilFunc := by simp [conc] at h; exact h.symm
theorem conc_nilIface {η : Env} {x : Value} (h : conc η .nilIface = some x) : x = .nilIface := by simp [conc] at h; exact h.symm
theorem conc_ptr {η : Env} {b off : Nat} {x : Value} (h : conc η (.ptr b off) = some x) : ∃ r, η.ρ b = some r ∧ x = .pointer (some ⟨r, off, none⟩) := by
  simp only [conc] at h
  split at h
  · rename_i r hr; exact ⟨r, hr, (Option.some.inj h).symm⟩
  · cases h
theorem conc_map {η : Env} {b : Nat} {x : Value} (h : conc η (.map b) = some x) : ∃ r, η.ρ b = some r ∧ x = .map (some r) := by
  simp only [conc] at h
  split at h
  · rename_i r hr; exact ⟨r, hr, (Option.some.inj h).symm⟩
  · cases h
theorem conc_slice {η : Env} {b off len : Nat} {c : Cap} {x : Value} (h : conc η (.slice b off len c) = some x) : ∃ r n, η.ρ b = some r ∧ (capOf η c = some n ∧ len ≤ n) ∧ x = .slice (some ⟨r, off, none⟩) len n := by
  simp only [conc] at h
  split at h
  · rename_i r n hr hn
    split at h
    · rename_i hle; exact ⟨r, n, hr, ⟨hn, hle⟩, (Option.some.inj h).symm⟩
    · cases h
  · cases h
theorem slice_conc {η : Env} {b off len : Nat} {c : Cap} {r n : Nat} (h1 : η.ρ b = some r) (h2 : capOf η c = some n) (h3 : len ≤ n) : conc η (.slice b off len c) = some (.slice (some ⟨r, off, none⟩) len n) := by
  simp [conc, h1, h2, h3]
theorem conc_func {η : Env} {f : Nat} {a b : List AV} {x : Value} (h : conc η (.func f a b) = some x) : ∃ xs ys, concL η a = some xs ∧ concL η b = some ys ∧ x = .func (.func f) xs.toArray ys.toArray := by
  simp only [conc] at h
  split at h
  · rename_i r n hr hn; exact ⟨r, n, hr, hn, (Option.some.inj h).symm⟩
  · cases h
theorem conc_iface {η : Env} {t : Nat} {v : AV} {x : Value} (h : conc η (.iface t v) = some x) : ∃ y, conc η v = some y ∧ x = .iface t y := by
  simp only [conc] at h
  split at h
  · rename_i r hr; exact ⟨r, hr, (Option.some.inj h).symm⟩
  · cases h
theorem conc_agg {η : Env} {l : List AV} {x : Value} (h : conc η (.agg l) = some x) : ∃ xs, concL η l = some xs ∧ x = .agg xs.toArray := by
  simp only [conc] at h
  split at h
  · rename_i r hr; exact ⟨r, hr, (Option.some.inj h).symm⟩
  · cases h
theorem conc_tuple {η : Env} {l : List AV} {x : Value} (h : conc η (.tuple l) = some x) : ∃ xs, concL η l = some xs ∧ x = .tuple xs.toArray := by
  simp only [conc] at h
  split at h
  · rename_i r hr; exact ⟨r, hr, (Option.some.inj h).symm⟩
  · cases h
theorem conc_yield {η : Env} {l : Nat} {x : Value} (h : conc η (.yield l) = some x) : ∃ r, η.ρ l = some r ∧ x = .func (.yield r) #[] #[] := by
  simp only [conc] at h
  split at h
  · rename_i r hr; exact ⟨r, hr, (Option.some.inj h).symm⟩
  · cases h

/-! equality -/
theorem equal_one {t : TypeId} {x y : Value} {w : World} {b : Bool} (h : ∀ d, (Op.equalIn (d + 1) t x y).run P w = .ok b w) : (Op.equal t x y).run P w = .ok b w := h 9999
def NoGuard : Value → Value → Prop
  | .nilIface, .nilIface => False
  | .agg _, .agg _ => False
  | _, _ => True
theorem eqGuard_ok {x y : Value} (h : NoGuard x y) (op : BinOp) (t : TypeId) (p q : Operand) (w : World) : (eqGuard op t p q x y).run P w = .ok () w := by
  cases op
  case eql => cases x <;> first | rfl | (cases y <;> first | exact h.elim | rfl)
  case neq => cases x <;> first | rfl | (cases y <;> first | exact h.elim | rfl)
  all_goals rfl
def Unlike : Value → Value → Prop
  | .nilIface, .nilIface => False
  | .agg _, .agg _ => False
  | .int _ _, _ => False
  | .float _ _, _ => False
  | .complex _ _ _, _ => False
  | .string _, _ => False
  | _, _ => True
theorem eqV_sound (hC : CtxOK P C) (_hr : HRel P η E H w) {t : TypeId} {a b : AV} {x y : Value} {r : Bool} (hx : conc η a = some x) (hy : conc η b = some y) (h : eqV C t a b = some r) :
    (Op.equal t x y).run P w = .ok r w ∧ (∀ o : BinOp, ∀ p q : Operand, (eqGuard o t p q x y).run P w = .ok () w) ∧ (Go.binOp .eql t x y).run P w = .ok (.bool r) w ∧ (Go.binOp .neq t x y).run P w = .ok (.bool (!r)) w := by
  have key : (Op.equal t x y).run P w = .ok r w ∧ Unlike x y := by
    unfold eqV at h
    split at h
    all_goals (try (cases h; done))
    all_goals (rename_i hu; have hu := und_ok hC hu)
    · cases h; rw [conc_bool hx, conc_bool hy]; exact ⟨equal_one fun d => by simp [Op.equalIn, Go.underlying, hu], trivial⟩
    · cases h; rw [conc_nilp hx, conc_nilp hy]; exact ⟨equal_one fun d => by simp [Op.equalIn, Go.underlying, hu], trivial⟩
    · cases h; obtain ⟨_, _, rfl⟩ := conc_ptr hy; rw [conc_nilp hx]; exact ⟨equal_one fun d => by simp [Op.equalIn, Go.underlying, hu], trivial⟩
    · cases h; obtain ⟨_, _, rfl⟩ := conc_ptr hx; rw [conc_nilp hy]; exact ⟨equal_one fun d => by simp [Op.equalIn, Go.underlying, hu], trivial⟩
    · rename_i e b1 i b2 j _
      obtain ⟨r1, h1, rfl⟩ := conc_ptr hx
      obtain ⟨r2, h2, rfl⟩ := conc_ptr hy
      unfold ptrEq at h
      split at h
      · rename_i te hte
        cases hz : Nat.beq te.size 0 with
        | true => rw [hz] at h; cases h
        | false =>
          rw [hz] at h; simp only [cond_false] at h
          cases hb : Nat.beq b1 b2 with
          | false => rw [hb] at h; cases h
          | true =>
            rw [hb] at h; simp only [cond_true, Option.some.injEq] at h; subst h
            have := beq_eq hb; subst this
            rw [h1] at h2; cases h2
            have hsz : te.size ≠ 0 := fun e => by rw [e] at hz; simp at hz
            refine ⟨equal_one fun d => ?_, trivial⟩
            have hs := (ti_ok hC hte).sizeOf w
            have hij : Nat.beq i j = (({ block := r1, off := i } : Addr) == { block := r1, off := j }) := by
              rw [Bool.eq_iff_iff, Nat.beq_eq]; simp
            simp [Op.equalIn, Go.underlying, hu, hs, hsz, sameAddr, hij]
      · cases h
    · cases h; obtain ⟨_, _, rfl⟩ := conc_iface hy; rw [conc_nilIface hx]; exact ⟨equal_one fun d => by simp [Op.equalIn, Go.underlying, hu], trivial⟩
    · cases h; obtain ⟨_, _, rfl⟩ := conc_iface hx; rw [conc_nilIface hy]; exact ⟨equal_one fun d => by simp [Op.equalIn, Go.underlying, hu], trivial⟩
    · cases h; rw [conc_nils hx, conc_nils hy]; exact ⟨equal_one fun d => by simp [Op.equalIn, Go.underlying, hu], trivial⟩
    · cases h; obtain ⟨_, _, _, _, rfl⟩ := conc_slice hy; rw [conc_nils hx]; exact ⟨equal_one fun d => by simp [Op.equalIn, Go.underlying, hu], trivial⟩
    · cases h; obtain ⟨_, _, _, _, rfl⟩ := conc_slice hx; rw [conc_nils hy]; exact ⟨equal_one fun d => by simp [Op.equalIn, Go.underlying, hu], trivial⟩
    · cases h; rw [conc_nilm hx, conc_nilm hy]; exact ⟨equal_one fun d => by simp [Op.equalIn, Go.underlying, hu], trivial⟩
    · cases h; obtain ⟨_, _, rfl⟩ := conc_map hy; rw [conc_nilm hx]; exact ⟨equal_one fun d => by simp [Op.equalIn, Go.underlying, hu], trivial⟩
    · cases h; obtain ⟨_, _, rfl⟩ := conc_map hx; rw [conc_nilm hy]; exact ⟨equal_one fun d => by simp [Op.equalIn, Go.underlying, hu], trivial⟩
    · cases h; rw [conc_nilFunc hx, conc_nilFunc hy]; exact ⟨equal_one fun d => by simp [Op.equalIn, Go.underlying, hu], trivial⟩
    · cases h; obtain ⟨_, _, _, _, rfl⟩ := conc_func hy; rw [conc_nilFunc hx]; exact ⟨equal_one fun d => by simp [Op.equalIn, Go.underlying, hu], trivial⟩
    · cases h; obtain ⟨_, _, _, _, rfl⟩ := conc_func hx; rw [conc_nilFunc hy]; exact ⟨equal_one fun d => by simp [Op.equalIn, Go.underlying, hu], trivial⟩
  obtain ⟨k1, k2⟩ := key
  refine ⟨k1, fun o p q => eqGuard_ok (by cases x <;> cases y <;> first | exact k2 | trivial) o t p q w, ?_, ?_⟩
  · cases x <;> (try exact k2.elim) <;> simp [Go.binOp, k1]
  · cases x <;> (try exact k2.elim) <;> simp [Go.binOp, k1]

theorem doBin_sound (hC : CtxOK P C) (hr : HRel P η E H w) {op : BinOp} {t : TypeId} {a b : AV} {x y : Value} {p q : Operand} {v : AV} {H' : Heap} (hx : conc η a = some x) (hy : conc η b = some y)
    (h : valO H (binOp C op t a b) = some (.val v H')) : H' = H ∧ ∃ u, conc η v = some u ∧ (do eqGuard op t p q x y; Go.binOp op t x y : Sem Value).run P w = .ok u w := by
  cases hb : binOp C op t a b with
  | none => rw [hb] at h; cases h
  | some u =>
    rw [hb] at h; simp only [valO] at h; cases h
    refine ⟨rfl, ?_⟩
    unfold binOp at hb
    split at hb
    · rename_i k n
      unfold binInt at hb
      split at hb
      · rename_i k' m
        obtain ⟨u', hf, hrun⟩ := intOp2_sound P w (t := t) hb
        rw [conc_int hx, conc_int hy]
        exact ⟨u', hf.conc η, by simp [eqGuard_ok (P := P) (x := .int k n) (y := .int k' m) trivial, hrun]⟩
      · cases hb
    · rename_i s
      unfold binStr at hb
      split at hb
      · rename_i s'
        obtain ⟨u', hf, hrun⟩ := strOp_sound (P := P) (t := t) hb w
        rw [conc_str hx, conc_str hy]
        exact ⟨u', hf.conc η, by simp [eqGuard_ok (P := P) (x := .string ⟨s.toArray⟩) (y := .string ⟨s'.toArray⟩) trivial, hrun]⟩
      · cases hb
    · unfold binGen at hb
      split at hb
      · unfold binEq at hb
        split at hb
        · cases hb
        · rename_i r hq
          obtain ⟨_, h2, h3, _⟩ := eqV_sound (P := P) hC hr hx hy hq
          cases hb
          exact ⟨.bool r, rfl, by simp [h2, h3]⟩
      · unfold binNe at hb
        split at hb
        · cases hb
        · rename_i r hq
          obtain ⟨_, h2, _, h3⟩ := eqV_sound (P := P) hC hr hx hy hq
          cases hb
          exact ⟨.bool (!r), by rw [notB_eq]; rfl, by simp [h2, h3]⟩
      · cases hb

theorem numKind_conc {a : AV} {x : Value} {k : IntKind} {s : Bool} (h : numKind a = some (k, s)) (hx : conc η a = some x) : ∃ n, x = .int k n := by
  cases a <;> simp [numKind] at h
  case int j n => obtain ⟨rfl, _⟩ := h; simp [conc] at hx; exact ⟨n, hx.symm⟩
  case symLen i =>
    obtain ⟨rfl, _⟩ := h
    simp only [conc] at hx
    split at hx
    · exact ⟨_, (Option.some.inj hx).symm⟩
    · cases hx
  case symInt j i =>
    obtain ⟨rfl, _⟩ := h
    simp only [conc] at hx
    split at hx
    · split at hx
      · exact ⟨_, (Option.some.inj hx).symm⟩
      · cases hx
    · cases hx
theorem txtKind_conc {a : AV} {x : Value} {s : Bool} (h : txtKind a = some s) (hx : conc η a = some x) : ∃ t : List UInt8, x = .string ⟨t.toArray⟩ := by
  cases a <;> simp [txtKind] at h
  case str t => simp [conc] at hx; exact ⟨t, hx.symm⟩
  case symStr i =>
    simp only [conc] at hx
    split at hx
    · rename_i s _
      exact ⟨s.data.toList, by rw [← Option.some.inj hx]⟩
    · cases hx
/-- a comparison that hangs on what is outside says yes or no -/
theorem openCmp_sound (hC : CtxOK P C) (hr : HRel P η E H w) {op : BinOp} {t : TypeId} {a b : AV} {x y : Value} {p q : Operand} (hx : conc η a = some x) (hy : conc η b = some y) (h : openCmp op a b = true) :
    ∃ r : Bool, (do eqGuard op t p q x y; Go.binOp op t x y : Sem Value).run P w = .ok (.bool r) w := by
  unfold openCmp at h
  simp only [Bool.and_eq_true] at h
  obtain ⟨hop, h⟩ := h
  have fin : ∀ (a' b' : AV), conc η a' = some x → conc η b' = some y → (∃ r : Bool, binOp C op t a' b' = some (.bool r)) → ∃ r : Bool, (do eqGuard op t p q x y; Go.binOp op t x y : Sem Value).run P w = .ok (.bool r) w := by
    intro a' b' h1 h2 ⟨r, h3⟩
    obtain ⟨_, u, h4, h5⟩ := doBin_sound hC hr (p := p) (q := q) (H' := H) (v := .bool r) h1 h2 (by rw [h3]; rfl)
    simp [conc] at h4
    subst h4
    exact ⟨r, h5⟩
  split at h
  · rename_i j s k s' h1 h2
    simp only [Bool.and_eq_true] at h
    have hjk := eq_of_beq h.2
    subst hjk
    obtain ⟨m, rfl⟩ := numKind_conc h1 hx
    obtain ⟨n, rfl⟩ := numKind_conc h2 hy
    refine fin (.int j m) (.int j n) rfl rfl ?_
    unfold binOp binInt intOp2
    simp only [Nat.beq_refl]
    cases op <;> first | exact ⟨_, rfl⟩ | cases hop
  · split at h
    · rename_i s s' h1 h2
      obtain ⟨m, rfl⟩ := txtKind_conc h1 hx
      obtain ⟨n, rfl⟩ := txtKind_conc h2 hy
      refine fin (.str m) (.str n) rfl rfl ?_
      unfold binOp binStr
      cases op <;> first | exact ⟨_, rfl⟩ | cases hop
    · cases h
theorem doUn_sound {op : UnOp} {a : AV} {x : Value} {v : AV} {H' : Heap} (hx : conc η a = some x) (h : doUn H op a = some (.val v H')) :
    H' = H ∧ ∃ u, conc η v = some u ∧ (Op.unary op x).run P w = .ok u w := by
  unfold doUn at h
  cases hb : unOp op a with
  | none => rw [hb] at h; cases h
  | some u =>
    rw [hb] at h; simp only [valO] at h; cases h
    unfold unOp at hb
    split at hb
    · rename_i b
      cases hb; rw [conc_bool hx]
      exact ⟨rfl, .bool (!b), by rw [notB_eq]; rfl, by simp [Op.unary]⟩
    · rename_i k n
      obtain ⟨m, rfl, hrun⟩ := bitOp_sound (P := P) (w := w) (.inr (.inr ⟨rfl, rfl⟩)) hb
      rw [conc_int hx]
      refine ⟨rfl, .int k m, rfl, ?_⟩
      have e : unMask k = if k.signed then -1 else k.max := by cases k <;> rfl
      rw [e] at hrun
      exact hrun
    · rename_i k n
      simp only [opSub, Option.some.injEq] at hb; subst hb
      rw [conc_int hx]
      exact ⟨rfl, .int k (k.wrap (0 - n)), by rw [wrapK_eq]; rfl, rfl⟩
    · cases hb

/-! fields and places -/
theorem idx_int {η : Env} {a : AV} {x : Value} {i : Int} (hx : conc η a = some x) (h : asIdx a = some i) : ∃ k, x = .int k i := by
  unfold asIdx at h
  split at h
  · rename_i k n; cases h; exact ⟨k, conc_int hx⟩
  · cases h
theorem add_off (r off k : Nat) : (Addr.mk r off none).add k = ⟨r, off + k, none⟩ := by unfold Addr.add; by_cases h0 : k = 0 <;> simp [h0]

theorem fieldAddr_sound (hC : CtxOK P C) {t : TypeId} {a : AV} {x : Value} {f : Nat} {v : AV} (hx : conc η a = some x) (h : fieldAddr C t a f = some v) :
    ∃ u, conc η v = some u ∧ (Instr.fieldAt t x f).run P w = .ok u w := by
  unfold fieldAddr at h
  split at h
  · rename_i fs b off hu
    split at h
    · rename_i fd hfd
      split at h
      · rename_i tf htf
        cases hz : Nat.beq tf.size 0 with
        | true => rw [hz] at h; cases h
        | false =>
          rw [hz] at h; simp only [cond_false, Option.some.injEq] at h; subst h
          obtain ⟨r, hb, rfl⟩ := conc_ptr hx
          have hsz : tf.size ≠ 0 := fun e => by rw [e] at hz; simp at hz
          exact ⟨_, by simp [conc, hb]; rfl, by simp [Instr.fieldAt, run_und hC hu, hfd, Instr.sureAddr, fieldPlace, (ti_ok hC htf).sizeOf, hsz, add_off]⟩
      · cases h
    · cases h
  · cases h

theorem part_sound (hC : CtxOK P C) {t : TypeId} {cs : List AV} {xs : List Value} {off : Nat} {v : AV} (hx : concL η cs = some xs) (h : part C t cs off = some v) :
    ∃ u, conc η v = some u ∧ (Go.part t xs.toArray off).run P w = .ok u w := by
  unfold part at h
  split at h
  · cases h
  · rename_i i hi
    have hT := ti_ok hC hi
    cases ha : isAggD i.und with
    | true =>
      rw [ha] at h; simp only [cond_true] at h
      cases hb : Nat.ble (off + i.size) cs.length with
      | false => rw [hb] at h; cases h
      | true =>
        rw [hb] at h; simp only [cond_true, Option.some.injEq] at h; subst h
        have hb := ble_le hb
        have hl := concL_length hx
        have : concL η ((cs.drop off).take i.size) = some ((xs.drop off).take i.size) := by
          refine concL_of_get (by simp [hl]) fun j u hu => ?_
          have hj : j < i.size := by have := (List.getElem?_eq_some_iff.1 hu).1; simp at this; omega
          rw [List.getElem?_take_of_lt hj, List.getElem?_drop] at hu ⊢
          exact concL_get hx _ _ hu
        refine ⟨.agg ((xs.drop off).take i.size).toArray, by simp [conc, this], ?_⟩
        simp [Go.part, hT.isAgg, ha, hT.sizeOf]
        all_goals (try rw [List.take_drop])
    | false =>
      rw [ha] at h; simp only [cond_false] at h
      obtain ⟨u, hu, hc⟩ := concL_get hx _ _ h
      exact ⟨u, hc, by simp [Go.part, hT.isAgg, ha, hu]⟩

theorem fieldOp_sound (hC : CtxOK P C) {t : TypeId} {a : AV} {x : Value} {f : Nat} {v : AV} (hx : conc η a = some x) (h : fieldOp C t a f = some v) :
    ∃ u, conc η v = some u ∧ (Instr.field t x f).run P w = .ok u w := by
  unfold fieldOp at h
  split at h
  · rename_i fs cs hu
    split at h
    · rename_i fd hfd
      obtain ⟨xs, hxs, rfl⟩ := conc_agg hx
      obtain ⟨u, hc, hrun⟩ := part_sound (P := P) (w := w) hC hxs h
      exact ⟨u, hc, by simp [Instr.field, run_und hC hu, hfd, asAgg, hrun]⟩
    · cases h
  · cases h

theorem indexAddr_sound (hC : CtxOK P C) {t : TypeId} {a b : AV} {x y : Value} {v : AV} (hx : conc η a = some x) (hy : conc η b = some y) (h : indexAddr C t a b = some v) :
    ∃ u, conc η v = some u ∧ (Instr.indexAt t x y).run P w = .ok u w := by
  unfold indexAddr at h
  split at h
  · rename_i len e b off i hu hi
    split at h
    · rename_i te hte
      cases hq : (decide (0 ≤ i) && Nat.blt i.toNat len) with
      | false => rw [hq] at h; cases h
      | true =>
        rw [hq] at h; simp only [cond_true, Option.some.injEq] at h; subst h
        simp only [Bool.and_eq_true, decide_eq_true_eq] at hq
        obtain ⟨h0, h1⟩ := hq
        have h1 := blt_lt h1
        obtain ⟨k, rfl⟩ := idx_int hy hi
        obtain ⟨r, hb, rfl⟩ := conc_ptr hx
        refine ⟨_, by simp [conc, hb]; rfl, ?_⟩
        have : 0 ≤ i ∧ i < (len : Int) := ⟨h0, by omega⟩
        simp [Instr.indexAt, asIntOf, run_und hC hu, Instr.sureAddr, this, (ti_ok hC hte).sizeOf, add_off]
    · cases h
  · rename_i e b off len c i hu hi
    split at h
    · rename_i te hte
      cases hq : (decide (0 ≤ i) && Nat.blt i.toNat len) with
      | false => rw [hq] at h; cases h
      | true =>
        rw [hq] at h; simp only [cond_true, Option.some.injEq] at h; subst h
        simp only [Bool.and_eq_true, decide_eq_true_eq] at hq
        obtain ⟨h0, h1⟩ := hq
        have h1 := blt_lt h1
        obtain ⟨k, rfl⟩ := idx_int hy hi
        obtain ⟨r, n, hb, _, rfl⟩ := conc_slice hx
        refine ⟨_, by simp [conc, hb]; rfl, ?_⟩
        have : 0 ≤ i ∧ i < (len : Int) := ⟨h0, by omega⟩
        simp [Instr.indexAt, asIntOf, run_und hC hu, this, (ti_ok hC hte).sizeOf, add_off]
    · cases h
  · cases h

theorem indexOp_sound (hC : CtxOK P C) {t : TypeId} {a b : AV} {x y : Value} {v : AV} (hx : conc η a = some x) (hy : conc η b = some y) (h : indexOp C t a b = some v) :
    ∃ u, conc η v = some u ∧ (Instr.index t x y).run P w = .ok u w := by
  unfold indexOp at h
  split at h
  · rename_i s i hu hi
    obtain ⟨k, rfl⟩ := idx_int hy hi
    rw [conc_str hx]
    cases hq : decide (0 ≤ i) with
    | false => rw [hq] at h; cases h
    | true =>
      rw [hq] at h; simp only [cond_true] at h
      have h0 : 0 ≤ i := by simpa using hq
      split at h
      · rename_i c hc
        cases h
        refine ⟨.int .u8 (Int.ofNat c.toNat), rfl, ?_⟩
        have hlt : i.toNat < s.length := (List.getElem?_eq_some_iff.1 hc).1
        have hb : (ByteArray.mk s.toArray)[i.toNat]? = some c := by
          rw [ByteArray.getElem?_lt' _ _ (by simpa [ByteArray.size] using hlt)]
          have := (List.getElem?_eq_some_iff.1 hc).2
          simp [← this]; rfl
        simp [Instr.index, asIntOf, run_und hC hu, h0, hb]
      · cases h
  · rename_i len e cs i hu hi
    split at h
    · rename_i te hte
      cases hq : (decide (0 ≤ i) && Nat.blt i.toNat len) with
      | false => rw [hq] at h; cases h
      | true =>
        rw [hq] at h; simp only [cond_true] at h
        simp only [Bool.and_eq_true, decide_eq_true_eq] at hq
        obtain ⟨h0, h1⟩ := hq
        have h1 := blt_lt h1
        obtain ⟨k, rfl⟩ := idx_int hy hi
        obtain ⟨xs, hxs, rfl⟩ := conc_agg hx
        obtain ⟨u, hc, hrun⟩ := part_sound (P := P) (w := w) hC hxs h
        have : 0 ≤ i ∧ i < (len : Int) := ⟨h0, by omega⟩
        exact ⟨u, hc, by simp [Instr.index, asIntOf, run_und hC hu, this, (ti_ok hC hte).sizeOf, hrun]⟩
    · cases h
  · cases h

/-! cutting -/
def OptC (η : Env) : Option AV → Option Value → Prop
  | none, none => True
  | some a, some x => conc η a = some x
  | _, _ => False

theorem inTo_sound {v : AV} {x : Value} {m i c : Nat} (code : BoundsCode) (hx : conc η v = some x) (h : inTo v m = some i) (hm : m ≤ c) : (Instr.sliceBound x c code).run P w = .ok i w ∧ i ≤ m := by
  unfold inTo at h
  split at h
  · rename_i n hn
    obtain ⟨k, rfl⟩ := idx_int hx hn
    cases hq : (decide (0 ≤ n) && Nat.ble n.toNat m) with
    | false => rw [hq] at h; cases h
    | true =>
      rw [hq] at h; simp only [cond_true, Option.some.injEq] at h; subst h
      simp only [Bool.and_eq_true, decide_eq_true_eq] at hq
      have h1 := ble_le hq.2
      have : 0 ≤ n ∧ n ≤ (c : Int) := ⟨hq.1, by omega⟩
      exact ⟨by simp [Instr.sliceBound, asIntOf, this], h1⟩
  · cases h
theorem bounds_sound {len c top : Nat} (htop : top ≤ c) {lo hi mx : Option AV} {lo' hi' mx' : Option Value} (h1 : OptC η lo lo') (h2 : OptC η hi hi') (h3 : OptC η mx mx')
    {l h : Nat} {mm : Option Nat} (hb : sliceBounds len top lo hi mx = some (l, h, mm)) (isS : Bool) :
    (Instr.sliceBounds isS len c lo' hi' mx').run P w = .ok (l, h, mm.getD c) w ∧ l ≤ h ∧ (hi = none → mx = none → h = len) ∧ (∀ v, hi = some v → h ≤ top) ∧ (mm = none → mx = none) ∧ (∀ m, mm = some m → h ≤ m ∧ m ≤ top) := by
  have low : ∀ (hh : Nat) {l : Nat}, boundO lo hh 0 = some l → ((lo' = none ∧ l = 0) ∨ ∃ x, lo' = some x ∧ ∀ code, (Instr.sliceBound x hh code).run P w = .ok l w) ∧ l ≤ hh := by
    intro hh l hl
    cases lo with
    | none =>
      cases lo' with
      | some _ => exact h1.elim
      | none => simp only [boundO, Option.some.injEq] at hl; subst hl; exact ⟨.inl ⟨rfl, rfl⟩, Nat.zero_le _⟩
    | some v =>
      cases lo' with
      | none => exact h1.elim
      | some x => exact ⟨.inr ⟨x, rfl, fun code => (inTo_sound (P := P) (w := w) code h1 hl (Nat.le_refl _)).1⟩, (inTo_sound (P := P) (w := w) .sliceB h1 hl (Nat.le_refl _)).2⟩
  unfold sliceBounds at hb
  cases mx with
  | none =>
    cases mx' with
    | some _ => exact h3.elim
    | none =>
      simp only at hb
      split at hb
      · cases hb
      · rename_i hh hq
        split at hb
        · cases hb
        · rename_i ll hl
          cases hb
          obtain ⟨e1, e2⟩ := low h hl
          cases hi with
          | none =>
            cases hi' with
            | some _ => exact h2.elim
            | none =>
              simp only [boundO, Option.some.injEq] at hq; subst hq
              refine ⟨?_, e2, fun _ _ => rfl, (fun v e => by cases e), fun _ => rfl, (fun m e => by cases e)⟩
              rcases e1 with ⟨rfl, rfl⟩ | ⟨x0, rfl, e1⟩
              · simp [Instr.sliceBounds]
              · simp [Instr.sliceBounds, e1]
          | some v =>
            cases hi' with
            | none => exact h2.elim
            | some x =>
              obtain ⟨e3, e4⟩ := inTo_sound (P := P) (w := w) (if isS = true then .sliceAcap else .sliceAlen) h2 hq htop
              refine ⟨?_, e2, (fun e => by cases e), fun _ _ => e4, fun _ => rfl, (fun m e => by cases e)⟩
              rcases e1 with ⟨rfl, rfl⟩ | ⟨x0, rfl, e1⟩
              · simp [Instr.sliceBounds, e3]
              · simp [Instr.sliceBounds, e1, e3]
  | some vm =>
    cases mx' with
    | none => exact h3.elim
    | some xm =>
      simp only at hb
      split at hb
      · cases hb
      · rename_i m hm
        split at hb
        · cases hb
        · rename_i vh
          split at hb
          · cases hb
          · rename_i hh hq
            split at hb
            · cases hb
            · rename_i ll hl
              cases hb
              cases hi' with
              | none => exact h2.elim
              | some x =>
                obtain ⟨e1, e2⟩ := low h hl
                obtain ⟨e3, e4⟩ := inTo_sound (P := P) (w := w) (if isS = true then .slice3Acap else .slice3Alen) h3 hm htop
                obtain ⟨e5, e6⟩ := inTo_sound (P := P) (w := w) .slice3B h2 hq (Nat.le_refl _)
                refine ⟨?_, e2, (fun e => by cases e), fun _ _ => Nat.le_trans e6 e4, (fun e => by cases e), fun m' e => by cases e; exact ⟨e6, e4⟩⟩
                rcases e1 with ⟨rfl, rfl⟩ | ⟨x0, rfl, e1⟩
                · simp [Instr.sliceBounds, e3, e5]
                · simp [Instr.sliceBounds, e1, e3, e5]

theorem slice_len {η : Env} {_H' : Heap} {sz b off l hh m r : Nat} (hb : η.ρ b = some r) (hlm : hh - l ≤ m - l) :
    conc η (cutAt b off sz l hh m) = some (.slice (some (if m = l then ⟨r, off, none⟩ else ⟨r, off + l * sz, none⟩)) (hh - l) (m - l)) := by
  unfold cutAt
  by_cases hml : m = l
  · have : Nat.beq m l = true := by rw [Nat.beq_eq]; exact hml
    rw [this]; simp only [cond_true]
    rw [slice_conc hb rfl hlm, if_pos hml]
  · have : Nat.beq m l = false := by cases hq : Nat.beq m l with | false => rfl | true => exact absurd (Nat.eq_of_beq_eq_true hq) hml
    rw [this]; simp only [cond_false]
    rw [slice_conc hb rfl hlm, if_neg hml]
theorem mm_top {mm : Option Nat} {hh len c : Nat} (hlc : len ≤ c) {hi mx : Option AV} (e3 : hi = none → mx = none → hh = len) (e4 : ∀ v, hi = some v → hh ≤ c) (e5 : mm = none → mx = none) (e6 : ∀ m, mm = some m → hh ≤ m ∧ m ≤ c) : hh ≤ mm.getD c := by
  cases mm with
  | some m => exact (e6 m rfl).1
  | none =>
    have := e5 rfl; subst this
    cases hi with
    | none => rw [e3 rfl rfl]; exact hlc
    | some v => exact e4 v rfl

theorem roomOf_le (hC : CtxOK P C) (hr : HRel P η E H w) {e : TypeId} {te : TI} {b off len k less c r : Nat} (hte : ti C e = some te) (hb : η.ρ b = some r) (hcap : capOf η (.var k less) = some c) (hlc : len ≤ c) :
    (bif Nat.beq te.size 0 then len else roomOf H e te.size b off len k less) ≤ c := by
  cases hz : Nat.beq te.size 0 with
  | true => exact hlc
  | false =>
    have hsz : te.size ≠ 0 := fun e0 => by rw [e0] at hz; cases hz
    show roomOf H e te.size b off len k less ≤ c
    unfold roomOf
    split
    · rename_i t m e' lo hi mk hg
      cases hq : (Nat.beq k b && Nat.beq off (less * te.size) && Nat.beq e e' && Nat.ble (off + len * te.size) m) with
      | false => exact hlc
      | true =>
        simp only [Bool.and_eq_true] at hq
        obtain ⟨⟨⟨q1, q2⟩, q3⟩, q4⟩ := hq
        have q1 := beq_eq q1; have q2 := beq_eq q2; have q3 := beq_eq q3; have q4 := ble_le q4
        subst q1; subst q3
        obtain ⟨r', cc, fz, hb', hh, hcr⟩ := getC hr hg
        rw [hb] at hb'; cases hb'
        obtain ⟨kk, hkk, hk63, hksz⟩ := hcr.opened rfl
        have hT := ti_ok hC hte
        rw [hT.cellsOf] at hksz
        show (m - off) / te.size ≤ c
        simp only [capOf, hkk] at hcap
        split at hcap
        · cases hcap
          have h1 := hcr.le
          rw [hksz] at h1
          have hpos := Nat.pos_of_ne_zero hsz
          have h2 : m - off ≤ (kk - less) * te.size := by rw [Nat.sub_mul, ← q2]; omega
          calc (m - off) / te.size ≤ ((kk - less) * te.size) / te.size := Nat.div_le_div_right h2
            _ = kk - less := Nat.mul_div_cancel _ hpos
        · cases hcap
    · exact hlc
theorem sliceOp_sound (hC : CtxOK P C) (hr : HRel P η E H w) {t : TypeId} {a : AV} {x : Value} {lo hi mx : Option AV} {lo' hi' mx' : Option Value} (hx : conc η a = some x) (h1 : OptC η lo lo') (h2 : OptC η hi hi') (h3 : OptC η mx mx')
    {v : AV} {H' : Heap} (h : sliceOp C H t a lo hi mx = some (v, H')) : H' = H ∧ ∃ u, conc η v = some u ∧ (Instr.sliceAt t x lo' hi' mx').run P w = .ok u w := by
  unfold sliceOp at h
  split at h
  · rename_i s hu
    rw [conc_str hx]
    cases hs : slice1 s lo hi mx with
    | none => rw [hs] at h; cases h
    | some u =>
      rw [hs] at h; simp only [Option.map_some, Option.some.injEq, Prod.mk.injEq] at h
      obtain ⟨rfl, rfl⟩ := h
      refine ⟨rfl, ?_⟩
      unfold slice1 at hs
      split at hs
      · rename_i l hh mm hb
        cases hs
        cases mx' with
        | some _ => exact h3.elim
        | none =>
          obtain ⟨e1, e2, _, _, e3, _⟩ := bounds_sound (P := P) (w := w) (mx := none) (mx' := none) (Nat.le_refl s.length) h1 h2 trivial hb false
          refine ⟨_, rfl, ?_⟩
          have hsz : (ByteArray.mk s.toArray).size = s.length := by simp [ByteArray.size]
          have hex : (ByteArray.mk s.toArray).extract l hh = ⟨(List.drop l (List.take hh s)).toArray⟩ := by
            apply ByteArray.ext
            simp [List.extract_eq_take_drop, List.drop_take]
          simp only [Instr.sliceAt, Sem.run_bind, run_und hC hu, Result.andThen_ok, Instr.slice, hsz, Option.isSome_none, Bool.false_eq_true, if_false, Sem.run_pure, e1, hex]
      · cases hs
  · rename_i e hu
    split at h
    · rename_i te res hte hb
      cases h
      rw [conc_nils hx]
      obtain ⟨l, hh, mm⟩ := res
      obtain ⟨e1, e2, e3, e4, e5, e6⟩ := bounds_sound (P := P) (w := w) (Nat.le_refl 0) h1 h2 h3 hb true
      refine ⟨rfl, _, rfl, ?_⟩
      have hm0 : mm.getD 0 = 0 := by cases mm with | none => rfl | some m => have := (e6 m rfl).2; simpa using this
      have hh0 : hh = 0 := by have := mm_top (Nat.le_refl 0) e3 e4 e5 e6; omega
      subst hh0
      obtain rfl : l = 0 := by omega
      rw [hm0] at e1
      simp only [Instr.sliceAt, Sem.run_bind, run_und hC hu, Result.andThen_ok, Instr.slice, e1, (ti_ok hC hte).sizeOf, Sem.run_pure, Option.map_none, ite_self]
    · cases h
  · rename_i e b off len c hu
    split at h
    · rename_i te hte
      cases hs : slice2 te.size b off len c lo hi mx with
      | none => rw [hs] at h; cases h
      | some u =>
        rw [hs] at h; simp only [Option.map_some, Option.some.injEq, Prod.mk.injEq] at h
        obtain ⟨rfl, rfl⟩ := h
        refine ⟨rfl, ?_⟩
        obtain ⟨r, n, hb, ⟨hn, hle⟩, rfl⟩ := conc_slice hx
        simp only [capOf, Option.some.injEq] at hn; subst hn
        unfold slice2 at hs
        split at hs
        · rename_i l hh mm hbd
          cases hs
          obtain ⟨e1, e2, e3, e4, e5, e6⟩ := bounds_sound (P := P) (w := w) (Nat.le_refl c) h1 h2 h3 hbd true
          have htop := mm_top hle e3 e4 e5 e6
          refine ⟨_, slice_len (_H' := H) hb (by omega), ?_⟩
          simp only [Instr.sliceAt, Sem.run_bind, run_und hC hu, Result.andThen_ok, Instr.slice, e1, (ti_ok hC hte).sizeOf, Sem.run_pure, Option.map_some, add_off]
          split <;> rfl
        · cases hs
    · cases h
  · rename_i e b off len k less hu
    split at h
    · rename_i te hte
      obtain ⟨r, n, hb, ⟨hn, hle⟩, rfl⟩ := conc_slice hx
      have htop := roomOf_le hC hr hte hb hn hle (off := off)
      unfold slice3 at h
      split at h
      · rename_i l hh m hbd
        cases h
        obtain ⟨e1, e2, e3, e4, e5, e6⟩ := bounds_sound (P := P) (w := w) htop h1 h2 h3 hbd true
        have := e6 m rfl
        refine ⟨rfl, _, slice_len (_H' := H) hb (by omega), ?_⟩
        simp only [Instr.sliceAt, Sem.run_bind, run_und hC hu, Result.andThen_ok, Instr.slice, e1, (ti_ok hC hte).sizeOf, Sem.run_pure, Option.map_some, add_off, Option.getD_some]
        split <;> rfl
      · rename_i l hh hbd
        obtain ⟨e1, e2, e3, e4, e5, e6⟩ := bounds_sound (P := P) (w := w) htop h1 h2 h3 hbd true
        have hh_le : hh ≤ n := by
          have hmx := e5 rfl
          cases hi with
          | none => rw [e3 rfl hmx]; exact hle
          | some v => exact Nat.le_trans (e4 v rfl) htop
        have hln : l ≤ n := by omega
        have hcap' : capOf η (.var k (less + l)) = some (n - l) := by
          simp only [capOf] at hn ⊢
          split at hn
          · rename_i kk hk
            split at hn
            · rename_i hless
              cases hn
              rw [if_pos (by omega)]; congr 1; omega
            · cases hn
          · cases hn
        cases hq : (Nat.blt l len || Nat.blt l hh || Nat.beq l 0) with
        | false =>
          rw [hq] at h; simp only [cond_false, Option.some.injEq, Prod.mk.injEq] at h
          obtain ⟨rfl, rfl⟩ := h
          have hl : hh ≤ l ∧ l ≠ 0 := by
            simp only [Bool.or_eq_false_iff] at hq
            refine ⟨?_, fun h0 => ?_⟩
            · rcases Nat.lt_or_ge l hh with h | h
              · have : Nat.blt l hh = true := by simpa [Nat.blt_eq] using h
                rw [hq.1.2] at this; cases this
              · exact h
            · subst h0; have := hq.2; simp at this
          have hll : hh = l := by omega
          subst hll
          refine ⟨rfl, .slice (some ⟨r, bif Nat.beq (n - hh) 0 then off else off + hh * te.size, none⟩) 0 (n - hh), by simp only [conc, hb, hcap'], ?_⟩
          simp only [Instr.sliceAt, Sem.run_bind, run_und hC hu, Result.andThen_ok, Instr.slice, e1, (ti_ok hC hte).sizeOf, Sem.run_pure, Option.map_some, add_off, Option.getD_none]
          by_cases hnl : n = hh
          · subst hnl; simp
          · have : Nat.beq (n - hh) 0 = false := by
              cases hz : Nat.beq (n - hh) 0 with
              | false => rfl
              | true => have := beq_eq hz; omega
            rw [this]
            simp [hnl]
        | true =>
          rw [hq] at h; simp only [cond_true, Option.some.injEq, Prod.mk.injEq] at h
          obtain ⟨rfl, rfl⟩ := h
          have hl : l < n ∨ l = 0 := by
            simp only [Bool.or_eq_true] at hq
            rcases hq with (hq | hq) | hq
            · exact .inl (Nat.lt_of_lt_of_le (blt_lt hq) hle)
            · exact .inl (Nat.lt_of_lt_of_le (blt_lt hq) hh_le)
            · exact .inr (beq_eq hq)
          refine ⟨rfl, _, slice_conc hb hcap' (by omega), ?_⟩
          simp only [Instr.sliceAt, Sem.run_bind, run_und hC hu, Result.andThen_ok, Instr.slice, e1, (ti_ok hC hte).sizeOf, Sem.run_pure, Option.map_some, add_off, Option.getD_none]
          by_cases hnl : n = l
          · have hl0 : l = 0 := by omega
            subst hl0; simp [hnl]
          · rw [if_neg hnl]
      · cases h
    · cases h
  · rename_i n e b off hu
    split at h
    · rename_i te hte
      cases hs : slice2 te.size b off n n lo hi mx with
      | none => rw [hs] at h; cases h
      | some u =>
        rw [hs] at h; simp only [Option.map_some, Option.some.injEq, Prod.mk.injEq] at h
        obtain ⟨rfl, rfl⟩ := h
        refine ⟨rfl, ?_⟩
        obtain ⟨r, hb, rfl⟩ := conc_ptr hx
        unfold slice2 at hs
        split at hs
        · rename_i l hh mm hbd
          cases hs
          obtain ⟨e1, e2, e3, e4, e5, e6⟩ := bounds_sound (P := P) (w := w) (Nat.le_refl n) h1 h2 h3 hbd false
          have htop := mm_top (Nat.le_refl n) e3 e4 e5 e6
          refine ⟨_, slice_len (_H' := H) hb (by omega), ?_⟩
          simp only [Instr.sliceAt, Sem.run_bind, run_und hC hu, Result.andThen_ok, Instr.sureAddr, e1, (ti_ok hC hte).sizeOf, Sem.run_pure, add_off]
          try (split <;> rfl)
        · cases hs
    · cases h
  · cases h
end Go.VmK
namespace Go.VmK
variable {P : Program} {C : Ctx} {E : List LoopInfo} {η : Env} {H : Heap} {w : World}

/-! bytes -/
theorem bytesAV_conc (η : Env) (l : List UInt8) : concL η (bytesAV l) = some (l.map fun b => Value.int .u8 (b.toNat : Int)) := by
  induction l with
  | nil => rfl
  | cons b l ih => simp only [bytesAV, List.map_cons] at ih ⊢; simp only [concL, conc]; rw [ih]; rfl
theorem bytesAV_one (l : List UInt8) : (bytesAV l).all AV.oneCell = true := by simp [bytesAV, AV.oneCell]
theorem bytesAV_length (l : List UInt8) : (bytesAV l).length = l.length := by simp [bytesAV]
theorem asBytes_sound {η : Env} : ∀ {l : List AV} {s : List UInt8} {xs : List Value}, asBytes l = some s → concL η l = some xs →
    s.length = xs.length ∧ ∀ (i : Nat) (x : Value), xs[i]? = some x → ∃ b : UInt8, x = .int .u8 (b.toNat : Int) ∧ s[i]? = some b
  | [], s, xs, h, hx => by simp [asBytes] at h; simp [concL] at hx; subst h; subst hx; simp
  | a :: l, s, xs, h, hx => by
    unfold asBytes at h
    split at h
    · rename_i heq; cases heq
    · rename_i n r heq
      cases heq
      split at h
      · rename_i s' hs
        cases hq : leNat 255 n with
        | false => rw [hq] at h; cases h
        | true =>
        rw [hq] at h; simp only [cond_true, Option.some.injEq] at h; subst h
        obtain ⟨n1, n2⟩ := leNat_le hq
        have hn : ((UInt8.ofNat n.toNat).toNat : Int) = n := by
          rw [UInt8.toNat_ofNat']; omega
        simp only [concL, conc] at hx
        split at hx
        · rename_i y ys hy hys
          cases hy; cases hx
          obtain ⟨h1, h2⟩ := asBytes_sound hs hys
          refine ⟨by simp [h1], fun i x hi => ?_⟩
          cases i with
          | zero => simp at hi; subst hi; exact ⟨UInt8.ofNat n.toNat, by rw [hn], by simp⟩
          | succ i => rw [List.getElem?_cons_succ] at hi; obtain ⟨m, hm, hg⟩ := h2 i x hi; exact ⟨m, hm, by rw [List.getElem?_cons_succ]; exact hg⟩
        · cases hx
      · cases h
    · cases h

/-! append -/
theorem growBy_le (n : Nat) : ∀ (r c : Nat), c ≤ n → Builtin.growBy n r c ≤ n + (n + 768) / 4
  | 0, c, h => by simp [Builtin.growBy]; omega
  | r + 1, c, h => by
    simp only [Builtin.growBy]
    split
    · omega
    · by_cases h2 : c + (c + 768) / 4 ≤ n
      · exact growBy_le n r _ h2
      · have : Builtin.growBy n r (c + (c + 768) / 4) = c + (c + 768) / 4 := by cases r <;> simp [Builtin.growBy]; omega
        rw [this]; omega
theorem nextcap_le {n c : Nat} (h : c < n) : Builtin.nextslicecap n c ≤ 2 * n + 400 := by
  unfold Builtin.nextslicecap
  split
  · omega
  · split
    · omega
    · have := growBy_le n 4 c (by omega); omega
theorem room_no {need bytes c : Nat} (h : roomOk need bytes = true) (hc : c < need) : ¬ (Builtin.nextslicecap need c * bytes > 2 ^ 48) := by
  have h := ble_le h
  have h2 := nextcap_le hc
  have h3 : Builtin.nextslicecap need c * bytes ≤ (2 * need + 400) * bytes := Nat.mul_le_mul_right _ h2
  have : (2 : Nat) ^ 48 = 281474976710656 := by decide
  omega

theorem appCells_sound (hr : HRel P η E H w) {size n : Nat} {x : AV} {y : Value} {l : List AV} (hy : conc η x = some y) (h : appCells H size x = some (n, l)) :
    (Builtin.lenOf y).run P w = .ok n w ∧ ∃ xs, concL η l = some xs ∧ l.length = n * size ∧ (Builtin.firstCells size n y).run P w = .ok xs.toArray w := by
  unfold appCells at h
  split at h
  · cases h; rw [conc_nils hy]; exact ⟨rfl, [], rfl, by simp, rfl⟩
  · rename_i i
    cases h
    simp only [conc] at hy
    split at hy
    · cases hy; exact ⟨rfl, [], rfl, by simp, by simp [Builtin.firstCells, loadCells, loadCellsFrom]⟩
    · cases hy
  · rename_i s
    cases hq : Nat.beq size 1 with
    | false => rw [hq] at h; cases h
    | true =>
    rw [hq] at h
    have := beq_eq hq; subst this
    cases h; rw [conc_str hy]
    refine ⟨by simp [Builtin.lenOf, ByteArray.size], _, bytesAV_conc η s, by simp [bytesAV_length], ?_⟩
    have : (ByteArray.mk s.toArray).extract 0 s.length = ⟨s.toArray⟩ := by
      apply ByteArray.ext; simp
    simp [Builtin.firstCells, this]
  · rename_i b off len c
    cases hl : loadN H b off (len * size) with
    | none => rw [hl] at h; cases h
    | some l' =>
      rw [hl] at h; simp only [Option.map_some, Option.some.injEq, Prod.mk.injEq] at h
      obtain ⟨rfl, rfl⟩ := h
      obtain ⟨r, m, hb, _, rfl⟩ := conc_slice hy
      obtain ⟨r', xs, hb', hx, h1, h2, _, hrun⟩ := loadN_sound (P := P) hr hl
      rw [hb] at hb'; cases hb'
      exact ⟨rfl, xs, hx, h2, by simp [Builtin.firstCells, hrun]⟩
  · cases h

theorem allOne_conc {η : Env} {l : List AV} {xs : List Value} (hx : concL η l = some xs) (h : l.all AV.oneCell = true) : ∀ x ∈ xs, x.oneCell' = true := by
  intro x hxm
  obtain ⟨i, hi, rfl⟩ := List.getElem_of_mem hxm
  have hl := concL_length hx
  obtain ⟨y, hy, hcy⟩ := concL_get hx i l[i] (List.getElem?_eq_getElem (by omega))
  rw [List.getElem?_eq_getElem hi] at hy; cases hy
  exact oneCell_conc (List.all_eq_true.1 h _ (List.getElem_mem _)) hcy

theorem zeroCells_size (z : Array Value) (n : Nat) : (Builtin.zeroCells z n).size = n * z.size := by simp [Builtin.zeroCells]

/-- a new row, its capacity drawn -/
theorem newOpen_sound (hr : HRel P η E H w) (hf : Fresh η H H.next) (e : TypeId) {te : TI} (hte : TypeOK P e te) {vs : List AV} {xs : List Value} {len : Nat} (hx : concL η vs = some xs) (hlen : vs.length = len * te.size) {k : Nat} (hk : len ≤ k) (hk2 : k < 2 ^ 63)
    {z : Array Value} (hz : z.size = te.size) :
    Trans P E η H w (η.bindK H.next w.heap.size k) (newOpen H e vs len).2 (w.drew.alloc (.cells (xs.toArray ++ Builtin.zeroCells z (k - len)) e)) ∧ Grow η (η.bindK H.next w.heap.size k) H (newOpen H e vs len).2 ∧
    conc (η.bindK H.next w.heap.size k) (newOpen H e vs len).1 = some (.slice (some ⟨w.heap.size, 0, none⟩) len k) := by
  have hl := concL_length hx
  have hsize : (xs.toArray ++ Builtin.zeroCells z (k - len)).size = k * te.size := by
    simp only [Array.size_append, zeroCells_size, hz, List.size_toArray, hl, hlen]
    rw [← Nat.add_mul]; congr 1; omega
  refine ⟨Trans.new hr hf (.cells (Tr.ofL vs) vs.length e true 0 0 false) (.cells (xs.toArray ++ Builtin.zeroCells z (k - len)) e) (Env.le_bindK hf.ρ hf.κ) (fun i => rfl) ?_ (fun j => Heap.get_new _ _ _) rfl rfl rfl, Grow.new (Only.bindK _ _ _ _) (fun j => Heap.get_new _ _ _) rfl, ?_⟩
  · exact ⟨rfl, fun i v hv _ => by
        rw [Tr.get_ofL] at hv
        obtain ⟨x, hx', hc⟩ := concL_get hx i v hv
        have hi : i < xs.length := (List.getElem?_eq_some_iff.1 hx').1
        exact ⟨x, by rw [Array.getElem?_append_left (by simpa using hi)]; simpa using hx', conc_mono (Env.le_bindK hf.ρ hf.κ) _ _ hc⟩,
      by rw [hsize, hlen]; exact Nat.mul_le_mul_right _ hk, (fun h => by cases h), fun _ => ⟨k, by simp [Env.bindK], hk2, by rw [hsize, hte.cellsOf]⟩, Nat.le_refl _, (fun off h1 h2 => by simp at h2), (fun h => by cases h)⟩
  · exact slice_conc (by simp [Env.bindK]) (by simp [capOf, Env.bindK]) (by omega)

theorem cut_cap (need old : Nat) (e : TypeId) (t : Nat) (h : need < 2 ^ 63) : need ≤ (Question.appendCap need old e).cut t ∧ (Question.appendCap need old e).cut t < 2 ^ 63 := by
  simp only [Question.cut]
  have : t % (2 ^ 63 - need) < 2 ^ 63 - need := Nat.mod_lt _ (by omega)
  omega
end Go.VmK
namespace Go.VmK
variable {P : Program} {C : Ctx} {E : List LoopInfo} {η : Env} {H : Heap} {w : World}

theorem HRel.weaken {H' : Heap} (h : HRel P η E H w) (g : ∀ id o, H'.get id = some o → H.get id = some o) : HRel P η E H' w :=
  ⟨fun id o ho => h.obj id o (g id o ho), fun i j oi oj b hi hj => h.inj i j oi oj b (g _ _ hi) (g _ _ hj)⟩
theorem Trans.weaken {η' : Env} {H' H'' : Heap} {w' : World} (h : Trans P E η H w η' H' w') (g : ∀ id o, H''.get id = some o → H'.get id = some o) : Trans P E η H w η' H'' w' :=
  ⟨h.le, h.rel.weaken g, h.frame, fun b hb ⟨id, o, ho, hr⟩ => h.shr b hb ⟨id, o, g _ _ ho, hr⟩, h.keeps⟩

/-- the second argument of append is no whole number (append(x, make(..)...) is another thing) -/
def NoZeros (P : Program) (at_ : Array TypeId) : Prop := at_[1]? = none ∨ ∃ t u, at_[1]? = some t ∧ P.underlying t = some u ∧ (∀ k, u ≠ .int k)
theorem noZeros_false {u : TypeDesc} (h : ∀ k, u ≠ .int k) : (match u with | .int _ => true | _ => false) = false := by
  cases u <;> first | rfl | exact absurd rfl (h _)

theorem append_fits (hC : CtxOK P C) {at_ : Array TypeId} {sT e : TypeId} {te : TI} {type : TypeId} {x' : Value} {sLen sCap : Nat} {base : Option Addr}
    (h0 : at_[0]? = some sT) (hu : und C sT = some (.slice e)) (hte : ti C e = some te) (hz : NoZeros P at_) {n : Nat} (hn : (Builtin.lenOf x').run P w = .ok n w)
    (hle : sLen + n ≤ sCap) {xs : Array Value} (hx : (Builtin.firstCells te.size n x').run P w = .ok xs w) {w' : World}
    (hs : match base with | some a => (storeCells (a.add (sLen * te.size)) xs.toList 0).run P w = .ok () w' | none => w' = w) :
    (Builtin.append_ at_ type #[.slice base sLen sCap, x']).run P w = .ok (.slice base (sLen + n) sCap) w' := by
  have hT := ti_ok hC hte
  obtain ⟨inf, hi1, hi2, hi3, _⟩ := hT.info
  have hti : ∀ w, (Go.typeInfo e).run P w = .ok inf w := fun w => by simp [Go.typeInfo, hi1]
  unfold Builtin.append_
  rw [h0]
  simp only [List.getElem?_toArray, List.getElem?_cons_zero, List.getElem?_cons_succ, Sem.run_bind, run_und hC hu, Result.andThen_ok, hT.sizeOf]
  rcases hz with hz | ⟨t, u, h1, h2, h3⟩
  · simp only [hz]
    cases base with
    | none => simp only at hs; subst hs; simp [hn, hle, hx]
    | some a => simp only at hs; simp [hn, hle, hx, hs]
  · have hu2 : ∀ w, (Go.underlying t).run P w = .ok u w := fun w => by simp [Go.underlying, h2]
    simp only [h1]
    cases base with
    | none => simp only at hs; subst hs; simp [hn, hle, hx, hu2]
    | some a => simp only at hs; simp [hn, hle, hx, hs, hu2]
theorem append_grows (hC : CtxOK P C) {at_ : Array TypeId} {sT e : TypeId} {te : TI} {type : TypeId} {x' : Value} {sLen sCap : Nat} {base : Option Addr}
    (h0 : at_[0]? = some sT) (hu : und C sT = some (.slice e)) (hte : ti C e = some te) (hz : NoZeros P at_) {n : Nat} (hn : (Builtin.lenOf x').run P w = .ok n w)
    (hle : ¬ sLen + n ≤ sCap) (hroom : roomOk (sLen + n) te.bytes = true) (hsmall : sLen + n < 2 ^ 62) {old new : Array Value} (ho : (Builtin.firstCells te.size sLen (.slice base sLen sCap)).run P w.drew = .ok old w.drew)
    (hx : (Builtin.firstCells te.size n x').run P w.drew = .ok new w.drew) {z : Value} (hzv : (Go.zeroValue e).run P w.drew = .ok z w.drew) :
    ∃ k, sLen + n ≤ k ∧ k < 2 ^ 63 ∧ (Builtin.append_ at_ type #[.slice base sLen sCap, x']).run P w = .ok (.slice (some ⟨w.heap.size, 0, none⟩) (sLen + n) k) (w.drew.alloc (.cells (old ++ new ++ Builtin.zeroCells z.cells (k - (sLen + n))) e)) := by
  have hT := ti_ok hC hte
  obtain ⟨inf, hi1, hi2, hi3, _⟩ := hT.info
  have hti : ∀ w, (Go.typeInfo e).run P w = .ok inf w := fun w => by simp [Go.typeInfo, hi1]
  have hr := room_no hroom (Nat.lt_of_not_le hle)
  have two48 : (2 : Nat) ^ 48 = 281474976710656 := by decide
  have two62 : (2 : Nat) ^ 62 = 4611686018427387904 := by decide
  have hr' : ¬ (281474976710656 < Builtin.nextslicecap (sLen + n) sCap * inf.bytes) := by rw [hi3]; omega
  have hb : ¬ (9223372036854775807 < (sLen : Int) + (n : Int) ∧ inf.bytes = 0) := by omega
  have hf : (Question.appendCap (sLen + n) sCap e).forced = false := rfl
  obtain ⟨c1, c2⟩ := cut_cap (sLen + n) sCap e (w.tape w.drawn (.appendCap (sLen + n) sCap e)) (by omega)
  refine ⟨_, c1, c2, ?_⟩
  unfold Builtin.append_
  rw [h0]
  simp only [List.getElem?_toArray, List.getElem?_cons_zero, List.getElem?_cons_succ, Sem.run_bind, run_und hC hu, Result.andThen_ok, hT.sizeOf]
  rcases hz with hz | ⟨t, u, h1, h2, h3⟩
  · simp only [hz]
    simp [hn, hle, hti, hr', hb, hf, ho, hx, hzv, newRow]
  · have hu2 : ∀ w, (Go.underlying t).run P w = .ok u w := fun w => by simp [Go.underlying, h2]
    simp only [h1]
    simp [hn, hle, hti, hr', hb, hf, ho, hx, hzv, newRow, hu2]
end Go.VmK
namespace Go.VmK
variable {P : Program} {C : Ctx} {E : List LoopInfo} {η : Env} {H : Heap} {w : World}

theorem storeL_objs {H' : Heap} {b off : Nat} {vs : List AV} (h : storeL H b off vs = some H') : ∀ id, H.get id = none → H'.get id = none := by
  unfold storeL at h
  split at h
  · rename_i t n e o lo hi mk hg
    cases hq : (Nat.ble (off + vs.length) n && (Nat.ble hi off || Nat.ble (off + vs.length) lo) && vs.all AV.oneCell) with
    | false => rw [hq] at h; cases h
    | true =>
      rw [hq] at h; simp only [cond_true, Option.some.injEq] at h; subst h
      intro id hn
      rw [Heap.get_put, if_neg]; exact hn
      intro e; subst e; rw [hg] at hn; cases hn
  · cases h
theorem Grow.of_store {H' : Heap} {b off : Nat} {vs : List AV} (h : storeL H b off vs = some H') (hn : H'.next = H.next) : Grow η η H H' :=
  ⟨Only.refl _ _, fun id _ hi => storeL_objs h id hi, .inl ⟨hn, rfl, storeL_objs h H.next⟩⟩

theorem zero_size {e : TypeId} {te : TI} (hT : TypeOK P e te) {z : AV} (hz : te.zero = some z) (hl : z.cells.length = te.size) (w : World) : ∃ v, (Go.zeroValue e).run P w = .ok v w ∧ v.cells.size = te.size := by
  obtain ⟨v, hv, hc⟩ := hT.zeroValue hz w
  refine ⟨v, hv, ?_⟩
  have hs : ∀ j, z ≠ .sym j := fun j e => by
    subst e
    have h1 := hc ⟨fun _ => none, fun _ => none, fun _ => none⟩
    simp [conc] at h1
  have := concL_length (cells_conc hs (hc ⟨fun _ => none, fun _ => none, fun _ => none⟩))
  simpa [hl] using this

theorem appNew_sound (hC : CtxOK P C) (hr : HRel P η E H w) (hf : Fresh η H H.next) {at_ : Array TypeId} {sT e : TypeId} {te : TI} {type : TypeId} {x' : Value} {sLen sCap : Nat} {base : Option Addr}
    (h0 : at_[0]? = some sT) (hu : und C sT = some (.slice e)) (hte : ti C e = some te) (hz : NoZeros P at_) {n : Nat} (hn : (Builtin.lenOf x').run P w = .ok n w)
    (hle : ¬ sLen + n ≤ sCap) {old new : List AV} {xo xn : List Value} (ho1 : concL η old = some xo) (hn1 : concL η new = some xn) (hlen : (old ++ new).length = (sLen + n) * te.size)
    (ho : (Builtin.firstCells te.size sLen (.slice base sLen sCap)).run P w.drew = .ok xo.toArray w.drew) (hx : (Builtin.firstCells te.size n x').run P w.drew = .ok xn.toArray w.drew)
    {v : AV} {H' : Heap} (h : appNew H e te (sLen + n) (old ++ new) = some (v, H')) : SimS P E η H w (Builtin.append_ at_ type #[.slice base sLen sCap, x']) v H' := by
  unfold appNew at h
  split at h
  · cases h
  · rename_i z hzz
    cases hq : (Nat.beq z.cells.length te.size && roomOk (sLen + n) te.bytes && Nat.ble (sLen + n) 1099511627776) with
    | false => rw [hq] at h; cases h
    | true =>
      rw [hq] at h; simp only [cond_true, Option.some.injEq] at h
      simp only [Bool.and_eq_true] at hq
      obtain ⟨⟨q1, q2⟩, q3⟩ := hq
      have q1 := beq_eq q1
      have q3 := ble_le q3
      have hT := ti_ok hC hte
      obtain ⟨zv, hzv, hzs⟩ := zero_size hT hzz q1 w.drew
      obtain ⟨k, k1, k2, hrun⟩ := append_grows (type := type) hC h0 hu hte hz hn hle q2 (by omega) ho hx hzv
      have hcat := concL_append ho1 hn1
      obtain ⟨t1, t2, t3⟩ := newOpen_sound (P := P) hr hf e hT hcat hlen k1 k2 hzs
      have e1 : (newOpen H e (old ++ new) (sLen + n)).1 = v := by rw [h]
      have e2 : (newOpen H e (old ++ new) (sLen + n)).2 = H' := by rw [h]
      rw [e2] at t1 t2
      rw [e1] at t3
      refine ⟨_, _, _, hrun, t3, ?_, t2⟩
      have : (xo ++ xn).toArray = xo.toArray ++ xn.toArray := by simp
      rw [this] at t1
      exact t1

theorem appIn_sound (hC : CtxOK P C) (hr : HRel P η E H w) {at_ : Array TypeId} {sT e : TypeId} {te : TI} {type : TypeId} {x' : Value} {b off len c r : Nat} {cap : Cap} (hb : η.ρ b = some r) (hcap : capOf η cap = some c)
    (h0 : at_[0]? = some sT) (hu : und C sT = some (.slice e)) (hte : ti C e = some te) (hz : NoZeros P at_) {n : Nat} (hn : (Builtin.lenOf x').run P w = .ok n w)
    (hle : len + n ≤ c) {new : List AV} {xn : List Value} (hn1 : concL η new = some xn) (hx : (Builtin.firstCells te.size n x').run P w = .ok xn.toArray w)
    {v : AV} {H' : Heap} (h : appIn H b off len n te.size cap new = some (v, H')) : SimS P E η H w (Builtin.append_ at_ type #[.slice (some ⟨r, off, none⟩) len c, x']) v H' := by
  unfold appIn at h
  split at h
  · cases h
  · rename_i H1 hs
    simp only [Option.some.injEq, Prod.mk.injEq] at h
    obtain ⟨rfl, rfl⟩ := h
    obtain ⟨r', w', hb', hrun, htr, hnext⟩ := storeL_sound (P := P) hr hs hn1
    rw [hb] at hb'; cases hb'
    refine ⟨η, _, w', append_fits (base := some ⟨r, off, none⟩) hC h0 hu hte hz hn hle hx (by show (storeCells (Addr.add ⟨r, off, none⟩ (len * te.size)) _ 0).run P w = _; rw [add_off]; simpa using hrun), slice_conc hb hcap hle, htr, Grow.of_store hs hnext⟩

/-- an object is handed on: it lies under a new number, and the elder number is forgotten -/
theorem Trans.pass {H' : Heap} {w' : World} (hr : HRel P η E H w) (hf : Fresh η H H.next) {b r k : Nat} {o : AObj} (hg : H.get b = some o) (hb : η.ρ b = some r) (o' : AObj) (ob' : Obj)
    (ho : ORel P (η.bindK H.next r k) E H.next o' ob') (hH : ∀ j, H'.get j = if j = H.next then some o' else if j = b then none else H.get j) (hw : w' = World.putBlock w r ob') :
    Trans P E η H w (η.bindK H.next r k) H' w' := by
  subst hw
  have hle : η.le (η.bindK H.next r k) := Env.le_bindK hf.ρ hf.κ
  obtain ⟨r', ob, hb', hob, _⟩ := hr.obj b o hg
  rw [hb] at hb'; cases hb'
  have hlt := lt_of_get hob
  have hρ : ∀ j, (η.bindK H.next r k).ρ j = if j = H.next then some r else η.ρ j := fun j => rfl
  refine ⟨hle, ⟨?_, ?_⟩, ?_, ?_, ⟨rfl, rfl, by simp [World.putBlock]⟩⟩
  · intro j oj hj
    rw [hH] at hj
    by_cases h1 : j = H.next
    · subst h1; simp at hj; subst hj
      exact ⟨r, ob', by rw [hρ]; simp, by rw [putBlock_get _ _ _ _ hlt]; simp, ho⟩
    · rw [if_neg h1] at hj
      by_cases h2 : j = b
      · rw [if_pos h2] at hj; cases hj
      · rw [if_neg h2] at hj
        obtain ⟨c, oc, hc, hoc, hrel⟩ := hr.obj j oj hj
        have hne : c ≠ r := fun he => h2 (hr.inj _ _ _ _ _ hj hg (he ▸ hc) hb)
        exact ⟨c, oc, by rw [hρ, if_neg h1]; exact hc, by rw [putBlock_get _ _ _ _ hlt, if_neg hne]; exact hoc, ORel_mono hle hrel⟩
  · intro i j oi oj c hi hj hci hcj
    rw [hH] at hi hj; rw [hρ] at hci hcj
    have other : ∀ i oi c, i ≠ H.next → (if i = b then none else H.get i) = some oi → η.ρ i = some c → c ≠ r := fun i oi c _ hi hci he => by
      by_cases h2 : i = b
      · rw [if_pos h2] at hi; cases hi
      · rw [if_neg h2] at hi; exact h2 (hr.inj _ _ _ _ _ hi hg (he ▸ hci) hb)
    by_cases h1 : i = H.next <;> by_cases h2 : j = H.next
    · rw [h1, h2]
    · rw [if_neg h2] at hj hcj; rw [if_pos h1] at hci; cases hci; exact absurd rfl (other j oj _ h2 hj hcj)
    · rw [if_neg h1] at hi hci; rw [if_pos h2] at hcj; cases hcj; exact absurd rfl (other i oi _ h1 hi hci)
    · rw [if_neg h1] at hi hci; rw [if_neg h2] at hj hcj
      by_cases h3 : i = b
      · rw [if_pos h3] at hi; cases hi
      · by_cases h4 : j = b
        · rw [if_pos h4] at hj; cases hj
        · rw [if_neg h3] at hi; rw [if_neg h4] at hj; exact hr.inj _ _ _ _ _ hi hj hci hcj
  · intro c _ hn
    rw [putBlock_get _ _ _ _ hlt, if_neg]
    intro he; exact hn ⟨b, o, hg, he ▸ hb⟩
  · rintro c _ ⟨j, oj, hj, hc⟩
    rw [hH] at hj; rw [hρ] at hc
    by_cases h1 : j = H.next
    · rw [if_pos h1] at hc; cases hc; exact ⟨b, o, hg, hb⟩
    · rw [if_neg h1] at hj hc
      by_cases h2 : j = b
      · rw [if_pos h2] at hj; cases hj
      · rw [if_neg h2] at hj; exact ⟨j, oj, hj, hc⟩

theorem get_handOn (H : Heap) (b m : Nat) (t : Tr AV) (e : TypeId) (lo hi : Nat) (mk : Bool) (len : Nat) (new : List AV) (j : Nat) :
    (handOn H b m t e lo hi mk len new).2.get j = if j = H.next then some (.cells (t.setL m new) (m + new.length) e true lo hi mk) else if j = b then none else H.get j := by
  show ((H.objs.del b).set H.next _).get j = _
  rw [Tr.get_set, Tr.get_del]; rfl
theorem Grow.handOn {k r b m : Nat} {t : Tr AV} {e : TypeId} {lo hi : Nat} {mk : Bool} {len : Nat} {new : List AV} : Grow η (η.bindK H.next r k) H (handOn H b m t e lo hi mk len new).2 :=
  ⟨Only.bindK _ _ _ _, fun id h1 h2 => by rw [get_handOn, if_neg h1]; by_cases h : id = b; · rw [if_pos h]
                                          · rw [if_neg h]; exact h2, .inr rfl⟩

theorem appOn_sound (hC : CtxOK P C) (hr : HRel P η E H w) (hf : Fresh η H H.next) {at_ : Array TypeId} {sT e : TypeId} {te : TI} {type : TypeId} {x' : Value} {b off len c r less m lo hi : Nat} {t : Tr AV} {mk : Bool}
    (hg : H.get b = some (.cells t m e true lo hi mk)) (hb : η.ρ b = some r) (hcap : capOf η (.var b less) = some c) (_hlc : len ≤ c)
    (h0 : at_[0]? = some sT) (hu : und C sT = some (.slice e)) (hte : ti C e = some te) (hz : NoZeros P at_) (_hsz : te.size ≠ 0) {n : Nat} (hn : ∀ w, (Builtin.lenOf x').run P w = .ok n w)
    {new : List AV} {xn : List Value} (hn1 : concL η new = some xn) (hnl : new.length = n * te.size) (hx : (Builtin.firstCells te.size n x').run P w = .ok xn.toArray w) (hx2 : (Builtin.firstCells te.size n x').run P w.drew = .ok xn.toArray w.drew)
    {v : AV} {H' : Heap} (h : appOn H b m t e te lo hi mk off len less n new = some (v, H')) : SimS P E η H w (Builtin.append_ at_ type #[.slice (some ⟨r, off, none⟩) len c, x']) v H' := by
  unfold appOn at h
  split at h
  · rename_i z old hzz hold
    cases hq : (notB mk && Nat.beq off 0 && Nat.beq less 0 && Nat.beq (len * te.size) m && Nat.ble hi m && new.all AV.oneCell && Nat.beq z.cells.length te.size && roomOk (len + n) te.bytes && Nat.ble (len + n) 1099511627776) with
    | false => rw [hq] at h; cases h
    | true =>
      rw [hq] at h; simp only [cond_true, Option.some.injEq] at h
      simp only [Bool.and_eq_true] at hq
      obtain ⟨⟨⟨⟨⟨⟨⟨⟨q0, q1⟩, q2⟩, q3⟩, q4⟩, q5⟩, q6⟩, q7⟩, q8⟩ := hq
      rw [notB_eq] at q0
      have q1 := beq_eq q1; have q2 := beq_eq q2; have q3 := beq_eq q3; have q4 := ble_le q4; have q6 := beq_eq q6; have q8 := ble_le q8
      subst q1; subst q2
      have e1 : (handOn H b m t e lo hi mk (len + n) new).1 = v := by rw [h]
      have e2 : (handOn H b m t e lo hi mk (len + n) new).2 = H' := by rw [h]
      obtain ⟨r', cc, fz, hb', hh, hcr⟩ := getC hr hg
      rw [hb] at hb'; cases hb'
      obtain ⟨kk, hkk, hk63, hksz⟩ := hcr.opened rfl
      have hT := ti_ok hC hte
      rw [hT.cellsOf] at hksz
      have hc : c = kk := by simp only [capOf, hkk] at hcap; simpa using hcap.symm
      subst hc
      have hxl := concL_length hn1
      obtain ⟨hol, hok⟩ := Tr.getL_some _ _ _ _ hold
      -- the elder cells
      have hloadN : loadN H b 0 m = some old := by
        unfold loadN; rw [hg]; simp only []
        have : Nat.ble (0 + m) m = true := Nat.ble_eq_true_of_le (by omega)
        rw [this]; exact hold
      by_cases hfit : len + n ≤ c
      · -- in place
        have hmn : m + xn.length ≤ cc.size := by
          rw [hksz, hxl, hnl, ← q3, ← Nat.add_mul]; exact Nat.mul_le_mul_right _ hfit
        have hrun := run_storeCells_go (P := P) r m e fz xn 0 w cc hh (by omega) (allOne_conc hn1 q5) (fun j hj hin => by
          rcases hcr.cover (m + j) (by omega) (by omega) with ⟨_, p⟩ | ⟨_, p⟩ <;> omega)
        have hput : (if xn = [] then w else World.putBlock w r (.cells (writeL cc (m + 0) xn) e fz)) = World.putBlock w r (.cells (writeL cc m xn) e fz) := by
          by_cases hnil : xn = []
          · subst hnil; simp only [if_true, writeL]
            unfold World.putBlock
            have : w.heap.setIfInBounds r (.cells cc e fz) = w.heap := by
              apply Array.ext_getElem?
              intro j; rw [Array.getElem?_setIfInBounds]
              by_cases hj : r = j
              · subst hj; rw [if_pos rfl, if_pos (lt_of_get hh), hh]
              · simp [hj]
            rw [this]
          · rw [if_neg hnil]; rfl
        rw [hput] at hrun
        refine ⟨η.bindK H.next r c, _, _, append_fits (base := some ⟨r, 0, none⟩) hC h0 hu hte hz (hn w) hfit hx (by show (storeCells (Addr.add ⟨r, 0, none⟩ (len * te.size)) _ 0).run P w = _; rw [add_off]; simpa [q3] using hrun), ?_, ?_, ?_⟩
        · rw [← e1]; exact slice_conc (by simp [Env.bindK]) (by simp [capOf, Env.bindK]) hfit
        · rw [← e2]
          refine Trans.pass hr hf hg hb (.cells (t.setL m new) (m + new.length) e true lo hi mk) (.cells (writeL cc m xn) e fz) ?_ (fun j => get_handOn _ _ _ _ _ _ _ _ _ _ j) rfl
          have hws := writeL_size xn cc m
          exact ⟨rfl, fun i v' hv hi' => by
              rw [Tr.get_setL] at hv
              rw [writeL_get xn cc m hmn]
              by_cases hin : m ≤ i ∧ i < m + new.length
              · rw [if_pos hin] at hv; rw [if_pos (by omega)]
                obtain ⟨y, hy, hcy⟩ := concL_get hn1 _ _ hv
                exact ⟨y, hy, conc_mono (Env.le_bindK hf.ρ hf.κ) _ _ hcy⟩
              · rw [if_neg hin] at hv; rw [if_neg (by omega)]
                obtain ⟨y, hy, hcy⟩ := hcr.get i v' hv (by omega)
                exact ⟨y, hy, conc_mono (Env.le_bindK hf.ρ hf.κ) _ _ hcy⟩,
            by rw [hws]; omega, (fun h => by cases h), fun _ => ⟨c, by simp [Env.bindK], hk63, by rw [hws, hksz, hT.cellsOf]⟩, hcr.fzle, by rw [hws]; exact hcr.cover, by rw [hws]; exact hcr.small⟩
        · rw [← e2]; exact Grow.handOn
      · -- laid anew
        obtain ⟨r', xo, hb', hxo, hxol, _, hcell, hrunl⟩ := loadN_sound (P := P) hr.drew hloadN
        rw [hb] at hb'; cases hb'
        obtain ⟨zv, hzv, hzs⟩ := zero_size hT hzz q6 w.drew
        have ho : (Builtin.firstCells te.size len (.slice (some ⟨r, 0, none⟩) len c)).run P w.drew = .ok xo.toArray w.drew := by
          simp only [Builtin.firstCells]; rw [q3]; exact hrunl
        obtain ⟨k, k1, k2, hrun⟩ := append_grows (type := type) hC h0 hu hte hz (hn w) hfit q7 (by omega) ho hx2 hzv
        have hcat := concL_append hxo hn1
        have hvl : (old ++ new).length = (len + n) * te.size := by rw [List.length_append, hol, hnl, ← q3, Nat.add_mul]
        obtain ⟨t1, t2, t3⟩ := newOpen_sound (P := P) hr hf e hT hcat hvl k1 k2 hzs
        have harr : (xo ++ xn).toArray = xo.toArray ++ xn.toArray := by simp
        rw [harr] at t1
        refine ⟨η.bindK H.next w.heap.size k, _, _, hrun, ?_, ?_, ?_⟩
        · rw [← e1]; exact slice_conc (by simp [Env.bindK]) (by simp [capOf, Env.bindK]) k1
        · rw [← e2]
          -- the new block, read as the row handed on
          have base := t1
          refine ⟨t1.le, ⟨?_, ?_⟩, t1.frame, ?_, t1.keeps⟩
          · intro j oj hj
            rw [get_handOn] at hj
            by_cases h1 : j = H.next
            · rw [if_pos h1] at hj; cases hj; subst h1
              obtain ⟨r2, ob2, hr2, hob2, hrel2⟩ := t1.rel.obj H.next _ (by rw [show (newOpen H e (old ++ new) (len + n)).2 = H.new _ from rfl, Heap.get_new, if_pos rfl])
              refine ⟨r2, ob2, hr2, hob2, ?_⟩
              cases ob2 with
              | cells c2 e2' fz2 =>
                have hrel2 : CRel P _ _ _ _ _ _ _ _ _ _ _ _ := hrel2
                have hfz0 : ∀ off, ¬ (fz2.1 ≤ off ∧ off < fz2.2) := fun off hh => by
                  rcases hrel2.cover off hh.1 hh.2 with ⟨_, p⟩ | ⟨p, _⟩
                  · omega
                  · cases p
                refine ⟨hrel2.elem, fun i v' hv hi' => ?_, ?_, (fun h => by cases h), hrel2.opened, hrel2.fzle, (fun off p q => absurd ⟨p, q⟩ (hfz0 off)), ?_⟩
                · rw [Tr.get_setL] at hv
                  have hin2 : (Tr.ofL (old ++ new)).get i = some v' := by
                    rw [Tr.get_ofL]
                    by_cases hin : m ≤ i ∧ i < m + new.length
                    · rw [if_pos hin] at hv; rw [List.getElem?_append_right (by omega), hol]; exact hv
                    · rw [if_neg hin] at hv
                      have him : i < m := by omega
                      rw [List.getElem?_append_left (by omega)]
                      rw [← hok i him, Nat.zero_add]; exact hv
                  exact hrel2.get i v' hin2 (by rw [List.length_append, hol]; exact hi')
                · have := hrel2.le; rw [List.length_append, hol] at this; exact this
                · intro hmk
                  rw [hmk] at q0; cases q0
              | _ => exact hrel2.elim
            · rw [if_neg h1] at hj
              by_cases h2 : j = b
              · rw [if_pos h2] at hj; cases hj
              · rw [if_neg h2] at hj
                exact t1.rel.obj j oj (by rw [show (newOpen H e (old ++ new) (len + n)).2 = H.new _ from rfl, Heap.get_new, if_neg h1]; exact hj)
          · intro i j oi oj c' hi' hj' hci hcj
            have up : ∀ i oi, (handOn H b m t e lo hi mk (len + n) new).2.get i = some oi → ∃ o2, (newOpen H e (old ++ new) (len + n)).2.get i = some o2 := fun i oi hi => by
              rw [get_handOn] at hi
              rw [show (newOpen H e (old ++ new) (len + n)).2 = H.new _ from rfl, Heap.get_new]
              by_cases h1 : i = H.next
              · rw [if_pos h1]; exact ⟨_, rfl⟩
              · rw [if_neg h1] at hi ⊢
                by_cases h2 : i = b
                · rw [if_pos h2] at hi; cases hi
                · rw [if_neg h2] at hi; exact ⟨_, hi⟩
            obtain ⟨_, u1⟩ := up i oi hi'
            obtain ⟨_, u2⟩ := up j oj hj'
            exact t1.rel.inj _ _ _ _ _ u1 u2 hci hcj
          · rintro c' hc' ⟨j, oj, hj, hcj⟩
            rw [get_handOn] at hj
            refine t1.shr c' hc' ?_
            by_cases h1 : j = H.next
            · exact ⟨j, _, by rw [show (newOpen H e (old ++ new) (len + n)).2 = H.new _ from rfl, Heap.get_new, if_pos h1], hcj⟩
            · rw [if_neg h1] at hj
              by_cases h2 : j = b
              · rw [if_pos h2] at hj; cases hj
              · rw [if_neg h2] at hj; exact ⟨j, oj, by rw [show (newOpen H e (old ++ new) (len + n)).2 = H.new _ from rfl, Heap.get_new, if_neg h1]; exact hj, hcj⟩
        · rw [← e2]; exact Grow.handOn
  · cases h
end Go.VmK
namespace Go.VmK
variable {P : Program} {C : Ctx} {E : List LoopInfo} {η : Env} {H : Heap} {w : World}

theorem appVar_sound (hC : CtxOK P C) (hr : HRel P η E H w) (hf : Fresh η H H.next) {at_ : Array TypeId} {sT e : TypeId} {te : TI} {type : TypeId} {x' : Value} {b off len k less c r : Nat} (hb : η.ρ b = some r) (hcap : capOf η (.var k less) = some c) (hlc : len ≤ c)
    (h0 : at_[0]? = some sT) (hu : und C sT = some (.slice e)) (hte : ti C e = some te) (hz : NoZeros P at_) (hsz : te.size ≠ 0) {n : Nat} (hn : ∀ w, (Builtin.lenOf x').run P w = .ok n w)
    {new : List AV} {xn : List Value} (hn1 : concL η new = some xn) (hnl : new.length = n * te.size) (hx : (Builtin.firstCells te.size n x').run P w = .ok xn.toArray w) (hx2 : (Builtin.firstCells te.size n x').run P w.drew = .ok xn.toArray w.drew)
    {v : AV} {H' : Heap} (h : appVar H e te b off len k less n new = some (v, H')) : SimS P E η H w (Builtin.append_ at_ type #[.slice (some ⟨r, off, none⟩) len c, x']) v H' := by
  unfold appVar at h
  split at h
  · rename_i t m e' lo hi mk hg
    cases hq : (Nat.beq k b && Nat.beq off (less * te.size) && Nat.beq e e') with
    | false => rw [hq] at h; cases h
    | true =>
      rw [hq] at h; simp only [cond_true] at h
      simp only [Bool.and_eq_true] at hq
      obtain ⟨⟨q1, q2⟩, q3⟩ := hq
      have q1 := beq_eq q1; have q2 := beq_eq q2; have q3 := beq_eq q3
      subst q1; subst q3
      cases hq2 : Nat.ble (off + (len + n) * te.size) m with
      | true =>
        rw [hq2] at h; simp only [cond_true] at h
        have hle := ble_le hq2
        obtain ⟨r', cc, fz, hb', hh, hcr⟩ := getC hr hg
        rw [hb] at hb'; cases hb'
        obtain ⟨kk, hkk, hk63, hksz⟩ := hcr.opened rfl
        have hT := ti_ok hC hte
        rw [hT.cellsOf] at hksz
        have hfit : len + n ≤ c := by
          simp only [capOf, hkk] at hcap
          split at hcap
          · cases hcap
            have h1 := hcr.le
            rw [hksz] at h1
            have h2 : (less + (len + n)) * te.size ≤ kk * te.size := by rw [Nat.add_mul, ← q2]; omega
            have h3 := Nat.le_of_mul_le_mul_right h2 (Nat.pos_of_ne_zero hsz)
            omega
          · cases hcap
        exact appIn_sound hC hr hb hcap h0 hu hte hz (hn w) hfit hn1 hx h
      | false =>
        rw [hq2] at h; simp only [cond_false] at h
        exact appOn_sound hC hr hf hg hb hcap hlc h0 hu hte hz hsz hn hn1 hnl hx hx2 h
  · cases h

theorem append_sound (hC : CtxOK P C) (hr : HRel P η E H w) (hf : Fresh η H H.next) {ats : List TypeId} {sT : TypeId} {r : List TypeId} (hat : ats = sT :: r) {type : TypeId} {s x : AV} {s' x' : Value} (hs : conc η s = some s') (hx : conc η x = some x')
    {v : AV} {H' : Heap} (h : append C H sT r.head? s x = some (v, H')) : SimS P E η H w (Builtin.append_ ats.toArray type #[s', x']) v H' := by
  unfold append at h
  split at h
  · rename_i e hu
    split at h
    · cases h
    · rename_i te hte
      split at h
      · cases h
      · rename_i n new hac
        cases hq : (noInt C r.head? && notB (Nat.beq te.size 0)) with
        | false => rw [hq] at h; cases h
        | true =>
          rw [hq] at h; simp only [cond_true] at h
          simp only [Bool.and_eq_true] at hq
          obtain ⟨q1, q2⟩ := hq
          rw [notB_eq] at q2
          have hsz : te.size ≠ 0 := fun e => by rw [e] at q2; cases q2
          have h0 : ats.toArray[0]? = some sT := by subst hat; simp
          have hz : NoZeros P ats.toArray := by
            subst hat
            cases r with
            | nil => exact .inl (by simp)
            | cons t r =>
              refine .inr ⟨t, ?_⟩
              simp only [noInt, List.head?_cons] at q1
              split at q1
              · cases q1
              · cases q1
              · rename_i u hni hu2
                exact ⟨u, by simp, und_ok hC hu2, fun k hk => hni k hk⟩
          obtain ⟨hn, xn, hn1, hnl, hrun⟩ := appCells_sound (P := P) hr hx hac
          obtain ⟨_, xn2, hn2, _, hrun2⟩ := appCells_sound (P := P) hr.drew hx hac
          rw [hn1] at hn2; cases hn2
          have hnall : ∀ w, (Builtin.lenOf x').run P w = .ok n w := fun w' => by
            cases x' <;> first | (simp only [Builtin.lenOf, Sem.run_pure] at hn ⊢; cases hn; rfl) | (simp only [Builtin.lenOf, run_stuck] at hn; cases hn)
          unfold appRow at h
          split at h
          · rw [conc_nils hs]
            cases hq : Nat.beq n 0 with
            | true =>
              rw [hq] at h; simp only [cond_true, Option.some.injEq, Prod.mk.injEq] at h
              obtain ⟨rfl, rfl⟩ := h
              have hn0 := beq_eq hq; subst hn0
              exact SimS.pure hr rfl (append_fits (base := none) hC h0 hu hte hz hn (by omega) hrun rfl)
            | false =>
              rw [hq] at h; simp only [cond_false] at h
              have hn0 : n ≠ 0 := fun e => by rw [e] at hq; cases hq
              have := appNew_sound (base := none) (sLen := 0) (sCap := 0) (type := type) (old := []) (xo := []) hC hr hf h0 hu hte hz hn (by omega) rfl hn1 (by simpa using hnl) (by simp [Builtin.firstCells]) hrun2 (v := v) (H' := H') (by simpa using h)
              exact this
          · rename_i b off len c
            obtain ⟨r', n', hb, ⟨hcap, hlc⟩, rfl⟩ := conc_slice hs
            simp only [capOf, Option.some.injEq] at hcap; subst hcap
            cases hq : Nat.ble (len + n) c with
            | true =>
              rw [hq] at h; simp only [cond_true] at h
              exact appIn_sound hC hr hb rfl h0 hu hte hz hn (ble_le hq) hn1 hrun h
            | false =>
              rw [hq] at h; simp only [cond_false] at h
              split at h
              · rename_i old hold
                obtain ⟨r2, xo, hb2, hxo, hxol, hol, _, hrunl⟩ := loadN_sound (P := P) hr.drew hold
                rw [hb] at hb2; cases hb2
                have hnle : ¬ len + n ≤ c := fun hh => by rw [Nat.ble_eq_true_of_le hh] at hq; cases hq
                exact appNew_sound (base := some ⟨r', off, none⟩) hC hr hf h0 hu hte hz hn hnle hxo hn1 (by rw [List.length_append, hol, hnl, Nat.add_mul]) (by simp only [Builtin.firstCells]; exact hrunl) hrun2 h
              · cases h
          · rename_i b off len k less
            obtain ⟨r', n', hb, ⟨hcap, hlc⟩, rfl⟩ := conc_slice hs
            cases hq : Nat.beq n 0 with
            | true =>
              rw [hq] at h; simp only [cond_true, Option.some.injEq, Prod.mk.injEq] at h
              obtain ⟨rfl, rfl⟩ := h
              have hn0 := beq_eq hq; subst hn0
              have hxn : xn = [] := by
                have := concL_length hn1; rw [hnl] at this; simpa using this
              subst hxn
              have := append_fits (P := P) (w := w) (w' := w) (type := type) (base := some ⟨r', off, none⟩) (sLen := len) (sCap := n') hC h0 hu hte hz hn (by omega) hrun (by show (storeCells _ _ 0).run P w = _; simp [storeCells])
              exact SimS.pure hr hs this
            | false =>
              rw [hq] at h; simp only [cond_false] at h
              exact appVar_sound hC hr hf hb hcap hlc h0 hu hte hz hsz hnall hn1 hnl hrun hrun2 h
          · cases h
  · cases h

/-! len, min, max, the data of a slice -/
theorem lenOp_sound (hC : CtxOK P C) (hr : HRel P η E H w) {ats : List TypeId} {t : TypeId} {r : List TypeId} (hat : ats = t :: r) {type : TypeId} {a : AV} {x : Value} (hx : conc η a = some x) {v : AV} (h : lenOp C H t a = some v) :
    ∃ u, conc η v = some u ∧ (Builtin.len_ ats.toArray type #[x]).run P w = .ok u w := by
  subst hat
  unfold lenOp at h
  split at h
  · rename_i s hu; cases h; rw [conc_str hx]
    have hsz : (ByteArray.mk s.toArray).size = s.length := by simp [ByteArray.size]
    exact ⟨_, rfl, by simp [Builtin.len_, run_und hC hu, goInt, hsz]⟩
  · rename_i i hu; cases h
    have hy := hx
    simp only [conc] at hx
    split at hx
    · rename_i s hs
      cases hx
      refine ⟨.int .i64 (Int.ofNat s.size), by simp only [conc, hs], by simp [Builtin.len_, run_und hC hu, goInt]⟩
    · cases hx
  · rename_i e hu; cases h; rw [conc_nils hx]
    exact ⟨_, rfl, by simp [Builtin.len_, run_und hC hu, goInt]⟩
  · rename_i e i hu; cases h
    simp only [conc] at hx
    split at hx
    · cases hx; exact ⟨_, rfl, by simp [Builtin.len_, run_und hC hu, goInt]⟩
    · cases hx
  · rename_i e b off len c hu; cases h
    obtain ⟨_, _, _, _, rfl⟩ := conc_slice hx
    exact ⟨_, rfl, by simp [Builtin.len_, run_und hC hu, goInt]⟩
  · rename_i k e hu; cases h; rw [conc_nilm hx]
    exact ⟨_, rfl, by simp [Builtin.len_, run_und hC hu, goInt]⟩
  · rename_i k e b hu
    split at h
    · rename_i es clock hg
      cases h
      obtain ⟨r', hb, rfl⟩ := conc_map hx
      obtain ⟨r2, ob, hb2, hob, hrel⟩ := hr.obj b _ hg
      rw [hb] at hb2; cases hb2
      cases ob with
      | map ces clock' =>
        have hl : ∀ (es : List (AV × AV × Nat)) (ces : List MapEntry), EsRel η es ces → ces.length = es.length := by
          intro es
          induction es with
          | nil => intro ces h; cases ces with | nil => rfl | cons _ _ => exact h.elim
          | cons e es ih => intro ces h; cases ces with | nil => exact h.elim | cons c ces => simp [ih ces h.2.2.2]
        have := hl es ces.toList hrel.2
        have hsz : ces.size = es.length := by simpa using this
        exact ⟨_, rfl, by simp [Builtin.len_, run_und hC hu, goInt, getObj, Sem.run, hob, hsz]⟩
      | _ => exact hrel.elim
    · cases h
  · cases h

theorem min2_sound {a b c : AV} {x y : Value} (hx : conc η a = some x) (hy : conc η b = some y) (h : min2 a b = some c) : ∃ u, conc η c = some u ∧ (Builtin.min2 x y).run P w = .ok u w := by
  unfold min2 at h
  split at h
  · cases h; rw [conc_int hx, conc_int hy]; exact ⟨_, rfl, by simp [Builtin.min2]⟩
  · cases h
theorem max2_sound {a b c : AV} {x y : Value} (hx : conc η a = some x) (hy : conc η b = some y) (h : max2 a b = some c) : ∃ u, conc η c = some u ∧ (Builtin.max2 x y).run P w = .ok u w := by
  unfold max2 at h
  split at h
  · cases h; rw [conc_int hx, conc_int hy]; exact ⟨_, rfl, by simp [Builtin.max2]⟩
  · cases h
theorem foldO_sound {f : AV → AV → Option AV} {g : Value → Value → Sem Value} (hfg : ∀ {a b c : AV} {x y : Value}, conc η a = some x → conc η b = some y → f a b = some c → ∃ u, conc η c = some u ∧ (g x y).run P w = .ok u w) :
    ∀ {l : List AV} {xs : List Value} {a c : AV} {x : Value}, conc η a = some x → concL η l = some xs → foldO f a l = some c → ∃ u, conc η c = some u ∧ (xs.foldlM g x).run P w = .ok u w
  | [], xs, a, c, x, hx, hl, h => by simp [concL] at hl; subst hl; simp [foldO] at h; subst h; exact ⟨x, hx, rfl⟩
  | b :: l, xs, a, c, x, hx, hl, h => by
    simp only [concL] at hl
    split at hl
    · rename_i y ys hy hys
      cases hl
      simp only [foldO] at h
      split at h
      · rename_i z hz
        obtain ⟨u, hu, hrun⟩ := hfg hx hy hz
        obtain ⟨u2, hu2, hrun2⟩ := foldO_sound hfg hu hys h
        exact ⟨u2, hu2, by simp [hrun, hrun2]⟩
      · cases h
    · cases hl

theorem sliceData_run (ats : Array TypeId) (type : TypeId) (a : Addr) (len c : Nat) (h : c ≠ 0) : (Builtin.unsafeSliceData_ ats type #[.slice (some a) len c]).run P w = .ok (.pointer (some a)) w := by
  show (if c ≠ 0 then pure (Value.pointer (some a)) else _ : Sem Value).run P w = _
  rw [if_pos h]; rfl
theorem sliceData_sound {ats : Array TypeId} {type : TypeId} {a : AV} {x : Value} (hx : conc η a = some x) {v : AV} (h : unsafeSliceData a = some v) : ∃ u, conc η v = some u ∧ (Builtin.unsafeSliceData_ ats type #[x]).run P w = .ok u w := by
  unfold unsafeSliceData at h
  split at h
  · cases h; rw [conc_nils hx]; exact ⟨_, rfl, rfl⟩
  · rename_i b off len c
    cases hq : Nat.beq c 0 with
    | true => rw [hq] at h; cases h
    | false =>
      rw [hq] at h; cases h
      obtain ⟨r, n, hb, ⟨hc, _⟩, rfl⟩ := conc_slice hx
      simp only [capOf, Option.some.injEq] at hc; subst hc
      have : c ≠ 0 := fun e => by rw [e] at hq; cases hq
      exact ⟨_, by simp [conc, hb], sliceData_run _ _ _ _ _ this⟩
  · rename_i b off len k less
    cases hq : Nat.beq len 0 with
    | true => rw [hq] at h; cases h
    | false =>
      rw [hq] at h; cases h
      obtain ⟨r, n, hb, ⟨hc, hle⟩, rfl⟩ := conc_slice hx
      have : len ≠ 0 := fun e => by rw [e] at hq; cases hq
      have : n ≠ 0 := by omega
      exact ⟨_, by simp [conc, hb], sliceData_run _ _ _ _ _ this⟩
  · cases h
end Go.VmK
namespace Go.VmK
variable {P : Program} {C : Ctx} {E : List LoopInfo} {η : Env} {H : Heap} {w : World}

/-! copy -/
theorem copyOp_sound (hC : CtxOK P C) (hr : HRel P η E H w) {ats : List TypeId} {t : TypeId} {r : List TypeId} (hat : ats = t :: r) {type : TypeId} {d s : AV} {x y : Value} (hx : conc η d = some x) (hy : conc η s = some y) {v : AV} {H' : Heap}
    (h : copyOp C H t d s = some (v, H')) : SimS P E η H w (Builtin.copy_ ats.toArray type #[x, y]) v H' := by
  subst hat
  unfold copyOp at h
  split at h
  · rename_i e b off dLen c hu
    split at h
    · cases h
    · rename_i te hte
      cases h
      obtain ⟨r', n, hb, ⟨_, _⟩, rfl⟩ := conc_slice hx
      rw [conc_nils hy]
      refine ⟨η, _, w, ?_, rfl, Trans.refl hr, Grow.same _ _⟩
      simp [Builtin.copy_, run_und hC hu, Builtin.lenOf, (ti_ok hC hte).sizeOf, Builtin.firstCells, storeCells, goInt]
  · rename_i e b off dLen c s hu
    split at h
    · cases h
    · rename_i te hte
      cases hq : Nat.beq te.size 1 with
      | false => rw [hq] at h; cases h
      | true =>
        rw [hq] at h; simp only [cond_true] at h
        have hsz := beq_eq hq
        cases hs : storeL H b off (bytesAV (s.take (Nat.min s.length dLen))) with
        | none => rw [hs] at h; cases h
        | some H1 =>
          rw [hs] at h; simp only [Option.map_some, Option.some.injEq, Prod.mk.injEq] at h
          obtain ⟨rfl, rfl⟩ := h
          obtain ⟨r', n, hb, ⟨_, _⟩, rfl⟩ := conc_slice hx
          rw [conc_str hy]
          obtain ⟨r2, w', hb2, hrun, htr, hnext⟩ := storeL_sound (P := P) hr hs (bytesAV_conc η _)
          rw [hb] at hb2; cases hb2
          rw [List.map_take] at hrun
          have hlen : (ByteArray.mk s.toArray).size = s.length := by simp [ByteArray.size]
          have hex : (ByteArray.mk s.toArray).extract 0 (Nat.min s.length dLen) = ⟨(s.take (Nat.min s.length dLen)).toArray⟩ := by
            apply ByteArray.ext; simp
          refine ⟨η, _, w', ?_, rfl, htr, Grow.of_store hs hnext⟩
          simp [Builtin.copy_, run_und hC hu, Builtin.lenOf, hlen, (ti_ok hC hte).sizeOf, Builtin.firstCells, hrun, goInt]
  · cases h

/-! texts out of bytes -/
theorem bytes_push {s : List UInt8} {xs : List Value} (h1 : s.length = xs.length) (h2 : ∀ (i : Nat) (x : Value), xs[i]? = some x → ∃ b : UInt8, x = .int .u8 (b.toNat : Int) ∧ s[i]? = some b) :
    xs.all (fun x => match x with | .int .u8 _ => true | _ => false) = true ∧ (xs.map fun x => match x with | .int _ n => UInt8.ofNat n.toNat | _ => 0) = s := by
  constructor
  · rw [List.all_eq_true]
    intro x hx
    obtain ⟨i, hi, rfl⟩ := List.getElem_of_mem hx
    obtain ⟨n, hn, _⟩ := h2 i _ (List.getElem?_eq_getElem hi)
    rw [hn]
  · apply List.ext_getElem?
    intro i
    rw [List.getElem?_map]
    cases hx : xs[i]? with
    | none => rw [List.getElem?_eq_none_iff] at hx; rw [Option.map_none, List.getElem?_eq_none (by omega)]
    | some x => obtain ⟨n, hn, hs⟩ := h2 i x hx; rw [hs, hn]; simp

theorem bytesToString_run {xs : List Value} {s : List UInt8} {a : Addr} {len cap : Nat} (h1 : s.length = xs.length) (h2 : ∀ (i : Nat) (x : Value), xs[i]? = some x → ∃ b : UInt8, x = .int .u8 (b.toNat : Int) ∧ s[i]? = some b)
    (hl : (loadCells a len).run P w = .ok xs.toArray w) : (Conv.bytesToString (.slice (some a) len cap)).run P w = .ok (.string ⟨s.toArray⟩) w := by
  have go : ∀ (xs : List Value) (s : List UInt8) (acc : ByteArray), s.length = xs.length → (∀ (i : Nat) (x : Value), xs[i]? = some x → ∃ b : UInt8, x = .int .u8 (b.toNat : Int) ∧ s[i]? = some b) →
      (forIn xs acc (fun c (r : ByteArray) => match c with
        | .int .u8 n => pure (ForInStep.yield (r.push (UInt8.ofNat n.toNat)))
        | _ => do
          (stuck "bytesToString: byte expected" : Sem PUnit)
          pure (ForInStep.yield r)) : Sem ByteArray).run P w = .ok ⟨acc.data ++ s.toArray⟩ w := by
    intro xs
    induction xs with
    | nil => intro s acc h1 _; have : s = [] := by simpa using h1
             subst this; simp
    | cons x xs ih =>
      intro s acc h1 h2
      cases s with
      | nil => simp at h1
      | cons b s =>
        obtain ⟨n, hn, hb⟩ := h2 0 x (by simp)
        simp at hb; subst hn; subst hb
        have := ih s (acc.push b) (by simpa using h1) (fun i y hy => by
          obtain ⟨m, hm, hg⟩ := h2 (i + 1) y (by simpa using hy)
          exact ⟨m, hm, by simpa using hg⟩)
        simp only [List.forIn_cons, Sem.run_bind, Sem.run_pure, Result.andThen_ok]
        rw [show UInt8.ofNat ((b.toNat : Int)).toNat = b from by simp, this]
        congr 2
        simp
  simp only [Conv.bytesToString, Sem.run_bind, hl, Result.andThen_ok]
  have := go xs s .empty h1 h2
  simp only [List.forIn_toArray] at *
  have h3 := congrArg (fun (r : Result ByteArray) => r.andThen fun a w' => (Pure.pure (Value.string a) : Sem Value).run P w') this
  refine Eq.trans h3 ?_
  simp

end Go.VmK
