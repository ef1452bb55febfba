/-
  Part of the proof of a statement of this seat: walks of its functions and the closed run; no condition but those written in each theorem.
-/
import Derived.Laws.Bits64b
/- Sums of bytes, numbers in bytes: plain facts. -/
namespace Go.NumPure
theorem wrap_u32 (n : Int) : IntKind.u32.wrap n = n % 4294967296 := by simp [IntKind.wrap, IntKind.bits, IntKind.signed]
theorem wrap_u8 (n : Int) : IntKind.u8.wrap n = n % 256 := by simp [IntKind.wrap, IntKind.bits, IntKind.signed]
theorem ofInt_nat {m : Nat} (a : Nat) (ha : a < 2 ^ m) : (BitVec.ofInt m (a : Int)).toNat = a := by
  rw [BitVec.ofInt_natCast, BitVec.toNat_ofNat]; exact Nat.mod_eq_of_lt ha
theorem xor32 (a b : Nat) (ha : a < 4294967296) (hb : b < 4294967296) : bits .xor .u32 (a : Int) (b : Int) = ((a ^^^ b : Nat) : Int) := by
  have hx : a ^^^ b < 2 ^ 32 := Nat.xor_lt_two_pow (by omega) (by omega)
  show IntKind.u32.wrap ((BitVec.ofInt 32 (a : Int) ^^^ BitVec.ofInt 32 (b : Int)).toNat : Int) = _
  rw [BitVec.toNat_xor, ofInt_nat a (by omega), ofInt_nat b (by omega), wrap_u32]
  omega
theorem and32 (a b : Nat) (ha : a < 4294967296) (hb : b < 4294967296) : bits .and .u32 (a : Int) (b : Int) = ((a &&& b : Nat) : Int) := by
  have hx : a &&& b < 2 ^ 32 := Nat.and_lt_two_pow _ (by omega)
  show IntKind.u32.wrap ((BitVec.ofInt 32 (a : Int) &&& BitVec.ofInt 32 (b : Int)).toNat : Int) = _
  rw [BitVec.toNat_and, ofInt_nat a (by omega), ofInt_nat b (by omega), wrap_u32]
  omega
theorem and8 (a b : Nat) (ha : a < 256) (hb : b < 256) : bits .and .u8 (a : Int) (b : Int) = ((a &&& b : Nat) : Int) := by
  have hx : a &&& b < 2 ^ 8 := Nat.and_lt_two_pow _ (by omega)
  show IntKind.u8.wrap ((BitVec.ofInt 8 (a : Int) &&& BitVec.ofInt 8 (b : Int)).toNat : Int) = _
  rw [BitVec.toNat_and, ofInt_nat a (by omega), ofInt_nat b (by omega), wrap_u8]
  omega
theorem or8 (a b : Nat) (ha : a < 256) (hb : b < 256) : bits .or .u8 (a : Int) (b : Int) = ((a ||| b : Nat) : Int) := by
  have hx : a ||| b < 2 ^ 8 := Nat.or_lt_two_pow (by omega) (by omega)
  show IntKind.u8.wrap ((BitVec.ofInt 8 (a : Int) ||| BitVec.ofInt 8 (b : Int)).toNat : Int) = _
  rw [BitVec.toNat_or, ofInt_nat a (by omega), ofInt_nat b (by omega), wrap_u8]
  omega
theorem xor8 (a b : Nat) (ha : a < 256) (hb : b < 256) : bits .xor .u8 (a : Int) (b : Int) = ((a ^^^ b : Nat) : Int) := by
  have hx : a ^^^ b < 2 ^ 8 := Nat.xor_lt_two_pow (by omega) (by omega)
  show IntKind.u8.wrap ((BitVec.ofInt 8 (a : Int) ^^^ BitVec.ofInt 8 (b : Int)).toNat : Int) = _
  rw [BitVec.toNat_xor, ofInt_nat a (by omega), ofInt_nat b (by omega), wrap_u8]
  omega

theorem xor_r {a b c : Nat} (h : a ^^^ b = a ^^^ c) : b = c := by
  have := congrArg (a ^^^ ·) h
  simpa [← Nat.xor_assoc] using this
theorem xor_l {a b c : Nat} (h : b ^^^ a = c ^^^ a) : b = c := by
  rw [Nat.xor_comm b, Nat.xor_comm c] at h
  exact xor_r h
/-! the check sum -/
def sBit (x : Nat) : Nat := if x % 2 = 1 then x / 2 ^^^ 2197175160 else x / 2
def sBits : Nat → Nat → Nat
  | 0, x => x
  | j + 1, x => sBit (sBits j x)
def sByte (x : Nat) (b : UInt8) : Nat := sBits 8 (x ^^^ b.toNat)
def sumL (x : Nat) (l : List UInt8) : Nat := l.foldl sByte x
def crc (l : List UInt8) : Nat := sumL 4294967295 l ^^^ 4294967295
theorem sBit_lt {x : Nat} (h : x < 4294967296) : sBit x < 4294967296 := by
  unfold sBit
  split
  · exact Nat.lt_of_lt_of_le (Nat.xor_lt_two_pow (n := 32) (by omega) (by omega)) (by decide)
  · omega
theorem sBits_lt {x : Nat} (h : x < 4294967296) : ∀ j, sBits j x < 4294967296
  | 0 => h
  | j + 1 => sBit_lt (sBits_lt h j)
theorem sByte_lt {x : Nat} (h : x < 4294967296) (b : UInt8) : sByte x b < 4294967296 :=
  sBits_lt (Nat.lt_of_lt_of_le (Nat.xor_lt_two_pow (n := 32) (by omega) (by have := b.toNat_lt; omega)) (by decide)) 8
theorem sumL_lt : ∀ (l : List UInt8) {x : Nat}, x < 4294967296 → sumL x l < 4294967296
  | [], _, h => h
  | b :: l, _, h => sumL_lt l (sByte_lt h b)
theorem crc_lt (l : List UInt8) : crc l < 4294967296 := Nat.lt_of_lt_of_le (Nat.xor_lt_two_pow (n := 32) (sumL_lt l (by decide)) (by decide)) (by decide)
theorem xor_top {a : Nat} (h : a < 2147483648) : (a ^^^ 2197175160).testBit 31 = true := by
  rw [Nat.testBit_xor]
  have : a.testBit 31 = false := Nat.testBit_lt_two_pow (by omega)
  rw [this]; decide
theorem sBit_inj {x y : Nat} (hx : x < 4294967296) (hy : y < 4294967296) (h : sBit x = sBit y) : x = y := by
  unfold sBit at h
  have bx : x / 2 < 2147483648 := by omega
  have by' : y / 2 < 2147483648 := by omega
  have low : ∀ a, a < 2147483648 → a.testBit 31 = false := fun a h => Nat.testBit_lt_two_pow (by omega)
  split at h <;> split at h
  · rename_i h1 h2
    have : x / 2 = y / 2 := xor_l h
    omega
  · rename_i h1 h2
    have := xor_top bx
    rw [h, low _ by'] at this; cases this
  · rename_i h1 h2
    have := xor_top by'
    rw [← h, low _ bx] at this; cases this
  · omega
theorem sBits_inj {x y : Nat} (hx : x < 4294967296) (hy : y < 4294967296) : ∀ j, sBits j x = sBits j y → x = y
  | 0, h => h
  | j + 1, h => sBits_inj hx hy j (sBit_inj (sBits_lt hx j) (sBits_lt hy j) h)
theorem sByte_inj {x y : Nat} (hx : x < 4294967296) (hy : y < 4294967296) {b : UInt8} (h : sByte x b = sByte y b) : x = y := by
  have hb := b.toNat_lt
  have := sBits_inj (Nat.lt_of_lt_of_le (Nat.xor_lt_two_pow (n := 32) (by omega) (by omega)) (by decide)) (Nat.lt_of_lt_of_le (Nat.xor_lt_two_pow (n := 32) (by omega) (by omega)) (by decide)) 8 h
  exact xor_l this
theorem sByte_inj' {x : Nat} (hx : x < 4294967296) {b c : UInt8} (h : sByte x b = sByte x c) : b = c := by
  have hb := b.toNat_lt
  have hc := c.toNat_lt
  have := sBits_inj (Nat.lt_of_lt_of_le (Nat.xor_lt_two_pow (n := 32) (by omega) (by omega)) (by decide)) (Nat.lt_of_lt_of_le (Nat.xor_lt_two_pow (n := 32) (by omega) (by omega)) (by decide)) 8 h
  exact UInt8.toNat_inj.1 (xor_r this)
theorem sumL_inj : ∀ (l : List UInt8) {x y : Nat}, x < 4294967296 → y < 4294967296 → sumL x l = sumL y l → x = y
  | [], _, _, _, _, h => h
  | b :: l, _, _, hx, hy, h => sByte_inj hx hy (sumL_inj l (sByte_lt hx b) (sByte_lt hy b) h)
theorem sumL_append (x : Nat) (l m : List UInt8) : sumL x (l ++ m) = sumL (sumL x l) m := List.foldl_append
theorem sumL_snoc (x : Nat) (l : List UInt8) (b : UInt8) : sumL x (l ++ [b]) = sByte (sumL x l) b := by rw [sumL_append]; rfl
/-- A BYTE CHANGED IS SEEN. -/
theorem crc_sees (l m : List UInt8) (b c : UInt8) (h : crc (l ++ b :: m) = crc (l ++ c :: m)) : b = c := by
  unfold crc at h
  have h1 := xor_l h
  rw [sumL_append, sumL_append] at h1
  have hl := sumL_lt l (x := 4294967295) (by decide)
  have h2 := sumL_inj m (sByte_lt hl b) (sByte_lt hl c) h1
  exact sByte_inj' hl h2
end Go.NumPure
