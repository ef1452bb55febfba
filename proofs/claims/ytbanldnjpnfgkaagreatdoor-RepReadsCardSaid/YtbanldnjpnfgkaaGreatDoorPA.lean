/-
  Part of the proof of a statement of this seat: walks of its functions and the closed run; no condition but those written in each theorem.
-/
import Derived.Laws.Bits64b
import Derived.Laws.BytesString
import Derived.Laws.Cells
import Derived.WalkKit
import Derived.OwnWalk
import Derived.Below
import Derived.Lib.Builder
import Derived.Lib.AppendStr
import Derived.Lib.UnsafeStr
import Derived.Lib.Replace
import Derived.Lib.Strings
import Derived.Test.YtbanldnjpnfgkaaGreatDoorV7
/- Sums of bytes, numbers in bytes: plain facts. -/
namespace Go.NumPure
theorem wrap_u32 (n : Int) : IntKind.u32.wrap n = n % 4294967296 := by simp [IntKind.wrap, IntKind.bits, IntKind.signed]
theorem wrap_u8 (n : Int) : IntKind.u8.wrap n = n % 256 := by simp [IntKind.wrap, IntKind.bits, IntKind.signed]
theorem ofInt_nat {m : Nat} (a : Nat) (ha : a < 2 ^ m) : (BitVec.ofInt m (a : Int)).toNat = a := by
  rw [BitVec.ofInt_natCast, BitVec.toNat_ofNat]; exact Nat.mod_eq_of_lt ha
theorem xor32 (a b : Nat) (ha : a < 4294967296) (hb : b < 4294967296) : bits .xor .u32 (a : Int) (b : Int) = ((a ^^^ b : Nat) : Int) := by
  have hx : a ^^^ b < 2 ^ 32 := Nat.xor_lt_two_pow (by omega) (by omega)
  show IntKind.u32.wrap ((BitVec.ofInt 32 (a : Int) ^^^ BitVec.ofInt 32 (b : Int)).toNat : Int) = _
  rw [BitVec.toNat_xor, ofInt_nat a (by omega), ofInt_nat b (by omega), wrap_u32]
  omega
theorem and32 (a b : Nat) (ha : a < 4294967296) (hb : b < 4294967296) : bits .and .u32 (a : Int) (b : Int) = ((a &&& b : Nat) : Int) := by
  have hx : a &&& b < 2 ^ 32 := Nat.and_lt_two_pow _ (by omega)
  show IntKind.u32.wrap ((BitVec.ofInt 32 (a : Int) &&& BitVec.ofInt 32 (b : Int)).toNat : Int) = _
  rw [BitVec.toNat_and, ofInt_nat a (by omega), ofInt_nat b (by omega), wrap_u32]
  omega
theorem and8 (a b : Nat) (ha : a < 256) (hb : b < 256) : bits .and .u8 (a : Int) (b : Int) = ((a &&& b : Nat) : Int) := by
  have hx : a &&& b < 2 ^ 8 := Nat.and_lt_two_pow _ (by omega)
  show IntKind.u8.wrap ((BitVec.ofInt 8 (a : Int) &&& BitVec.ofInt 8 (b : Int)).toNat : Int) = _
  rw [BitVec.toNat_and, ofInt_nat a (by omega), ofInt_nat b (by omega), wrap_u8]
  omega
theorem or8 (a b : Nat) (ha : a < 256) (hb : b < 256) : bits .or .u8 (a : Int) (b : Int) = ((a ||| b : Nat) : Int) := by
  have hx : a ||| b < 2 ^ 8 := Nat.or_lt_two_pow (by omega) (by omega)
  show IntKind.u8.wrap ((BitVec.ofInt 8 (a : Int) ||| BitVec.ofInt 8 (b : Int)).toNat : Int) = _
  rw [BitVec.toNat_or, ofInt_nat a (by omega), ofInt_nat b (by omega), wrap_u8]
  omega
theorem xor8 (a b : Nat) (ha : a < 256) (hb : b < 256) : bits .xor .u8 (a : Int) (b : Int) = ((a ^^^ b : Nat) : Int) := by
  have hx : a ^^^ b < 2 ^ 8 := Nat.xor_lt_two_pow (by omega) (by omega)
  show IntKind.u8.wrap ((BitVec.ofInt 8 (a : Int) ^^^ BitVec.ofInt 8 (b : Int)).toNat : Int) = _
  rw [BitVec.toNat_xor, ofInt_nat a (by omega), ofInt_nat b (by omega), wrap_u8]
  omega

theorem xor_r {a b c : Nat} (h : a ^^^ b = a ^^^ c) : b = c := by
  have := congrArg (a ^^^ ·) h
  simpa [← Nat.xor_assoc] using this
theorem xor_l {a b c : Nat} (h : b ^^^ a = c ^^^ a) : b = c := by
  rw [Nat.xor_comm b, Nat.xor_comm c] at h
  exact xor_r h
/-! the check sum -/
def sBit (x : Nat) : Nat := if x % 2 = 1 then x / 2 ^^^ 2197175160 else x / 2
def sBits : Nat → Nat → Nat
  | 0, x => x
  | j + 1, x => sBit (sBits j x)
def sByte (x : Nat) (b : UInt8) : Nat := sBits 8 (x ^^^ b.toNat)
def sumL (x : Nat) (l : List UInt8) : Nat := l.foldl sByte x
def crc (l : List UInt8) : Nat := sumL 4294967295 l ^^^ 4294967295
theorem sBit_lt {x : Nat} (h : x < 4294967296) : sBit x < 4294967296 := by
  unfold sBit
  split
  · exact Nat.lt_of_lt_of_le (Nat.xor_lt_two_pow (n := 32) (by omega) (by omega)) (by decide)
  · omega
theorem sBits_lt {x : Nat} (h : x < 4294967296) : ∀ j, sBits j x < 4294967296
  | 0 => h
  | j + 1 => sBit_lt (sBits_lt h j)
theorem sByte_lt {x : Nat} (h : x < 4294967296) (b : UInt8) : sByte x b < 4294967296 :=
  sBits_lt (Nat.lt_of_lt_of_le (Nat.xor_lt_two_pow (n := 32) (by omega) (by have := b.toNat_lt; omega)) (by decide)) 8
theorem sumL_lt : ∀ (l : List UInt8) {x : Nat}, x < 4294967296 → sumL x l < 4294967296
  | [], _, h => h
  | b :: l, _, h => sumL_lt l (sByte_lt h b)
theorem crc_lt (l : List UInt8) : crc l < 4294967296 := Nat.lt_of_lt_of_le (Nat.xor_lt_two_pow (n := 32) (sumL_lt l (by decide)) (by decide)) (by decide)
theorem xor_top {a : Nat} (h : a < 2147483648) : (a ^^^ 2197175160).testBit 31 = true := by
  rw [Nat.testBit_xor]
  have : a.testBit 31 = false := Nat.testBit_lt_two_pow (by omega)
  rw [this]; decide
theorem sBit_inj {x y : Nat} (hx : x < 4294967296) (hy : y < 4294967296) (h : sBit x = sBit y) : x = y := by
  unfold sBit at h
  have bx : x / 2 < 2147483648 := by omega
  have by' : y / 2 < 2147483648 := by omega
  have low : ∀ a, a < 2147483648 → a.testBit 31 = false := fun a h => Nat.testBit_lt_two_pow (by omega)
  split at h <;> split at h
  · rename_i h1 h2
    have : x / 2 = y / 2 := xor_l h
    omega
  · rename_i h1 h2
    have := xor_top bx
    rw [h, low _ by'] at this; cases this
  · rename_i h1 h2
    have := xor_top by'
    rw [← h, low _ bx] at this; cases this
  · omega
theorem sBits_inj {x y : Nat} (hx : x < 4294967296) (hy : y < 4294967296) : ∀ j, sBits j x = sBits j y → x = y
  | 0, h => h
  | j + 1, h => sBits_inj hx hy j (sBit_inj (sBits_lt hx j) (sBits_lt hy j) h)
theorem sByte_inj {x y : Nat} (hx : x < 4294967296) (hy : y < 4294967296) {b : UInt8} (h : sByte x b = sByte y b) : x = y := by
  have hb := b.toNat_lt
  have := sBits_inj (Nat.lt_of_lt_of_le (Nat.xor_lt_two_pow (n := 32) (by omega) (by omega)) (by decide)) (Nat.lt_of_lt_of_le (Nat.xor_lt_two_pow (n := 32) (by omega) (by omega)) (by decide)) 8 h
  exact xor_l this
theorem sByte_inj' {x : Nat} (hx : x < 4294967296) {b c : UInt8} (h : sByte x b = sByte x c) : b = c := by
  have hb := b.toNat_lt
  have hc := c.toNat_lt
  have := sBits_inj (Nat.lt_of_lt_of_le (Nat.xor_lt_two_pow (n := 32) (by omega) (by omega)) (by decide)) (Nat.lt_of_lt_of_le (Nat.xor_lt_two_pow (n := 32) (by omega) (by omega)) (by decide)) 8 h
  exact UInt8.toNat_inj.1 (xor_r this)
theorem sumL_inj : ∀ (l : List UInt8) {x y : Nat}, x < 4294967296 → y < 4294967296 → sumL x l = sumL y l → x = y
  | [], _, _, _, _, h => h
  | b :: l, _, _, hx, hy, h => sByte_inj hx hy (sumL_inj l (sByte_lt hx b) (sByte_lt hy b) h)
theorem sumL_append (x : Nat) (l m : List UInt8) : sumL x (l ++ m) = sumL (sumL x l) m := List.foldl_append
theorem sumL_snoc (x : Nat) (l : List UInt8) (b : UInt8) : sumL x (l ++ [b]) = sByte (sumL x l) b := by rw [sumL_append]; rfl
/-- A BYTE CHANGED IS SEEN. -/
theorem crc_sees (l m : List UInt8) (b c : UInt8) (h : crc (l ++ b :: m) = crc (l ++ c :: m)) : b = c := by
  unfold crc at h
  have h1 := xor_l h
  rw [sumL_append, sumL_append] at h1
  have hl := sumL_lt l (x := 4294967295) (by decide)
  have h2 := sumL_inj m (sByte_lt hl b) (sByte_lt hl c) h1
  exact sByte_inj' hl h2
end Go.NumPure
/- Rows of bytes as texts. -/
namespace Go.NumPure
open Go.RowKit
def bytesOf (l : List Nat) : ByteArray := ⟨(l.map UInt8.ofNat).toArray⟩
theorem push_fold : ∀ (ns : List Nat) (s : ByteArray), (ns.map Int.ofNat).foldl (fun r n => r.push (UInt8.ofNat n.toNat)) s = ⟨s.data ++ (ns.map UInt8.ofNat).toArray⟩
  | [], s => by simp
  | n :: ns, s => by
    simp only [List.map_cons, List.foldl_cons]
    rw [push_fold ns]
    apply ByteArray.ext
    simp [ByteArray.push]
theorem conv_bytes {P : Program} {w : World} {src dst e : TypeId} (hs : P.underlying src = some (.slice e)) (he : P.underlying e = some (.int .u8)) (hd : P.underlying dst = some .string) (b off cap : Nat) (ns : List Nat)
    (hc : ∀ (j n : Nat), ns[j]? = some n → w.cell? ⟨b, off + j, none⟩ = some (.int .u8 (n : Int))) : (convert src dst (.slice (some ⟨b, off, none⟩) ns.length cap)).run P w = .ok (.string (bytesOf ns)) w := by
  rw [run_convert_bytes_string w src dst e _ _ _ hs he hd]
  have hl := run_loadCells_list (P := P) w ⟨b, off, none⟩ ((ns.map Int.ofNat).map (Value.int .u8)) (fun j v hv => by
    have hadd : (⟨b, off, none⟩ : Addr).add j = ⟨b, off + j, none⟩ := by unfold Addr.add; split <;> simp_all
    rw [hadd]
    simp only [List.map_map, List.getElem?_map, Option.map_eq_some_iff] at hv
    obtain ⟨n, hn, rfl⟩ := hv
    exact hc j n hn)
  have hlen : ((ns.map Int.ofNat).map (Value.int .u8)).length = ns.length := by simp
  rw [hlen] at hl
  rw [run_bytesToString w _ _ _ (ns.map Int.ofNat) hl, push_fold]
  unfold bytesOf
  congr 2
  apply ByteArray.ext
  simp
/-- four bytes of a number, the highest first -/
def be4 (v : Nat) : List Nat := [v / 16777216, v / 65536 % 256, v / 256 % 256, v % 256]
def be4s (v : Nat) : ByteArray := bytesOf (be4 v)
theorem be4s_size (v : Nat) : (be4s v).size = 4 := rfl
/-! numbers in as few bytes as it takes -/
def vr (n : Nat) : List Nat := if h : n < 128 then [n] else (n % 128 + 128) :: vr (n / 128)
termination_by n
theorem vr_low {n : Nat} (h : n < 128) : vr n = [n] := by rw [vr, dif_pos h]
theorem vr_high {n : Nat} (h : 128 ≤ n) : vr n = (n % 128 + 128) :: vr (n / 128) := by rw [vr, dif_neg (by omega)]
theorem vr_len : ∀ (k n : Nat), n < 128 ^ k → (vr n).length ≤ k + 1
  | 0, n, h => by
    rw [vr_low (by simp at h; omega)]; simp
  | k + 1, n, h => by
    by_cases hn : n < 128
    · rw [vr_low hn]; simp
    · rw [vr_high (by omega)]
      have := vr_len k (n / 128) (by rw [Nat.pow_succ] at h; exact Nat.div_lt_of_lt_mul (by omega))
      simp only [List.length_cons]; omega
theorem vr_short {n : Nat} (h : n < 18446744073709551616) : (vr n).length ≤ 11 := by
  have e : (128 : Nat) ^ 10 = 1180591620717411303424 := rfl
  have := vr_len 10 n (by rw [e]; omega)
  omega
theorem vr_byte (n : Nat) : ∀ x ∈ vr n, x < 256 := by
  induction n using Nat.strongRecOn with
  | ind n ih =>
    intro x hx
    by_cases hn : n < 128
    · rw [vr_low hn] at hx; simp at hx; omega
    · rw [vr_high (by omega)] at hx
      rcases List.mem_cons.1 hx with rfl | hx
      · omega
      · exact ih (n / 128) (by omega) x hx
set_option maxRecDepth 100000 in
theorem or128 (n : Nat) : bits .or .u8 ((n : Int) % 256) 128 = ((n % 128 + 128 : Nat) : Int) := by
  have h := or8 (n % 256) 128 (by omega) (by decide)
  have e : ((n : Int) % 256) = ((n % 256 : Nat) : Int) := by omega
  rw [e, show (128 : Int) = ((128 : Nat) : Int) from rfl, h]
  have : ∀ x : Fin 256, (x.val ||| 128) = x.val % 128 + 128 := by decide
  have := this ⟨n % 256, by omega⟩
  simp only at this
  rw [this]
  congr 1
  omega
set_option maxRecDepth 100000 in
theorem and128 (c : Nat) (h : c < 256) : bits .and .u8 (c : Int) 128 = if c < 128 then 0 else 128 := by
  have h1 := and8 c 128 h (by decide)
  rw [show (128 : Int) = ((128 : Nat) : Int) from rfl, h1]
  have : ∀ x : Fin 256, (x.val &&& 128) = if x.val < 128 then 0 else 128 := by decide
  have := this ⟨c, h⟩
  simp only at this
  rw [this]
  split <;> rfl
theorem and128_low (c : Nat) (h : c < 128) : (bits .and .u8 (c : Int) 128 != 0) = false := by rw [and128 c (by omega), if_pos h]; rfl
theorem and128_high (c : Nat) (h : 128 ≤ c) (h' : c < 256) : (bits .and .u8 (c : Int) 128 != 0) = true := by rw [and128 c h', if_neg (by omega)]; rfl
set_option maxRecDepth 100000 in
theorem and127 (c : Nat) (h : c < 256) : bits .and .u8 (c : Int) 127 = ((c % 128 : Nat) : Int) := by
  have h1 := and8 c 127 h (by decide)
  rw [show (127 : Int) = ((127 : Nat) : Int) from rfl, h1]
  have : ∀ x : Fin 256, (x.val &&& 127) = x.val % 128 := by decide
  exact congrArg Int.ofNat (this ⟨c, h⟩)
theorem or_shift (acc d k : Nat) (ha : acc < 128 ^ k) (hd : d < 128) (hs : acc + d * 128 ^ k < 18446744073709551616) :
    bits .or .u64 (acc : Int) (IntKind.u64.wrap (IntKind.u64.wrap (d : Int) * 2 ^ (7 * k))) = ((acc + d * 128 ^ k : Nat) : Int) := by
  have ep : (128 : Nat) ^ k = 2 ^ (7 * k) := by rw [Nat.pow_mul]
  have e1 : IntKind.u64.wrap (d : Int) = (d : Int) := by rw [IntKind.wrap_u64]; omega
  have e2 : ((d : Int) * 2 ^ (7 * k)) = ((d * 128 ^ k : Nat) : Int) := by rw [ep]; simp
  have e3 : IntKind.u64.wrap ((d * 128 ^ k : Nat) : Int) = ((d * 128 ^ k : Nat) : Int) := by rw [IntKind.wrap_u64]; omega
  rw [e1, e2, e3, bits_or_u64_nat _ _ (by omega) (by omega)]
  have := Nat.shiftLeft_add_eq_or_of_lt (show acc < 2 ^ (7 * k) by rw [← ep]; exact ha) d
  rw [Nat.shiftLeft_eq, ← ep] at this
  rw [Nat.or_comm, ← this, Nat.add_comm]
def txt (l : List UInt8) : ByteArray := ⟨l.toArray⟩
theorem txt_list (l : List UInt8) : (txt l).data.toList = l := rfl
theorem txt_size (l : List UInt8) : (txt l).size = l.length := rfl
theorem txt_data (s : ByteArray) : txt s.data.toList = s := by apply ByteArray.ext; simp [txt]
theorem extract_txt (s : ByteArray) (l : List UInt8) (k : Nat) (h : s.data.toList.drop k = l) : s.extract k s.size = txt l := by
  apply ByteArray.ext
  apply Array.toList_inj.1
  rw [ByteArray.data_extract]
  simp only [txt]
  rw [← h]
  simp [Array.toList_extract, List.extract]
  exact List.take_of_length_le (by simp)
def vb (n : Nat) : List UInt8 := (vr n).map UInt8.ofNat
/-- where a number's bytes begin -/
theorem at_number {s : ByteArray} {n k : Nat} {rest : List UInt8} (h : s.data.toList.drop k = vb n ++ rest) : ∃ hk : k < s.size, s[k].toNat = (if n < 128 then n else n % 128 + 128) ∧ s.data.toList.drop (k + 1) = (if n < 128 then rest else vb (n / 128) ++ rest) := by
  have hl := congrArg List.length h
  have hpos : 0 < (vb n).length := by
    unfold vb
    by_cases hn : n < 128
    · rw [vr_low hn]; simp
    · rw [vr_high (by omega)]; simp
  have hk : k < s.size := by
    rw [List.length_drop, List.length_append] at hl
    simp at hl
    omega
  refine ⟨hk, ?_, ?_⟩
  · have h0 : (s.data.toList.drop k)[0]? = some s[k] := by
      rw [List.getElem?_drop]; simp; exact Array.getElem?_eq_getElem hk
    rw [h] at h0
    by_cases hn : n < 128
    · rw [if_pos hn]
      unfold vb at h0
      rw [vr_low hn] at h0
      simp at h0
      rw [← h0]; simp; omega
    · rw [if_neg hn]
      unfold vb at h0
      rw [vr_high (by omega)] at h0
      simp at h0
      rw [← h0]; simp; omega
  · have : s.data.toList.drop (k + 1) = (s.data.toList.drop k).drop 1 := by rw [List.drop_drop]
    rw [this, h]
    by_cases hn : n < 128
    · rw [if_pos hn]; unfold vb; rw [vr_low hn]; rfl
    · rw [if_neg hn]; unfold vb; rw [vr_high (by omega)]; rfl
/-! numbers with a sign, as numbers without -/
theorem xor_ones (a : Nat) (h : a < 18446744073709551616) : a ^^^ 18446744073709551615 = 18446744073709551615 - a := by
  have e : (BitVec.ofNat 64 a ^^^ BitVec.allOnes 64).toNat = a ^^^ 18446744073709551615 := by
    rw [BitVec.toNat_xor, BitVec.toNat_ofNat, BitVec.toNat_allOnes, Nat.mod_eq_of_lt (by omega)]
  rw [← e, BitVec.xor_allOnes, BitVec.toNat_not, BitVec.toNat_ofNat, Nat.mod_eq_of_lt (by omega)]
theorem zig0 (v : Nat) (hv : v < 9223372036854775808) : bits .xor .u64 ((v : Int) * 2) ((v : Int) / 9223372036854775808) = 2 * (v : Int) := by
  have h := bits_xor_u64_nat (2 * v) 0 (by omega) (by omega)
  have e1 : (v : Int) * 2 = ((2 * v : Nat) : Int) := by omega
  have e2 : (v : Int) / 9223372036854775808 = ((0 : Nat) : Int) := by omega
  rw [e1, e2, h]
  simp
theorem zig1 (v : Nat) (hv : v < 9223372036854775808) : bits .xor .u64 (IntKind.u64.wrap (IntKind.u64.wrap (-(v : Int) - 1) * 2)) (IntKind.u64.wrap ((-(v : Int) - 1) / 9223372036854775808)) = 2 * (v : Int) + 1 := by
  have h := bits_xor_u64_nat (18446744073709551614 - 2 * v) 18446744073709551615 (by omega) (by omega)
  have e1 : IntKind.u64.wrap (IntKind.u64.wrap (-(v : Int) - 1) * 2) = ((18446744073709551614 - 2 * v : Nat) : Int) := by rw [IntKind.wrap_u64, IntKind.wrap_u64]; omega
  have e2 : IntKind.u64.wrap ((-(v : Int) - 1) / 9223372036854775808) = ((18446744073709551615 : Nat) : Int) := by
    have : (-(v : Int) - 1) / 9223372036854775808 = -1 := by omega
    rw [this, IntKind.wrap_u64]; rfl
  rw [e1, e2, h, xor_ones _ (by omega)]
  omega
theorem wrap_i64' (n : Int) : IntKind.i64.wrap n = (n + 9223372036854775808) % 18446744073709551616 - 9223372036854775808 := by
  simp only [IntKind.wrap, IntKind.bits, IntKind.signed, Bool.true_and]
  split
  · rename_i h; simp at h; omega
  · rename_i h; simp at h; omega
theorem zag0 (v : Nat) (hv : v < 9223372036854775808) : bits .xor .i64 (v : Int) (wrap64 (-wrap64 (bits .and .u64 (2 * (v : Int)) 1))) = (v : Int) := by
  have h := bits_and_u64_nat (2 * v) 1 (by omega) (by decide)
  have e1 : 2 * (v : Int) = ((2 * v : Nat) : Int) := by omega
  have e2 : bits .and .u64 (2 * (v : Int)) 1 = 0 := by rw [e1, show (1 : Int) = ((1 : Nat) : Int) from rfl, h, Nat.and_one_is_mod]; simp
  have e5 : wrap64 (-wrap64 0) = 0 := by unfold wrap64; rfl
  rw [e2, e5]
  show IntKind.i64.wrap ((BitVec.ofInt 64 (v : Int) ^^^ BitVec.ofInt 64 0).toNat : Int) = _
  rw [BitVec.toNat_xor, ofInt_nat v (by omega), wrap_i64']
  simp
  omega
theorem zag1 (v : Nat) (hv : v < 9223372036854775808) : bits .xor .i64 ((2 * (v : Int) + 1) / 2) (wrap64 (-wrap64 (bits .and .u64 (2 * (v : Int) + 1) 1))) = -(v : Int) - 1 := by
  have h := bits_and_u64_nat (2 * v + 1) 1 (by omega) (by decide)
  have e1 : 2 * (v : Int) + 1 = ((2 * v + 1 : Nat) : Int) := by omega
  have e2 : bits .and .u64 (2 * (v : Int) + 1) 1 = 1 := by rw [e1, show (1 : Int) = ((1 : Nat) : Int) from rfl, h, Nat.and_one_is_mod]; simp
  have e3 : (2 * (v : Int) + 1) / 2 = (v : Int) := by omega
  have e5 : wrap64 (-wrap64 1) = -1 := by unfold wrap64; rfl
  rw [e2, e3, e5]
  show IntKind.i64.wrap ((BitVec.ofInt 64 (v : Int) ^^^ BitVec.ofInt 64 (-1)).toNat : Int) = _
  have e4 : BitVec.ofInt 64 (-1) = BitVec.allOnes 64 := by decide
  rw [e4, BitVec.xor_allOnes, BitVec.toNat_not, ofInt_nat v (by omega), wrap_i64']
  omega
/-- a text out of bytes -/
def byteVals (l : List Nat) : List Value := l.map fun n : Nat => .int .u8 (n : Int)
/-- four bytes as a number -/
def byteAt (b : ByteArray) (i : Nat) : Nat := (b.data.toList.getD i 0).toNat
theorem byteAt_get (b : ByteArray) (i : Nat) (h : i < b.size) : b[i].toNat = byteAt b i := by
  unfold byteAt
  rw [List.getD_eq_getElem?_getD, List.getElem?_eq_getElem (by simpa using h)]
  rfl
theorem byteAt_lt (b : ByteArray) (i : Nat) : byteAt b i < 256 := UInt8.toNat_lt _
def rd4 (b : ByteArray) (i : Nat) : Nat := ((byteAt b i * 256 + byteAt b (i + 1)) * 256 + byteAt b (i + 2)) * 256 + byteAt b (i + 3)
theorem rd4_lt (b : ByteArray) (i : Nat) : rd4 b i < 4294967296 := by
  unfold rd4
  have := byteAt_lt b i
  have := byteAt_lt b (i + 1)
  have := byteAt_lt b (i + 2)
  have := byteAt_lt b (i + 3)
  omega
theorem or_step (x c : Nat) (hx : x < 16777216) (hc : c < 256) : bits .or .u64 (IntKind.u64.wrap (((x : Nat) : Int) * 256)) (IntKind.u64.wrap ((c : Nat) : Int)) = ((x * 256 + c : Nat) : Int) := by
  have e1 : IntKind.u64.wrap (((x : Nat) : Int) * 256) = ((x * 256 : Nat) : Int) := by rw [IntKind.wrap_u64]; omega
  have e2 : IntKind.u64.wrap ((c : Nat) : Int) = ((c : Nat) : Int) := by rw [IntKind.wrap_u64]; omega
  rw [e1, e2, bits_or_u64_nat _ _ (by omega) (by omega)]
  have := Nat.shiftLeft_add_eq_or_of_lt (show c < 2 ^ 8 by omega) x
  rw [Nat.shiftLeft_eq] at this
  rw [this]
theorem or_first (c : Nat) (hc : c < 256) : bits .or .u64 0 (IntKind.u64.wrap ((c : Nat) : Int)) = ((c : Nat) : Int) := by
  have e2 : IntKind.u64.wrap ((c : Nat) : Int) = ((c : Nat) : Int) := by rw [IntKind.wrap_u64]; omega
  have := bits_or_u64_nat 0 c (by omega) (by omega)
  rw [e2, show (0 : Int) = ((0 : Nat) : Int) from rfl, this]
  simp
theorem or_four (b : ByteArray) (i : Nat) : bits .or .u64 (IntKind.u64.wrap (bits .or .u64 (IntKind.u64.wrap (bits .or .u64 (IntKind.u64.wrap (bits .or .u64 0 (IntKind.u64.wrap ((byteAt b i : Nat) : Int)) * 256)) (IntKind.u64.wrap ((byteAt b (i + 1) : Nat) : Int)) * 256)) (IntKind.u64.wrap ((byteAt b (i + 2) : Nat) : Int)) * 256)) (IntKind.u64.wrap ((byteAt b (i + 3) : Nat) : Int)) = ((rd4 b i : Nat) : Int) := by
  have h0 := byteAt_lt b i
  have h1 := byteAt_lt b (i + 1)
  have h2 := byteAt_lt b (i + 2)
  have h3 := byteAt_lt b (i + 3)
  rw [or_first _ h0, or_step _ _ (by omega) h1, or_step _ _ (by omega) h2, or_step _ _ (by omega) h3]
  rfl
theorem rd4_append (p : ByteArray) (v : Nat) (hv : v < 4294967296) : rd4 (p ++ be4s v) p.size = v := by
  have e : ∀ j, j < 4 → byteAt (p ++ be4s v) (p.size + j) = ((be4s v).data.toList.getD j 0).toNat := by
    intro j hj
    unfold byteAt
    congr 1
    rw [List.getD_eq_getElem?_getD, List.getD_eq_getElem?_getD, ByteArray.data_append, Array.toList_append, List.getElem?_append_right (by simp)]
    simp
  unfold rd4
  have e0 := e 0 (by omega)
  rw [Nat.add_zero] at e0
  rw [e0, e 1 (by omega), e 2 (by omega), e 3 (by omega)]
  simp [be4s, bytesOf, be4]
  omega
theorem conv_own {P : Program} {w : World} {src dst e : TypeId} (hs : P.underlying src = some (.slice e)) (he : P.underlying e = some (.int .u8)) (hd : P.underlying dst = some .string) {base : Nat} {v : Value} {l : List Nat}
    (h : w.ownsRow base e 1 v l.length (byteVals l)) (hne : l ≠ []) : (convert src dst v).run P w = .ok (.string (bytesOf l)) w := by
  obtain ⟨_, ⟨rfl, h0⟩ | ⟨g, cap, cur, rfl, _, hg, hn, _, hsz, htk⟩⟩ := h
  · exact absurd (List.eq_nil_of_length_eq_zero h0) hne
  · refine conv_bytes hs he hd g 0 cap l fun j n hj => ?_
    have hjl : j < l.length := (List.getElem?_eq_some_iff.1 hj).1
    have h1 : (byteVals l)[j]? = some (.int .u8 (n : Int)) := by simp [byteVals, hj]
    rw [← htk, List.getElem?_take_of_lt (by omega)] at h1
    simp only [World.cell?, hg]
    rw [Nat.zero_add, ← Array.getElem?_toList]
    exact h1
/-- texts, each behind its length -/
def tx (xs : List ByteArray) : List UInt8 := (xs.map fun s => vb s.size ++ s.data.toList).flatten
theorem tx_snoc (xs : List ByteArray) (k : Nat) (s : ByteArray) (h : xs[k]? = some s) : tx (xs.take (k + 1)) = tx (xs.take k) ++ (vb s.size ++ s.data.toList) := by
  have hk : k < xs.length := (List.getElem?_eq_some_iff.1 h).1
  have he : xs[k] = s := (List.getElem?_eq_some_iff.1 h).2
  unfold tx
  rw [List.take_succ_eq_append_getElem hk, List.map_append, List.flatten_append, he]
  simp
theorem tx_take_len (xs : List ByteArray) (k : Nat) : (tx (xs.take k)).length ≤ (tx xs).length := by
  unfold tx
  rw [List.map_take]
  generalize (xs.map fun s => vb s.size ++ s.data.toList) = L
  have : L = L.take k ++ L.drop k := (List.take_append_drop k L).symm
  conv => rhs; rw [this, List.flatten_append, List.length_append]
  omega
theorem strCells_txt (l : List UInt8) : Lib.strCells (txt l) = Lib.byteCells l := rfl
theorem byteCells_append (a b : List UInt8) : Lib.byteCells (a ++ b) = Lib.byteCells a ++ Lib.byteCells b := by simp [Lib.byteCells]
theorem byteCells_len (a : List UInt8) : (Lib.byteCells a).length = a.length := by simp [Lib.byteCells]
theorem bytesOf_vr (n : Nat) : bytesOf (vr n) = txt (vb n) := rfl
theorem txt_append (a b : List UInt8) : txt a ++ txt b = txt (a ++ b) := by
  apply ByteArray.ext
  simp [txt]
theorem txt_append_s (a : List UInt8) (s : ByteArray) : txt a ++ s = txt (a ++ s.data.toList) := by
  rw [← txt_append, txt_data]
/-- a builder stands where its blocks stand -/
theorem builder_stays {T e : TypeId} {B b : Nat} {bs : List Value} {w w' : World} (h : Lib.IsBuilder T e B b bs w) (hb : ∀ j, j < w.heap.size → w'.heap[j]? = w.heap[j]?) : Lib.IsBuilder T e B b bs w' := by
  have lt : ∀ (j : Nat) (o : Obj), w.heap[j]? = some o → j < w.heap.size := fun j o h => (Array.getElem?_eq_some_iff.1 h).1
  have at' : ∀ p, Lib.BuilderAt T e B b p bs w → Lib.BuilderAt T e B b p bs w' := by
    rintro p ⟨hB, v, h1, ⟨h2, h3⟩, h4⟩
    refine ⟨hB, v, (hb _ (lt _ _ h1)).trans h1, ⟨h2, ?_⟩, h4⟩
    rcases h3 with h3 | ⟨g, cap, cur, e1, e2, e3, e4⟩
    · exact .inl h3
    · exact .inr ⟨g, cap, cur, e1, e2, (hb _ (lt _ _ e3)).trans e3, e4⟩
  rcases h with h | h
  · exact .inl (at' _ h)
  · exact .inr (at' _ h)
theorem cell_new (w : World) (c : Array Value) (t : TypeId) (j : Nat) (v : Value) (h : c[j]? = some v) : (w.alloc (.cells c t)).cell? ⟨w.heap.size, j, none⟩ = some v := by
  simp [World.cell?, World.alloc, h, -World.alloc_eq]
end Go.NumPure
namespace Go.NumPure
open Go
/-- a text's zeros marked -/
def esc : List UInt8 → List UInt8
  | [] => []
  | b :: l => if b = 0 then 0 :: 255 :: esc l else b :: esc l
/-- a text laid as a part of a key -/
def ok (l : List UInt8) : List UInt8 := esc l ++ [0, 1]
theorem index_zero (l : List UInt8) : Lib.index (0 :: l) [0] = 0 := by simp [Lib.index]
theorem index_ne {b : UInt8} (hb : b ≠ 0) (l : List UInt8) (i : Nat) (h : Lib.index l [0] = i) : Lib.index (b :: l) [0] = (i + 1 : Nat) := by
  have h0 : ¬ ((0 : UInt8) = b) := fun e => hb e.symm
  have : ¬ ((i : Int) = -1) := by omega
  simp [Lib.index, h, h0, this]
theorem esc_replaceK : ∀ s : List UInt8, Lib.replaceK [0] [0, 255] (Lib.count s [0]) s = esc s
  | [] => by rw [Lib.count_one]; rfl
  | b :: l => by
    by_cases hb : b = 0
    · subst hb
      rw [Lib.count_cons_eq, Nat.add_comm, Lib.replaceK_hit _ _ _ _ 0 (index_zero l)]
      simp [esc, esc_replaceK l]
    · rw [Lib.count_cons_ne _ _ _ hb]
      have ih := esc_replaceK l
      cases hc : Lib.count l [0] with
      | zero => rw [hc] at ih; simp only [Lib.replaceK] at ih ⊢; simp [esc, hb, ← ih]
      | succ k =>
        obtain ⟨i, hi⟩ := Lib.index_of_count (s := l) (old := [0]) (by omega)
        rw [hc, Lib.replaceK_hit _ _ _ _ i hi] at ih
        rw [Lib.replaceK_hit _ _ _ _ (i + 1) (index_ne hb l i hi)]
        simp only [esc, if_neg hb, ← ih]
        simp
theorem esc_replace (s : List UInt8) : Lib.replaceAll s [0] [0, 255] = esc s := by
  unfold Lib.replaceAll Lib.replace Lib.replaceNum
  rw [if_neg (by decide), if_pos (by left; decide)]
  exact esc_replaceK s
theorem esc_len : ∀ l : List UInt8, l.length ≤ (esc l).length ∧ (esc l).length ≤ 2 * l.length
  | [] => by simp [esc]
  | b :: l => by
    have := esc_len l
    unfold esc
    split <;> simp only [List.length_cons] <;> omega
/-- how two texts stand -/
def ltB : List UInt8 → List UInt8 → Bool
  | [], [] => false
  | [], _ :: _ => true
  | _ :: _, [] => false
  | a :: l, b :: m => if a < b then true else if a = b then ltB l m else false
theorem ltB_pre : ∀ (p l m : List UInt8), ltB (p ++ l) (p ++ m) = ltB l m
  | [], _, _ => rfl
  | a :: p, l, m => by
    show (if a < a then true else if a = a then ltB (p ++ l) (p ++ m) else false) = ltB l m
    simp [ltB_pre p]
theorem ok_lt : ∀ (a b x y : List UInt8), ltB a b = true → ltB (ok a ++ x) (ok b ++ y) = true
  | [], [], _, _, h => by simp [ltB] at h
  | [], b :: m, x, y, _ => by
    by_cases hb : b = 0
    · subst hb; simp [ok, esc, ltB]
    · have : (0 : UInt8) < b := by
        have : b.toNat ≠ 0 := fun e => hb (UInt8.toNat_inj.1 e)
        show (0 : UInt8).toNat < b.toNat
        have : (0 : UInt8).toNat = 0 := rfl
        omega
      simp [ok, esc, hb, ltB, this]
  | _ :: _, [], _, _, h => by simp [ltB] at h
  | a :: l, b :: m, x, y, h => by
    unfold ltB at h
    by_cases hab : a < b
    · have hb : b ≠ 0 := fun e => by subst e; exact absurd hab (by simp)
      by_cases ha : a = 0
      · subst ha; simp [ok, esc, hb, ltB, hab]
      · simp [ok, esc, ha, hb, ltB, hab]
    · rw [if_neg hab] at h
      by_cases he : a = b
      · subst he
        rw [if_pos rfl] at h
        have ih := ok_lt l m x y h
        by_cases ha : a = 0
        · subst ha; simpa [ok, esc, ltB] using ih
        · simpa [ok, esc, ha, ltB] using ih
      · rw [if_neg he] at h; cases h
theorem extract_at {B : ByteArray} {p q : List UInt8} (h : B.data.toList = p ++ q) {i : Nat} (hi : i = p.length) : B.extract i B.size = txt q := by
  subst hi
  have hs : B.size = (p ++ q).length := by rw [← h]; rfl
  have e : (B.extract p.length B.size).data.toList = q := by
    rw [ByteArray.data_extract, Array.toList_extract, h, hs]
    simp [List.extract]
  apply ByteArray.ext
  apply Array.toList_inj.1
  rw [e]
  rfl
end Go.NumPure
/- The order of keys: as the order of the texts that they are made of. -/
namespace Go.NumPure
open Go Go.VmK
theorem ltB_eq : ∀ a b : List UInt8, ltB a b = ltL a b
  | [], [] => rfl
  | [], _ :: _ => rfl
  | _ :: _, [] => rfl
  | a :: l, b :: m => by
    have h1 : Nat.blt a.toNat b.toNat = decide (a < b) := by
      show Nat.ble (a.toNat + 1) b.toNat = _
      by_cases h : a < b
      · rw [decide_eq_true h]; exact Nat.ble_eq_true_of_le h
      · rw [decide_eq_false h]
        exact Bool.eq_false_iff.2 fun e => h (Nat.le_of_ble_eq_true e)
    have h2 : Nat.beq a.toNat b.toNat = decide (a = b) := by
      by_cases h : a = b
      · subst h; simp
      · rw [decide_eq_false h]
        exact Bool.eq_false_iff.2 fun e => h (UInt8.toNat_inj.1 (Nat.eq_of_beq_eq_true e))
    unfold ltB ltL
    rw [h1, h2, ltB_eq l m]
    by_cases ha : a < b <;> by_cases hb : a = b <;> simp [ha, hb]
theorem ltL_pre (p l m : List UInt8) : ltL (p ++ l) (p ++ m) = ltL l m := by rw [← ltB_eq, ← ltB_eq, ltB_pre]
theorem ok_ltL (a b x y : List UInt8) (h : ltL a b = true) : ltL (ok a ++ x) (ok b ++ y) = true := by
  rw [← ltB_eq] at h ⊢
  exact ok_lt a b x y h
end Go.NumPure
