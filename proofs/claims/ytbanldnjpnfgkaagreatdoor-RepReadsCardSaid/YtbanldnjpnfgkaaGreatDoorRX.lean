/-
  Part of the proof of a statement of this seat: walks of its functions and the closed run; no condition but those written in each theorem.
-/
import Derived.Test.YtbanldnjpnfgkaaGreatDoorRT
import Derived.Test.YtbanldnjpnfgkaaGreatDoorRC
import Derived.Test.YtbanldnjpnfgkaaGreatDoorRB
import Derived.Test.YtbanldnjpnfgkaaGreatDoorPV
import Derived.Test.YtbanldnjpnfgkaaGreatDoorRA
namespace Go.Proofs.YtbanldnjpnfgkaaGreatDoor.Wk
set_option maxRecDepth 100000
open Go.RowKit Go.VmK Go.NumPure Go.Shelf
abbrev wr0 (n k : List UInt8) : List (ByteArray × ByteArray) := [(txt (key n [0]), ⟨#[1]⟩), (txt (key n [1]), ⟨#[1, 0, 0, 0, 1, 1, 0]⟩), (txt (key n (sf k 1 dr)), ⟨#[]⟩)]
section
variable {n k : List UInt8}
theorem wx0 (hs : Sc n k) : ∀ p ∈ ((wr0 n k) : List (ByteArray × ByteArray)), p.1.size ≤ 300 ∧ p.2.size ≤ 1000 := by
  intro p hp
  simp only [wr0, List.mem_cons, List.mem_nil_iff, or_false] at hp
  rcases hp with rfl | rfl | rfl
  · exact ⟨Nat.le_trans (z30 hs).2 (by decide), (by decide : (⟨#[1]⟩ : ByteArray).size ≤ 1000)⟩
  · exact ⟨Nat.le_trans (z31 hs).2 (by decide), (by decide : (⟨#[1, 0, 0, 0, 1, 1, 0]⟩ : ByteArray).size ≤ 1000)⟩
  · exact ⟨Nat.le_trans (z60 hs).2 (by decide), (by decide : (⟨#[]⟩ : ByteArray).size ≤ 1000)⟩
theorem z90 (hs : Sc n k) : 0 ≤ (txt (bt 1 (wr0 n k))).size ∧ (txt (bt 1 (wr0 n k))).size ≤ 4100 := by
  have := bt_size (first := 1) (by omega) (by simp [wr0]) (wx0 hs)
  rw [txt_size]
  simp only [wr0, List.length_cons, List.length_nil] at this
  simp only [wr0]
  omega
theorem z91 (hs : Sc n k) : 0 ≤ (txt (fr (bt 1 (wr0 n k)))).size ∧ (txt (fr (bt 1 (wr0 n k)))).size ≤ 4200 := by
  have h := z90 hs
  rw [txt_size] at h
  rw [fr_size]
  omega
theorem z160 (hs : Sc n k) : ((sealed (txt (1 :: 0 :: 0 :: 4 :: 2 :: 0 :: 0 :: 0 :: 0 :: lD n :: (dl n ++ [0, 0, 1, 0, 1, 0]))))).size = (txt (1 :: 0 :: 0 :: 4 :: 2 :: 0 :: 0 :: 0 :: 0 :: lD n :: (dl n ++ [0, 0, 1, 0, 1, 0]))).size + 4 ∧ (txt (1 :: 0 :: 0 :: 4 :: 2 :: 0 :: 0 :: 0 :: 0 :: lD n :: (dl n ++ [0, 0, 1, 0, 1, 0]))).size ≤ 70 := ⟨sealed_size _, (z161 hs).2⟩
end
def m100 (n _k : List UInt8) : Int := (0 : Int) + Int.ofNat (txt (key n [0])).size
theorem b100 {n k : List UInt8} (hs : Sc n k) : 0 ≤ m100 n k ∧ m100 n k ≤ 84 := by
  have h2 := z30 hs
  simp only [m100, Int.ofNat_eq_natCast]
  omega
def m101 (n k : List UInt8) : Int := m100 n k + 1
theorem b101 {n k : List UInt8} (hs : Sc n k) : 0 ≤ m101 n k ∧ m101 n k ≤ 85 := by
  have h := b100 hs
  simp only [m101]
  omega
def m102 (n k : List UInt8) : Int := m101 n k + 16
theorem b102 {n k : List UInt8} (hs : Sc n k) : 0 ≤ m102 n k ∧ m102 n k ≤ 101 := by
  have h := b101 hs
  simp only [m102]
  omega
def m103 (n k : List UInt8) : Int := m102 n k + Int.ofNat (txt (key n [1])).size
theorem b103 {n k : List UInt8} (hs : Sc n k) : 0 ≤ m103 n k ∧ m103 n k ≤ 185 := by
  have h := b102 hs
  have h2 := z31 hs
  simp only [m103, Int.ofNat_eq_natCast]
  omega
def m104 (n k : List UInt8) : Int := m103 n k + 7
theorem b104 {n k : List UInt8} (hs : Sc n k) : 0 ≤ m104 n k ∧ m104 n k ≤ 192 := by
  have h := b103 hs
  simp only [m104]
  omega
def m105 (n k : List UInt8) : Int := m104 n k + 16
theorem b105 {n k : List UInt8} (hs : Sc n k) : 0 ≤ m105 n k ∧ m105 n k ≤ 208 := by
  have h := b104 hs
  simp only [m105]
  omega
def m106 (n k : List UInt8) : Int := m105 n k + Int.ofNat (txt (key n (sf k 1 dr))).size
theorem b106 {n k : List UInt8} (hs : Sc n k) : 0 ≤ m106 n k ∧ m106 n k ≤ 438 := by
  have h := b105 hs
  have h2 := z60 hs
  simp only [m106, Int.ofNat_eq_natCast]
  omega
def m107 (n k : List UInt8) : Int := m106 n k + 0
theorem b107 {n k : List UInt8} (hs : Sc n k) : 0 ≤ m107 n k ∧ m107 n k ≤ 438 := by
  have h := b106 hs
  simp only [m107]
  omega
def m108 (n k : List UInt8) : Int := m107 n k + 16
theorem b108 {n k : List UInt8} (hs : Sc n k) : 0 ≤ m108 n k ∧ m108 n k ≤ 454 := by
  have h := b107 hs
  simp only [m108]
  omega
/-- what the symbols stand for -/
noncomputable def sg (n k : List UInt8) (ls : Nat → Nat) (c : Nat → Value) : Nat → Option Value := fun i => ([
  .string (txt n),
  .string (txt k),
  .string (txt (ok n)),
  .string (txt (ok k)),
  .string (txt (111 :: ok n)),
  .string (txt (111 :: (esc n ++ [0]))),
  .string (txt (111 :: (esc n ++ [0, 2]))),
  .string (txt (key n [0])),
  .string (txt (key n [1])),
  .string (txt (key n [2])),
  .string (txt (key n [3])),
  .string (txt (key n (sf k 1 []))),
  .string (txt (key n (sf k 2 []))),
  .string (txt (key n (sC k))),
  .string (txt (key n (sf k 1 dr))),
  .string (txt (bt 1 (wr0 n k))),
  .string (txt (fr (bt 1 (wr0 n k)))),
  .string (txt (ok n ++ sf k 1 dr)),
  .string (txt (ok n ++ [0])),
  .string (txt (sf k 1 dr)),
  .string (txt (esc k ++ 0 :: 1 :: dr)),
  .string (txt (lN n :: n)),
  .string (txt (1 :: lN n :: n)),
  .string (txt (1 :: lN n :: (n ++ [0]))),
  .string ((sealed (txt (1 :: 0 :: 0 :: 4 :: 2 :: 0 :: 0 :: 0 :: 0 :: lD n :: (dl n ++ [0, 0, 1, 0, 1, 0]))))),
  .string (txt (1 :: 0 :: 0 :: 4 :: 2 :: 0 :: 0 :: 0 :: 0 :: lD n :: (dl n ++ [0, 0, 1, 0, 1, 0]))),
  .string (txt (0 :: 0 :: 4 :: 2 :: 0 :: 0 :: 0 :: 0 :: lD n :: (dl n ++ [0, 0, 1, 0, 1, 0]))),
  .string (txt (0 :: 4 :: 2 :: 0 :: 0 :: 0 :: 0 :: lD n :: (dl n ++ [0, 0, 1, 0, 1, 0]))),
  .string (txt (4 :: 2 :: 0 :: 0 :: 0 :: 0 :: lD n :: (dl n ++ [0, 0, 1, 0, 1, 0]))),
  .string (txt (2 :: 0 :: 0 :: 0 :: 0 :: lD n :: (dl n ++ [0, 0, 1, 0, 1, 0]))),
  .string (txt (0 :: 0 :: 0 :: 0 :: lD n :: (dl n ++ [0, 0, 1, 0, 1, 0]))),
  .string (txt (0 :: 0 :: 0 :: lD n :: (dl n ++ [0, 0, 1, 0, 1, 0]))),
  .string (txt (0 :: 0 :: lD n :: (dl n ++ [0, 0, 1, 0, 1, 0]))),
  .string (txt (0 :: lD n :: (dl n ++ [0, 0, 1, 0, 1, 0]))),
  .string (txt (lD n :: (dl n ++ [0, 0, 1, 0, 1, 0]))),
  .string (txt (dl n ++ [0, 0, 1, 0, 1, 0])),
  .string (txt (dl n)),
  .string (txt (lN n :: (n ++ [0, 7, 1, 0, 0, 0, 2, 1, 0, 1, 0]))),
  .string (txt (n ++ [0, 7, 1, 0, 0, 0, 2, 1, 0, 1, 0])),
  .bool false,
  .string (txt (1 :: lN n :: (n ++ [0, 7, 1, 0, 0, 0, 2, 1, 0]))),
  .int .i64 (((txt (key n (sf k 1 []))).size - 1 : Nat)),
  .int .i64 (((txt (111 :: ok n)).size - 1 : Nat)),
  .int .i64 ((0 : Int) + Int.ofNat (txt (fr (bt 1 (wr0 n k)))).size),
  .int .i64 ((13 + n.length : Nat)),
  .int .i64 ((n.length : Nat)),
  .int .i64 (((txt (1 :: 0 :: 0 :: 4 :: 2 :: 0 :: 0 :: 0 :: 0 :: lD n :: (dl n ++ [0, 0, 1, 0, 1, 0]))).size : Nat)),
  .int .i64 ((ls 15 : Nat)),
  .int .i64 ((ls 16 : Nat)),
  .int .i64 ((ls 17 : Nat)),
  .int .i64 ((ls 6 : Nat)),
  .int .i64 ((ls 7 : Nat)),
  .int .i64 ((ls 8 : Nat)),
  .int .i64 (IntKind.i64.wrap (((ls 15 : Nat) : Int) + ((ls 16 : Nat) : Int))),
  .int .i64 (IntKind.i64.wrap (IntKind.i64.wrap (((ls 15 : Nat) : Int) + ((ls 16 : Nat) : Int)) + ((ls 17 : Nat) : Int))),
  .int .i64 (IntKind.i64.wrap (IntKind.i64.wrap (IntKind.i64.wrap (((ls 15 : Nat) : Int) + ((ls 16 : Nat) : Int)) + ((ls 17 : Nat) : Int)) + ((ls 6 : Nat) : Int))),
  .int .i64 (IntKind.i64.wrap (IntKind.i64.wrap (IntKind.i64.wrap (IntKind.i64.wrap (((ls 15 : Nat) : Int) + ((ls 16 : Nat) : Int)) + ((ls 17 : Nat) : Int)) + ((ls 6 : Nat) : Int)) + ((ls 7 : Nat) : Int))),
  .int .i64 (IntKind.i64.wrap (IntKind.i64.wrap (IntKind.i64.wrap (IntKind.i64.wrap (IntKind.i64.wrap (((ls 15 : Nat) : Int) + ((ls 16 : Nat) : Int)) + ((ls 17 : Nat) : Int)) + ((ls 6 : Nat) : Int)) + ((ls 7 : Nat) : Int)) + ((ls 8 : Nat) : Int))),
  .int .i64 (IntKind.i64.wrap (1 + IntKind.i64.wrap (IntKind.i64.wrap (IntKind.i64.wrap (IntKind.i64.wrap (IntKind.i64.wrap (((ls 15 : Nat) : Int) + ((ls 16 : Nat) : Int)) + ((ls 17 : Nat) : Int)) + ((ls 6 : Nat) : Int)) + ((ls 7 : Nat) : Int)) + ((ls 8 : Nat) : Int)))),
  .int .i64 (IntKind.i64.wrap (0 + IntKind.i64.wrap (1 + IntKind.i64.wrap (IntKind.i64.wrap (IntKind.i64.wrap (IntKind.i64.wrap (IntKind.i64.wrap (((ls 15 : Nat) : Int) + ((ls 16 : Nat) : Int)) + ((ls 17 : Nat) : Int)) + ((ls 6 : Nat) : Int)) + ((ls 7 : Nat) : Int)) + ((ls 8 : Nat) : Int))))),
  .int .i64 (m100 n k),
  .int .i64 (m101 n k),
  .int .i64 (m102 n k),
  .int .i64 (m103 n k),
  .int .i64 (m104 n k),
  .int .i64 (m105 n k),
  .int .i64 (m106 n k),
  .int .i64 (m107 n k),
  .int .i64 (m108 n k),
  .bool false,
  .bool false,
  .bool false,
  .bool false,
  .int .u8 (13 + n.length : Nat),
  .int .u64 (13 + n.length : Nat),
  .int .u8 (n.length : Nat),
  .int .u64 (n.length : Nat),
  .int .u32 (crc (1 :: 0 :: 0 :: 4 :: 2 :: 0 :: 0 :: 0 :: 0 :: lD n :: (dl n ++ [0, 0, 1, 0, 1, 0])) : Nat),
  .bool false,
  .bool false,
  .bool false,
  .bool false,
  c 0,
  c 1,
  c 2,
  c 3,
  c 4,
  c 5,
  c 6,
  c 7,
  c 8,
  c 9,
  c 10,
  c 11,
  c 12,
  c 13,
  c 14,
  c 15,
  c 16,
  c 17] : List Value)[i]?
theorem sg_none (n k : List UInt8) (ls : Nat → Nat) (c : Nat → Value) (i : Nat) (h : 100 ≤ i) : sg n k ls c i = none := by
  obtain ⟨j, rfl⟩ : ∃ j, i = j + 100 := ⟨i - 100, by omega⟩
  rfl
noncomputable def factsM : List (BinOp × AV × AV × AV) := [(.eql, .symStr 7, .symStr 8, .bool false),
  (.lss, .symStr 7, .symStr 9, .bool true),
  (.eql, .symStr 7, .symStr 14, .bool false),
  (.lss, .symStr 7, .symStr 6, .bool true),
  (.eql, .symStr 8, .symStr 7, .bool false),
  (.lss, .symStr 8, .symStr 9, .bool true),
  (.eql, .symStr 8, .symStr 14, .bool false),
  (.lss, .symStr 8, .symStr 6, .bool true),
  (.eql, .symStr 14, .symStr 7, .bool false),
  (.eql, .symStr 14, .symStr 8, .bool false),
  (.eql, .symStr 14, .symStr 9, .bool false),
  (.lss, .symStr 14, .symStr 9, .bool false),
  (.lss, .symStr 14, .symStr 6, .bool true),
  (.leq, .symLen 7, .int .i64 1099511627776, .bool true),
  (.gtr, .symLen 7, .int .i64 300, .bool false),
  (.geq, .symLen 7, .int .i64 1, .bool true),
  (.leq, .symLen 8, .int .i64 1099511627776, .bool true),
  (.gtr, .symLen 8, .int .i64 300, .bool false),
  (.leq, .symLen 14, .int .i64 1099511627776, .bool true),
  (.gtr, .symLen 14, .int .i64 300, .bool false),
  (.leq, .symLen 0, .int .i64 40, .bool true),
  (.geq, .symLen 0, .int .i64 1, .bool true),
  (.neq, .symStr 0, .str [], .bool true),
  (.leq, .symLen 1, .int .i64 60, .bool true),
  (.geq, .symLen 1, .int .i64 1, .bool true),
  (.neq, .symStr 1, .str [], .bool true),
  (.add, .str [111], .symStr 2, .symStr 4),
  (.lss, .symStr 7, .str [111, 0, 1], .bool false),
  (.geq, .symStr 7, .str [112], .bool false),
  (.geq, .symStr 8, .str [112], .bool false),
  (.geq, .symStr 14, .str [112], .bool false),
  (.sub, .symLen 4, .int .i64 1, .symInt .i64 42),
  (.add, .symStr 5, .str [2], .symStr 6),
  (.neq, .symStr 4, .str [], .bool true),
  (.eql, .symStr 4, .str [], .bool false),
  (.add, .symStr 4, .str [0], .symStr 7),
  (.add, .symStr 4, .str [1], .symStr 8),
  (.add, .symStr 4, .str [2], .symStr 9),
  (.add, .symStr 4, .str [3], .symStr 10),
  (.add, .symStr 10, .symStr 3, .symStr 11),
  (.add, .symStr 11, .str [0, 0, 0, 1, 0, 0, 0, 0, 0, 0, 0, 1], .symStr 14),
  (.add, .symInt .i64 47, .symInt .i64 48, .symInt .i64 53),
  (.add, .symInt .i64 53, .symInt .i64 49, .symInt .i64 54),
  (.add, .symInt .i64 54, .symInt .i64 50, .symInt .i64 55),
  (.add, .symInt .i64 55, .symInt .i64 51, .symInt .i64 56),
  (.add, .symInt .i64 56, .symInt .i64 52, .symInt .i64 57),
  (.add, .int .i64 1, .symInt .i64 57, .symInt .i64 58),
  (.add, .int .i64 0, .symInt .i64 58, .symInt .i64 59),
  (.sub, .symLen 24, .int .i64 4, .symInt .i64 46),
  (.lss, .symInt .i64 46, .int .i64 0, .bool false),
  (.neq, .symInt .u32 77, .symInt .u32 77, .bool false),
  (.gtr, .int .i64 0, .symLen 25, .bool false),
  (.sub, .symLen 25, .int .i64 0, .symLen 25),
  (.lss, .symLen 25, .int .i64 1, .bool false),
  (.gtr, .int .i64 0, .symLen 26, .bool false),
  (.sub, .symLen 26, .int .i64 0, .symLen 26),
  (.lss, .symLen 26, .int .i64 1, .bool false),
  (.gtr, .int .i64 0, .symLen 27, .bool false),
  (.sub, .symLen 27, .int .i64 0, .symLen 27),
  (.lss, .symLen 27, .int .i64 1, .bool false),
  (.geq, .int .i64 0, .symLen 28, .bool false),
  (.geq, .int .i64 0, .symLen 29, .bool false),
  (.geq, .int .i64 0, .symLen 30, .bool false),
  (.geq, .int .i64 0, .symLen 31, .bool false),
  (.gtr, .int .i64 0, .symLen 32, .bool false),
  (.geq, .int .i64 0, .symLen 32, .bool false),
  (.gtr, .int .i64 0, .symLen 33, .bool false),
  (.geq, .int .i64 0, .symLen 33, .bool false),
  (.gtr, .int .i64 0, .symLen 34, .bool false),
  (.geq, .int .i64 0, .symLen 34, .bool false),
  (.gtr, .int .i64 0, .symLen 36, .bool false),
  (.sub, .symLen 36, .int .i64 0, .symLen 36),
  (.lss, .symLen 36, .int .i64 1, .bool false),
  (.neq, .symStr 36, .str [], .bool true),
  (.geq, .int .i64 0, .symLen 37, .bool false),
  (.and, .symInt .u8 73, .int .u8 127, .symInt .u8 73),
  (.and, .symInt .u8 73, .int .u8 128, .int .u8 0),
  (.eql, .symInt .u8 73, .int .u8 0, .bool false),
  (.shl, .symInt .u64 74, .int .i64 0, .symInt .u64 74),
  (.or, .int .u64 0, .symInt .u64 74, .symInt .u64 74),
  (.gtr, .symInt .u64 74, .int .u64 10000000, .bool false),
  (.gtr, .symInt .i64 44, .symLen 35, .bool false),
  (.and, .symInt .u8 75, .int .u8 127, .symInt .u8 75),
  (.and, .symInt .u8 75, .int .u8 128, .int .u8 0),
  (.eql, .symInt .u8 75, .int .u8 0, .bool false),
  (.shl, .symInt .u64 76, .int .i64 0, .symInt .u64 76),
  (.or, .int .u64 0, .symInt .u64 76, .symInt .u64 76),
  (.gtr, .symInt .u64 76, .int .u64 40, .bool false),
  (.gtr, .symInt .i64 45, .symLen 38, .bool false),
  (.add, .str [1], .symStr 21, .symStr 22),
  (.add, .symStr 22, .str [0], .symStr 23),
  (.add, .symStr 23, .str [7, 1, 0, 0, 0, 2, 1, 0, 1, 0], .symStr 36),
  (.add, .symStr 23, .str [7, 1, 0, 0, 0, 2, 1, 0], .symStr 40),
  (.add, .symStr 40, .str [1, 0], .symStr 36),
  (.neq, .symStr 36, .symStr 36, .bool false),
  (.add, .str [], .symStr 16, .symStr 16),
  (.add, .int .i64 0, .symLen 16, .symInt .i64 43),
  (.add, .int .i64 0, .symLen 7, .symInt .i64 60),
  (.add, .symInt .i64 60, .int .i64 1, .symInt .i64 61),
  (.add, .symInt .i64 61, .int .i64 16, .symInt .i64 62),
  (.add, .symInt .i64 62, .symLen 8, .symInt .i64 63),
  (.add, .symInt .i64 63, .int .i64 7, .symInt .i64 64),
  (.add, .symInt .i64 64, .int .i64 16, .symInt .i64 65),
  (.add, .symInt .i64 65, .symLen 14, .symInt .i64 66),
  (.add, .symInt .i64 66, .int .i64 0, .symInt .i64 67),
  (.add, .symInt .i64 67, .int .i64 16, .symInt .i64 68)]
noncomputable def ofactsM : List ((Nat × Nat × Nat) × List AV × AV) := [((5, 9, 0), [.symStr 4, .symInt .i64 42], .int .u8 1),
  ((6, 9, 2), [.symStr 4, .symInt .i64 42], .symStr 5),
  ((6, 9, 2), [.symStr 7, .int .i64 1], .str [111]),
  ((6, 9, 1), [.symStr 7, .int .i64 1], .symStr 18),
  ((12, 2, 22), [.symC 97], .symInt .i64 47),
  ((12, 2, 23), [.symC 98], .symInt .i64 48),
  ((12, 2, 23), [.symC 99], .symInt .i64 49),
  ((12, 2, 22), [.symC 88], .symInt .i64 50),
  ((12, 2, 23), [.symC 89], .symInt .i64 51),
  ((12, 2, 23), [.symC 90], .symInt .i64 52),
  ((6, 9, 2), [.symStr 24, .symInt .i64 46], .symStr 25),
  ((5, 9, 0), [.symStr 25, .int .i64 0], .int .u8 1),
  ((6, 9, 1), [.symStr 25, .int .i64 1], .symStr 26),
  ((5, 9, 0), [.symStr 26, .int .i64 0], .int .u8 0),
  ((6, 9, 1), [.symStr 26, .int .i64 1], .symStr 27),
  ((5, 9, 0), [.symStr 27, .int .i64 0], .int .u8 0),
  ((6, 9, 1), [.symStr 27, .int .i64 1], .symStr 28),
  ((5, 9, 0), [.symStr 28, .int .i64 0], .int .u8 4),
  ((6, 9, 1), [.symStr 28, .int .i64 1], .symStr 29),
  ((5, 9, 0), [.symStr 29, .int .i64 0], .int .u8 2),
  ((6, 9, 1), [.symStr 29, .int .i64 1], .symStr 30),
  ((5, 9, 0), [.symStr 30, .int .i64 0], .int .u8 0),
  ((6, 9, 1), [.symStr 30, .int .i64 1], .symStr 31),
  ((5, 9, 0), [.symStr 31, .int .i64 0], .int .u8 0),
  ((6, 9, 1), [.symStr 31, .int .i64 1], .symStr 32),
  ((5, 9, 0), [.symStr 32, .int .i64 0], .int .u8 0),
  ((6, 9, 1), [.symStr 32, .int .i64 1], .symStr 33),
  ((6, 9, 2), [.symStr 32, .int .i64 0], .str []),
  ((6, 9, 1), [.symStr 32, .int .i64 0], .symStr 32),
  ((5, 9, 0), [.symStr 33, .int .i64 0], .int .u8 0),
  ((6, 9, 1), [.symStr 33, .int .i64 1], .symStr 34),
  ((6, 9, 2), [.symStr 33, .int .i64 0], .str []),
  ((6, 9, 1), [.symStr 33, .int .i64 0], .symStr 33),
  ((5, 9, 0), [.symStr 34, .int .i64 0], .symInt .u8 73),
  ((6, 9, 1), [.symStr 34, .int .i64 1], .symStr 35),
  ((7, 5, 45), [.symInt .u8 73], .symInt .u64 74),
  ((7, 45, 3), [.symInt .u64 74], .symInt .i64 44),
  ((6, 9, 2), [.symStr 35, .symInt .i64 44], .symStr 36),
  ((6, 9, 1), [.symStr 35, .symInt .i64 44], .str [0, 0, 1, 0, 1, 0]),
  ((6, 9, 2), [.symStr 34, .int .i64 0], .str []),
  ((6, 9, 1), [.symStr 34, .int .i64 0], .symStr 34),
  ((5, 9, 0), [.symStr 37, .int .i64 0], .symInt .u8 75),
  ((6, 9, 1), [.symStr 37, .int .i64 1], .symStr 38),
  ((7, 5, 45), [.symInt .u8 75], .symInt .u64 76),
  ((7, 45, 3), [.symInt .u64 76], .symInt .i64 45),
  ((6, 9, 2), [.symStr 38, .symInt .i64 45], .symStr 0),
  ((6, 9, 1), [.symStr 38, .symInt .i64 45], .str [0, 7, 1, 0, 0, 0, 2, 1, 0, 1, 0]),
  ((5, 9, 0), [.symStr 36, .int .i64 0], .int .u8 1),
  ((6, 9, 1), [.symStr 36, .int .i64 1], .symStr 37),
  ((12, 0, 0), [.symInt .i64 62, .int .i64 4611686018427387904], .symInt .i64 62),
  ((12, 0, 0), [.symInt .i64 65, .int .i64 4611686018427387904], .symInt .i64 65),
  ((12, 0, 0), [.symInt .i64 68, .int .i64 4611686018427387904], .symInt .i64 68)]
def moreM : List FuncId := [6, 20]
noncomputable def CM (cs : List (FuncId × Con)) (σ0 : Nat → Option Value) : Ctx := withAll (ctx cs moreM) factsM ofactsM σ0 fun _ _ => none
abbrev FM (cs : List (FuncId × Con)) (n k : List UInt8) (ls : Nat → Nat) (c : Nat → Value) (f : BinOp × AV × AV × AV) : Prop := FactOK Tryz.prog (CM cs (sg n k ls c)) f
abbrev OM (cs : List (FuncId × Con)) (n k : List UInt8) (ls : Nat → Nat) (c : Nat → Value) (f : (Nat × Nat × Nat) × List AV × AV) : Prop := OFactOK Tryz.prog (CM cs (sg n k ls c)) f
theorem run_len_key {P : Program} {o : Oper} {ρ : Operand → Value} {a : Option Addr} {l cp : Nat} {w : World} {t e : TypeId} (hu : P.underlying t = some (.slice e)) (h0 : t ≠ 0) (hk : okey o.op = some (12, 2, t)) (ho : o.op.operands.toList.map ρ = [.slice a l cp]) :
    (execOp ρ o).run P w = .ok (.value (.int .i64 (l : Int))) w := by
  cases hop : o.op <;> rw [hop] at hk ho <;> simp [okey] at hk
  rename_i c
  cases hc : c.callee <;> rw [hc] at hk <;> try (simp at hk; done)
  rename_i bb
  cases bb <;> try (simp at hk; done)
  simp [Op.operands, Call.operands, hc] at ho
  unfold execOp
  simp only [hop, resolve, invoke, builtin, hc, Sem.run_bind, Sem.run_pure, Result.andThen_ok]
  obtain ⟨a1, h1, h2⟩ := ho
  have e1 : c.args = #[a1] := Array.toList_inj.1 h1
  have e2 : c.argTypes = #[t] := by
    apply Array.toList_inj.1
    cases hl : c.argTypes.toList with
    | nil => rw [hl] at hk; simp at hk; exact absurd hk.symm h0
    | cons x r =>
      cases r with
      | nil => rw [hl] at hk; simp at hk; rw [hk]
      | cons y r => rw [hl] at hk; simp at hk; exact absurd hk.symm h0
  rw [e1, e2]
  simp [h2, Builtin.len_, run_underlying hu, goInt]
theorem ofact_len {P : Program} {C : Ctx} {x r : AV} {a : Option Addr} {l cp : Nat} {t e : TypeId} (hu : P.underlying t = some (.slice e)) (h0 : t ≠ 0) (hx : conc (env0 C.base) x = some (.slice a l cp)) (hr : conc (env0 C.base) r = some (.int .i64 (l : Int))) : OFactOK P C ((12, 2, t), [x], r) :=
  ofact_mk (ys := [.slice a l cp]) (by simp [concL, hx]) hr fun _ _ _ _ hk ho => run_len_key hu h0 hk ho
/-- what is known of the message's cells -/
structure Cells (ls : Nat → Nat) (c : Nat → Value) : Prop where
  one : ∀ j, j < 18 → (c j).oneCell' = true
  len : ∀ j, j ∈ [15, 16, 17, 6, 7, 8] → ∃ a cp, c j = .slice a (ls j) cp
section
variable {cs : List (FuncId × Con)} {n k : List UInt8} {ls : Nat → Nat} {c : Nat → Value}
theorem f0 : FM cs n k ls c (.eql, .symStr 7, .symStr 8, .bool false) := fact_eqs rfl rfl (decide_eq_false (ne_txt (key_lt n (rfl : ltL [0] [1] = true)))).symm
theorem f1 : FM cs n k ls c (.lss, .symStr 7, .symStr 9, .bool true) := fact_lssS rfl rfl (ltS (key_lt n (rfl : ltL [0] [2] = true)))
theorem f2 : FM cs n k ls c (.eql, .symStr 7, .symStr 14, .bool false) := fact_eqs rfl rfl (decide_eq_false (ne_txt (key_lt n (rfl : ltL [0] (sf k 1 dr) = true)))).symm
theorem f3 : FM cs n k ls c (.lss, .symStr 7, .symStr 6, .bool true) := fact_lssS rfl rfl (ltS (key22 n _))
theorem f4 : FM cs n k ls c (.eql, .symStr 8, .symStr 7, .bool false) := fact_eqs rfl rfl (decide_eq_false (ne_txt' (key_lt n (rfl : ltL [0] [1] = true)))).symm
theorem f5 : FM cs n k ls c (.lss, .symStr 8, .symStr 9, .bool true) := fact_lssS rfl rfl (ltS (key_lt n (rfl : ltL [1] [2] = true)))
theorem f6 : FM cs n k ls c (.eql, .symStr 8, .symStr 14, .bool false) := fact_eqs rfl rfl (decide_eq_false (ne_txt (key_lt n (rfl : ltL [1] (sf k 1 dr) = true)))).symm
theorem f7 : FM cs n k ls c (.lss, .symStr 8, .symStr 6, .bool true) := fact_lssS rfl rfl (ltS (key22 n _))
theorem f8 : FM cs n k ls c (.eql, .symStr 14, .symStr 7, .bool false) := fact_eqs rfl rfl (decide_eq_false (ne_txt' (key_lt n (rfl : ltL [0] (sf k 1 dr) = true)))).symm
theorem f9 : FM cs n k ls c (.eql, .symStr 14, .symStr 8, .bool false) := fact_eqs rfl rfl (decide_eq_false (ne_txt' (key_lt n (rfl : ltL [1] (sf k 1 dr) = true)))).symm
theorem f10 : FM cs n k ls c (.eql, .symStr 14, .symStr 9, .bool false) := fact_eqs rfl rfl (decide_eq_false (ne_txt' (key_lt n (rfl : ltL [2] (sf k 1 dr) = true)))).symm
theorem f11 : FM cs n k ls c (.lss, .symStr 14, .symStr 9, .bool false) := fact_lssS rfl rfl (ltS (ltL_asym (key_lt n (rfl : ltL [2] (sf k 1 dr) = true))))
theorem f12 : FM cs n k ls c (.lss, .symStr 14, .symStr 6, .bool true) := fact_lssS rfl rfl (ltS (key22 n _))
theorem f13 (hs : Sc n k) : FM cs n k ls c (.leq, .symLen 7, .int .i64 1099511627776, .bool true) := fact_leq rfl rfl (dle (z30 hs).2 (by decide))
theorem f14 (hs : Sc n k) : FM cs n k ls c (.gtr, .symLen 7, .int .i64 300, .bool false) := fact_gtr rfl rfl (dgt (z30 hs).2 (by decide))
theorem f15 (hs : Sc n k) : FM cs n k ls c (.geq, .symLen 7, .int .i64 1, .bool true) := fact_geq rfl rfl (dge (z30 hs).1 (by decide))
theorem f16 (hs : Sc n k) : FM cs n k ls c (.leq, .symLen 8, .int .i64 1099511627776, .bool true) := fact_leq rfl rfl (dle (z31 hs).2 (by decide))
theorem f17 (hs : Sc n k) : FM cs n k ls c (.gtr, .symLen 8, .int .i64 300, .bool false) := fact_gtr rfl rfl (dgt (z31 hs).2 (by decide))
theorem f18 (hs : Sc n k) : FM cs n k ls c (.leq, .symLen 14, .int .i64 1099511627776, .bool true) := fact_leq rfl rfl (dle (z60 hs).2 (by decide))
theorem f19 (hs : Sc n k) : FM cs n k ls c (.gtr, .symLen 14, .int .i64 300, .bool false) := fact_gtr rfl rfl (dgt (z60 hs).2 (by decide))
theorem f20 (hs : Sc n k) : FM cs n k ls c (.leq, .symLen 0, .int .i64 40, .bool true) := fact_leq rfl rfl (dle (z0 hs).2 (by decide))
theorem f21 (hs : Sc n k) : FM cs n k ls c (.geq, .symLen 0, .int .i64 1, .bool true) := fact_geq rfl rfl (dge (z0 hs).1 (by decide))
theorem f22 (hs : Sc n k) : FM cs n k ls c (.neq, .symStr 0, .str [], .bool true) := fact_nes rfl rfl (decide_eq_true (ne_empty (by have := z0 hs; omega))).symm
theorem f23 (hs : Sc n k) : FM cs n k ls c (.leq, .symLen 1, .int .i64 60, .bool true) := fact_leq rfl rfl (dle (z1 hs).2 (by decide))
theorem f24 (hs : Sc n k) : FM cs n k ls c (.geq, .symLen 1, .int .i64 1, .bool true) := fact_geq rfl rfl (dge (z1 hs).1 (by decide))
theorem f25 (hs : Sc n k) : FM cs n k ls c (.neq, .symStr 1, .str [], .bool true) := fact_nes rfl rfl (decide_eq_true (ne_empty (by have := z1 hs; omega))).symm
theorem f26 (hs : Sc n k) : FM cs n k ls c (.add, .str [111], .symStr 2, .symStr 4) := fact_cat rfl rfl rfl (txt_append [111] _) (by have := z10 hs; have := szn [111] 1 rfl; omega)
theorem f27 (hs : Sc n k) : FM cs n k ls c (.lss, .symStr 7, .str [111, 0, 1], .bool false) := fact_lssS rfl rfl (ltS (ltL_asym (lo_key n _ hs.n1)))
theorem f28 : FM cs n k ls c (.geq, .symStr 7, .str [112], .bool false) := fact_geqS rfl rfl (ltS (hi_key _))
theorem f29 : FM cs n k ls c (.geq, .symStr 8, .str [112], .bool false) := fact_geqS rfl rfl (ltS (hi_key _))
theorem f30 : FM cs n k ls c (.geq, .symStr 14, .str [112], .bool false) := fact_geqS rfl rfl (ltS (hi_key _))
theorem f31 (hs : Sc n k) : FM cs n k ls c (.sub, .symLen 4, .int .i64 1, .symInt .i64 42) := fact_sub (k := .i64) rfl rfl rfl (by have := z20 hs; simp only [Int.ofNat_eq_natCast]; rw [wrap_small (by omega) (by omega)]; omega)
theorem f32 (hs : Sc n k) : FM cs n k ls c (.add, .symStr 5, .str [2], .symStr 6) := fact_cat rfl rfl rfl ((txt_append (111 :: (esc n ++ [0])) [2]).trans (by simp)) (by have := z21 hs; have := szn [2] 1 rfl; omega)
theorem f33 (hs : Sc n k) : FM cs n k ls c (.neq, .symStr 4, .str [], .bool true) := fact_nes rfl rfl (decide_eq_true (ne_empty (by have := z20 hs; omega))).symm
theorem f34 (hs : Sc n k) : FM cs n k ls c (.eql, .symStr 4, .str [], .bool false) := fact_eqs rfl rfl (decide_eq_false (ne_empty (by have := z20 hs; omega))).symm
theorem f35 (hs : Sc n k) : FM cs n k ls c (.add, .symStr 4, .str [0], .symStr 7) := fact_cat rfl rfl rfl (txt_append (111 :: ok n) [0]) (by have := z20 hs; have := szn [0] 1 rfl; omega)
theorem f36 (hs : Sc n k) : FM cs n k ls c (.add, .symStr 4, .str [1], .symStr 8) := fact_cat rfl rfl rfl (txt_append (111 :: ok n) [1]) (by have := z20 hs; have := szn [1] 1 rfl; omega)
theorem f37 (hs : Sc n k) : FM cs n k ls c (.add, .symStr 4, .str [2], .symStr 9) := fact_cat rfl rfl rfl (txt_append (111 :: ok n) [2]) (by have := z20 hs; have := szn [2] 1 rfl; omega)
theorem f38 (hs : Sc n k) : FM cs n k ls c (.add, .symStr 4, .str [3], .symStr 10) := fact_cat rfl rfl rfl (txt_append (111 :: ok n) [3]) (by have := z20 hs; have := szn [3] 1 rfl; omega)
theorem f39 (hs : Sc n k) : FM cs n k ls c (.add, .symStr 10, .symStr 3, .symStr 11) := fact_cat rfl rfl rfl (key_cat n [3] _) (by have := z33 hs; have := z11 hs; omega)
theorem f40 (hs : Sc n k) : FM cs n k ls c (.add, .symStr 11, .str [0, 0, 0, 1, 0, 0, 0, 0, 0, 0, 0, 1], .symStr 14) := fact_cat rfl rfl rfl (sf_cat n k 1 [] dr) (by have := z50 hs; have := szn [0, 0, 0, 1, 0, 0, 0, 0, 0, 0, 0, 1] 12 rfl; omega)
theorem f41 : FM cs n k ls c (.add, .symInt .i64 47, .symInt .i64 48, .symInt .i64 53) := fact_add (k := .i64) rfl rfl rfl rfl
theorem f42 : FM cs n k ls c (.add, .symInt .i64 53, .symInt .i64 49, .symInt .i64 54) := fact_add (k := .i64) rfl rfl rfl rfl
theorem f43 : FM cs n k ls c (.add, .symInt .i64 54, .symInt .i64 50, .symInt .i64 55) := fact_add (k := .i64) rfl rfl rfl rfl
theorem f44 : FM cs n k ls c (.add, .symInt .i64 55, .symInt .i64 51, .symInt .i64 56) := fact_add (k := .i64) rfl rfl rfl rfl
theorem f45 : FM cs n k ls c (.add, .symInt .i64 56, .symInt .i64 52, .symInt .i64 57) := fact_add (k := .i64) rfl rfl rfl rfl
theorem f46 : FM cs n k ls c (.add, .int .i64 1, .symInt .i64 57, .symInt .i64 58) := fact_add (k := .i64) rfl rfl rfl rfl
theorem f47 : FM cs n k ls c (.add, .int .i64 0, .symInt .i64 58, .symInt .i64 59) := fact_add (k := .i64) rfl rfl rfl rfl
theorem f48 (hs : Sc n k) : FM cs n k ls c (.sub, .symLen 24, .int .i64 4, .symInt .i64 46) := fact_sub (k := .i64) rfl rfl rfl (by have := z160 hs; simp only [Int.ofNat_eq_natCast]; rw [wrap_small (by omega) (by omega)]; omega)
theorem f49 (hs : Sc n k) : FM cs n k ls c (.lss, .symInt .i64 46, .int .i64 0, .bool false) := fact_lss rfl rfl (by refine (decide_eq_false ?_).symm; have := z161 hs; have := hs.n1; have := hs.n2; (try simp only [txt_size, dl, List.length_cons, List.length_append, List.length_nil]); omega)
theorem f50 : FM cs n k ls c (.neq, .symInt .u32 77, .symInt .u32 77, .bool false) := fact_neq rfl rfl (by simp)
theorem f51 (hs : Sc n k) : FM cs n k ls c (.gtr, .int .i64 0, .symLen 25, .bool false) := fact_gtr rfl rfl (by refine (decide_eq_false ?_).symm; have := hs.n1; have := hs.n2; have := z161 hs; (try simp only [Int.ofNat_eq_natCast, txt_size, dl, List.length_cons, List.length_append, List.length_nil]); omega)
theorem f52 (hs : Sc n k) : FM cs n k ls c (.sub, .symLen 25, .int .i64 0, .symLen 25) := fact_sub (k := .i64) rfl rfl rfl (by have := z161 hs; simp only [Int.ofNat_eq_natCast]; rw [wrap_small (by omega) (by omega)]; omega)
theorem f53 (hs : Sc n k) : FM cs n k ls c (.lss, .symLen 25, .int .i64 1, .bool false) := fact_lss rfl rfl (dlt (z161 hs).1 (by decide))
theorem f54 (hs : Sc n k) : FM cs n k ls c (.gtr, .int .i64 0, .symLen 26, .bool false) := fact_gtr rfl rfl (by refine (decide_eq_false ?_).symm; have := hs.n1; have := hs.n2; have := z162 hs; (try simp only [Int.ofNat_eq_natCast, txt_size, dl, List.length_cons, List.length_append, List.length_nil]); omega)
theorem f55 (hs : Sc n k) : FM cs n k ls c (.sub, .symLen 26, .int .i64 0, .symLen 26) := fact_sub (k := .i64) rfl rfl rfl (by have := z162 hs; simp only [Int.ofNat_eq_natCast]; rw [wrap_small (by omega) (by omega)]; omega)
theorem f56 (hs : Sc n k) : FM cs n k ls c (.lss, .symLen 26, .int .i64 1, .bool false) := fact_lss rfl rfl (dlt (z162 hs).1 (by decide))
theorem f57 (hs : Sc n k) : FM cs n k ls c (.gtr, .int .i64 0, .symLen 27, .bool false) := fact_gtr rfl rfl (by refine (decide_eq_false ?_).symm; have := hs.n1; have := hs.n2; have := z163 hs; (try simp only [Int.ofNat_eq_natCast, txt_size, dl, List.length_cons, List.length_append, List.length_nil]); omega)
theorem f58 (hs : Sc n k) : FM cs n k ls c (.sub, .symLen 27, .int .i64 0, .symLen 27) := fact_sub (k := .i64) rfl rfl rfl (by have := z163 hs; simp only [Int.ofNat_eq_natCast]; rw [wrap_small (by omega) (by omega)]; omega)
theorem f59 (hs : Sc n k) : FM cs n k ls c (.lss, .symLen 27, .int .i64 1, .bool false) := fact_lss rfl rfl (dlt (z163 hs).1 (by decide))
theorem f60 (hs : Sc n k) : FM cs n k ls c (.geq, .int .i64 0, .symLen 28, .bool false) := fact_geq rfl rfl (by refine (decide_eq_false ?_).symm; have := hs.n1; have := hs.n2; have := z164 hs; (try simp only [Int.ofNat_eq_natCast, txt_size, dl, List.length_cons, List.length_append, List.length_nil]); omega)
theorem f61 (hs : Sc n k) : FM cs n k ls c (.geq, .int .i64 0, .symLen 29, .bool false) := fact_geq rfl rfl (by refine (decide_eq_false ?_).symm; have := hs.n1; have := hs.n2; have := z165 hs; (try simp only [Int.ofNat_eq_natCast, txt_size, dl, List.length_cons, List.length_append, List.length_nil]); omega)
theorem f62 (hs : Sc n k) : FM cs n k ls c (.geq, .int .i64 0, .symLen 30, .bool false) := fact_geq rfl rfl (by refine (decide_eq_false ?_).symm; have := hs.n1; have := hs.n2; have := z166 hs; (try simp only [Int.ofNat_eq_natCast, txt_size, dl, List.length_cons, List.length_append, List.length_nil]); omega)
theorem f63 (hs : Sc n k) : FM cs n k ls c (.geq, .int .i64 0, .symLen 31, .bool false) := fact_geq rfl rfl (by refine (decide_eq_false ?_).symm; have := hs.n1; have := hs.n2; have := z167 hs; (try simp only [Int.ofNat_eq_natCast, txt_size, dl, List.length_cons, List.length_append, List.length_nil]); omega)
theorem f64 (hs : Sc n k) : FM cs n k ls c (.gtr, .int .i64 0, .symLen 32, .bool false) := fact_gtr rfl rfl (by refine (decide_eq_false ?_).symm; have := hs.n1; have := hs.n2; have := z168 hs; (try simp only [Int.ofNat_eq_natCast, txt_size, dl, List.length_cons, List.length_append, List.length_nil]); omega)
theorem f65 (hs : Sc n k) : FM cs n k ls c (.geq, .int .i64 0, .symLen 32, .bool false) := fact_geq rfl rfl (by refine (decide_eq_false ?_).symm; have := hs.n1; have := hs.n2; have := z168 hs; (try simp only [Int.ofNat_eq_natCast, txt_size, dl, List.length_cons, List.length_append, List.length_nil]); omega)
theorem f66 (hs : Sc n k) : FM cs n k ls c (.gtr, .int .i64 0, .symLen 33, .bool false) := fact_gtr rfl rfl (by refine (decide_eq_false ?_).symm; have := hs.n1; have := hs.n2; have := z169 hs; (try simp only [Int.ofNat_eq_natCast, txt_size, dl, List.length_cons, List.length_append, List.length_nil]); omega)
theorem f67 (hs : Sc n k) : FM cs n k ls c (.geq, .int .i64 0, .symLen 33, .bool false) := fact_geq rfl rfl (by refine (decide_eq_false ?_).symm; have := hs.n1; have := hs.n2; have := z169 hs; (try simp only [Int.ofNat_eq_natCast, txt_size, dl, List.length_cons, List.length_append, List.length_nil]); omega)
theorem f68 (hs : Sc n k) : FM cs n k ls c (.gtr, .int .i64 0, .symLen 34, .bool false) := fact_gtr rfl rfl (by refine (decide_eq_false ?_).symm; have := hs.n1; have := hs.n2; have := z170 hs; (try simp only [Int.ofNat_eq_natCast, txt_size, dl, List.length_cons, List.length_append, List.length_nil]); omega)
theorem f69 (hs : Sc n k) : FM cs n k ls c (.geq, .int .i64 0, .symLen 34, .bool false) := fact_geq rfl rfl (by refine (decide_eq_false ?_).symm; have := hs.n1; have := hs.n2; have := z170 hs; (try simp only [Int.ofNat_eq_natCast, txt_size, dl, List.length_cons, List.length_append, List.length_nil]); omega)
theorem f70 (hs : Sc n k) : FM cs n k ls c (.gtr, .int .i64 0, .symLen 36, .bool false) := fact_gtr rfl rfl (by refine (decide_eq_false ?_).symm; have := hs.n1; have := hs.n2; have := z172 hs; (try simp only [Int.ofNat_eq_natCast, txt_size, dl, List.length_cons, List.length_append, List.length_nil]); omega)
theorem f71 (hs : Sc n k) : FM cs n k ls c (.sub, .symLen 36, .int .i64 0, .symLen 36) := fact_sub (k := .i64) rfl rfl rfl (by have := z172 hs; simp only [Int.ofNat_eq_natCast]; rw [wrap_small (by omega) (by omega)]; omega)
theorem f72 (hs : Sc n k) : FM cs n k ls c (.lss, .symLen 36, .int .i64 1, .bool false) := fact_lss rfl rfl (dlt (z172 hs).1 (by decide))
theorem f73 (hs : Sc n k) : FM cs n k ls c (.neq, .symStr 36, .str [], .bool true) := fact_nes rfl rfl (decide_eq_true (ne_empty (by have := z172 hs; omega))).symm
theorem f74 (hs : Sc n k) : FM cs n k ls c (.geq, .int .i64 0, .symLen 37, .bool false) := fact_geq rfl rfl (by refine (decide_eq_false ?_).symm; have := hs.n1; have := hs.n2; have := z173 hs; (try simp only [Int.ofNat_eq_natCast, txt_size, List.length_cons, List.length_append, List.length_nil]); omega)
theorem f75 (hs : Sc n k) : FM cs n k ls c (.and, .symInt .u8 73, .int .u8 127, .symInt .u8 73) := fact_ints rfl rfl (and127 (by have := hs.n2; omega)) rfl
theorem f76 (hs : Sc n k) : FM cs n k ls c (.and, .symInt .u8 73, .int .u8 128, .int .u8 0) := fact_ints rfl rfl (and128 (by have := hs.n2; omega)) rfl
theorem f77 (hs : Sc n k) : FM cs n k ls c (.eql, .symInt .u8 73, .int .u8 0, .bool false) := fact_eql rfl rfl (by refine (decide_eq_false ?_).symm; have := hs.n1; have := hs.n2; omega)
theorem f78 (hs : Sc n k) : FM cs n k ls c (.shl, .symInt .u64 74, .int .i64 0, .symInt .u64 74) := fact_ints rfl rfl (shl0 (by have := hs.n2; omega)) rfl
theorem f79 (hs : Sc n k) : FM cs n k ls c (.or, .int .u64 0, .symInt .u64 74, .symInt .u64 74) := fact_ints rfl rfl (or0 (by have := hs.n2; omega)) rfl
theorem f80 (hs : Sc n k) : FM cs n k ls c (.gtr, .symInt .u64 74, .int .u64 10000000, .bool false) := fact_gtr rfl rfl (by refine (decide_eq_false ?_).symm; have := hs.n1; have := hs.n2; have := hs.n1; have := hs.n2; (try simp only [Int.ofNat_eq_natCast, txt_size, dl, List.length_cons, List.length_append, List.length_nil]); omega)
theorem f81 (hs : Sc n k) : FM cs n k ls c (.gtr, .symInt .i64 44, .symLen 35, .bool false) := fact_gtr rfl rfl (by refine (decide_eq_false ?_).symm; have := hs.n1; have := hs.n2; have := z171 hs; (try simp only [Int.ofNat_eq_natCast, txt_size, dl, List.length_cons, List.length_append, List.length_nil]); omega)
theorem f82 (hs : Sc n k) : FM cs n k ls c (.and, .symInt .u8 75, .int .u8 127, .symInt .u8 75) := fact_ints rfl rfl (and127 (by have := hs.n2; omega)) rfl
theorem f83 (hs : Sc n k) : FM cs n k ls c (.and, .symInt .u8 75, .int .u8 128, .int .u8 0) := fact_ints rfl rfl (and128 (by have := hs.n2; omega)) rfl
theorem f84 (hs : Sc n k) : FM cs n k ls c (.eql, .symInt .u8 75, .int .u8 0, .bool false) := fact_eql rfl rfl (by refine (decide_eq_false ?_).symm; have := hs.n1; have := hs.n2; omega)
theorem f85 (hs : Sc n k) : FM cs n k ls c (.shl, .symInt .u64 76, .int .i64 0, .symInt .u64 76) := fact_ints rfl rfl (shl0 (by have := hs.n2; omega)) rfl
theorem f86 (hs : Sc n k) : FM cs n k ls c (.or, .int .u64 0, .symInt .u64 76, .symInt .u64 76) := fact_ints rfl rfl (or0 (by have := hs.n2; omega)) rfl
theorem f87 (hs : Sc n k) : FM cs n k ls c (.gtr, .symInt .u64 76, .int .u64 40, .bool false) := fact_gtr rfl rfl (by refine (decide_eq_false ?_).symm; have := hs.n1; have := hs.n2; have := hs.n1; have := hs.n2; (try simp only [Int.ofNat_eq_natCast, txt_size, dl, List.length_cons, List.length_append, List.length_nil]); omega)
theorem f88 (hs : Sc n k) : FM cs n k ls c (.gtr, .symInt .i64 45, .symLen 38, .bool false) := fact_gtr rfl rfl (by refine (decide_eq_false ?_).symm; have := hs.n1; have := hs.n2; have := z174 hs; (try simp only [Int.ofNat_eq_natCast, txt_size, List.length_cons, List.length_append, List.length_nil]); omega)
theorem f89 (hs : Sc n k) : FM cs n k ls c (.add, .str [1], .symStr 21, .symStr 22) := fact_cat rfl rfl rfl (txt_append [1] _) (by have := z104 hs; have := szn [1] 1 rfl; omega)
theorem f90 (hs : Sc n k) : FM cs n k ls c (.add, .symStr 22, .str [0], .symStr 23) := fact_cat rfl rfl rfl ((txt_append (1 :: lN n :: n) [0]).trans (by simp)) (by have := z105 hs; have := szn [0] 1 rfl; omega)
theorem f91 (hs : Sc n k) : FM cs n k ls c (.add, .symStr 23, .str [7, 1, 0, 0, 0, 2, 1, 0, 1, 0], .symStr 36) := fact_cat rfl rfl rfl ((txt_append (1 :: lN n :: (n ++ [0])) [7, 1, 0, 0, 0, 2, 1, 0, 1, 0]).trans (by simp [dl])) (by have := z106 hs; have := szn [7, 1, 0, 0, 0, 2, 1, 0, 1, 0] 10 rfl; omega)
theorem f92 (hs : Sc n k) : FM cs n k ls c (.add, .symStr 23, .str [7, 1, 0, 0, 0, 2, 1, 0], .symStr 40) := fact_cat rfl rfl rfl ((txt_append (1 :: lN n :: (n ++ [0])) [7, 1, 0, 0, 0, 2, 1, 0]).trans (by simp)) (by have := z106 hs; have := szn [7, 1, 0, 0, 0, 2, 1, 0] 8 rfl; omega)
theorem f93 (hs : Sc n k) : FM cs n k ls c (.add, .symStr 40, .str [1, 0], .symStr 36) := fact_cat rfl rfl rfl ((txt_append (1 :: lN n :: (n ++ [0, 7, 1, 0, 0, 0, 2, 1, 0])) [1, 0]).trans (by simp [dl])) (by have := z107 hs; have := szn [1, 0] 2 rfl; omega)
theorem f94 : FM cs n k ls c (.neq, .symStr 36, .symStr 36, .bool false) := fact_nes rfl rfl (by simp)
theorem f95 (hs : Sc n k) : FM cs n k ls c (.add, .str [], .symStr 16, .symStr 16) := fact_cat rfl rfl rfl (nil_cat _) (by have := z91 hs; have := szn [] 0 rfl; omega)
theorem f96 (hs : Sc n k) : FM cs n k ls c (.add, .int .i64 0, .symLen 16, .symInt .i64 43) := fact_add (k := .i64) rfl rfl rfl (wrap_small (by simp only [Int.ofNat_eq_natCast]; omega) (by simp only [Int.ofNat_eq_natCast]; have := z91 hs; omega))
theorem f97 (hs : Sc n k) : FM cs n k ls c (.add, .int .i64 0, .symLen 7, .symInt .i64 60) := fact_add (k := .i64) rfl rfl rfl (wrap_small (b100 hs).1 (Int.le_trans (b100 hs).2 (by decide)))
theorem f98 (hs : Sc n k) : FM cs n k ls c (.add, .symInt .i64 60, .int .i64 1, .symInt .i64 61) := fact_add (k := .i64) rfl rfl rfl (wrap_small (b101 hs).1 (Int.le_trans (b101 hs).2 (by decide)))
theorem f99 (hs : Sc n k) : FM cs n k ls c (.add, .symInt .i64 61, .int .i64 16, .symInt .i64 62) := fact_add (k := .i64) rfl rfl rfl (wrap_small (b102 hs).1 (Int.le_trans (b102 hs).2 (by decide)))
theorem f100 (hs : Sc n k) : FM cs n k ls c (.add, .symInt .i64 62, .symLen 8, .symInt .i64 63) := fact_add (k := .i64) rfl rfl rfl (wrap_small (b103 hs).1 (Int.le_trans (b103 hs).2 (by decide)))
theorem f101 (hs : Sc n k) : FM cs n k ls c (.add, .symInt .i64 63, .int .i64 7, .symInt .i64 64) := fact_add (k := .i64) rfl rfl rfl (wrap_small (b104 hs).1 (Int.le_trans (b104 hs).2 (by decide)))
theorem f102 (hs : Sc n k) : FM cs n k ls c (.add, .symInt .i64 64, .int .i64 16, .symInt .i64 65) := fact_add (k := .i64) rfl rfl rfl (wrap_small (b105 hs).1 (Int.le_trans (b105 hs).2 (by decide)))
theorem f103 (hs : Sc n k) : FM cs n k ls c (.add, .symInt .i64 65, .symLen 14, .symInt .i64 66) := fact_add (k := .i64) rfl rfl rfl (wrap_small (b106 hs).1 (Int.le_trans (b106 hs).2 (by decide)))
theorem f104 (hs : Sc n k) : FM cs n k ls c (.add, .symInt .i64 66, .int .i64 0, .symInt .i64 67) := fact_add (k := .i64) rfl rfl rfl (wrap_small (b107 hs).1 (Int.le_trans (b107 hs).2 (by decide)))
theorem f105 (hs : Sc n k) : FM cs n k ls c (.add, .symInt .i64 67, .int .i64 16, .symInt .i64 68) := fact_add (k := .i64) rfl rfl rfl (wrap_small (b108 hs).1 (Int.le_trans (b108 hs).2 (by decide)))
theorem factsOk (hs : Sc n k) : ∀ f ∈ factsM, FM cs n k ls c f := by
  unfold factsM
  exact ac (f0) <| ac (f1) <| ac (f2) <| ac (f3) <| ac (f4) <| ac (f5) <| ac (f6) <| ac (f7) <| ac (f8) <| ac (f9) <| ac (f10) <| ac (f11) <| ac (f12) <| ac (f13 hs) <| ac (f14 hs) <| ac (f15 hs) <| ac (f16 hs) <| ac (f17 hs) <| ac (f18 hs) <| ac (f19 hs) <| ac (f20 hs) <| ac (f21 hs) <| ac (f22 hs) <| ac (f23 hs) <| ac (f24 hs) <| ac (f25 hs) <| ac (f26 hs) <| ac (f27 hs) <| ac (f28) <| ac (f29) <| ac (f30) <| ac (f31 hs) <| ac (f32 hs) <| ac (f33 hs) <| ac (f34 hs) <| ac (f35 hs) <| ac (f36 hs) <| ac (f37 hs) <| ac (f38 hs) <| ac (f39 hs) <| ac (f40 hs) <| ac (f41) <| ac (f42) <| ac (f43) <| ac (f44) <| ac (f45) <| ac (f46) <| ac (f47) <| ac (f48 hs) <| ac (f49 hs) <| ac (f50) <| ac (f51 hs) <| ac (f52 hs) <| ac (f53 hs) <| ac (f54 hs) <| ac (f55 hs) <| ac (f56 hs) <| ac (f57 hs) <| ac (f58 hs) <| ac (f59 hs) <| ac (f60 hs) <| ac (f61 hs) <| ac (f62 hs) <| ac (f63 hs) <| ac (f64 hs) <| ac (f65 hs) <| ac (f66 hs) <| ac (f67 hs) <| ac (f68 hs) <| ac (f69 hs) <| ac (f70 hs) <| ac (f71 hs) <| ac (f72 hs) <| ac (f73 hs) <| ac (f74 hs) <| ac (f75 hs) <| ac (f76 hs) <| ac (f77 hs) <| ac (f78 hs) <| ac (f79 hs) <| ac (f80 hs) <| ac (f81 hs) <| ac (f82 hs) <| ac (f83 hs) <| ac (f84 hs) <| ac (f85 hs) <| ac (f86 hs) <| ac (f87 hs) <| ac (f88 hs) <| ac (f89 hs) <| ac (f90 hs) <| ac (f91 hs) <| ac (f92 hs) <| ac (f93 hs) <| ac (f94) <| ac (f95 hs) <| ac (f96 hs) <| ac (f97 hs) <| ac (f98 hs) <| ac (f99 hs) <| ac (f100 hs) <| ac (f101 hs) <| ac (f102 hs) <| ac (f103 hs) <| ac (f104 hs) <| ac (f105 hs) <| an
theorem o0 : OM cs n k ls c ((5, 9, 0), [.symStr 4, .symInt .i64 42], .int .u8 1) := ofact_byte (p := 111 :: (esc n ++ [0])) (q := []) (c := 1) Tryz.underlying9 rfl rfl (by show 111 :: ok n = _; simp [ok]) (by rw [txt_size]; simp [ok]) rfl
theorem o1 : OM cs n k ls c ((6, 9, 2), [.symStr 4, .symInt .i64 42], .symStr 5) := ofact_hi (p := 111 :: (esc n ++ [0])) (q := [1]) Tryz.underlying9 rfl rfl (by show 111 :: ok n = _; simp [ok]) (by rw [txt_size]; simp [ok]) rfl
theorem o2 : OM cs n k ls c ((6, 9, 2), [.symStr 7, .int .i64 1], .str [111]) := ofact_hi (i := 1) (p := [111]) (q := ok n ++ [0]) Tryz.underlying9 rfl rfl rfl rfl rfl
theorem o3 : OM cs n k ls c ((6, 9, 1), [.symStr 7, .int .i64 1], .symStr 18) := ofact_lo (i := 1) (p := [111]) (q := ok n ++ [0]) Tryz.underlying9 rfl rfl rfl rfl rfl
theorem o4 (hc : Cells ls c) : OM cs n k ls c ((12, 2, 22), [.symC 97], .symInt .i64 47) := by
  obtain ⟨a, cp, e⟩ := hc.len 15 (by decide)
  refine ofact_len Tryz.underlying22 (by decide) (a := a) (cp := cp) ?_ rfl
  show (if (c 15).oneCell' = true then some (c 15) else none) = _
  rw [if_pos (hc.one 15 (by decide)), e]
theorem o5 (hc : Cells ls c) : OM cs n k ls c ((12, 2, 23), [.symC 98], .symInt .i64 48) := by
  obtain ⟨a, cp, e⟩ := hc.len 16 (by decide)
  refine ofact_len Tryz.underlying23 (by decide) (a := a) (cp := cp) ?_ rfl
  show (if (c 16).oneCell' = true then some (c 16) else none) = _
  rw [if_pos (hc.one 16 (by decide)), e]
theorem o6 (hc : Cells ls c) : OM cs n k ls c ((12, 2, 23), [.symC 99], .symInt .i64 49) := by
  obtain ⟨a, cp, e⟩ := hc.len 17 (by decide)
  refine ofact_len Tryz.underlying23 (by decide) (a := a) (cp := cp) ?_ rfl
  show (if (c 17).oneCell' = true then some (c 17) else none) = _
  rw [if_pos (hc.one 17 (by decide)), e]
theorem o7 (hc : Cells ls c) : OM cs n k ls c ((12, 2, 22), [.symC 88], .symInt .i64 50) := by
  obtain ⟨a, cp, e⟩ := hc.len 6 (by decide)
  refine ofact_len Tryz.underlying22 (by decide) (a := a) (cp := cp) ?_ rfl
  show (if (c 6).oneCell' = true then some (c 6) else none) = _
  rw [if_pos (hc.one 6 (by decide)), e]
theorem o8 (hc : Cells ls c) : OM cs n k ls c ((12, 2, 23), [.symC 89], .symInt .i64 51) := by
  obtain ⟨a, cp, e⟩ := hc.len 7 (by decide)
  refine ofact_len Tryz.underlying23 (by decide) (a := a) (cp := cp) ?_ rfl
  show (if (c 7).oneCell' = true then some (c 7) else none) = _
  rw [if_pos (hc.one 7 (by decide)), e]
theorem o9 (hc : Cells ls c) : OM cs n k ls c ((12, 2, 23), [.symC 90], .symInt .i64 52) := by
  obtain ⟨a, cp, e⟩ := hc.len 8 (by decide)
  refine ofact_len Tryz.underlying23 (by decide) (a := a) (cp := cp) ?_ rfl
  show (if (c 8).oneCell' = true then some (c 8) else none) = _
  rw [if_pos (hc.one 8 (by decide)), e]
theorem o10 (hs : Sc n k) : OM cs n k ls c ((6, 9, 2), [.symStr 24, .symInt .i64 46], .symStr 25) := ofact_slice_hi Tryz.underlying9 rfl rfl (by rw [sealed_pre]; rfl) (by rw [(z160 hs).1]; omega)
theorem o11 : OM cs n k ls c ((5, 9, 0), [.symStr 25, .int .i64 0], .int .u8 1) := ofact_byte (i := 0) (p := []) (q := 0 :: 0 :: 4 :: 2 :: 0 :: 0 :: 0 :: 0 :: lD n :: (dl n ++ [0, 0, 1, 0, 1, 0])) (c := 1) Tryz.underlying9 rfl rfl rfl rfl rfl
theorem o12 : OM cs n k ls c ((6, 9, 1), [.symStr 25, .int .i64 1], .symStr 26) := ofact_lo (i := 1) (p := [1]) (q := 0 :: 0 :: 4 :: 2 :: 0 :: 0 :: 0 :: 0 :: lD n :: (dl n ++ [0, 0, 1, 0, 1, 0])) Tryz.underlying9 rfl rfl rfl rfl rfl
theorem o13 : OM cs n k ls c ((5, 9, 0), [.symStr 26, .int .i64 0], .int .u8 0) := ofact_byte (i := 0) (p := []) (q := 0 :: 4 :: 2 :: 0 :: 0 :: 0 :: 0 :: lD n :: (dl n ++ [0, 0, 1, 0, 1, 0])) (c := 0) Tryz.underlying9 rfl rfl rfl rfl rfl
theorem o14 : OM cs n k ls c ((6, 9, 1), [.symStr 26, .int .i64 1], .symStr 27) := ofact_lo (i := 1) (p := [0]) (q := 0 :: 4 :: 2 :: 0 :: 0 :: 0 :: 0 :: lD n :: (dl n ++ [0, 0, 1, 0, 1, 0])) Tryz.underlying9 rfl rfl rfl rfl rfl
theorem o15 : OM cs n k ls c ((5, 9, 0), [.symStr 27, .int .i64 0], .int .u8 0) := ofact_byte (i := 0) (p := []) (q := 4 :: 2 :: 0 :: 0 :: 0 :: 0 :: lD n :: (dl n ++ [0, 0, 1, 0, 1, 0])) (c := 0) Tryz.underlying9 rfl rfl rfl rfl rfl
theorem o16 : OM cs n k ls c ((6, 9, 1), [.symStr 27, .int .i64 1], .symStr 28) := ofact_lo (i := 1) (p := [0]) (q := 4 :: 2 :: 0 :: 0 :: 0 :: 0 :: lD n :: (dl n ++ [0, 0, 1, 0, 1, 0])) Tryz.underlying9 rfl rfl rfl rfl rfl
theorem o17 : OM cs n k ls c ((5, 9, 0), [.symStr 28, .int .i64 0], .int .u8 4) := ofact_byte (i := 0) (p := []) (q := 2 :: 0 :: 0 :: 0 :: 0 :: lD n :: (dl n ++ [0, 0, 1, 0, 1, 0])) (c := 4) Tryz.underlying9 rfl rfl rfl rfl rfl
theorem o18 : OM cs n k ls c ((6, 9, 1), [.symStr 28, .int .i64 1], .symStr 29) := ofact_lo (i := 1) (p := [4]) (q := 2 :: 0 :: 0 :: 0 :: 0 :: lD n :: (dl n ++ [0, 0, 1, 0, 1, 0])) Tryz.underlying9 rfl rfl rfl rfl rfl
theorem o19 : OM cs n k ls c ((5, 9, 0), [.symStr 29, .int .i64 0], .int .u8 2) := ofact_byte (i := 0) (p := []) (q := 0 :: 0 :: 0 :: 0 :: lD n :: (dl n ++ [0, 0, 1, 0, 1, 0])) (c := 2) Tryz.underlying9 rfl rfl rfl rfl rfl
theorem o20 : OM cs n k ls c ((6, 9, 1), [.symStr 29, .int .i64 1], .symStr 30) := ofact_lo (i := 1) (p := [2]) (q := 0 :: 0 :: 0 :: 0 :: lD n :: (dl n ++ [0, 0, 1, 0, 1, 0])) Tryz.underlying9 rfl rfl rfl rfl rfl
theorem o21 : OM cs n k ls c ((5, 9, 0), [.symStr 30, .int .i64 0], .int .u8 0) := ofact_byte (i := 0) (p := []) (q := 0 :: 0 :: 0 :: lD n :: (dl n ++ [0, 0, 1, 0, 1, 0])) (c := 0) Tryz.underlying9 rfl rfl rfl rfl rfl
theorem o22 : OM cs n k ls c ((6, 9, 1), [.symStr 30, .int .i64 1], .symStr 31) := ofact_lo (i := 1) (p := [0]) (q := 0 :: 0 :: 0 :: lD n :: (dl n ++ [0, 0, 1, 0, 1, 0])) Tryz.underlying9 rfl rfl rfl rfl rfl
theorem o23 : OM cs n k ls c ((5, 9, 0), [.symStr 31, .int .i64 0], .int .u8 0) := ofact_byte (i := 0) (p := []) (q := 0 :: 0 :: lD n :: (dl n ++ [0, 0, 1, 0, 1, 0])) (c := 0) Tryz.underlying9 rfl rfl rfl rfl rfl
theorem o24 : OM cs n k ls c ((6, 9, 1), [.symStr 31, .int .i64 1], .symStr 32) := ofact_lo (i := 1) (p := [0]) (q := 0 :: 0 :: lD n :: (dl n ++ [0, 0, 1, 0, 1, 0])) Tryz.underlying9 rfl rfl rfl rfl rfl
theorem o25 : OM cs n k ls c ((5, 9, 0), [.symStr 32, .int .i64 0], .int .u8 0) := ofact_byte (i := 0) (p := []) (q := 0 :: lD n :: (dl n ++ [0, 0, 1, 0, 1, 0])) (c := 0) Tryz.underlying9 rfl rfl rfl rfl rfl
theorem o26 : OM cs n k ls c ((6, 9, 1), [.symStr 32, .int .i64 1], .symStr 33) := ofact_lo (i := 1) (p := [0]) (q := 0 :: lD n :: (dl n ++ [0, 0, 1, 0, 1, 0])) Tryz.underlying9 rfl rfl rfl rfl rfl
theorem o27 : OM cs n k ls c ((6, 9, 2), [.symStr 32, .int .i64 0], .str []) := ofact_hi (i := 0) (p := []) (q := 0 :: 0 :: lD n :: (dl n ++ [0, 0, 1, 0, 1, 0])) Tryz.underlying9 rfl rfl rfl rfl rfl
theorem o28 : OM cs n k ls c ((6, 9, 1), [.symStr 32, .int .i64 0], .symStr 32) := ofact_lo (i := 0) (p := []) (q := 0 :: 0 :: lD n :: (dl n ++ [0, 0, 1, 0, 1, 0])) Tryz.underlying9 rfl rfl rfl rfl rfl
theorem o29 : OM cs n k ls c ((5, 9, 0), [.symStr 33, .int .i64 0], .int .u8 0) := ofact_byte (i := 0) (p := []) (q := lD n :: (dl n ++ [0, 0, 1, 0, 1, 0])) (c := 0) Tryz.underlying9 rfl rfl rfl rfl rfl
theorem o30 : OM cs n k ls c ((6, 9, 1), [.symStr 33, .int .i64 1], .symStr 34) := ofact_lo (i := 1) (p := [0]) (q := lD n :: (dl n ++ [0, 0, 1, 0, 1, 0])) Tryz.underlying9 rfl rfl rfl rfl rfl
theorem o31 : OM cs n k ls c ((6, 9, 2), [.symStr 33, .int .i64 0], .str []) := ofact_hi (i := 0) (p := []) (q := 0 :: lD n :: (dl n ++ [0, 0, 1, 0, 1, 0])) Tryz.underlying9 rfl rfl rfl rfl rfl
theorem o32 : OM cs n k ls c ((6, 9, 1), [.symStr 33, .int .i64 0], .symStr 33) := ofact_lo (i := 0) (p := []) (q := 0 :: lD n :: (dl n ++ [0, 0, 1, 0, 1, 0])) Tryz.underlying9 rfl rfl rfl rfl rfl
theorem o33 (hs : Sc n k) : OM cs n k ls c ((5, 9, 0), [.symStr 34, .int .i64 0], .symInt .u8 73) := ofact_byte (i := 0) (p := []) (q := dl n ++ [0, 0, 1, 0, 1, 0]) (c := lD n) Tryz.underlying9 rfl rfl rfl rfl (by rw [lD_val hs.n2]; rfl)
theorem o34 : OM cs n k ls c ((6, 9, 1), [.symStr 34, .int .i64 1], .symStr 35) := ofact_lo (i := 1) (p := [lD n]) (q := dl n ++ [0, 0, 1, 0, 1, 0]) Tryz.underlying9 rfl rfl rfl rfl rfl
theorem o35 (hs : Sc n k) : OM cs n k ls c ((7, 5, 45), [.symInt .u8 73], .symInt .u64 74) := ofact_conv Tryz.underlying5 Tryz.underlying45 rfl rfl (by have := hs.n2; simp only [IntKind.wrap, IntKind.bits, IntKind.signed, Bool.false_and, Bool.false_eq_true, if_false]; omega)
theorem o36 (hs : Sc n k) : OM cs n k ls c ((7, 45, 3), [.symInt .u64 74], .symInt .i64 44) := ofact_conv Tryz.underlying45 Tryz.underlying3 rfl rfl (by have := hs.n2; rw [wrap_i64']; omega)
theorem o37 : OM cs n k ls c ((6, 9, 2), [.symStr 35, .symInt .i64 44], .symStr 36) := ofact_hi (p := dl n) (q := [0, 0, 1, 0, 1, 0]) Tryz.underlying9 rfl rfl rfl (dl_len n).symm rfl
theorem o38 : OM cs n k ls c ((6, 9, 1), [.symStr 35, .symInt .i64 44], .str [0, 0, 1, 0, 1, 0]) := ofact_lo (p := dl n) (q := [0, 0, 1, 0, 1, 0]) Tryz.underlying9 rfl rfl rfl (dl_len n).symm rfl
theorem o39 : OM cs n k ls c ((6, 9, 2), [.symStr 34, .int .i64 0], .str []) := ofact_hi (i := 0) (p := []) (q := lD n :: (dl n ++ [0, 0, 1, 0, 1, 0])) Tryz.underlying9 rfl rfl rfl rfl rfl
theorem o40 : OM cs n k ls c ((6, 9, 1), [.symStr 34, .int .i64 0], .symStr 34) := ofact_lo (i := 0) (p := []) (q := lD n :: (dl n ++ [0, 0, 1, 0, 1, 0])) Tryz.underlying9 rfl rfl rfl rfl rfl
theorem o41 (hs : Sc n k) : OM cs n k ls c ((5, 9, 0), [.symStr 37, .int .i64 0], .symInt .u8 75) := ofact_byte (i := 0) (p := []) (q := n ++ [0, 7, 1, 0, 0, 0, 2, 1, 0, 1, 0]) (c := lN n) Tryz.underlying9 rfl rfl rfl rfl (by rw [lN_val hs.n2]; rfl)
theorem o42 : OM cs n k ls c ((6, 9, 1), [.symStr 37, .int .i64 1], .symStr 38) := ofact_lo (i := 1) (p := [lN n]) (q := n ++ [0, 7, 1, 0, 0, 0, 2, 1, 0, 1, 0]) Tryz.underlying9 rfl rfl rfl rfl rfl
theorem o43 (hs : Sc n k) : OM cs n k ls c ((7, 5, 45), [.symInt .u8 75], .symInt .u64 76) := ofact_conv Tryz.underlying5 Tryz.underlying45 rfl rfl (by have := hs.n2; simp only [IntKind.wrap, IntKind.bits, IntKind.signed, Bool.false_and, Bool.false_eq_true, if_false]; omega)
theorem o44 (hs : Sc n k) : OM cs n k ls c ((7, 45, 3), [.symInt .u64 76], .symInt .i64 45) := ofact_conv Tryz.underlying45 Tryz.underlying3 rfl rfl (by have := hs.n2; rw [wrap_i64']; omega)
theorem o45 : OM cs n k ls c ((6, 9, 2), [.symStr 38, .symInt .i64 45], .symStr 0) := ofact_hi (p := n) (q := [0, 7, 1, 0, 0, 0, 2, 1, 0, 1, 0]) Tryz.underlying9 rfl rfl rfl rfl rfl
theorem o46 : OM cs n k ls c ((6, 9, 1), [.symStr 38, .symInt .i64 45], .str [0, 7, 1, 0, 0, 0, 2, 1, 0, 1, 0]) := ofact_lo (p := n) (q := [0, 7, 1, 0, 0, 0, 2, 1, 0, 1, 0]) Tryz.underlying9 rfl rfl rfl rfl rfl
theorem o47 : OM cs n k ls c ((5, 9, 0), [.symStr 36, .int .i64 0], .int .u8 1) := ofact_byte (i := 0) (p := []) (q := lN n :: (n ++ [0, 7, 1, 0, 0, 0, 2, 1, 0, 1, 0])) (c := 1) Tryz.underlying9 rfl rfl rfl rfl rfl
theorem o48 : OM cs n k ls c ((6, 9, 1), [.symStr 36, .int .i64 1], .symStr 37) := ofact_lo (i := 1) (p := [1]) (q := lN n :: (n ++ [0, 7, 1, 0, 0, 0, 2, 1, 0, 1, 0])) Tryz.underlying9 rfl rfl rfl rfl rfl
theorem o49 (hs : Sc n k) : OM cs n k ls c ((12, 0, 0), [.symInt .i64 62, .int .i64 4611686018427387904], .symInt .i64 62) := ofact_min rfl rfl rfl (if_neg (by have := b102 hs; omega))
theorem o50 (hs : Sc n k) : OM cs n k ls c ((12, 0, 0), [.symInt .i64 65, .int .i64 4611686018427387904], .symInt .i64 65) := ofact_min rfl rfl rfl (if_neg (by have := b105 hs; omega))
theorem o51 (hs : Sc n k) : OM cs n k ls c ((12, 0, 0), [.symInt .i64 68, .int .i64 4611686018427387904], .symInt .i64 68) := ofact_min rfl rfl rfl (if_neg (by have := b108 hs; omega))
theorem ofactsOk (hs : Sc n k) (hc : Cells ls c) : ∀ f ∈ ofactsM, OM cs n k ls c f := by
  unfold ofactsM
  exact ac (o0) <| ac (o1) <| ac (o2) <| ac (o3) <| ac (o4 hc) <| ac (o5 hc) <| ac (o6 hc) <| ac (o7 hc) <| ac (o8 hc) <| ac (o9 hc) <| ac (o10 hs) <| ac (o11) <| ac (o12) <| ac (o13) <| ac (o14) <| ac (o15) <| ac (o16) <| ac (o17) <| ac (o18) <| ac (o19) <| ac (o20) <| ac (o21) <| ac (o22) <| ac (o23) <| ac (o24) <| ac (o25) <| ac (o26) <| ac (o27) <| ac (o28) <| ac (o29) <| ac (o30) <| ac (o31) <| ac (o32) <| ac (o33 hs) <| ac (o34) <| ac (o35 hs) <| ac (o36 hs) <| ac (o37) <| ac (o38) <| ac (o39) <| ac (o40) <| ac (o41 hs) <| ac (o42) <| ac (o43 hs) <| ac (o44 hs) <| ac (o45) <| ac (o46) <| ac (o47) <| ac (o48) <| ac (o49 hs) <| ac (o50 hs) <| ac (o51 hs) <| an
end
section
variable {n k : List UInt8} {ls : Nat → Nat} {c : Nat → Value} {w0 : World}
abbrev PM (w0 : World) (n k : List UInt8) (ls : Nat → Nat) (c : Nat → Value) := Outer w0 (sg n k ls c) fun b => b < w0.heap.size
noncomputable def rText : List (List AV × AV) := [([.symStr 0], .symStr 2), ([.symStr 1], .symStr 3), ([.str []], .str [0, 1])]
theorem cText (hs : Sc n k) {m : Int} (hm : w0.cell? ⟨0, 0, none⟩ = some (.int .i64 m)) : ConOK Tryz.prog (PM w0 n k ls c) 205 (.ans rText) := by
  refine ans_ok fun r_ hr => ?_
  simp only [rText, List.mem_cons, List.mem_nil_iff, or_false] at hr
  rcases hr with rfl | rfl | rfl
  · exact ⟨[.string (txt n)], _, rfl, rfl, fun w st => (okey_any _ m w (by have := z0 hs; omega) (cell_st st hm)).mono fun e w' ⟨h1, h2⟩ => ⟨h1, stands_of_below h2⟩⟩
  · exact ⟨[.string (txt k)], _, rfl, rfl, fun w st => (okey_any _ m w (by have := z1 hs; omega) (cell_st st hm)).mono fun e w' ⟨h1, h2⟩ => ⟨h1, stands_of_below h2⟩⟩
  · exact ⟨[.string ⟨#[]⟩], .string ⟨#[0, 1]⟩, rfl, rfl, fun w st => (okey_any (txt []) m w (by decide) (cell_st st hm)).mono fun e w' ⟨h1, h2⟩ => ⟨h1, stands_of_below h2⟩⟩
noncomputable def rPart : List (List AV × AV) := [([.symStr 18], .tuple [.symStr 0, .str [0], .int .i64 0])]
theorem cPart (hs : Sc n k) : ConOK Tryz.prog (PM w0 n k ls c) 466 (.ans rPart) := by
  refine ans_ok fun r_ hr => ?_
  simp only [rPart, List.mem_cons, List.mem_nil_iff, or_false] at hr
  subst hr
  · refine ⟨[.string (txt (ok n ++ [0]))], .tuple #[.string (txt n), .string (txt ([0])), .int .i64 0], rfl, rfl, fun w st => (part_any n ([0]) (txt (ok n ++ [0])) ?_ (by have := z101 hs; omega) w).mono fun e w' ⟨h1, h2⟩ => ⟨h1, stands_of_below h2⟩⟩
    show ok n ++ _ = _; simp [ok]
noncomputable def rClone : List (List AV × AV) := [([.symStr 0], .symStr 0), ([.symStr 1], .symStr 1), ([.symStr 7], .symStr 7), ([.symStr 8], .symStr 8), ([.symStr 14], .symStr 14), ([.symStr 25], .symStr 25), ([.symStr 36], .symStr 36)]
theorem cClone (hs : Sc n k) : ConOK Tryz.prog (PM w0 n k ls c) 78 (.ans rClone) := by
  refine ans_ok fun r_ hr => ?_
  simp only [rClone, List.mem_cons, List.mem_nil_iff, or_false] at hr
  rcases hr with rfl | rfl | rfl | rfl | rfl | rfl | rfl
  · exact ⟨[.string (txt n)], _, rfl, rfl, fun w _ => clone_any _ (by have := z0 hs; omega) w⟩
  · exact ⟨[.string (txt k)], _, rfl, rfl, fun w _ => clone_any _ (by have := z1 hs; omega) w⟩
  · exact ⟨[.string (txt (key n [0]))], _, rfl, rfl, fun w _ => clone_any _ (by have := z30 hs; omega) w⟩
  · exact ⟨[.string (txt (key n [1]))], _, rfl, rfl, fun w _ => clone_any _ (by have := z31 hs; omega) w⟩
  · exact ⟨[.string (txt (key n (sf k 1 dr)))], _, rfl, rfl, fun w _ => clone_any _ (by have := z60 hs; omega) w⟩
  · exact ⟨[.string (txt (1 :: 0 :: 0 :: 4 :: 2 :: 0 :: 0 :: 0 :: 0 :: lD n :: (dl n ++ [0, 0, 1, 0, 1, 0])))], _, rfl, rfl, fun w _ => clone_any _ (by have := z161 hs; omega) w⟩
  · exact ⟨[.string (txt (dl n))], _, rfl, rfl, fun w _ => clone_any _ (by have := z172 hs; omega) w⟩
noncomputable def rCmp : List (List AV × AV) := [([.symStr 7, .symStr 8], .int .i64 (-1)), ([.symStr 7, .symStr 14], .int .i64 (-1)), ([.symStr 8, .symStr 14], .int .i64 (-1))]
theorem cCmp : ConOK Tryz.prog (PM w0 n k ls c) 387 (.ans rCmp) := by
  refine ans_ok fun r_ hr => ?_
  simp only [rCmp, List.mem_cons, List.mem_nil_iff, or_false] at hr
  rcases hr with rfl | rfl | rfl
  · exact ⟨[.string (txt (key n [0])), .string (txt (key n [1]))], _, rfl, rfl, fun w _ => cmp_lt (key_lt n (rfl : ltL [0] [1] = true)) w⟩
  · exact ⟨[.string (txt (key n [0])), .string (txt (key n (sf k 1 dr)))], _, rfl, rfl, fun w _ => cmp_lt (key_lt n (rfl : ltL [0] (sf k 1 dr) = true)) w⟩
  · exact ⟨[.string (txt (key n [1])), .string (txt (key n (sf k 1 dr)))], _, rfl, rfl, fun w _ => cmp_lt (key_lt n (rfl : ltL [1] (sf k 1 dr) = true)) w⟩
noncomputable def rBatch : List (List PArg × AV) := [([(.agg [.v (.int .u64 1), .row 3 [.symStr 7, .str [1], .bool false, .symStr 8, .str [1, 0, 0, 0, 1, 1, 0], .bool false, .symStr 14, .str [], .bool false]])], .tuple [.symStr 15, .int .i64 0])]
theorem cBatch (hs : Sc n k) : ConOK Tryz.prog (PM w0 n k ls c) 225 (.fn (patFn rBatch)) := by
  refine patFn_ok fun r_ hr => ?_
  simp only [rBatch, List.mem_cons, List.mem_nil_iff, or_false] at hr
  subst hr
  · refine ⟨?_, .tuple #[.string (txt (bt 1 (wr0 n k))), .int .i64 0], rfl, ?_⟩
    · intro p hp
      obtain rfl := by simpa using hp
      intro q hq
      simp only [List.mem_cons, List.mem_nil_iff, or_false] at hq
      rcases hq with rfl | rfl <;> rfl
    · rintro w ys st ⟨y, zs, rfl, ⟨l, rfl, y0, l1, rfl, h0, y1, l2, rfl, ⟨bk, off, cap, xs, rfl, hbk, hxs, hc⟩, rfl⟩, rfl⟩
      obtain rfl : Value.int .u64 1 = y0 := Option.some.inj h0
      obtain rfl : _ = xs := Option.some.inj hxs
      refine (batch_any 1 (wr0 n k) bk off cap w (by decide) hbk (by simp [wr0]) (by simp [wr0]) (wx0 hs) ?_).mono fun e w' ⟨h1, h2⟩ => ⟨h1, stands_of_below h2⟩
      intro j p hj
      match j, hj with
      | 0, hj => cases hj; exact ⟨hc 0 _ rfl, hc 1 _ rfl, hc 2 _ rfl⟩
      | 1, hj => cases hj; exact ⟨hc 3 _ rfl, hc 4 _ rfl, hc 5 _ rfl⟩
      | 2, hj => cases hj; exact ⟨hc 6 _ rfl, hc 7 _ rfl, hc 8 _ rfl⟩
noncomputable def rFrame : List (List AV × AV) := [([.symStr 15], .symStr 16)]
theorem cFrame (hs : Sc n k) : ConOK Tryz.prog (PM w0 n k ls c) 195 (.fn (rowFn rFrame)) := by
  refine rowFn_ok fun r_ hr => ?_
  simp only [rFrame, List.mem_cons, List.mem_nil_iff, or_false] at hr
  subst hr
  · exact ⟨[.string (txt (bt 1 (wr0 n k)))], .string (txt (fr (bt 1 (wr0 n k)))), rfl, rfl, fun w bk off cap _ hb hc => (frame_any (txt (bt 1 (wr0 n k))) bk off cap w hb (by have := z90 hs; omega) (hc 0 _ rfl)).mono fun e w' ⟨h1, h2⟩ => ⟨by rw [h1, txt_list], h2⟩⟩
noncomputable def rNT : List (List AV × AV) := [([.symStr 0], .symStr 21)]
theorem cNT (hs : Sc n k) : ConOK Tryz.prog (PM w0 n k ls c) 249 (.fn (rowFn rNT)) := by
  refine rowFn_ok fun r_ hr => ?_
  simp only [rNT, List.mem_cons, List.mem_nil_iff, or_false] at hr
  subst hr
  refine ⟨[.string (txt n)], .string (txt (lN n :: n)), rfl, rfl, fun w bk off cap _ hb hc => ?_⟩
  have e := tx_one hs.n2
  have h2 := hs.n2
  refine (text_any [txt n] bk off cap w hb (by simp) (by rw [e]; simp only [List.length_cons]; omega) (by intro s hq; simp at hq; subst hq; rw [txt_size]; omega) (fun j s hj => ?_)).mono fun e' w' ⟨h1, h2⟩ => ⟨by rw [h1, e], stands_of_below h2⟩
  match j, hj with
  | 0, hj => cases hj; exact hc 0 _ rfl
noncomputable def rCrc : List (List AV × AV) := [([.symStr 25], .symInt .u32 77)]
theorem cCrc (hs : Sc n k) : ConOK Tryz.prog (PM w0 n k ls c) 153 (.fn (rowFn rCrc)) := by
  refine rowFn_ok fun r_ hr => ?_
  simp only [rCrc, List.mem_cons, List.mem_nil_iff, or_false] at hr
  subst hr
  exact ⟨[.string (txt (1 :: 0 :: 0 :: 4 :: 2 :: 0 :: 0 :: 0 :: 0 :: lD n :: (dl n ++ [0, 0, 1, 0, 1, 0])))], .int .u32 (crc (1 :: 0 :: 0 :: 4 :: 2 :: 0 :: 0 :: 0 :: 0 :: lD n :: (dl n ++ [0, 0, 1, 0, 1, 0])) : Nat), rfl, rfl, fun w bk off cap _ hb hc => (crc_any (txt (1 :: 0 :: 0 :: 4 :: 2 :: 0 :: 0 :: 0 :: 0 :: lD n :: (dl n ++ [0, 0, 1, 0, 1, 0]))) bk off cap w (by have := z161 hs; omega) (hc 0 _ rfl)).mono fun e w' ⟨h1, h2⟩ => ⟨by rw [h1, txt_list], h2 ▸ st_refl _⟩⟩
noncomputable def rGet : List (List AV × AV) := [([.symStr 24, .symInt .i64 46], .symInt .u32 77)]
theorem cGet (hs : Sc n k) : ConOK Tryz.prog (PM w0 n k ls c) 152 (.ans rGet) := by
  refine ans_ok fun r_ hr => ?_
  simp only [rGet, List.mem_cons, List.mem_nil_iff, or_false] at hr
  subst hr
  · refine ⟨[.string (sealed (txt (1 :: 0 :: 0 :: 4 :: 2 :: 0 :: 0 :: 0 :: 0 :: lD n :: (dl n ++ [0, 0, 1, 0, 1, 0])))), .int .i64 ((txt (1 :: 0 :: 0 :: 4 :: 2 :: 0 :: 0 :: 0 :: 0 :: lD n :: (dl n ++ [0, 0, 1, 0, 1, 0]))).size : Nat)], _, rfl, rfl, fun w _ => (get_any (sealed (txt (1 :: 0 :: 0 :: 4 :: 2 :: 0 :: 0 :: 0 :: 0 :: lD n :: (dl n ++ [0, 0, 1, 0, 1, 0])))) (txt (1 :: 0 :: 0 :: 4 :: 2 :: 0 :: 0 :: 0 :: 0 :: lD n :: (dl n ++ [0, 0, 1, 0, 1, 0]))).size (by rw [(z160 hs).1]; omega) (by have := z160 hs; omega) w).mono fun e w' ⟨h1, h2⟩ => ⟨?_, h2 ▸ st_refl _⟩⟩
    rw [h1, sealed_rd, txt_list]
noncomputable def rRText : List (List AV × AV) := [([.symStr 0], .symStr 21), ([.str []], .str [0]), ([.str [0]], .str [1, 0]), ([.str [1, 0, 0, 0, 2, 1, 0]], .str [7, 1, 0, 0, 0, 2, 1, 0])]
theorem cRText (hs : Sc n k) : ConOK Tryz.prog (PM w0 n k ls c) 33 (.ans rRText) := by
  refine ans_ok fun r_ hr => ?_
  simp only [rRText, List.mem_cons, List.mem_nil_iff, or_false] at hr
  rcases hr with rfl | rfl | rfl | rfl
  · exact ⟨[.string (txt n)], .string (txt (lN n :: n)), rfl, rfl, fun w _ => rtext_of n (by have := hs.n2; omega) w⟩
  · exact ⟨[.string ⟨#[]⟩], .string (txt [0]), rfl, rfl, fun w _ => rtext_nil w⟩
  · exact ⟨[.string (txt [0])], .string (txt [1, 0]), rfl, rfl, fun w _ => rtext_zero w⟩
  · exact ⟨[.string (txt [1, 0, 0, 0, 2, 1, 0])], .string (txt [7, 1, 0, 0, 0, 2, 1, 0]), rfl, rfl, fun w _ => rtext_of [1, 0, 0, 0, 2, 1, 0] (by decide) w⟩
noncomputable def rPutC : List (List PArg × AV) := [([(.one (.v .nils))], .str [0]), ([(.one (.row 1 [.int .u8 0, .int .u8 0, .int .u8 0, .int .u8 2, .int .u64 1, .int .u64 1]))], .str [1, 0, 0, 0, 2, 1, 0])]
theorem cPutC : ConOK Tryz.prog (PM w0 n k ls c) 38 (.fn (patFn rPutC)) := by
  refine patFn_ok fun r_ hr => ?_
  simp only [rPutC, List.mem_cons, List.mem_nil_iff, or_false] at hr
  rcases hr with rfl | rfl
  · refine ⟨?_, .string (txt [0]), rfl, ?_⟩
    · intro p hp
      obtain rfl := by simpa using hp
      first | rfl | trivial | exact ⟨_, rfl⟩
    · rintro w ys st ⟨y, zs, rfl, hh, rfl⟩
      obtain rfl : Value.slice none 0 0 = y := Option.some.inj hh
      exact rput_nil w
  · refine ⟨?_, .string (txt [1, 0, 0, 0, 2, 1, 0]), rfl, ?_⟩
    · intro p hp
      obtain rfl := by simpa using hp
      first | rfl | trivial | exact ⟨_, rfl⟩
    · rintro w ys st ⟨y, zs, rfl, ⟨bk, off, cap, xs, rfl, hbk, hxs, hc⟩, rfl⟩
      obtain rfl : _ = xs := Option.some.inj hxs
      exact rput_row bk off cap w hc
/-- the message is weighed: yes or no -/
def Weighed (w0 : World) (c : Nat → Value) : Prop := ∀ w : World, Stands w0 w → Calls Tryz.prog 20 #[.agg #[c 0, c 1, c 2, c 3, c 4, c 5, c 6, c 7, c 8, c 9, c 10, c 11, c 12, c 13, c 14, c 15, c 16, c 17]] w fun e w' => ∃ b, e = .returned (.bool b) ∧ Stands w w'
theorem concL_sym {η : Env} {x : AV} {v : Value} {l : List AV} {xs : List Value} (h : conc η x = some v) (h2 : concL η l = some xs) : concL η (x :: l) = some (v :: xs) := by simp only [concL, h, h2]
theorem argM (hc : Cells ls c) : concL (env0 (sg n k ls c)) [.symC 82, .symC 83, .symC 84, .symC 85, .symC 86, .symC 87, .symC 88, .symC 89, .symC 90, .symC 91, .symC 92, .symC 93, .symC 94, .symC 95, .symC 96, .symC 97, .symC 98, .symC 99] = some [c 0, c 1, c 2, c 3, c 4, c 5, c 6, c 7, c 8, c 9, c 10, c 11, c 12, c 13, c 14, c 15, c 16, c 17] := by
  have h : ∀ j, j < 18 → (match some (c j) with | some v => if v.oneCell' = true then some v else none | none => none) = some (c j) := fun j hj => by simp only [hc.one j hj, if_true]
  have h0 : conc (env0 (sg n k ls c)) (.symC 82) = some (c 0) := h 0 (by decide)
  have h1 : conc (env0 (sg n k ls c)) (.symC 83) = some (c 1) := h 1 (by decide)
  have h2 : conc (env0 (sg n k ls c)) (.symC 84) = some (c 2) := h 2 (by decide)
  have h3 : conc (env0 (sg n k ls c)) (.symC 85) = some (c 3) := h 3 (by decide)
  have h4 : conc (env0 (sg n k ls c)) (.symC 86) = some (c 4) := h 4 (by decide)
  have h5 : conc (env0 (sg n k ls c)) (.symC 87) = some (c 5) := h 5 (by decide)
  have h6 : conc (env0 (sg n k ls c)) (.symC 88) = some (c 6) := h 6 (by decide)
  have h7 : conc (env0 (sg n k ls c)) (.symC 89) = some (c 7) := h 7 (by decide)
  have h8 : conc (env0 (sg n k ls c)) (.symC 90) = some (c 8) := h 8 (by decide)
  have h9 : conc (env0 (sg n k ls c)) (.symC 91) = some (c 9) := h 9 (by decide)
  have h10 : conc (env0 (sg n k ls c)) (.symC 92) = some (c 10) := h 10 (by decide)
  have h11 : conc (env0 (sg n k ls c)) (.symC 93) = some (c 11) := h 11 (by decide)
  have h12 : conc (env0 (sg n k ls c)) (.symC 94) = some (c 12) := h 12 (by decide)
  have h13 : conc (env0 (sg n k ls c)) (.symC 95) = some (c 13) := h 13 (by decide)
  have h14 : conc (env0 (sg n k ls c)) (.symC 96) = some (c 14) := h 14 (by decide)
  have h15 : conc (env0 (sg n k ls c)) (.symC 97) = some (c 15) := h 15 (by decide)
  have h16 : conc (env0 (sg n k ls c)) (.symC 98) = some (c 16) := h 16 (by decide)
  have h17 : conc (env0 (sg n k ls c)) (.symC 99) = some (c 17) := h 17 (by decide)
  exact concL_sym h0 <| concL_sym h1 <| concL_sym h2 <| concL_sym h3 <| concL_sym h4 <| concL_sym h5 <| concL_sym h6 <| concL_sym h7 <| concL_sym h8 <| concL_sym h9 <| concL_sym h10 <| concL_sym h11 <| concL_sym h12 <| concL_sym h13 <| concL_sym h14 <| concL_sym h15 <| concL_sym h16 <| concL_sym h17 rfl
theorem cSmall (hc : Cells ls c) (hw : Weighed w0 c) : ConOK Tryz.prog (PM w0 n k ls c) 20 (.flag [.agg [.symC 82, .symC 83, .symC 84, .symC 85, .symC 86, .symC 87, .symC 88, .symC 89, .symC 90, .symC 91, .symC 92, .symC 93, .symC 94, .symC 95, .symC 96, .symC 97, .symC 98, .symC 99]]) := by
  refine flag_ok (xs := [.agg #[c 0, c 1, c 2, c 3, c 4, c 5, c 6, c 7, c 8, c 9, c 10, c 11, c 12, c 13, c 14, c 15, c 16, c 17]]) ?_ hw
  have e := argM (n := n) (k := k) hc
  show (match (match concL (env0 (sg n k ls c)) [.symC 82, .symC 83, .symC 84, .symC 85, .symC 86, .symC 87, .symC 88, .symC 89, .symC 90, .symC 91, .symC 92, .symC 93, .symC 94, .symC 95, .symC 96, .symC 97, .symC 98, .symC 99] with | some x => some (Value.agg x.toArray) | none => none), some ([] : List Value) with | some x, some xs => some (x :: xs) | _, _ => none) = _
  rw [e]
noncomputable def rSort : List (List AV × List AV) := [([.symStr 7, .symStr 8, .symStr 14], [.symStr 7, .symStr 8, .symStr 14]), ([.symStr 7, .symStr 14, .symStr 8], [.symStr 7, .symStr 8, .symStr 14]), ([.symStr 8, .symStr 7, .symStr 14], [.symStr 7, .symStr 8, .symStr 14]), ([.symStr 8, .symStr 14, .symStr 7], [.symStr 7, .symStr 8, .symStr 14]), ([.symStr 14, .symStr 7, .symStr 8], [.symStr 7, .symStr 8, .symStr 14]), ([.symStr 14, .symStr 8, .symStr 7], [.symStr 7, .symStr 8, .symStr 14])]
theorem cSort : ConOK Tryz.prog (PM w0 n k ls c) 329 (.fn (sortFn rSort)) := by
  refine sortFn_ok (fun r_ hr => ?_) fun blk off cap ss w h1 h2 h3 => AnyM.slices_Sort_string Tryz.mSort blk off cap ss w h1 h2 h3
  simp only [rSort, List.mem_cons, List.mem_nil_iff, or_false] at hr
  rcases hr with rfl | rfl | rfl | rfl | rfl | rfl
  · exact ⟨[key n [0], key n [1], key n (sf k 1 dr)], [key n [0], key n [1], key n (sf k 1 dr)], rfl, rfl, sort_row (List.Perm.refl _) (pw3 (key_lt n (rfl : ltL [0] [1] = true)) (key_lt n (rfl : ltL [0] (sf k 1 dr) = true)) (key_lt n (rfl : ltL [1] (sf k 1 dr) = true)))⟩
  · exact ⟨[key n [0], key n (sf k 1 dr), key n [1]], [key n [0], key n [1], key n (sf k 1 dr)], rfl, rfl, sort_row (pm1 _ _ _) (pw3 (key_lt n (rfl : ltL [0] [1] = true)) (key_lt n (rfl : ltL [0] (sf k 1 dr) = true)) (key_lt n (rfl : ltL [1] (sf k 1 dr) = true)))⟩
  · exact ⟨[key n [1], key n [0], key n (sf k 1 dr)], [key n [0], key n [1], key n (sf k 1 dr)], rfl, rfl, sort_row (pm2 _ _ _) (pw3 (key_lt n (rfl : ltL [0] [1] = true)) (key_lt n (rfl : ltL [0] (sf k 1 dr) = true)) (key_lt n (rfl : ltL [1] (sf k 1 dr) = true)))⟩
  · exact ⟨[key n [1], key n (sf k 1 dr), key n [0]], [key n [0], key n [1], key n (sf k 1 dr)], rfl, rfl, sort_row (pm3 _ _ _) (pw3 (key_lt n (rfl : ltL [0] [1] = true)) (key_lt n (rfl : ltL [0] (sf k 1 dr) = true)) (key_lt n (rfl : ltL [1] (sf k 1 dr) = true)))⟩
  · exact ⟨[key n (sf k 1 dr), key n [0], key n [1]], [key n [0], key n [1], key n (sf k 1 dr)], rfl, rfl, sort_row (pm4 _ _ _) (pw3 (key_lt n (rfl : ltL [0] [1] = true)) (key_lt n (rfl : ltL [0] (sf k 1 dr) = true)) (key_lt n (rfl : ltL [1] (sf k 1 dr) = true)))⟩
  · exact ⟨[key n (sf k 1 dr), key n [1], key n [0]], [key n [0], key n [1], key n (sf k 1 dr)], rfl, rfl, sort_row (pm5 _ _ _) (pw3 (key_lt n (rfl : ltL [0] [1] = true)) (key_lt n (rfl : ltL [0] (sf k 1 dr) = true)) (key_lt n (rfl : ltL [1] (sf k 1 dr) = true)))⟩
noncomputable def baseM : List (FuncId × Con) := [(205, .ans rText), (466, .ans rPart), (78, .ans rClone), (387, .ans rCmp), (225, .fn (patFn rBatch)), (195, .fn (rowFn rFrame)), (249, .fn (rowFn rNT)), (153, .fn (rowFn rCrc)), (152, .ans rGet), (33, .ans rRText), (38, .fn (patFn rPutC)), (20, .flag [.agg [.symC 82, .symC 83, .symC 84, .symC 85, .symC 86, .symC 87, .symC 88, .symC 89, .symC 90, .symC 91, .symC 92, .symC 93, .symC 94, .symC 95, .symC 96, .symC 97, .symC 98, .symC 99]]), (329, .fn (sortFn rSort)), (311, .fn cmpRows), (7, .yes [])]
theorem baseM_ok (hs : Sc n k) (hc : Cells ls c) (hw : Weighed w0 c) {m : Int} (hm : w0.cell? ⟨0, 0, none⟩ = some (.int .i64 m)) : ∀ p ∈ baseM, ConOK Tryz.prog (PM w0 n k ls c) p.1 p.2 := by
  intro p hp
  simp only [baseM, List.mem_cons, List.mem_nil_iff, or_false] at hp
  rcases hp with rfl | rfl | rfl | rfl | rfl | rfl | rfl | rfl | rfl | rfl | rfl | rfl | rfl | rfl | rfl
  · exact cText hs hm
  · exact cPart hs
  · exact cClone hs
  · exact cCmp
  · exact cBatch hs
  · exact cFrame hs
  · exact cNT hs
  · exact cCrc hs
  · exact cGet hs
  · exact cRText hs
  · exact cPutC
  · exact cSmall hc hw
  · exact cSort
  · exact conBytes
  · exact yes_ok rfl fun w _ => alive_yes w
theorem progM {cs : List (FuncId × Con)} (hs : Sc n k) (hc : Cells ls c) (K : ∀ p ∈ cs, ConOK Tryz.prog (PM w0 n k ls c) p.1 p.2) : ProgOK Tryz.prog (CM cs (sg n k ls c)) (PM w0 n k ls c) :=
  withAll_ok (ctx_ok moreM K) (fun _ _ _ h => h.σ) (fun _ _ _ _ _ _ _ h => by cases h) (factsOk hs) (ofactsOk hs hc)
noncomputable def in_q : Heap := heapOf [0xbfc0000]
noncomputable def out_q : Heap := heapOf [0xc450000]
noncomputable def arg_q : AV := avOf [0x600060006000600000000000300010000000000000002000000020000000200060006000600000002000000000003000100000000000300010001000000030001000200000003000100020000000300010012000f]
noncomputable def in_z : Heap := heapOf [0xc46000000000000000000000000000000000000000000000000000000350006000000000000000100000007000100020000000000040001000200000000000100000007000100020000000000020000000400010002000000000004000100020000000000040001000200000002000000010001000100010000000100010001000100000001000000010001]
noncomputable def out_z : Heap := heapOf [0xcfa000000000000000000000000000000000000000000000000000000350006000000000000000100000007000100020000000000040001000200000000000100000007000100020000000000020000000400010002000000000004000100020000000000040001000200000002000000010001000100010000000100010001000100000001000000010001]
noncomputable def arg_z : AV := avOf [0x600010000000100000c45000700060000001300010000000300010005000f]
theorem pmr_dl (n : List UInt8) : pmr (dl n) = 1 :: 0 :: 0 :: 4 :: 2 :: 0 :: 0 :: 0 :: 0 :: lD n :: (dl n ++ [0, 0, 1, 0, 1, 0]) := by
  have e : UInt8.ofNat (dl n).length = lD n := by rw [dl_len]; rfl
  simp [pmr, e]
theorem run_q (σ0 : Nat → Option Value) : isOuts (runF (CM baseM σ0) 100000 12 [arg_q] in_q) [(.str [2, 0, 0, 4, 2, 0, 0, 0, 0, 0, 0, 0, 1, 0, 1, 0, 204, 200, 140, 220], out_q)] = true := by kernel_rfl
theorem run_z (σ0 : Nat → Option Value) : isOuts (runF (CM baseM σ0) 100000 34 [arg_z] in_z) [(.tuple [.symStr 36, .int .i64 0], out_z)] = true := by kernel_rfl
noncomputable def msgsM : List (List AV × Heap × List (AV × Heap)) := [([arg_q], in_q, [(.str [2, 0, 0, 4, 2, 0, 0, 0, 0, 0, 0, 0, 1, 0, 1, 0, 204, 200, 140, 220], out_q)]), ([.agg [.int .i64 1, .int .i64 2, .int .i64 1, .int .i64 0, .int .i64 1, .symStr 0, .nils, .slice 3141 0 1 (.lit 1), .nils, .str [], .str [], .str [], .bool false, .int .i64 0, .nils, .nils, .nils, .nils]], in_z, [(.symStr 24, out_z)])]
theorem cMsg (hs : Sc n k) (hc : Cells ls c) (hw : Weighed w0 c) {m : Int} (hm : w0.cell? ⟨0, 0, none⟩ = some (.int .i64 m)) : ConOK Tryz.prog (PM w0 n k ls c) 12 (.known msgsM) := by
  refine refmsg_known fun r_ hr => ?_
  simp only [msgsM, List.mem_cons, List.mem_nil_iff, or_false] at hr
  rcases hr with rfl | rfl
  · exact .inl ⟨CM baseM (sg n k ls c), 100000, progM hs hc (baseM_ok hs hc hw hm), by rw [← runF_eq]; exact isOuts_eq (run_q _)⟩
  · refine .inr ⟨dl n, 1, .symStr 0, txt n, .nils, (.slice 3141 0 1 (.lit 1)), .nils, .symStr 24, .symStr 36, out_z, sg n k ls c, by have := dl_len n; have := hs.n2; omega, rfl, rfl, fun η H w o => ⟨fun _ _ h => (by cases h), fun _ _ h => (by cases h), o.σ⟩, rfl, rfl, ?_, CM baseM (sg n k ls c), 100000, progM hs hc (baseM_ok hs hc hw hm), by rw [← runF_eq]; exact isOuts_eq (run_z _)⟩
    rw [pmr_dl]
    show some (Value.string (sealed _)) = _
    unfold sealed
    rw [txt_list]
noncomputable def consM : List (FuncId × Con) := (12, .known msgsM) :: baseM
theorem consM_ok (hs : Sc n k) (hc : Cells ls c) (hw : Weighed w0 c) {m : Int} (hm : w0.cell? ⟨0, 0, none⟩ = some (.int .i64 m)) : ∀ p ∈ consM, ConOK Tryz.prog (PM w0 n k ls c) p.1 p.2 := by
  unfold consM
  exact List.forall_mem_cons.2 ⟨cMsg hs hc hw hm, baseM_ok hs hc hw hm⟩
end
end Go.Proofs.YtbanldnjpnfgkaaGreatDoor.Wk
