/-
  Part of the proof of a statement of this seat: walks of its functions and the closed run; no condition but those written in each theorem.
-/
import Derived.Test.YtckjnglhbjiklaaGreatDoorCT
import Derived.Test.YtckjnglhbjiklaaGreatDoorKA
namespace Go.Proofs.YtckjnglhbjiklaaGreatDoor.Wk
set_option maxRecDepth 100000
open Go.RowKit Go.VmK Go.NumPure Go.Shelf
abbrev w0Eq (n e _r : List UInt8) : List (ByteArray × ByteArray) := [(txt (key n [0]), ⟨#[1]⟩), (txt (key n [1]), ⟨#[1, 0, 0, 0, 1, 1, 0]⟩), (txt (key n (sf e 1 (dotk 1))), ⟨#[]⟩)]
abbrev w1Eq (n e _r : List UInt8) : List (ByteArray × ByteArray) := [(txt (key n [1]), ⟨#[1, 0, 0, 0, 1, 1, 1]⟩), (txt (key n (sf e 1 (dotk 2))), ⟨#[]⟩)]
abbrev w2Eq (n e _r : List UInt8) : List (ByteArray × ByteArray) := [(txt (key n [1]), ⟨#[1, 0, 0, 0, 1, 1, 2]⟩), (txt (key n (sf e 1 (dotk 3))), ⟨#[]⟩)]
abbrev w3Eq (n _e _r : List UInt8) : List (ByteArray × ByteArray) := [(txt (key n [1]), ⟨#[1, 0, 0, 0, 1, 1, 3]⟩), (txt (key n [2]), ⟨#[1, 0, 0, 0, 1, 1, 1]⟩)]
abbrev w4Eq (n _e _r : List UInt8) : List (ByteArray × ByteArray) := [(txt (key n [1]), ⟨#[1, 0, 0, 0, 1, 1, 2]⟩), (txt (key n [2]), ⟨#[1, 0, 0, 0, 1, 1, 1]⟩)]
section
variable {n e r : List UInt8}
theorem wxEq0 (hs : Sc n e r) : ∀ p ∈ ((w0Eq n e r) : List (ByteArray × ByteArray)), p.1.size ≤ 300 ∧ p.2.size ≤ 1000 := by
  intro p hp
  simp only [w0Eq, List.mem_cons, List.mem_nil_iff, or_false] at hp
  rcases hp with rfl | rfl | rfl
  · exact ⟨Nat.le_trans (z30 hs).2 (by decide), (by decide : (⟨#[1]⟩ : ByteArray).size ≤ 1000)⟩
  · exact ⟨Nat.le_trans (z31 hs).2 (by decide), (by decide : (⟨#[1, 0, 0, 0, 1, 1, 0]⟩ : ByteArray).size ≤ 1000)⟩
  · exact ⟨Nat.le_trans (z60 hs).2 (by decide), (by decide : (⟨#[]⟩ : ByteArray).size ≤ 1000)⟩
theorem zEq90 (hs : Sc n e r) : 0 ≤ (txt (bt 1 (w0Eq n e r))).size ∧ (txt (bt 1 (w0Eq n e r))).size ≤ 4100 := by
  have := bt_size (first := 1) (by omega) (by simp [w0Eq]) (wxEq0 hs)
  rw [txt_size]
  simp only [w0Eq, List.length_cons, List.length_nil] at this
  simp only [w0Eq]
  omega
theorem zEq91 (hs : Sc n e r) : 0 ≤ (txt (fr (bt 1 (w0Eq n e r)))).size ∧ (txt (fr (bt 1 (w0Eq n e r)))).size ≤ 4200 := by
  have h := zEq90 hs
  rw [txt_size] at h
  rw [fr_size]
  omega
theorem wxEq1 (hs : Sc n e r) : ∀ p ∈ ((w1Eq n e r) : List (ByteArray × ByteArray)), p.1.size ≤ 300 ∧ p.2.size ≤ 1000 := by
  intro p hp
  simp only [w1Eq, List.mem_cons, List.mem_nil_iff, or_false] at hp
  rcases hp with rfl | rfl
  · exact ⟨Nat.le_trans (z31 hs).2 (by decide), (by decide : (⟨#[1, 0, 0, 0, 1, 1, 1]⟩ : ByteArray).size ≤ 1000)⟩
  · exact ⟨Nat.le_trans (z63 hs).2 (by decide), (by decide : (⟨#[]⟩ : ByteArray).size ≤ 1000)⟩
theorem zEq92 (hs : Sc n e r) : 0 ≤ (txt (bt 4 (w1Eq n e r))).size ∧ (txt (bt 4 (w1Eq n e r))).size ≤ 4100 := by
  have := bt_size (first := 4) (by omega) (by simp [w1Eq]) (wxEq1 hs)
  rw [txt_size]
  simp only [w1Eq, List.length_cons, List.length_nil] at this
  simp only [w1Eq]
  omega
theorem zEq93 (hs : Sc n e r) : 0 ≤ (txt (fr (bt 4 (w1Eq n e r)))).size ∧ (txt (fr (bt 4 (w1Eq n e r)))).size ≤ 4200 := by
  have h := zEq92 hs
  rw [txt_size] at h
  rw [fr_size]
  omega
theorem wxEq2 (hs : Sc n e r) : ∀ p ∈ ((w2Eq n e r) : List (ByteArray × ByteArray)), p.1.size ≤ 300 ∧ p.2.size ≤ 1000 := by
  intro p hp
  simp only [w2Eq, List.mem_cons, List.mem_nil_iff, or_false] at hp
  rcases hp with rfl | rfl
  · exact ⟨Nat.le_trans (z31 hs).2 (by decide), (by decide : (⟨#[1, 0, 0, 0, 1, 1, 2]⟩ : ByteArray).size ≤ 1000)⟩
  · exact ⟨Nat.le_trans (z62 hs).2 (by decide), (by decide : (⟨#[]⟩ : ByteArray).size ≤ 1000)⟩
theorem zEq94 (hs : Sc n e r) : 0 ≤ (txt (bt 6 (w2Eq n e r))).size ∧ (txt (bt 6 (w2Eq n e r))).size ≤ 4100 := by
  have := bt_size (first := 6) (by omega) (by simp [w2Eq]) (wxEq2 hs)
  rw [txt_size]
  simp only [w2Eq, List.length_cons, List.length_nil] at this
  simp only [w2Eq]
  omega
theorem zEq95 (hs : Sc n e r) : 0 ≤ (txt (fr (bt 6 (w2Eq n e r)))).size ∧ (txt (fr (bt 6 (w2Eq n e r)))).size ≤ 4200 := by
  have h := zEq94 hs
  rw [txt_size] at h
  rw [fr_size]
  omega
theorem wxEq3 (hs : Sc n e r) : ∀ p ∈ ((w3Eq n e r) : List (ByteArray × ByteArray)), p.1.size ≤ 300 ∧ p.2.size ≤ 1000 := by
  intro p hp
  simp only [w3Eq, List.mem_cons, List.mem_nil_iff, or_false] at hp
  rcases hp with rfl | rfl
  · exact ⟨Nat.le_trans (z31 hs).2 (by decide), (by decide : (⟨#[1, 0, 0, 0, 1, 1, 3]⟩ : ByteArray).size ≤ 1000)⟩
  · exact ⟨Nat.le_trans (z32 hs).2 (by decide), (by decide : (⟨#[1, 0, 0, 0, 1, 1, 1]⟩ : ByteArray).size ≤ 1000)⟩
theorem zEq96 (hs : Sc n e r) : 0 ≤ (txt (bt 8 (w3Eq n e r))).size ∧ (txt (bt 8 (w3Eq n e r))).size ≤ 4100 := by
  have := bt_size (first := 8) (by omega) (by simp [w3Eq]) (wxEq3 hs)
  rw [txt_size]
  simp only [w3Eq, List.length_cons, List.length_nil] at this
  simp only [w3Eq]
  omega
theorem zEq97 (hs : Sc n e r) : 0 ≤ (txt (fr (bt 8 (w3Eq n e r)))).size ∧ (txt (fr (bt 8 (w3Eq n e r)))).size ≤ 4200 := by
  have h := zEq96 hs
  rw [txt_size] at h
  rw [fr_size]
  omega
theorem wxEq4 (hs : Sc n e r) : ∀ p ∈ ((w4Eq n e r) : List (ByteArray × ByteArray)), p.1.size ≤ 300 ∧ p.2.size ≤ 1000 := by
  intro p hp
  simp only [w4Eq, List.mem_cons, List.mem_nil_iff, or_false] at hp
  rcases hp with rfl | rfl
  · exact ⟨Nat.le_trans (z31 hs).2 (by decide), (by decide : (⟨#[1, 0, 0, 0, 1, 1, 2]⟩ : ByteArray).size ≤ 1000)⟩
  · exact ⟨Nat.le_trans (z32 hs).2 (by decide), (by decide : (⟨#[1, 0, 0, 0, 1, 1, 1]⟩ : ByteArray).size ≤ 1000)⟩
theorem zEq98 (hs : Sc n e r) : 0 ≤ (txt (bt 6 (w4Eq n e r))).size ∧ (txt (bt 6 (w4Eq n e r))).size ≤ 4100 := by
  have := bt_size (first := 6) (by omega) (by simp [w4Eq]) (wxEq4 hs)
  rw [txt_size]
  simp only [w4Eq, List.length_cons, List.length_nil] at this
  simp only [w4Eq]
  omega
theorem zEq99 (hs : Sc n e r) : 0 ≤ (txt (fr (bt 6 (w4Eq n e r)))).size ∧ (txt (fr (bt 6 (w4Eq n e r)))).size ≤ 4200 := by
  have h := zEq98 hs
  rw [txt_size] at h
  rw [fr_size]
  omega
theorem zEq131 (hs : Sc n e r) : 0 ≤ ((txt (fr (bt 1 (w0Eq n e r))) ++ txt (fr (bt 4 (w1Eq n e r))))).size ∧ ((txt (fr (bt 1 (w0Eq n e r))) ++ txt (fr (bt 4 (w1Eq n e r))))).size ≤ 8400 := by
  have h := zEq93 hs
  have h2 := zEq91 hs
  rw [ByteArray.size_append]
  omega
theorem zEq132 (hs : Sc n e r) : 0 ≤ (((txt (fr (bt 1 (w0Eq n e r))) ++ txt (fr (bt 4 (w1Eq n e r)))) ++ txt (fr (bt 6 (w2Eq n e r))))).size ∧ (((txt (fr (bt 1 (w0Eq n e r))) ++ txt (fr (bt 4 (w1Eq n e r)))) ++ txt (fr (bt 6 (w2Eq n e r))))).size ≤ 12600 := by
  have h := zEq95 hs
  have h2 := zEq131 hs
  rw [ByteArray.size_append]
  omega
theorem zEq133 (hs : Sc n e r) : 0 ≤ ((((txt (fr (bt 1 (w0Eq n e r))) ++ txt (fr (bt 4 (w1Eq n e r)))) ++ txt (fr (bt 6 (w2Eq n e r)))) ++ txt (fr (bt 8 (w3Eq n e r))))).size ∧ ((((txt (fr (bt 1 (w0Eq n e r))) ++ txt (fr (bt 4 (w1Eq n e r)))) ++ txt (fr (bt 6 (w2Eq n e r)))) ++ txt (fr (bt 8 (w3Eq n e r))))).size ≤ 16800 := by
  have h := zEq97 hs
  have h2 := zEq132 hs
  rw [ByteArray.size_append]
  omega
theorem zEq134 (hs : Sc n e r) : 0 ≤ (((txt (fr (bt 1 (w0Eq n e r))) ++ txt (fr (bt 4 (w1Eq n e r)))) ++ txt (fr (bt 6 (w4Eq n e r))))).size ∧ (((txt (fr (bt 1 (w0Eq n e r))) ++ txt (fr (bt 4 (w1Eq n e r)))) ++ txt (fr (bt 6 (w4Eq n e r))))).size ≤ 21000 := by
  have h := zEq99 hs
  have h2 := zEq131 hs
  rw [ByteArray.size_append]
  omega
theorem zEq155 (hs : Sc n e r) : 0 ≤ (txt (itm (txt e) (txt (dotk 1)) ⟨#[]⟩)).size ∧ (txt (itm (txt e) (txt (dotk 1)) ⟨#[]⟩)).size ≤ 500 := by
  have b := itm_len e 1 (hs.e2)
  rw [txt_size]
  omega
theorem zEq150 (hs : Sc n e r) : 0 ≤ (txt ((1 :: tx [txt n]) ++ itm (txt e) (txt (dotk 1)) ⟨#[]⟩)).size ∧ (txt ((1 :: tx [txt n]) ++ itm (txt e) (txt (dotk 1)) ⟨#[]⟩)).size ≤ 700 := by
  have a := (z105 hs).2
  have b := itm_len e 1 (hs.e2)
  rw [txt_size] at a
  simp only [txt_size, List.length_append, List.length_cons] at a ⊢
  omega
theorem zEq140 (hs : Sc n e r) : 0 ≤ (txt (((1 :: tx [txt n]) ++ itm (txt e) (txt (dotk 1)) ⟨#[]⟩) ++ [7, 1, 0, 0, 0, 1, 1, 0, 1, 0])).size ∧ (txt (((1 :: tx [txt n]) ++ itm (txt e) (txt (dotk 1)) ⟨#[]⟩) ++ [7, 1, 0, 0, 0, 1, 1, 0, 1, 0])).size ≤ 700 := by
  have a := (z105 hs).2
  have b := itm_len e 1 (hs.e2)
  rw [txt_size] at a
  simp only [txt_size, List.length_append, List.length_cons, List.length_nil] at a ⊢
  omega
theorem zEq156 (hs : Sc n e r) : 0 ≤ (txt (itm (txt e) (txt (dotk 2)) ⟨#[]⟩)).size ∧ (txt (itm (txt e) (txt (dotk 2)) ⟨#[]⟩)).size ≤ 500 := by
  have b := itm_len e 2 (hs.e2)
  rw [txt_size]
  omega
theorem zEq151 (hs : Sc n e r) : 0 ≤ (txt ((1 :: tx [txt n]) ++ itm (txt e) (txt (dotk 2)) ⟨#[]⟩)).size ∧ (txt ((1 :: tx [txt n]) ++ itm (txt e) (txt (dotk 2)) ⟨#[]⟩)).size ≤ 700 := by
  have a := (z105 hs).2
  have b := itm_len e 2 (hs.e2)
  rw [txt_size] at a
  simp only [txt_size, List.length_append, List.length_cons] at a ⊢
  omega
theorem zEq141 (hs : Sc n e r) : 0 ≤ (txt (((1 :: tx [txt n]) ++ itm (txt e) (txt (dotk 2)) ⟨#[]⟩) ++ [7, 1, 0, 0, 0, 1, 2, 0, 1, 0])).size ∧ (txt (((1 :: tx [txt n]) ++ itm (txt e) (txt (dotk 2)) ⟨#[]⟩) ++ [7, 1, 0, 0, 0, 1, 2, 0, 1, 0])).size ≤ 700 := by
  have a := (z105 hs).2
  have b := itm_len e 2 (hs.e2)
  rw [txt_size] at a
  simp only [txt_size, List.length_append, List.length_cons, List.length_nil] at a ⊢
  omega
theorem zEq157 (hs : Sc n e r) : 0 ≤ (txt (itm (txt e) (txt (dotk 3)) ⟨#[]⟩)).size ∧ (txt (itm (txt e) (txt (dotk 3)) ⟨#[]⟩)).size ≤ 500 := by
  have b := itm_len e 3 (hs.e2)
  rw [txt_size]
  omega
theorem zEq152 (hs : Sc n e r) : 0 ≤ (txt ((1 :: tx [txt n]) ++ itm (txt e) (txt (dotk 3)) ⟨#[]⟩)).size ∧ (txt ((1 :: tx [txt n]) ++ itm (txt e) (txt (dotk 3)) ⟨#[]⟩)).size ≤ 700 := by
  have a := (z105 hs).2
  have b := itm_len e 3 (hs.e2)
  rw [txt_size] at a
  simp only [txt_size, List.length_append, List.length_cons] at a ⊢
  omega
theorem zEq142 (hs : Sc n e r) : 0 ≤ (txt (((1 :: tx [txt n]) ++ itm (txt e) (txt (dotk 3)) ⟨#[]⟩) ++ [7, 1, 0, 0, 0, 1, 3, 0, 1, 0])).size ∧ (txt (((1 :: tx [txt n]) ++ itm (txt e) (txt (dotk 3)) ⟨#[]⟩) ++ [7, 1, 0, 0, 0, 1, 3, 0, 1, 0])).size ≤ 700 := by
  have a := (z105 hs).2
  have b := itm_len e 3 (hs.e2)
  rw [txt_size] at a
  simp only [txt_size, List.length_append, List.length_cons, List.length_nil] at a ⊢
  omega
theorem zEq153 (hs : Sc n e r) : 0 ≤ (txt ((1 :: tx [txt n]) ++ [0])).size ∧ (txt ((1 :: tx [txt n]) ++ [0])).size ≤ 700 := by
  have a := (z105 hs).2
  rw [txt_size] at a
  simp only [txt_size, List.length_append, List.length_cons, List.length_nil] at a ⊢
  omega
theorem zEq143 (hs : Sc n e r) : 0 ≤ (txt (((1 :: tx [txt n]) ++ [0]) ++ [7, 1, 0, 0, 0, 1, 4, 0, 7, 1, 0, 0, 0, 1, 1, 1])).size ∧ (txt (((1 :: tx [txt n]) ++ [0]) ++ [7, 1, 0, 0, 0, 1, 4, 0, 7, 1, 0, 0, 0, 1, 1, 1])).size ≤ 700 := by
  have a := (z105 hs).2
  rw [txt_size] at a
  simp only [txt_size, List.length_append, List.length_cons, List.length_nil] at a ⊢
  omega
theorem zEq144 (hs : Sc n e r) : 0 ≤ (txt (((1 :: tx [txt n]) ++ [0]) ++ [7, 1, 0, 0, 0, 1, 3, 0, 7, 1, 0, 0, 0, 1, 1, 1])).size ∧ (txt (((1 :: tx [txt n]) ++ [0]) ++ [7, 1, 0, 0, 0, 1, 3, 0, 7, 1, 0, 0, 0, 1, 1, 1])).size ≤ 700 := by
  have a := (z105 hs).2
  rw [txt_size] at a
  simp only [txt_size, List.length_append, List.length_cons, List.length_nil] at a ⊢
  omega
end
def mEq100 (n _e _r : List UInt8) : Int := (0 : Int) + Int.ofNat (txt (key n [0])).size
theorem bEq100 {n e r : List UInt8} (hs : Sc n e r) : 0 ≤ mEq100 n e r ∧ mEq100 n e r ≤ 84 := by
  have h2 := z30 hs
  simp only [mEq100, Int.ofNat_eq_natCast]
  omega
def mEq101 (n e r : List UInt8) : Int := mEq100 n e r + 1
theorem bEq101 {n e r : List UInt8} (hs : Sc n e r) : 0 ≤ mEq101 n e r ∧ mEq101 n e r ≤ 85 := by
  have h := bEq100 hs
  simp only [mEq101]
  omega
def mEq102 (n e r : List UInt8) : Int := mEq101 n e r + 16
theorem bEq102 {n e r : List UInt8} (hs : Sc n e r) : 0 ≤ mEq102 n e r ∧ mEq102 n e r ≤ 101 := by
  have h := bEq101 hs
  simp only [mEq102]
  omega
def mEq103 (n e r : List UInt8) : Int := mEq102 n e r + Int.ofNat (txt (key n [1])).size
theorem bEq103 {n e r : List UInt8} (hs : Sc n e r) : 0 ≤ mEq103 n e r ∧ mEq103 n e r ≤ 185 := by
  have h := bEq102 hs
  have h2 := z31 hs
  simp only [mEq103, Int.ofNat_eq_natCast]
  omega
def mEq104 (n e r : List UInt8) : Int := mEq103 n e r + 7
theorem bEq104 {n e r : List UInt8} (hs : Sc n e r) : 0 ≤ mEq104 n e r ∧ mEq104 n e r ≤ 192 := by
  have h := bEq103 hs
  simp only [mEq104]
  omega
def mEq105 (n e r : List UInt8) : Int := mEq104 n e r + 16
theorem bEq105 {n e r : List UInt8} (hs : Sc n e r) : 0 ≤ mEq105 n e r ∧ mEq105 n e r ≤ 208 := by
  have h := bEq104 hs
  simp only [mEq105]
  omega
def mEq106 (n e r : List UInt8) : Int := mEq105 n e r + Int.ofNat (txt (key n (sf e 1 (dotk 1)))).size
theorem bEq106 {n e r : List UInt8} (hs : Sc n e r) : 0 ≤ mEq106 n e r ∧ mEq106 n e r ≤ 438 := by
  have h := bEq105 hs
  have h2 := z60 hs
  simp only [mEq106, Int.ofNat_eq_natCast]
  omega
def mEq107 (n e r : List UInt8) : Int := mEq106 n e r + 0
theorem bEq107 {n e r : List UInt8} (hs : Sc n e r) : 0 ≤ mEq107 n e r ∧ mEq107 n e r ≤ 438 := by
  have h := bEq106 hs
  simp only [mEq107]
  omega
def mEq108 (n e r : List UInt8) : Int := mEq107 n e r + 16
theorem bEq108 {n e r : List UInt8} (hs : Sc n e r) : 0 ≤ mEq108 n e r ∧ mEq108 n e r ≤ 454 := by
  have h := bEq107 hs
  simp only [mEq108]
  omega
def mEq109 (n e r : List UInt8) : Int := mEq108 n e r + Int.ofNat (txt (key n [1])).size
theorem bEq109 {n e r : List UInt8} (hs : Sc n e r) : 0 ≤ mEq109 n e r ∧ mEq109 n e r ≤ 538 := by
  have h := bEq108 hs
  have h2 := z31 hs
  simp only [mEq109, Int.ofNat_eq_natCast]
  omega
def mEq110 (n e r : List UInt8) : Int := mEq109 n e r + 7
theorem bEq110 {n e r : List UInt8} (hs : Sc n e r) : 0 ≤ mEq110 n e r ∧ mEq110 n e r ≤ 545 := by
  have h := bEq109 hs
  simp only [mEq110]
  omega
def mEq111 (n e r : List UInt8) : Int := mEq110 n e r + 16
theorem bEq111 {n e r : List UInt8} (hs : Sc n e r) : 0 ≤ mEq111 n e r ∧ mEq111 n e r ≤ 561 := by
  have h := bEq110 hs
  simp only [mEq111]
  omega
def mEq112 (n e r : List UInt8) : Int := mEq111 n e r + Int.ofNat (txt (key n (sf e 1 (dotk 2)))).size
theorem bEq112 {n e r : List UInt8} (hs : Sc n e r) : 0 ≤ mEq112 n e r ∧ mEq112 n e r ≤ 791 := by
  have h := bEq111 hs
  have h2 := z63 hs
  simp only [mEq112, Int.ofNat_eq_natCast]
  omega
def mEq113 (n e r : List UInt8) : Int := mEq112 n e r + 0
theorem bEq113 {n e r : List UInt8} (hs : Sc n e r) : 0 ≤ mEq113 n e r ∧ mEq113 n e r ≤ 791 := by
  have h := bEq112 hs
  simp only [mEq113]
  omega
def mEq114 (n e r : List UInt8) : Int := mEq113 n e r + 16
theorem bEq114 {n e r : List UInt8} (hs : Sc n e r) : 0 ≤ mEq114 n e r ∧ mEq114 n e r ≤ 807 := by
  have h := bEq113 hs
  simp only [mEq114]
  omega
def mEq115 (n e r : List UInt8) : Int := mEq114 n e r + Int.ofNat (txt (key n [1])).size
theorem bEq115 {n e r : List UInt8} (hs : Sc n e r) : 0 ≤ mEq115 n e r ∧ mEq115 n e r ≤ 891 := by
  have h := bEq114 hs
  have h2 := z31 hs
  simp only [mEq115, Int.ofNat_eq_natCast]
  omega
def mEq116 (n e r : List UInt8) : Int := mEq115 n e r + 7
theorem bEq116 {n e r : List UInt8} (hs : Sc n e r) : 0 ≤ mEq116 n e r ∧ mEq116 n e r ≤ 898 := by
  have h := bEq115 hs
  simp only [mEq116]
  omega
def mEq117 (n e r : List UInt8) : Int := mEq116 n e r + 16
theorem bEq117 {n e r : List UInt8} (hs : Sc n e r) : 0 ≤ mEq117 n e r ∧ mEq117 n e r ≤ 914 := by
  have h := bEq116 hs
  simp only [mEq117]
  omega
def mEq118 (n e r : List UInt8) : Int := mEq117 n e r + Int.ofNat (txt (key n (sf e 1 (dotk 3)))).size
theorem bEq118 {n e r : List UInt8} (hs : Sc n e r) : 0 ≤ mEq118 n e r ∧ mEq118 n e r ≤ 1144 := by
  have h := bEq117 hs
  have h2 := z62 hs
  simp only [mEq118, Int.ofNat_eq_natCast]
  omega
def mEq119 (n e r : List UInt8) : Int := mEq118 n e r + 0
theorem bEq119 {n e r : List UInt8} (hs : Sc n e r) : 0 ≤ mEq119 n e r ∧ mEq119 n e r ≤ 1144 := by
  have h := bEq118 hs
  simp only [mEq119]
  omega
def mEq120 (n e r : List UInt8) : Int := mEq119 n e r + 16
theorem bEq120 {n e r : List UInt8} (hs : Sc n e r) : 0 ≤ mEq120 n e r ∧ mEq120 n e r ≤ 1160 := by
  have h := bEq119 hs
  simp only [mEq120]
  omega
def mEq121 (n e r : List UInt8) : Int := mEq120 n e r + Int.ofNat (txt (key n [1])).size
theorem bEq121 {n e r : List UInt8} (hs : Sc n e r) : 0 ≤ mEq121 n e r ∧ mEq121 n e r ≤ 1244 := by
  have h := bEq120 hs
  have h2 := z31 hs
  simp only [mEq121, Int.ofNat_eq_natCast]
  omega
def mEq122 (n e r : List UInt8) : Int := mEq121 n e r + 7
theorem bEq122 {n e r : List UInt8} (hs : Sc n e r) : 0 ≤ mEq122 n e r ∧ mEq122 n e r ≤ 1251 := by
  have h := bEq121 hs
  simp only [mEq122]
  omega
def mEq123 (n e r : List UInt8) : Int := mEq122 n e r + 16
theorem bEq123 {n e r : List UInt8} (hs : Sc n e r) : 0 ≤ mEq123 n e r ∧ mEq123 n e r ≤ 1267 := by
  have h := bEq122 hs
  simp only [mEq123]
  omega
def mEq124 (n e r : List UInt8) : Int := mEq123 n e r + Int.ofNat (txt (key n [2])).size
theorem bEq124 {n e r : List UInt8} (hs : Sc n e r) : 0 ≤ mEq124 n e r ∧ mEq124 n e r ≤ 1351 := by
  have h := bEq123 hs
  have h2 := z32 hs
  simp only [mEq124, Int.ofNat_eq_natCast]
  omega
def mEq125 (n e r : List UInt8) : Int := mEq124 n e r + 7
theorem bEq125 {n e r : List UInt8} (hs : Sc n e r) : 0 ≤ mEq125 n e r ∧ mEq125 n e r ≤ 1358 := by
  have h := bEq124 hs
  simp only [mEq125]
  omega
def mEq126 (n e r : List UInt8) : Int := mEq125 n e r + 16
theorem bEq126 {n e r : List UInt8} (hs : Sc n e r) : 0 ≤ mEq126 n e r ∧ mEq126 n e r ≤ 1374 := by
  have h := bEq125 hs
  simp only [mEq126]
  omega
def mEq200 (n e r : List UInt8) : Int := mEq117 n e r + Int.ofNat (txt (key n [2])).size
theorem bEq200 {n e r : List UInt8} (hs : Sc n e r) : 0 ≤ mEq200 n e r ∧ mEq200 n e r ≤ 998 := by
  have h := bEq117 hs
  have h2 := z32 hs
  simp only [mEq200, Int.ofNat_eq_natCast]
  omega
def mEq201 (n e r : List UInt8) : Int := mEq200 n e r + 7
theorem bEq201 {n e r : List UInt8} (hs : Sc n e r) : 0 ≤ mEq201 n e r ∧ mEq201 n e r ≤ 1005 := by
  have h := bEq200 hs
  simp only [mEq201]
  omega
def mEq202 (n e r : List UInt8) : Int := mEq201 n e r + 16
theorem bEq202 {n e r : List UInt8} (hs : Sc n e r) : 0 ≤ mEq202 n e r ∧ mEq202 n e r ≤ 1021 := by
  have h := bEq201 hs
  simp only [mEq202]
  omega
/-- what the symbols stand for -/
noncomputable def sgEq (n e r : List UInt8) : Nat → Option Value := fun i => ([
  .string (txt n),
  .string (txt e),
  .string (txt r),
  .string (txt (ok n)),
  .string (txt (ok e)),
  .string (txt (ok r)),
  .string (txt (111 :: ok n)),
  .string (txt (key n [0])),
  .string (txt (key n [1])),
  .string (txt (key n [2])),
  .string (txt (key n [3])),
  .string (txt (key n (sf e 1 []))),
  .string (txt (key n (sf r 1 []))),
  .string (txt (key n (sf e 2 []))),
  .string (txt (key n (sC e))),
  .string (txt (key n (sf r 2 []))),
  .string (txt (key n (sC r))),
  .string (txt (key n (sf e 1 (dotk 1)))),
  .string (txt (key n (sf r 1 (dotk 2)))),
  .string (txt (key n (sf e 1 (dotk 3)))),
  .string (txt (key n (sf e 1 (dotk 2)))),
  .string (txt (bt 1 (w0Eq n e r))),
  .string (txt (fr (bt 1 (w0Eq n e r)))),
  .string (txt (bt 4 (w1Eq n e r))),
  .string (txt (fr (bt 4 (w1Eq n e r)))),
  .string (txt (bt 6 (w2Eq n e r))),
  .string (txt (fr (bt 6 (w2Eq n e r)))),
  .string (txt (bt 8 (w3Eq n e r))),
  .string (txt (fr (bt 8 (w3Eq n e r)))),
  .string (txt (bt 6 (w4Eq n e r))),
  .string (txt (fr (bt 6 (w4Eq n e r)))),
  .string (txt (ok n ++ sf e 1 (dotk 1))),
  .string (txt (ok n ++ sf r 1 (dotk 2))),
  .string (txt (ok n ++ sf e 1 (dotk 3))),
  .string (txt (ok n ++ sf e 1 (dotk 2))),
  .string (txt (tx [txt n])),
  .string (txt (1 :: tx [txt n])),
  .string (txt (sf e 1 (dotk 1))),
  .string (txt (sf r 1 (dotk 2))),
  .string (txt (sf e 1 (dotk 3))),
  .string (txt (sf e 1 (dotk 2))),
  .string (txt (esc e ++ 0 :: 1 :: (dotk 1))),
  .string (txt (esc r ++ 0 :: 1 :: (dotk 2))),
  .string (txt (esc e ++ 0 :: 1 :: (dotk 3))),
  .string (txt (esc e ++ 0 :: 1 :: (dotk 2))),
  .string ((txt (fr (bt 1 (w0Eq n e r))) ++ txt (fr (bt 4 (w1Eq n e r))))),
  .string (((txt (fr (bt 1 (w0Eq n e r))) ++ txt (fr (bt 4 (w1Eq n e r)))) ++ txt (fr (bt 6 (w2Eq n e r))))),
  .string ((((txt (fr (bt 1 (w0Eq n e r))) ++ txt (fr (bt 4 (w1Eq n e r)))) ++ txt (fr (bt 6 (w2Eq n e r)))) ++ txt (fr (bt 8 (w3Eq n e r))))),
  .string (((txt (fr (bt 1 (w0Eq n e r))) ++ txt (fr (bt 4 (w1Eq n e r)))) ++ txt (fr (bt 6 (w4Eq n e r))))),
  .string (txt (((1 :: tx [txt n]) ++ itm (txt e) (txt (dotk 1)) ⟨#[]⟩) ++ [7, 1, 0, 0, 0, 1, 1, 0, 1, 0])),
  .string (txt (((1 :: tx [txt n]) ++ itm (txt e) (txt (dotk 2)) ⟨#[]⟩) ++ [7, 1, 0, 0, 0, 1, 2, 0, 1, 0])),
  .string (txt (((1 :: tx [txt n]) ++ itm (txt e) (txt (dotk 3)) ⟨#[]⟩) ++ [7, 1, 0, 0, 0, 1, 3, 0, 1, 0])),
  .string (txt (((1 :: tx [txt n]) ++ [0]) ++ [7, 1, 0, 0, 0, 1, 4, 0, 7, 1, 0, 0, 0, 1, 1, 1])),
  .string (txt (((1 :: tx [txt n]) ++ [0]) ++ [7, 1, 0, 0, 0, 1, 3, 0, 7, 1, 0, 0, 0, 1, 1, 1])),
  .string (pm (((1 :: tx [txt n]) ++ itm (txt e) (txt (dotk 1)) ⟨#[]⟩) ++ [7, 1, 0, 0, 0, 1, 1, 0, 1, 0])),
  .string (pm (((1 :: tx [txt n]) ++ itm (txt e) (txt (dotk 2)) ⟨#[]⟩) ++ [7, 1, 0, 0, 0, 1, 2, 0, 1, 0])),
  .string (pm (((1 :: tx [txt n]) ++ itm (txt e) (txt (dotk 3)) ⟨#[]⟩) ++ [7, 1, 0, 0, 0, 1, 3, 0, 1, 0])),
  .string (pm (((1 :: tx [txt n]) ++ [0]) ++ [7, 1, 0, 0, 0, 1, 4, 0, 7, 1, 0, 0, 0, 1, 1, 1])),
  .string (pm (((1 :: tx [txt n]) ++ [0]) ++ [7, 1, 0, 0, 0, 1, 3, 0, 7, 1, 0, 0, 0, 1, 1, 1])),
  .string (txt ((1 :: tx [txt n]) ++ itm (txt e) (txt (dotk 1)) ⟨#[]⟩)),
  .string (txt ((1 :: tx [txt n]) ++ itm (txt e) (txt (dotk 2)) ⟨#[]⟩)),
  .string (txt ((1 :: tx [txt n]) ++ itm (txt e) (txt (dotk 3)) ⟨#[]⟩)),
  .string (txt ((1 :: tx [txt n]) ++ [0])),
  .bool false,
  .string (txt (itm (txt e) (txt (dotk 1)) ⟨#[]⟩)),
  .string (txt (itm (txt e) (txt (dotk 2)) ⟨#[]⟩)),
  .string (txt (itm (txt e) (txt (dotk 3)) ⟨#[]⟩)),
  .bool false,
  .bool false,
  .int .i64 (((txt (key n (sf e 1 []))).size - 1 : Nat)),
  .int .i64 (((txt (key n (sf r 1 []))).size - 1 : Nat)),
  .int .i64 ((0 : Int) + Int.ofNat (txt (fr (bt 1 (w0Eq n e r)))).size),
  .int .i64 ((0 : Int) + Int.ofNat (txt (fr (bt 1 (w0Eq n e r)))).size + Int.ofNat (txt (fr (bt 4 (w1Eq n e r)))).size),
  .int .i64 ((0 : Int) + Int.ofNat (txt (fr (bt 1 (w0Eq n e r)))).size + Int.ofNat (txt (fr (bt 4 (w1Eq n e r)))).size + Int.ofNat (txt (fr (bt 6 (w2Eq n e r)))).size),
  .int .i64 ((0 : Int) + Int.ofNat (txt (fr (bt 1 (w0Eq n e r)))).size + Int.ofNat (txt (fr (bt 4 (w1Eq n e r)))).size + Int.ofNat (txt (fr (bt 6 (w2Eq n e r)))).size + Int.ofNat (txt (fr (bt 8 (w3Eq n e r)))).size),
  .int .i64 ((0 : Int) + Int.ofNat (txt (fr (bt 1 (w0Eq n e r)))).size + Int.ofNat (txt (fr (bt 4 (w1Eq n e r)))).size + Int.ofNat (txt (fr (bt 6 (w4Eq n e r)))).size),
  .int .i64 (mEq100 n e r),
  .int .i64 (mEq101 n e r),
  .int .i64 (mEq102 n e r),
  .int .i64 (mEq103 n e r),
  .int .i64 (mEq104 n e r),
  .int .i64 (mEq105 n e r),
  .int .i64 (mEq106 n e r),
  .int .i64 (mEq107 n e r),
  .int .i64 (mEq108 n e r),
  .int .i64 (mEq109 n e r),
  .int .i64 (mEq110 n e r),
  .int .i64 (mEq111 n e r),
  .int .i64 (mEq112 n e r),
  .int .i64 (mEq113 n e r),
  .int .i64 (mEq114 n e r),
  .int .i64 (mEq115 n e r),
  .int .i64 (mEq116 n e r),
  .int .i64 (mEq117 n e r),
  .int .i64 (mEq118 n e r),
  .int .i64 (mEq119 n e r),
  .int .i64 (mEq120 n e r),
  .int .i64 (mEq121 n e r),
  .int .i64 (mEq122 n e r),
  .int .i64 (mEq123 n e r),
  .int .i64 (mEq124 n e r),
  .int .i64 (mEq125 n e r),
  .int .i64 (mEq126 n e r),
  .int .i64 (mEq200 n e r),
  .int .i64 (mEq201 n e r),
  .int .i64 (mEq202 n e r),
  .bool false,
  .bool false,
  .bool false] : List Value)[i]?
theorem sgEq_none (n e r : List UInt8) (i : Nat) (h : 109 ≤ i) : sgEq n e r i = none := by
  obtain ⟨k, rfl⟩ : ∃ k, i = k + 109 := ⟨i - 109, by omega⟩
  rfl
noncomputable def factsEq : List (BinOp × AV × AV × AV) := [(.eql, .symStr 7, .symStr 7, .bool true),
  (.lss, .symStr 7, .symStr 7, .bool false),
  (.eql, .symStr 7, .symStr 8, .bool false),
  (.lss, .symStr 7, .symStr 8, .bool true),
  (.lss, .symStr 7, .symStr 9, .bool true),
  (.lss, .symStr 7, .symStr 11, .bool true),
  (.eql, .symStr 7, .symStr 17, .bool false),
  (.eql, .symStr 8, .symStr 8, .bool true),
  (.lss, .symStr 8, .symStr 8, .bool false),
  (.lss, .symStr 8, .symStr 9, .bool true),
  (.lss, .symStr 8, .symStr 11, .bool true),
  (.eql, .symStr 8, .symStr 17, .bool false),
  (.eql, .symStr 8, .symStr 20, .bool false),
  (.eql, .symStr 8, .symStr 19, .bool false),
  (.eql, .symStr 9, .symStr 8, .bool false),
  (.eql, .symStr 9, .symStr 9, .bool true),
  (.lss, .symStr 9, .symStr 9, .bool false),
  (.lss, .symStr 9, .symStr 11, .bool true),
  (.eql, .symStr 17, .symStr 9, .bool false),
  (.lss, .symStr 17, .symStr 9, .bool false),
  (.lss, .symStr 17, .symStr 11, .bool false),
  (.geq, .symStr 17, .symStr 13, .bool false),
  (.eql, .symStr 20, .symStr 17, .bool false),
  (.geq, .symStr 20, .symStr 13, .bool false),
  (.eql, .symStr 19, .symStr 17, .bool false),
  (.eql, .symStr 19, .symStr 20, .bool false),
  (.geq, .symStr 19, .symStr 13, .bool false),
  (.gtr, .symLen 7, .int .i64 300, .bool false),
  (.gtr, .symLen 8, .int .i64 300, .bool false),
  (.gtr, .symLen 9, .int .i64 300, .bool false),
  (.eql, .symStr 11, .str [], .bool false),
  (.neq, .symStr 11, .str [], .bool true),
  (.leq, .symLen 17, .int .i64 1099511627776, .bool true),
  (.gtr, .symLen 17, .int .i64 300, .bool false),
  (.geq, .symLen 17, .int .i64 1, .bool true),
  (.leq, .symLen 20, .int .i64 1099511627776, .bool true),
  (.gtr, .symLen 20, .int .i64 300, .bool false),
  (.geq, .symLen 20, .int .i64 1, .bool true),
  (.leq, .symLen 19, .int .i64 1099511627776, .bool true),
  (.gtr, .symLen 19, .int .i64 300, .bool false),
  (.geq, .symLen 19, .int .i64 1, .bool true),
  (.eql, .symStr 13, .str [], .bool false),
  (.lss, .symLen 0, .int .i64 1, .bool false),
  (.gtr, .symLen 0, .int .i64 40, .bool false),
  (.leq, .symLen 0, .int .i64 40, .bool true),
  (.neq, .symStr 0, .str [], .bool true),
  (.lss, .symLen 1, .int .i64 1, .bool false),
  (.gtr, .symLen 1, .int .i64 60, .bool false),
  (.leq, .symLen 1, .int .i64 60, .bool true),
  (.neq, .symStr 1, .str [], .bool true),
  (.eql, .symStr 1, .symStr 1, .bool true),
  (.add, .str [111], .symStr 3, .symStr 6),
  (.add, .symStr 6, .str [0], .symStr 7),
  (.add, .symStr 6, .str [1], .symStr 8),
  (.add, .symStr 6, .str [2], .symStr 9),
  (.add, .symStr 6, .str [3], .symStr 10),
  (.add, .symStr 10, .symStr 4, .symStr 11),
  (.add, .symStr 11, .str [0, 0, 0, 1, 0, 0, 0, 0, 0, 0, 0, 1], .symStr 17),
  (.add, .symStr 11, .str [0, 0, 0, 1, 0, 0, 0, 0, 0, 0, 0, 3], .symStr 19),
  (.add, .symStr 11, .str [0, 0, 0, 1, 0, 0, 0, 0, 0, 0, 0, 2], .symStr 20),
  (.sub, .symLen 11, .int .i64 1, .symInt .i64 69),
  (.add, .symStr 14, .str [2], .symStr 13),
  (.add, .str [1], .symStr 35, .symStr 36),
  (.add, .symStr 36, .symStr 64, .symStr 59),
  (.add, .symStr 59, .str [7, 1, 0, 0, 0, 1, 1, 0, 1, 0], .symStr 49),
  (.add, .symStr 36, .symStr 65, .symStr 60),
  (.add, .symStr 60, .str [7, 1, 0, 0, 0, 1, 2, 0, 1, 0], .symStr 50),
  (.add, .symStr 36, .symStr 66, .symStr 61),
  (.add, .symStr 61, .str [7, 1, 0, 0, 0, 1, 3, 0, 1, 0], .symStr 51),
  (.add, .symStr 36, .str [0], .symStr 62),
  (.add, .symStr 62, .str [7, 1, 0, 0, 0, 1, 4, 0, 7, 1, 0, 0, 0, 1, 1, 1], .symStr 52),
  (.add, .symStr 62, .str [7, 1, 0, 0, 0, 1, 3, 0, 7, 1, 0, 0, 0, 1, 1, 1], .symStr 53),
  (.add, .str [], .symStr 22, .symStr 22),
  (.add, .int .i64 0, .symLen 22, .symInt .i64 71),
  (.add, .int .i64 0, .symLen 7, .symInt .i64 76),
  (.add, .symInt .i64 76, .int .i64 1, .symInt .i64 77),
  (.add, .symInt .i64 77, .int .i64 16, .symInt .i64 78),
  (.add, .symInt .i64 78, .symLen 8, .symInt .i64 79),
  (.add, .symInt .i64 79, .int .i64 7, .symInt .i64 80),
  (.add, .symInt .i64 80, .int .i64 16, .symInt .i64 81),
  (.add, .symInt .i64 81, .symLen 17, .symInt .i64 82),
  (.add, .symInt .i64 82, .int .i64 0, .symInt .i64 83),
  (.add, .symInt .i64 83, .int .i64 16, .symInt .i64 84),
  (.gtr, .symInt .i64 84, .int .i64 2000, .bool false),
  (.add, .symStr 22, .symStr 24, .symStr 45),
  (.add, .symInt .i64 71, .symLen 24, .symInt .i64 72),
  (.add, .symInt .i64 84, .symLen 8, .symInt .i64 85),
  (.add, .symInt .i64 85, .int .i64 7, .symInt .i64 86),
  (.add, .symInt .i64 86, .int .i64 16, .symInt .i64 87),
  (.add, .symInt .i64 87, .symLen 20, .symInt .i64 88),
  (.add, .symInt .i64 88, .int .i64 0, .symInt .i64 89),
  (.add, .symInt .i64 89, .int .i64 16, .symInt .i64 90),
  (.gtr, .symInt .i64 90, .int .i64 2000, .bool false),
  (.add, .symStr 45, .symStr 26, .symStr 46),
  (.add, .symInt .i64 72, .symLen 26, .symInt .i64 73),
  (.add, .symInt .i64 90, .symLen 8, .symInt .i64 91),
  (.add, .symInt .i64 91, .int .i64 7, .symInt .i64 92),
  (.add, .symInt .i64 92, .int .i64 16, .symInt .i64 93),
  (.add, .symInt .i64 93, .symLen 19, .symInt .i64 94),
  (.add, .symInt .i64 94, .int .i64 0, .symInt .i64 95),
  (.add, .symInt .i64 95, .int .i64 16, .symInt .i64 96),
  (.gtr, .symInt .i64 96, .int .i64 2000, .bool false),
  (.add, .symStr 46, .symStr 28, .symStr 47),
  (.add, .symInt .i64 73, .symLen 28, .symInt .i64 74),
  (.add, .symInt .i64 96, .symLen 8, .symInt .i64 97),
  (.add, .symInt .i64 97, .int .i64 7, .symInt .i64 98),
  (.add, .symInt .i64 98, .int .i64 16, .symInt .i64 99),
  (.add, .symInt .i64 99, .symLen 9, .symInt .i64 100),
  (.add, .symInt .i64 100, .int .i64 7, .symInt .i64 101),
  (.add, .symInt .i64 101, .int .i64 16, .symInt .i64 102),
  (.gtr, .symInt .i64 102, .int .i64 2000, .bool false),
  (.add, .symStr 45, .symStr 30, .symStr 48),
  (.add, .symInt .i64 72, .symLen 30, .symInt .i64 75),
  (.add, .symInt .i64 93, .symLen 9, .symInt .i64 103),
  (.add, .symInt .i64 103, .int .i64 7, .symInt .i64 104),
  (.add, .symInt .i64 104, .int .i64 16, .symInt .i64 105),
  (.gtr, .symInt .i64 105, .int .i64 2000, .bool false),
  (.eql, .symStr 37, .str [], .bool false),
  (.eql, .symStr 39, .str [], .bool false),
  (.eql, .symStr 40, .str [], .bool false)]
noncomputable def ofactsEq : List ((Nat × Nat × Nat) × List AV × AV) := [((5, 9, 0), [.symStr 11, .symInt .i64 69], .int .u8 1),
  ((6, 9, 2), [.symStr 11, .symInt .i64 69], .symStr 14),
  ((6, 9, 2), [.symStr 17, .int .i64 1], .str [111]),
  ((6, 9, 1), [.symStr 17, .int .i64 1], .symStr 31),
  ((5, 9, 0), [.symStr 37, .int .i64 0], .int .u8 3),
  ((6, 9, 1), [.symStr 37, .int .i64 1], .symStr 41),
  ((6, 9, 2), [.symStr 19, .int .i64 1], .str [111]),
  ((6, 9, 1), [.symStr 19, .int .i64 1], .symStr 33),
  ((5, 9, 0), [.symStr 39, .int .i64 0], .int .u8 3),
  ((6, 9, 1), [.symStr 39, .int .i64 1], .symStr 43),
  ((6, 9, 2), [.symStr 20, .int .i64 1], .str [111]),
  ((6, 9, 1), [.symStr 20, .int .i64 1], .symStr 34),
  ((5, 9, 0), [.symStr 40, .int .i64 0], .int .u8 3),
  ((6, 9, 1), [.symStr 40, .int .i64 1], .symStr 44),
  ((12, 0, 0), [.symInt .i64 78, .int .i64 4611686018427387904], .symInt .i64 78),
  ((12, 0, 0), [.symInt .i64 81, .int .i64 4611686018427387904], .symInt .i64 81),
  ((12, 0, 0), [.symInt .i64 84, .int .i64 4611686018427387904], .symInt .i64 84),
  ((12, 0, 0), [.symInt .i64 87, .int .i64 4611686018427387904], .symInt .i64 87),
  ((12, 0, 0), [.symInt .i64 90, .int .i64 4611686018427387904], .symInt .i64 90),
  ((12, 0, 0), [.symInt .i64 93, .int .i64 4611686018427387904], .symInt .i64 93),
  ((12, 0, 0), [.symInt .i64 96, .int .i64 4611686018427387904], .symInt .i64 96),
  ((12, 0, 0), [.symInt .i64 99, .int .i64 4611686018427387904], .symInt .i64 99),
  ((12, 0, 0), [.symInt .i64 102, .int .i64 4611686018427387904], .symInt .i64 102),
  ((12, 0, 0), [.symInt .i64 105, .int .i64 4611686018427387904], .symInt .i64 105)]
noncomputable def CEq (cs : List (FuncId × Con)) (σ0 : Nat → Option Value) : Ctx := withAll (ctx cs []) factsEq ofactsEq σ0 fun _ _ => none
abbrev FEq (cs : List (FuncId × Con)) (n e r : List UInt8) (f : BinOp × AV × AV × AV) : Prop := FactOK Tryz.prog (CEq cs (sgEq n e r)) f
abbrev OEq (cs : List (FuncId × Con)) (n e r : List UInt8) (f : (Nat × Nat × Nat) × List AV × AV) : Prop := OFactOK Tryz.prog (CEq cs (sgEq n e r)) f
section
variable {cs : List (FuncId × Con)} {n e r : List UInt8}
theorem fEq0 : FEq cs n e r (.eql, .symStr 7, .symStr 7, .bool true) := fact_eqs rfl rfl (by simp)
theorem fEq1 : FEq cs n e r (.lss, .symStr 7, .symStr 7, .bool false) := fact_lssS rfl rfl (ltL_irr _)
theorem fEq2 : FEq cs n e r (.eql, .symStr 7, .symStr 8, .bool false) := fact_eqs rfl rfl (decide_eq_false (ne_txt (key_lt n (rfl : ltL [0] [1] = true)))).symm
theorem fEq3 : FEq cs n e r (.lss, .symStr 7, .symStr 8, .bool true) := fact_lssS rfl rfl (key_lt n (rfl : ltL [0] [1] = true))
theorem fEq4 : FEq cs n e r (.lss, .symStr 7, .symStr 9, .bool true) := fact_lssS rfl rfl (key_lt n (rfl : ltL [0] [2] = true))
theorem fEq5 : FEq cs n e r (.lss, .symStr 7, .symStr 11, .bool true) := fact_lssS rfl rfl (key_lt n (rfl : ltL [0] (sf e 1 []) = true))
theorem fEq6 : FEq cs n e r (.eql, .symStr 7, .symStr 17, .bool false) := fact_eqs rfl rfl (decide_eq_false (ne_txt (key_lt n (rfl : ltL [0] (sf e 1 (dotk 1)) = true)))).symm
theorem fEq7 : FEq cs n e r (.eql, .symStr 8, .symStr 8, .bool true) := fact_eqs rfl rfl (by simp)
theorem fEq8 : FEq cs n e r (.lss, .symStr 8, .symStr 8, .bool false) := fact_lssS rfl rfl (ltL_irr _)
theorem fEq9 : FEq cs n e r (.lss, .symStr 8, .symStr 9, .bool true) := fact_lssS rfl rfl (key_lt n (rfl : ltL [1] [2] = true))
theorem fEq10 : FEq cs n e r (.lss, .symStr 8, .symStr 11, .bool true) := fact_lssS rfl rfl (key_lt n (rfl : ltL [1] (sf e 1 []) = true))
theorem fEq11 : FEq cs n e r (.eql, .symStr 8, .symStr 17, .bool false) := fact_eqs rfl rfl (decide_eq_false (ne_txt (key_lt n (rfl : ltL [1] (sf e 1 (dotk 1)) = true)))).symm
theorem fEq12 : FEq cs n e r (.eql, .symStr 8, .symStr 20, .bool false) := fact_eqs rfl rfl (decide_eq_false (ne_txt (key_lt n (rfl : ltL [1] (sf e 1 (dotk 2)) = true)))).symm
theorem fEq13 : FEq cs n e r (.eql, .symStr 8, .symStr 19, .bool false) := fact_eqs rfl rfl (decide_eq_false (ne_txt (key_lt n (rfl : ltL [1] (sf e 1 (dotk 3)) = true)))).symm
theorem fEq14 : FEq cs n e r (.eql, .symStr 9, .symStr 8, .bool false) := fact_eqs rfl rfl (decide_eq_false (ne_txt' (key_lt n (rfl : ltL [1] [2] = true)))).symm
theorem fEq15 : FEq cs n e r (.eql, .symStr 9, .symStr 9, .bool true) := fact_eqs rfl rfl (by simp)
theorem fEq16 : FEq cs n e r (.lss, .symStr 9, .symStr 9, .bool false) := fact_lssS rfl rfl (ltL_irr _)
theorem fEq17 : FEq cs n e r (.lss, .symStr 9, .symStr 11, .bool true) := fact_lssS rfl rfl (key_lt n (rfl : ltL [2] (sf e 1 []) = true))
theorem fEq18 : FEq cs n e r (.eql, .symStr 17, .symStr 9, .bool false) := fact_eqs rfl rfl (decide_eq_false (ne_txt' (key_lt n (rfl : ltL [2] (sf e 1 (dotk 1)) = true)))).symm
theorem fEq19 : FEq cs n e r (.lss, .symStr 17, .symStr 9, .bool false) := fact_lssS rfl rfl (ltL_asym (key_lt n (rfl : ltL [2] (sf e 1 (dotk 1)) = true)))
theorem fEq20 : FEq cs n e r (.lss, .symStr 17, .symStr 11, .bool false) := fact_lssS rfl rfl (ltL_asym (key_lt n (sf_lt e rfl)))
theorem fEq21 : FEq cs n e r (.geq, .symStr 17, .symStr 13, .bool false) := fact_geqS rfl rfl (key_lt n (sf_lt e rfl))
theorem fEq22 : FEq cs n e r (.eql, .symStr 20, .symStr 17, .bool false) := fact_eqs rfl rfl (decide_eq_false (ne_txt' (key_lt n (sf_lt e rfl)))).symm
theorem fEq23 : FEq cs n e r (.geq, .symStr 20, .symStr 13, .bool false) := fact_geqS rfl rfl (key_lt n (sf_lt e rfl))
theorem fEq24 : FEq cs n e r (.eql, .symStr 19, .symStr 17, .bool false) := fact_eqs rfl rfl (decide_eq_false (ne_txt' (key_lt n (sf_lt e rfl)))).symm
theorem fEq25 : FEq cs n e r (.eql, .symStr 19, .symStr 20, .bool false) := fact_eqs rfl rfl (decide_eq_false (ne_txt' (key_lt n (sf_lt e rfl)))).symm
theorem fEq26 : FEq cs n e r (.geq, .symStr 19, .symStr 13, .bool false) := fact_geqS rfl rfl (key_lt n (sf_lt e rfl))
theorem fEq27 (hs : Sc n e r) : FEq cs n e r (.gtr, .symLen 7, .int .i64 300, .bool false) := fact_gtr rfl rfl (dgt (z30 hs).2 (by decide))
theorem fEq28 (hs : Sc n e r) : FEq cs n e r (.gtr, .symLen 8, .int .i64 300, .bool false) := fact_gtr rfl rfl (dgt (z31 hs).2 (by decide))
theorem fEq29 (hs : Sc n e r) : FEq cs n e r (.gtr, .symLen 9, .int .i64 300, .bool false) := fact_gtr rfl rfl (dgt (z32 hs).2 (by decide))
theorem fEq30 (hs : Sc n e r) : FEq cs n e r (.eql, .symStr 11, .str [], .bool false) := fact_eqs rfl rfl (decide_eq_false (ne_empty (by have := z50 hs; omega))).symm
theorem fEq31 (hs : Sc n e r) : FEq cs n e r (.neq, .symStr 11, .str [], .bool true) := fact_nes rfl rfl (decide_eq_true (ne_empty (by have := z50 hs; omega))).symm
theorem fEq32 (hs : Sc n e r) : FEq cs n e r (.leq, .symLen 17, .int .i64 1099511627776, .bool true) := fact_leq rfl rfl (dle (z60 hs).2 (by decide))
theorem fEq33 (hs : Sc n e r) : FEq cs n e r (.gtr, .symLen 17, .int .i64 300, .bool false) := fact_gtr rfl rfl (dgt (z60 hs).2 (by decide))
theorem fEq34 (hs : Sc n e r) : FEq cs n e r (.geq, .symLen 17, .int .i64 1, .bool true) := fact_geq rfl rfl (dge (z60 hs).1 (by decide))
theorem fEq35 (hs : Sc n e r) : FEq cs n e r (.leq, .symLen 20, .int .i64 1099511627776, .bool true) := fact_leq rfl rfl (dle (z63 hs).2 (by decide))
theorem fEq36 (hs : Sc n e r) : FEq cs n e r (.gtr, .symLen 20, .int .i64 300, .bool false) := fact_gtr rfl rfl (dgt (z63 hs).2 (by decide))
theorem fEq37 (hs : Sc n e r) : FEq cs n e r (.geq, .symLen 20, .int .i64 1, .bool true) := fact_geq rfl rfl (dge (z63 hs).1 (by decide))
theorem fEq38 (hs : Sc n e r) : FEq cs n e r (.leq, .symLen 19, .int .i64 1099511627776, .bool true) := fact_leq rfl rfl (dle (z62 hs).2 (by decide))
theorem fEq39 (hs : Sc n e r) : FEq cs n e r (.gtr, .symLen 19, .int .i64 300, .bool false) := fact_gtr rfl rfl (dgt (z62 hs).2 (by decide))
theorem fEq40 (hs : Sc n e r) : FEq cs n e r (.geq, .symLen 19, .int .i64 1, .bool true) := fact_geq rfl rfl (dge (z62 hs).1 (by decide))
theorem fEq41 (hs : Sc n e r) : FEq cs n e r (.eql, .symStr 13, .str [], .bool false) := fact_eqs rfl rfl (decide_eq_false (ne_empty (by have := z52 hs; omega))).symm
theorem fEq42 (hs : Sc n e r) : FEq cs n e r (.lss, .symLen 0, .int .i64 1, .bool false) := fact_lss rfl rfl (dlt (z0 hs).1 (by decide))
theorem fEq43 (hs : Sc n e r) : FEq cs n e r (.gtr, .symLen 0, .int .i64 40, .bool false) := fact_gtr rfl rfl (dgt (z0 hs).2 (by decide))
theorem fEq44 (hs : Sc n e r) : FEq cs n e r (.leq, .symLen 0, .int .i64 40, .bool true) := fact_leq rfl rfl (dle (z0 hs).2 (by decide))
theorem fEq45 (hs : Sc n e r) : FEq cs n e r (.neq, .symStr 0, .str [], .bool true) := fact_nes rfl rfl (decide_eq_true (ne_empty (by have := z0 hs; omega))).symm
theorem fEq46 (hs : Sc n e r) : FEq cs n e r (.lss, .symLen 1, .int .i64 1, .bool false) := fact_lss rfl rfl (dlt (z1 hs).1 (by decide))
theorem fEq47 (hs : Sc n e r) : FEq cs n e r (.gtr, .symLen 1, .int .i64 60, .bool false) := fact_gtr rfl rfl (dgt (z1 hs).2 (by decide))
theorem fEq48 (hs : Sc n e r) : FEq cs n e r (.leq, .symLen 1, .int .i64 60, .bool true) := fact_leq rfl rfl (dle (z1 hs).2 (by decide))
theorem fEq49 (hs : Sc n e r) : FEq cs n e r (.neq, .symStr 1, .str [], .bool true) := fact_nes rfl rfl (decide_eq_true (ne_empty (by have := z1 hs; omega))).symm
theorem fEq50 : FEq cs n e r (.eql, .symStr 1, .symStr 1, .bool true) := fact_eqs rfl rfl (by simp)
theorem fEq51 (hs : Sc n e r) : FEq cs n e r (.add, .str [111], .symStr 3, .symStr 6) := fact_cat rfl rfl rfl (txt_append [111] _) (by have := z10 hs; have := szn [111] 1 rfl; omega)
theorem fEq52 (hs : Sc n e r) : FEq cs n e r (.add, .symStr 6, .str [0], .symStr 7) := fact_cat rfl rfl rfl (txt_append (111 :: ok n) [0]) (by have := z20 hs; have := szn [0] 1 rfl; omega)
theorem fEq53 (hs : Sc n e r) : FEq cs n e r (.add, .symStr 6, .str [1], .symStr 8) := fact_cat rfl rfl rfl (txt_append (111 :: ok n) [1]) (by have := z20 hs; have := szn [1] 1 rfl; omega)
theorem fEq54 (hs : Sc n e r) : FEq cs n e r (.add, .symStr 6, .str [2], .symStr 9) := fact_cat rfl rfl rfl (txt_append (111 :: ok n) [2]) (by have := z20 hs; have := szn [2] 1 rfl; omega)
theorem fEq55 (hs : Sc n e r) : FEq cs n e r (.add, .symStr 6, .str [3], .symStr 10) := fact_cat rfl rfl rfl (txt_append (111 :: ok n) [3]) (by have := z20 hs; have := szn [3] 1 rfl; omega)
theorem fEq56 (hs : Sc n e r) : FEq cs n e r (.add, .symStr 10, .symStr 4, .symStr 11) := fact_cat rfl rfl rfl (key_cat n [3] _) (by have := z33 hs; have := z11 hs; omega)
theorem fEq57 (hs : Sc n e r) : FEq cs n e r (.add, .symStr 11, .str [0, 0, 0, 1, 0, 0, 0, 0, 0, 0, 0, 1], .symStr 17) := fact_cat rfl rfl rfl (sf_cat n e 1 [] (dotk 1)) (by have := z50 hs; have := szn [0, 0, 0, 1, 0, 0, 0, 0, 0, 0, 0, 1] 12 rfl; omega)
theorem fEq58 (hs : Sc n e r) : FEq cs n e r (.add, .symStr 11, .str [0, 0, 0, 1, 0, 0, 0, 0, 0, 0, 0, 3], .symStr 19) := fact_cat rfl rfl rfl (sf_cat n e 1 [] (dotk 3)) (by have := z50 hs; have := szn [0, 0, 0, 1, 0, 0, 0, 0, 0, 0, 0, 3] 12 rfl; omega)
theorem fEq59 (hs : Sc n e r) : FEq cs n e r (.add, .symStr 11, .str [0, 0, 0, 1, 0, 0, 0, 0, 0, 0, 0, 2], .symStr 20) := fact_cat rfl rfl rfl (sf_cat n e 1 [] (dotk 2)) (by have := z50 hs; have := szn [0, 0, 0, 1, 0, 0, 0, 0, 0, 0, 0, 2] 12 rfl; omega)
theorem fEq60 (hs : Sc n e r) : FEq cs n e r (.sub, .symLen 11, .int .i64 1, .symInt .i64 69) := fact_sub (k := .i64) rfl rfl rfl (by have := z50 hs; simp only [Int.ofNat_eq_natCast]; rw [wrap_small (by omega) (by omega)]; omega)
theorem fEq61 (hs : Sc n e r) : FEq cs n e r (.add, .symStr 14, .str [2], .symStr 13) := fact_cat rfl rfl rfl (sC_cat n e 2) (by have := z53 hs; have := szn [2] 1 rfl; omega)
theorem fEq62 (hs : Sc n e r) : FEq cs n e r (.add, .str [1], .symStr 35, .symStr 36) := fact_cat rfl rfl rfl (txt_append [1] _) (by have := z104 hs; have := szn [1] 1 rfl; omega)
theorem fEq63 (hs : Sc n e r) : FEq cs n e r (.add, .symStr 36, .symStr 64, .symStr 59) := fact_cat rfl rfl rfl (txt_append _ _) (by have := z105 hs; have := zEq155 hs; omega)
theorem fEq64 (hs : Sc n e r) : FEq cs n e r (.add, .symStr 59, .str [7, 1, 0, 0, 0, 1, 1, 0, 1, 0], .symStr 49) := fact_cat rfl rfl rfl (txt_append _ _) (by have := zEq150 hs; have := szn [7, 1, 0, 0, 0, 1, 1, 0, 1, 0] 10 rfl; omega)
theorem fEq65 (hs : Sc n e r) : FEq cs n e r (.add, .symStr 36, .symStr 65, .symStr 60) := fact_cat rfl rfl rfl (txt_append _ _) (by have := z105 hs; have := zEq156 hs; omega)
theorem fEq66 (hs : Sc n e r) : FEq cs n e r (.add, .symStr 60, .str [7, 1, 0, 0, 0, 1, 2, 0, 1, 0], .symStr 50) := fact_cat rfl rfl rfl (txt_append _ _) (by have := zEq151 hs; have := szn [7, 1, 0, 0, 0, 1, 2, 0, 1, 0] 10 rfl; omega)
theorem fEq67 (hs : Sc n e r) : FEq cs n e r (.add, .symStr 36, .symStr 66, .symStr 61) := fact_cat rfl rfl rfl (txt_append _ _) (by have := z105 hs; have := zEq157 hs; omega)
theorem fEq68 (hs : Sc n e r) : FEq cs n e r (.add, .symStr 61, .str [7, 1, 0, 0, 0, 1, 3, 0, 1, 0], .symStr 51) := fact_cat rfl rfl rfl (txt_append _ _) (by have := zEq152 hs; have := szn [7, 1, 0, 0, 0, 1, 3, 0, 1, 0] 10 rfl; omega)
theorem fEq69 (hs : Sc n e r) : FEq cs n e r (.add, .symStr 36, .str [0], .symStr 62) := fact_cat rfl rfl rfl (txt_append _ _) (by have := z105 hs; have := szn [0] 1 rfl; omega)
theorem fEq70 (hs : Sc n e r) : FEq cs n e r (.add, .symStr 62, .str [7, 1, 0, 0, 0, 1, 4, 0, 7, 1, 0, 0, 0, 1, 1, 1], .symStr 52) := fact_cat rfl rfl rfl (txt_append _ _) (by have := zEq153 hs; have := szn [7, 1, 0, 0, 0, 1, 4, 0, 7, 1, 0, 0, 0, 1, 1, 1] 16 rfl; omega)
theorem fEq71 (hs : Sc n e r) : FEq cs n e r (.add, .symStr 62, .str [7, 1, 0, 0, 0, 1, 3, 0, 7, 1, 0, 0, 0, 1, 1, 1], .symStr 53) := fact_cat rfl rfl rfl (txt_append _ _) (by have := zEq153 hs; have := szn [7, 1, 0, 0, 0, 1, 3, 0, 7, 1, 0, 0, 0, 1, 1, 1] 16 rfl; omega)
theorem fEq72 (hs : Sc n e r) : FEq cs n e r (.add, .str [], .symStr 22, .symStr 22) := fact_cat rfl rfl rfl (nil_cat _) (by have := zEq91 hs; have := szn [] 0 rfl; omega)
theorem fEq73 (hs : Sc n e r) : FEq cs n e r (.add, .int .i64 0, .symLen 22, .symInt .i64 71) := fact_add (k := .i64) rfl rfl rfl (wrap_small (by simp only [Int.ofNat_eq_natCast]; omega) (by simp only [Int.ofNat_eq_natCast]; have := zEq91 hs; have := zEq93 hs; have := zEq95 hs; have := zEq97 hs; have := zEq99 hs; omega))
theorem fEq74 (hs : Sc n e r) : FEq cs n e r (.add, .int .i64 0, .symLen 7, .symInt .i64 76) := fact_add (k := .i64) rfl rfl rfl (wrap_small (bEq100 hs).1 (Int.le_trans (bEq100 hs).2 (by decide)))
theorem fEq75 (hs : Sc n e r) : FEq cs n e r (.add, .symInt .i64 76, .int .i64 1, .symInt .i64 77) := fact_add (k := .i64) rfl rfl rfl (wrap_small (bEq101 hs).1 (Int.le_trans (bEq101 hs).2 (by decide)))
theorem fEq76 (hs : Sc n e r) : FEq cs n e r (.add, .symInt .i64 77, .int .i64 16, .symInt .i64 78) := fact_add (k := .i64) rfl rfl rfl (wrap_small (bEq102 hs).1 (Int.le_trans (bEq102 hs).2 (by decide)))
theorem fEq77 (hs : Sc n e r) : FEq cs n e r (.add, .symInt .i64 78, .symLen 8, .symInt .i64 79) := fact_add (k := .i64) rfl rfl rfl (wrap_small (bEq103 hs).1 (Int.le_trans (bEq103 hs).2 (by decide)))
theorem fEq78 (hs : Sc n e r) : FEq cs n e r (.add, .symInt .i64 79, .int .i64 7, .symInt .i64 80) := fact_add (k := .i64) rfl rfl rfl (wrap_small (bEq104 hs).1 (Int.le_trans (bEq104 hs).2 (by decide)))
theorem fEq79 (hs : Sc n e r) : FEq cs n e r (.add, .symInt .i64 80, .int .i64 16, .symInt .i64 81) := fact_add (k := .i64) rfl rfl rfl (wrap_small (bEq105 hs).1 (Int.le_trans (bEq105 hs).2 (by decide)))
theorem fEq80 (hs : Sc n e r) : FEq cs n e r (.add, .symInt .i64 81, .symLen 17, .symInt .i64 82) := fact_add (k := .i64) rfl rfl rfl (wrap_small (bEq106 hs).1 (Int.le_trans (bEq106 hs).2 (by decide)))
theorem fEq81 (hs : Sc n e r) : FEq cs n e r (.add, .symInt .i64 82, .int .i64 0, .symInt .i64 83) := fact_add (k := .i64) rfl rfl rfl (wrap_small (bEq107 hs).1 (Int.le_trans (bEq107 hs).2 (by decide)))
theorem fEq82 (hs : Sc n e r) : FEq cs n e r (.add, .symInt .i64 83, .int .i64 16, .symInt .i64 84) := fact_add (k := .i64) rfl rfl rfl (wrap_small (bEq108 hs).1 (Int.le_trans (bEq108 hs).2 (by decide)))
theorem fEq83 (hs : Sc n e r) : FEq cs n e r (.gtr, .symInt .i64 84, .int .i64 2000, .bool false) := fact_gtr rfl rfl (by refine (decide_eq_false ?_).symm; (try simp only [Int.ofNat_eq_natCast]); have := bEq108 hs; omega)
theorem fEq84 (hs : Sc n e r) : FEq cs n e r (.add, .symStr 22, .symStr 24, .symStr 45) := fact_cat rfl rfl rfl (rfl) (by have := zEq91 hs; have := zEq93 hs; omega)
theorem fEq85 (hs : Sc n e r) : FEq cs n e r (.add, .symInt .i64 71, .symLen 24, .symInt .i64 72) := fact_add (k := .i64) rfl rfl rfl (wrap_small (by simp only [Int.ofNat_eq_natCast]; omega) (by simp only [Int.ofNat_eq_natCast]; have := zEq91 hs; have := zEq93 hs; have := zEq95 hs; have := zEq97 hs; have := zEq99 hs; omega))
theorem fEq86 (hs : Sc n e r) : FEq cs n e r (.add, .symInt .i64 84, .symLen 8, .symInt .i64 85) := fact_add (k := .i64) rfl rfl rfl (wrap_small (bEq109 hs).1 (Int.le_trans (bEq109 hs).2 (by decide)))
theorem fEq87 (hs : Sc n e r) : FEq cs n e r (.add, .symInt .i64 85, .int .i64 7, .symInt .i64 86) := fact_add (k := .i64) rfl rfl rfl (wrap_small (bEq110 hs).1 (Int.le_trans (bEq110 hs).2 (by decide)))
theorem fEq88 (hs : Sc n e r) : FEq cs n e r (.add, .symInt .i64 86, .int .i64 16, .symInt .i64 87) := fact_add (k := .i64) rfl rfl rfl (wrap_small (bEq111 hs).1 (Int.le_trans (bEq111 hs).2 (by decide)))
theorem fEq89 (hs : Sc n e r) : FEq cs n e r (.add, .symInt .i64 87, .symLen 20, .symInt .i64 88) := fact_add (k := .i64) rfl rfl rfl (wrap_small (bEq112 hs).1 (Int.le_trans (bEq112 hs).2 (by decide)))
theorem fEq90 (hs : Sc n e r) : FEq cs n e r (.add, .symInt .i64 88, .int .i64 0, .symInt .i64 89) := fact_add (k := .i64) rfl rfl rfl (wrap_small (bEq113 hs).1 (Int.le_trans (bEq113 hs).2 (by decide)))
theorem fEq91 (hs : Sc n e r) : FEq cs n e r (.add, .symInt .i64 89, .int .i64 16, .symInt .i64 90) := fact_add (k := .i64) rfl rfl rfl (wrap_small (bEq114 hs).1 (Int.le_trans (bEq114 hs).2 (by decide)))
theorem fEq92 (hs : Sc n e r) : FEq cs n e r (.gtr, .symInt .i64 90, .int .i64 2000, .bool false) := fact_gtr rfl rfl (by refine (decide_eq_false ?_).symm; (try simp only [Int.ofNat_eq_natCast]); have := bEq114 hs; omega)
theorem fEq93 (hs : Sc n e r) : FEq cs n e r (.add, .symStr 45, .symStr 26, .symStr 46) := fact_cat rfl rfl rfl (rfl) (by have := zEq131 hs; have := zEq95 hs; omega)
theorem fEq94 (hs : Sc n e r) : FEq cs n e r (.add, .symInt .i64 72, .symLen 26, .symInt .i64 73) := fact_add (k := .i64) rfl rfl rfl (wrap_small (by simp only [Int.ofNat_eq_natCast]; omega) (by simp only [Int.ofNat_eq_natCast]; have := zEq91 hs; have := zEq93 hs; have := zEq95 hs; have := zEq97 hs; have := zEq99 hs; omega))
theorem fEq95 (hs : Sc n e r) : FEq cs n e r (.add, .symInt .i64 90, .symLen 8, .symInt .i64 91) := fact_add (k := .i64) rfl rfl rfl (wrap_small (bEq115 hs).1 (Int.le_trans (bEq115 hs).2 (by decide)))
theorem fEq96 (hs : Sc n e r) : FEq cs n e r (.add, .symInt .i64 91, .int .i64 7, .symInt .i64 92) := fact_add (k := .i64) rfl rfl rfl (wrap_small (bEq116 hs).1 (Int.le_trans (bEq116 hs).2 (by decide)))
theorem fEq97 (hs : Sc n e r) : FEq cs n e r (.add, .symInt .i64 92, .int .i64 16, .symInt .i64 93) := fact_add (k := .i64) rfl rfl rfl (wrap_small (bEq117 hs).1 (Int.le_trans (bEq117 hs).2 (by decide)))
theorem fEq98 (hs : Sc n e r) : FEq cs n e r (.add, .symInt .i64 93, .symLen 19, .symInt .i64 94) := fact_add (k := .i64) rfl rfl rfl (wrap_small (bEq118 hs).1 (Int.le_trans (bEq118 hs).2 (by decide)))
theorem fEq99 (hs : Sc n e r) : FEq cs n e r (.add, .symInt .i64 94, .int .i64 0, .symInt .i64 95) := fact_add (k := .i64) rfl rfl rfl (wrap_small (bEq119 hs).1 (Int.le_trans (bEq119 hs).2 (by decide)))
theorem fEq100 (hs : Sc n e r) : FEq cs n e r (.add, .symInt .i64 95, .int .i64 16, .symInt .i64 96) := fact_add (k := .i64) rfl rfl rfl (wrap_small (bEq120 hs).1 (Int.le_trans (bEq120 hs).2 (by decide)))
theorem fEq101 (hs : Sc n e r) : FEq cs n e r (.gtr, .symInt .i64 96, .int .i64 2000, .bool false) := fact_gtr rfl rfl (by refine (decide_eq_false ?_).symm; (try simp only [Int.ofNat_eq_natCast]); have := bEq120 hs; omega)
theorem fEq102 (hs : Sc n e r) : FEq cs n e r (.add, .symStr 46, .symStr 28, .symStr 47) := fact_cat rfl rfl rfl (rfl) (by have := zEq132 hs; have := zEq97 hs; omega)
theorem fEq103 (hs : Sc n e r) : FEq cs n e r (.add, .symInt .i64 73, .symLen 28, .symInt .i64 74) := fact_add (k := .i64) rfl rfl rfl (wrap_small (by simp only [Int.ofNat_eq_natCast]; omega) (by simp only [Int.ofNat_eq_natCast]; have := zEq91 hs; have := zEq93 hs; have := zEq95 hs; have := zEq97 hs; have := zEq99 hs; omega))
theorem fEq104 (hs : Sc n e r) : FEq cs n e r (.add, .symInt .i64 96, .symLen 8, .symInt .i64 97) := fact_add (k := .i64) rfl rfl rfl (wrap_small (bEq121 hs).1 (Int.le_trans (bEq121 hs).2 (by decide)))
theorem fEq105 (hs : Sc n e r) : FEq cs n e r (.add, .symInt .i64 97, .int .i64 7, .symInt .i64 98) := fact_add (k := .i64) rfl rfl rfl (wrap_small (bEq122 hs).1 (Int.le_trans (bEq122 hs).2 (by decide)))
theorem fEq106 (hs : Sc n e r) : FEq cs n e r (.add, .symInt .i64 98, .int .i64 16, .symInt .i64 99) := fact_add (k := .i64) rfl rfl rfl (wrap_small (bEq123 hs).1 (Int.le_trans (bEq123 hs).2 (by decide)))
theorem fEq107 (hs : Sc n e r) : FEq cs n e r (.add, .symInt .i64 99, .symLen 9, .symInt .i64 100) := fact_add (k := .i64) rfl rfl rfl (wrap_small (bEq124 hs).1 (Int.le_trans (bEq124 hs).2 (by decide)))
theorem fEq108 (hs : Sc n e r) : FEq cs n e r (.add, .symInt .i64 100, .int .i64 7, .symInt .i64 101) := fact_add (k := .i64) rfl rfl rfl (wrap_small (bEq125 hs).1 (Int.le_trans (bEq125 hs).2 (by decide)))
theorem fEq109 (hs : Sc n e r) : FEq cs n e r (.add, .symInt .i64 101, .int .i64 16, .symInt .i64 102) := fact_add (k := .i64) rfl rfl rfl (wrap_small (bEq126 hs).1 (Int.le_trans (bEq126 hs).2 (by decide)))
theorem fEq110 (hs : Sc n e r) : FEq cs n e r (.gtr, .symInt .i64 102, .int .i64 2000, .bool false) := fact_gtr rfl rfl (by refine (decide_eq_false ?_).symm; (try simp only [Int.ofNat_eq_natCast]); have := bEq126 hs; omega)
theorem fEq111 (hs : Sc n e r) : FEq cs n e r (.add, .symStr 45, .symStr 30, .symStr 48) := fact_cat rfl rfl rfl (rfl) (by have := zEq131 hs; have := zEq99 hs; omega)
theorem fEq112 (hs : Sc n e r) : FEq cs n e r (.add, .symInt .i64 72, .symLen 30, .symInt .i64 75) := fact_add (k := .i64) rfl rfl rfl (wrap_small (by simp only [Int.ofNat_eq_natCast]; omega) (by simp only [Int.ofNat_eq_natCast]; have := zEq91 hs; have := zEq93 hs; have := zEq95 hs; have := zEq97 hs; have := zEq99 hs; omega))
theorem fEq113 (hs : Sc n e r) : FEq cs n e r (.add, .symInt .i64 93, .symLen 9, .symInt .i64 103) := fact_add (k := .i64) rfl rfl rfl (wrap_small (bEq200 hs).1 (Int.le_trans (bEq200 hs).2 (by decide)))
theorem fEq114 (hs : Sc n e r) : FEq cs n e r (.add, .symInt .i64 103, .int .i64 7, .symInt .i64 104) := fact_add (k := .i64) rfl rfl rfl (wrap_small (bEq201 hs).1 (Int.le_trans (bEq201 hs).2 (by decide)))
theorem fEq115 (hs : Sc n e r) : FEq cs n e r (.add, .symInt .i64 104, .int .i64 16, .symInt .i64 105) := fact_add (k := .i64) rfl rfl rfl (wrap_small (bEq202 hs).1 (Int.le_trans (bEq202 hs).2 (by decide)))
theorem fEq116 (hs : Sc n e r) : FEq cs n e r (.gtr, .symInt .i64 105, .int .i64 2000, .bool false) := fact_gtr rfl rfl (by refine (decide_eq_false ?_).symm; (try simp only [Int.ofNat_eq_natCast]); have := bEq202 hs; omega)
theorem fEq117 (hs : Sc n e r) : FEq cs n e r (.eql, .symStr 37, .str [], .bool false) := fact_eqs rfl rfl (decide_eq_false (ne_empty (by have := z110 hs; omega))).symm
theorem fEq118 (hs : Sc n e r) : FEq cs n e r (.eql, .symStr 39, .str [], .bool false) := fact_eqs rfl rfl (decide_eq_false (ne_empty (by have := z112 hs; omega))).symm
theorem fEq119 (hs : Sc n e r) : FEq cs n e r (.eql, .symStr 40, .str [], .bool false) := fact_eqs rfl rfl (decide_eq_false (ne_empty (by have := z113 hs; omega))).symm
theorem factsOkEq (hs : Sc n e r) : ∀ f ∈ factsEq, FEq cs n e r f := by
  unfold factsEq
  exact ac (fEq0) <| ac (fEq1) <| ac (fEq2) <| ac (fEq3) <| ac (fEq4) <| ac (fEq5) <| ac (fEq6) <| ac (fEq7) <| ac (fEq8) <| ac (fEq9) <| ac (fEq10) <| ac (fEq11) <| ac (fEq12) <| ac (fEq13) <| ac (fEq14) <| ac (fEq15) <| ac (fEq16) <| ac (fEq17) <| ac (fEq18) <| ac (fEq19) <| ac (fEq20) <| ac (fEq21) <| ac (fEq22) <| ac (fEq23) <| ac (fEq24) <| ac (fEq25) <| ac (fEq26) <| ac (fEq27 hs) <| ac (fEq28 hs) <| ac (fEq29 hs) <| ac (fEq30 hs) <| ac (fEq31 hs) <| ac (fEq32 hs) <| ac (fEq33 hs) <| ac (fEq34 hs) <| ac (fEq35 hs) <| ac (fEq36 hs) <| ac (fEq37 hs) <| ac (fEq38 hs) <| ac (fEq39 hs) <| ac (fEq40 hs) <| ac (fEq41 hs) <| ac (fEq42 hs) <| ac (fEq43 hs) <| ac (fEq44 hs) <| ac (fEq45 hs) <| ac (fEq46 hs) <| ac (fEq47 hs) <| ac (fEq48 hs) <| ac (fEq49 hs) <| ac (fEq50) <| ac (fEq51 hs) <| ac (fEq52 hs) <| ac (fEq53 hs) <| ac (fEq54 hs) <| ac (fEq55 hs) <| ac (fEq56 hs) <| ac (fEq57 hs) <| ac (fEq58 hs) <| ac (fEq59 hs) <| ac (fEq60 hs) <| ac (fEq61 hs) <| ac (fEq62 hs) <| ac (fEq63 hs) <| ac (fEq64 hs) <| ac (fEq65 hs) <| ac (fEq66 hs) <| ac (fEq67 hs) <| ac (fEq68 hs) <| ac (fEq69 hs) <| ac (fEq70 hs) <| ac (fEq71 hs) <| ac (fEq72 hs) <| ac (fEq73 hs) <| ac (fEq74 hs) <| ac (fEq75 hs) <| ac (fEq76 hs) <| ac (fEq77 hs) <| ac (fEq78 hs) <| ac (fEq79 hs) <| ac (fEq80 hs) <| ac (fEq81 hs) <| ac (fEq82 hs) <| ac (fEq83 hs) <| ac (fEq84 hs) <| ac (fEq85 hs) <| ac (fEq86 hs) <| ac (fEq87 hs) <| ac (fEq88 hs) <| ac (fEq89 hs) <| ac (fEq90 hs) <| ac (fEq91 hs) <| ac (fEq92 hs) <| ac (fEq93 hs) <| ac (fEq94 hs) <| ac (fEq95 hs) <| ac (fEq96 hs) <| ac (fEq97 hs) <| ac (fEq98 hs) <| ac (fEq99 hs) <| ac (fEq100 hs) <| ac (fEq101 hs) <| ac (fEq102 hs) <| ac (fEq103 hs) <| ac (fEq104 hs) <| ac (fEq105 hs) <| ac (fEq106 hs) <| ac (fEq107 hs) <| ac (fEq108 hs) <| ac (fEq109 hs) <| ac (fEq110 hs) <| ac (fEq111 hs) <| ac (fEq112 hs) <| ac (fEq113 hs) <| ac (fEq114 hs) <| ac (fEq115 hs) <| ac (fEq116 hs) <| ac (fEq117 hs) <| ac (fEq118 hs) <| ac (fEq119 hs) <| an
theorem oEq0 : OEq cs n e r ((5, 9, 0), [.symStr 11, .symInt .i64 69], .int .u8 1) := ofact_byte (p := 111 :: (ok n ++ sC e)) (q := []) (c := 1) Tryz.underlying9 rfl rfl (by show key _ _ = _; simp [key, sf, sC]) (by rw [key_size]; simp [sf, sC]; omega) rfl
theorem oEq1 : OEq cs n e r ((6, 9, 2), [.symStr 11, .symInt .i64 69], .symStr 14) := ofact_hi (p := key n (sC e)) (q := [1]) Tryz.underlying9 rfl rfl (by show key _ _ = _; simp [key, sf, sC]) (by rw [key_size]; simp [key, sf, sC]; omega) rfl
theorem oEq2 : OEq cs n e r ((6, 9, 2), [.symStr 17, .int .i64 1], .str [111]) := ofact_hi (i := 1) (p := [111]) (q := ok n ++ sf e 1 (dotk 1)) Tryz.underlying9 rfl rfl rfl rfl rfl
theorem oEq3 : OEq cs n e r ((6, 9, 1), [.symStr 17, .int .i64 1], .symStr 31) := ofact_lo (i := 1) (p := [111]) Tryz.underlying9 rfl rfl rfl rfl rfl
theorem oEq4 : OEq cs n e r ((5, 9, 0), [.symStr 37, .int .i64 0], .int .u8 3) := ofact_byte (i := 0) (p := []) (q := esc e ++ 0 :: 1 :: (dotk 1)) (c := 3) Tryz.underlying9 rfl rfl rfl rfl rfl
theorem oEq5 : OEq cs n e r ((6, 9, 1), [.symStr 37, .int .i64 1], .symStr 41) := ofact_lo (i := 1) (p := [3]) Tryz.underlying9 rfl rfl rfl rfl rfl
theorem oEq6 : OEq cs n e r ((6, 9, 2), [.symStr 19, .int .i64 1], .str [111]) := ofact_hi (i := 1) (p := [111]) (q := ok n ++ sf e 1 (dotk 3)) Tryz.underlying9 rfl rfl rfl rfl rfl
theorem oEq7 : OEq cs n e r ((6, 9, 1), [.symStr 19, .int .i64 1], .symStr 33) := ofact_lo (i := 1) (p := [111]) Tryz.underlying9 rfl rfl rfl rfl rfl
theorem oEq8 : OEq cs n e r ((5, 9, 0), [.symStr 39, .int .i64 0], .int .u8 3) := ofact_byte (i := 0) (p := []) (q := esc e ++ 0 :: 1 :: (dotk 3)) (c := 3) Tryz.underlying9 rfl rfl rfl rfl rfl
theorem oEq9 : OEq cs n e r ((6, 9, 1), [.symStr 39, .int .i64 1], .symStr 43) := ofact_lo (i := 1) (p := [3]) Tryz.underlying9 rfl rfl rfl rfl rfl
theorem oEq10 : OEq cs n e r ((6, 9, 2), [.symStr 20, .int .i64 1], .str [111]) := ofact_hi (i := 1) (p := [111]) (q := ok n ++ sf e 1 (dotk 2)) Tryz.underlying9 rfl rfl rfl rfl rfl
theorem oEq11 : OEq cs n e r ((6, 9, 1), [.symStr 20, .int .i64 1], .symStr 34) := ofact_lo (i := 1) (p := [111]) Tryz.underlying9 rfl rfl rfl rfl rfl
theorem oEq12 : OEq cs n e r ((5, 9, 0), [.symStr 40, .int .i64 0], .int .u8 3) := ofact_byte (i := 0) (p := []) (q := esc e ++ 0 :: 1 :: (dotk 2)) (c := 3) Tryz.underlying9 rfl rfl rfl rfl rfl
theorem oEq13 : OEq cs n e r ((6, 9, 1), [.symStr 40, .int .i64 1], .symStr 44) := ofact_lo (i := 1) (p := [3]) Tryz.underlying9 rfl rfl rfl rfl rfl
theorem oEq14 (hs : Sc n e r) : OEq cs n e r ((12, 0, 0), [.symInt .i64 78, .int .i64 4611686018427387904], .symInt .i64 78) := ofact_min rfl rfl rfl (if_neg (by have := bEq102 hs; omega))
theorem oEq15 (hs : Sc n e r) : OEq cs n e r ((12, 0, 0), [.symInt .i64 81, .int .i64 4611686018427387904], .symInt .i64 81) := ofact_min rfl rfl rfl (if_neg (by have := bEq105 hs; omega))
theorem oEq16 (hs : Sc n e r) : OEq cs n e r ((12, 0, 0), [.symInt .i64 84, .int .i64 4611686018427387904], .symInt .i64 84) := ofact_min rfl rfl rfl (if_neg (by have := bEq108 hs; omega))
theorem oEq17 (hs : Sc n e r) : OEq cs n e r ((12, 0, 0), [.symInt .i64 87, .int .i64 4611686018427387904], .symInt .i64 87) := ofact_min rfl rfl rfl (if_neg (by have := bEq111 hs; omega))
theorem oEq18 (hs : Sc n e r) : OEq cs n e r ((12, 0, 0), [.symInt .i64 90, .int .i64 4611686018427387904], .symInt .i64 90) := ofact_min rfl rfl rfl (if_neg (by have := bEq114 hs; omega))
theorem oEq19 (hs : Sc n e r) : OEq cs n e r ((12, 0, 0), [.symInt .i64 93, .int .i64 4611686018427387904], .symInt .i64 93) := ofact_min rfl rfl rfl (if_neg (by have := bEq117 hs; omega))
theorem oEq20 (hs : Sc n e r) : OEq cs n e r ((12, 0, 0), [.symInt .i64 96, .int .i64 4611686018427387904], .symInt .i64 96) := ofact_min rfl rfl rfl (if_neg (by have := bEq120 hs; omega))
theorem oEq21 (hs : Sc n e r) : OEq cs n e r ((12, 0, 0), [.symInt .i64 99, .int .i64 4611686018427387904], .symInt .i64 99) := ofact_min rfl rfl rfl (if_neg (by have := bEq123 hs; omega))
theorem oEq22 (hs : Sc n e r) : OEq cs n e r ((12, 0, 0), [.symInt .i64 102, .int .i64 4611686018427387904], .symInt .i64 102) := ofact_min rfl rfl rfl (if_neg (by have := bEq126 hs; omega))
theorem oEq23 (hs : Sc n e r) : OEq cs n e r ((12, 0, 0), [.symInt .i64 105, .int .i64 4611686018427387904], .symInt .i64 105) := ofact_min rfl rfl rfl (if_neg (by have := bEq202 hs; omega))
theorem ofactsOkEq (hs : Sc n e r) : ∀ f ∈ ofactsEq, OEq cs n e r f := by
  unfold ofactsEq
  exact ac (oEq0) <| ac (oEq1) <| ac (oEq2) <| ac (oEq3) <| ac (oEq4) <| ac (oEq5) <| ac (oEq6) <| ac (oEq7) <| ac (oEq8) <| ac (oEq9) <| ac (oEq10) <| ac (oEq11) <| ac (oEq12) <| ac (oEq13) <| ac (oEq14 hs) <| ac (oEq15 hs) <| ac (oEq16 hs) <| ac (oEq17 hs) <| ac (oEq18 hs) <| ac (oEq19 hs) <| ac (oEq20 hs) <| ac (oEq21 hs) <| ac (oEq22 hs) <| ac (oEq23 hs) <| an
end
section
variable {n e r : List UInt8} {w0 : World}
abbrev PEq (w0 : World) (n e r : List UInt8) := Outer w0 (sgEq n e r) fun b => b < w0.heap.size
noncomputable def rTextEq : List (List AV × AV) := [([.symStr 0], .symStr 3), ([.symStr 1], .symStr 4)]
theorem cTextEq (hs : Sc n e r) {m : Int} (hm : w0.cell? ⟨0, 0, none⟩ = some (.int .i64 m)) : ConOK Tryz.prog (PEq w0 n e r) 86 (.ans rTextEq) := by
  refine ans_ok fun r_ hr => ?_
  simp only [rTextEq, List.mem_cons, List.mem_nil_iff, or_false] at hr
  rcases hr with rfl | rfl
  · exact ⟨[.string (txt n)], _, rfl, rfl, fun w st => (okey_any _ m w (by have := z0 hs; omega) (cell_st st hm)).mono fun e w' ⟨h1, h2⟩ => ⟨h1, stands_of_below h2⟩⟩
  · exact ⟨[.string (txt e)], _, rfl, rfl, fun w st => (okey_any _ m w (by have := z1 hs; omega) (cell_st st hm)).mono fun e w' ⟨h1, h2⟩ => ⟨h1, stands_of_below h2⟩⟩
noncomputable def rPartEq : List (List AV × AV) := [([.symStr 31], .tuple [.symStr 0, .symStr 37, .int .i64 0]), ([.symStr 33], .tuple [.symStr 0, .symStr 39, .int .i64 0]), ([.symStr 34], .tuple [.symStr 0, .symStr 40, .int .i64 0]), ([.symStr 41], .tuple [.symStr 1, .str [0, 0, 0, 1, 0, 0, 0, 0, 0, 0, 0, 1], .int .i64 0]), ([.symStr 43], .tuple [.symStr 1, .str [0, 0, 0, 1, 0, 0, 0, 0, 0, 0, 0, 3], .int .i64 0]), ([.symStr 44], .tuple [.symStr 1, .str [0, 0, 0, 1, 0, 0, 0, 0, 0, 0, 0, 2], .int .i64 0])]
theorem cPartEq (hs : Sc n e r) : ConOK Tryz.prog (PEq w0 n e r) 288 (.ans rPartEq) := by
  refine ans_ok fun r_ hr => ?_
  simp only [rPartEq, List.mem_cons, List.mem_nil_iff, or_false] at hr
  rcases hr with rfl | rfl | rfl | rfl | rfl | rfl
  · refine ⟨[.string (txt (ok n ++ sf e 1 (dotk 1)))], .tuple #[.string (txt n), .string (txt (sf e 1 (dotk 1))), .int .i64 0], rfl, rfl, fun w st => (part_any n (sf e 1 (dotk 1)) (txt (ok n ++ sf e 1 (dotk 1))) ?_ (by have := z100 hs; omega) w).mono fun e w' ⟨h1, h2⟩ => ⟨h1, stands_of_below h2⟩⟩
    show ok n ++ _ = _; simp [ok]
  · refine ⟨[.string (txt (ok n ++ sf e 1 (dotk 3)))], .tuple #[.string (txt n), .string (txt (sf e 1 (dotk 3))), .int .i64 0], rfl, rfl, fun w st => (part_any n (sf e 1 (dotk 3)) (txt (ok n ++ sf e 1 (dotk 3))) ?_ (by have := z102 hs; omega) w).mono fun e w' ⟨h1, h2⟩ => ⟨h1, stands_of_below h2⟩⟩
    show ok n ++ _ = _; simp [ok]
  · refine ⟨[.string (txt (ok n ++ sf e 1 (dotk 2)))], .tuple #[.string (txt n), .string (txt (sf e 1 (dotk 2))), .int .i64 0], rfl, rfl, fun w st => (part_any n (sf e 1 (dotk 2)) (txt (ok n ++ sf e 1 (dotk 2))) ?_ (by have := z103 hs; omega) w).mono fun e w' ⟨h1, h2⟩ => ⟨h1, stands_of_below h2⟩⟩
    show ok n ++ _ = _; simp [ok]
  · refine ⟨[.string (txt (esc e ++ 0 :: 1 :: (dotk 1)))], .tuple #[.string (txt e), .string (txt (dotk 1)), .int .i64 0], rfl, rfl, fun w st => (part_any e (dotk 1) (txt (esc e ++ 0 :: 1 :: (dotk 1))) ?_ (by have := z120 hs; omega) w).mono fun e w' ⟨h1, h2⟩ => ⟨h1, stands_of_below h2⟩⟩
    rfl
  · refine ⟨[.string (txt (esc e ++ 0 :: 1 :: (dotk 3)))], .tuple #[.string (txt e), .string (txt (dotk 3)), .int .i64 0], rfl, rfl, fun w st => (part_any e (dotk 3) (txt (esc e ++ 0 :: 1 :: (dotk 3))) ?_ (by have := z122 hs; omega) w).mono fun e w' ⟨h1, h2⟩ => ⟨h1, stands_of_below h2⟩⟩
    rfl
  · refine ⟨[.string (txt (esc e ++ 0 :: 1 :: (dotk 2)))], .tuple #[.string (txt e), .string (txt (dotk 2)), .int .i64 0], rfl, rfl, fun w st => (part_any e (dotk 2) (txt (esc e ++ 0 :: 1 :: (dotk 2))) ?_ (by have := z123 hs; omega) w).mono fun e w' ⟨h1, h2⟩ => ⟨h1, stands_of_below h2⟩⟩
    rfl
noncomputable def rCloneEq : List (List AV × AV) := [([.symStr 0], .symStr 0), ([.symStr 1], .symStr 1), ([.symStr 7], .symStr 7), ([.symStr 8], .symStr 8), ([.symStr 9], .symStr 9), ([.symStr 17], .symStr 17), ([.symStr 19], .symStr 19), ([.symStr 20], .symStr 20), ([.symStr 37], .symStr 37), ([.symStr 39], .symStr 39), ([.symStr 40], .symStr 40)]
theorem cCloneEq (hs : Sc n e r) : ConOK Tryz.prog (PEq w0 n e r) 69 (.ans rCloneEq) := by
  refine ans_ok fun r_ hr => ?_
  simp only [rCloneEq, List.mem_cons, List.mem_nil_iff, or_false] at hr
  rcases hr with rfl | rfl | rfl | rfl | rfl | rfl | rfl | rfl | rfl | rfl | rfl
  · exact ⟨[.string (txt n)], _, rfl, rfl, fun w _ => clone_any _ (by have := z0 hs; omega) w⟩
  · exact ⟨[.string (txt e)], _, rfl, rfl, fun w _ => clone_any _ (by have := z1 hs; omega) w⟩
  · exact ⟨[.string (txt (key n [0]))], _, rfl, rfl, fun w _ => clone_any _ (by have := z30 hs; omega) w⟩
  · exact ⟨[.string (txt (key n [1]))], _, rfl, rfl, fun w _ => clone_any _ (by have := z31 hs; omega) w⟩
  · exact ⟨[.string (txt (key n [2]))], _, rfl, rfl, fun w _ => clone_any _ (by have := z32 hs; omega) w⟩
  · exact ⟨[.string (txt (key n (sf e 1 (dotk 1))))], _, rfl, rfl, fun w _ => clone_any _ (by have := z60 hs; omega) w⟩
  · exact ⟨[.string (txt (key n (sf e 1 (dotk 3))))], _, rfl, rfl, fun w _ => clone_any _ (by have := z62 hs; omega) w⟩
  · exact ⟨[.string (txt (key n (sf e 1 (dotk 2))))], _, rfl, rfl, fun w _ => clone_any _ (by have := z63 hs; omega) w⟩
  · exact ⟨[.string (txt (sf e 1 (dotk 1)))], _, rfl, rfl, fun w _ => clone_any _ (by have := z110 hs; omega) w⟩
  · exact ⟨[.string (txt (sf e 1 (dotk 3)))], _, rfl, rfl, fun w _ => clone_any _ (by have := z112 hs; omega) w⟩
  · exact ⟨[.string (txt (sf e 1 (dotk 2)))], _, rfl, rfl, fun w _ => clone_any _ (by have := z113 hs; omega) w⟩
noncomputable def rCmpEq : List (List AV × AV) := [([.symStr 7, .symStr 8], .int .i64 (-1)), ([.symStr 7, .symStr 9], .int .i64 (-1)), ([.symStr 7, .symStr 17], .int .i64 (-1)), ([.symStr 7, .symStr 19], .int .i64 (-1)), ([.symStr 7, .symStr 20], .int .i64 (-1)), ([.symStr 8, .symStr 8], .int .i64 0), ([.symStr 8, .symStr 9], .int .i64 (-1)), ([.symStr 8, .symStr 17], .int .i64 (-1)), ([.symStr 8, .symStr 19], .int .i64 (-1)), ([.symStr 8, .symStr 20], .int .i64 (-1)), ([.symStr 17, .symStr 9], .int .i64 1), ([.symStr 17, .symStr 19], .int .i64 (-1)), ([.symStr 17, .symStr 20], .int .i64 (-1)), ([.symStr 20, .symStr 19], .int .i64 (-1))]
theorem cCmpEq : ConOK Tryz.prog (PEq w0 n e r) 261 (.ans rCmpEq) := by
  refine ans_ok fun r_ hr => ?_
  simp only [rCmpEq, List.mem_cons, List.mem_nil_iff, or_false] at hr
  rcases hr with rfl | rfl | rfl | rfl | rfl | rfl | rfl | rfl | rfl | rfl | rfl | rfl | rfl | rfl
  · exact ⟨[.string (txt (key n [0])), .string (txt (key n [1]))], _, rfl, rfl, fun w _ => cmp_lt (key_lt n (rfl : ltL [0] [1] = true)) w⟩
  · exact ⟨[.string (txt (key n [0])), .string (txt (key n [2]))], _, rfl, rfl, fun w _ => cmp_lt (key_lt n (rfl : ltL [0] [2] = true)) w⟩
  · exact ⟨[.string (txt (key n [0])), .string (txt (key n (sf e 1 (dotk 1))))], _, rfl, rfl, fun w _ => cmp_lt (key_lt n (rfl : ltL [0] (sf e 1 (dotk 1)) = true)) w⟩
  · exact ⟨[.string (txt (key n [0])), .string (txt (key n (sf e 1 (dotk 3))))], _, rfl, rfl, fun w _ => cmp_lt (key_lt n (rfl : ltL [0] (sf e 1 (dotk 3)) = true)) w⟩
  · exact ⟨[.string (txt (key n [0])), .string (txt (key n (sf e 1 (dotk 2))))], _, rfl, rfl, fun w _ => cmp_lt (key_lt n (rfl : ltL [0] (sf e 1 (dotk 2)) = true)) w⟩
  · exact ⟨[.string (txt (key n [1])), .string (txt (key n [1]))], _, rfl, rfl, fun w _ => cmp_eq w⟩
  · exact ⟨[.string (txt (key n [1])), .string (txt (key n [2]))], _, rfl, rfl, fun w _ => cmp_lt (key_lt n (rfl : ltL [1] [2] = true)) w⟩
  · exact ⟨[.string (txt (key n [1])), .string (txt (key n (sf e 1 (dotk 1))))], _, rfl, rfl, fun w _ => cmp_lt (key_lt n (rfl : ltL [1] (sf e 1 (dotk 1)) = true)) w⟩
  · exact ⟨[.string (txt (key n [1])), .string (txt (key n (sf e 1 (dotk 3))))], _, rfl, rfl, fun w _ => cmp_lt (key_lt n (rfl : ltL [1] (sf e 1 (dotk 3)) = true)) w⟩
  · exact ⟨[.string (txt (key n [1])), .string (txt (key n (sf e 1 (dotk 2))))], _, rfl, rfl, fun w _ => cmp_lt (key_lt n (rfl : ltL [1] (sf e 1 (dotk 2)) = true)) w⟩
  · exact ⟨[.string (txt (key n (sf e 1 (dotk 1)))), .string (txt (key n [2]))], _, rfl, rfl, fun w _ => cmp_gt (key_lt n (rfl : ltL [2] (sf e 1 (dotk 1)) = true)) w⟩
  · exact ⟨[.string (txt (key n (sf e 1 (dotk 1)))), .string (txt (key n (sf e 1 (dotk 3))))], _, rfl, rfl, fun w _ => cmp_lt (key_lt n (sf_lt e rfl)) w⟩
  · exact ⟨[.string (txt (key n (sf e 1 (dotk 1)))), .string (txt (key n (sf e 1 (dotk 2))))], _, rfl, rfl, fun w _ => cmp_lt (key_lt n (sf_lt e rfl)) w⟩
  · exact ⟨[.string (txt (key n (sf e 1 (dotk 2)))), .string (txt (key n (sf e 1 (dotk 3))))], _, rfl, rfl, fun w _ => cmp_lt (key_lt n (sf_lt e rfl)) w⟩
noncomputable def rBatchEq : List (List PArg × AV) := [([(.agg [.v (.int .u64 1), .row 3 [.symStr 7, .str [1], .bool false, .symStr 8, .str [1, 0, 0, 0, 1, 1, 0], .bool false, .symStr 17, .str [], .bool false]])], .tuple [.symStr 21, .int .i64 0]), ([(.agg [.v (.int .u64 4), .row 2 [.symStr 8, .str [1, 0, 0, 0, 1, 1, 1], .bool false, .symStr 20, .str [], .bool false]])], .tuple [.symStr 23, .int .i64 0]), ([(.agg [.v (.int .u64 6), .row 2 [.symStr 8, .str [1, 0, 0, 0, 1, 1, 2], .bool false, .symStr 19, .str [], .bool false]])], .tuple [.symStr 25, .int .i64 0]), ([(.agg [.v (.int .u64 8), .row 2 [.symStr 8, .str [1, 0, 0, 0, 1, 1, 3], .bool false, .symStr 9, .str [1, 0, 0, 0, 1, 1, 1], .bool false]])], .tuple [.symStr 27, .int .i64 0]), ([(.agg [.v (.int .u64 6), .row 2 [.symStr 8, .str [1, 0, 0, 0, 1, 1, 2], .bool false, .symStr 9, .str [1, 0, 0, 0, 1, 1, 1], .bool false]])], .tuple [.symStr 29, .int .i64 0])]
theorem cBatchEq (hs : Sc n e r) : ConOK Tryz.prog (PEq w0 n e r) 117 (.fn (patFn rBatchEq)) := by
  refine patFn_ok fun r_ hr => ?_
  simp only [rBatchEq, List.mem_cons, List.mem_nil_iff, or_false] at hr
  rcases hr with rfl | rfl | rfl | rfl | rfl
  · refine ⟨?_, .tuple #[.string (txt (bt 1 (w0Eq n e r))), .int .i64 0], rfl, ?_⟩
    · intro p hp
      obtain rfl := by simpa using hp
      intro q hq
      simp only [List.mem_cons, List.mem_nil_iff, or_false] at hq
      rcases hq with rfl | rfl <;> rfl
    · rintro w ys st ⟨y, zs, rfl, ⟨l, rfl, y0, l1, rfl, h0, y1, l2, rfl, ⟨bk, off, cap, xs, rfl, hbk, hxs, hc⟩, rfl⟩, rfl⟩
      obtain rfl : Value.int .u64 1 = y0 := Option.some.inj h0
      obtain rfl : _ = xs := Option.some.inj hxs
      refine (batch_any 1 (w0Eq n e r) bk off cap w (by decide) hbk (by simp [w0Eq]) (by simp [w0Eq]) (wxEq0 hs) ?_).mono fun e w' ⟨h1, h2⟩ => ⟨h1, stands_of_below h2⟩
      intro j p hj
      match j, hj with
      | 0, hj => cases hj; exact ⟨hc 0 _ rfl, hc 1 _ rfl, hc 2 _ rfl⟩
      | 1, hj => cases hj; exact ⟨hc 3 _ rfl, hc 4 _ rfl, hc 5 _ rfl⟩
      | 2, hj => cases hj; exact ⟨hc 6 _ rfl, hc 7 _ rfl, hc 8 _ rfl⟩
  · refine ⟨?_, .tuple #[.string (txt (bt 4 (w1Eq n e r))), .int .i64 0], rfl, ?_⟩
    · intro p hp
      obtain rfl := by simpa using hp
      intro q hq
      simp only [List.mem_cons, List.mem_nil_iff, or_false] at hq
      rcases hq with rfl | rfl <;> rfl
    · rintro w ys st ⟨y, zs, rfl, ⟨l, rfl, y0, l1, rfl, h0, y1, l2, rfl, ⟨bk, off, cap, xs, rfl, hbk, hxs, hc⟩, rfl⟩, rfl⟩
      obtain rfl : Value.int .u64 4 = y0 := Option.some.inj h0
      obtain rfl : _ = xs := Option.some.inj hxs
      refine (batch_any 4 (w1Eq n e r) bk off cap w (by decide) hbk (by simp [w1Eq]) (by simp [w1Eq]) (wxEq1 hs) ?_).mono fun e w' ⟨h1, h2⟩ => ⟨h1, stands_of_below h2⟩
      intro j p hj
      match j, hj with
      | 0, hj => cases hj; exact ⟨hc 0 _ rfl, hc 1 _ rfl, hc 2 _ rfl⟩
      | 1, hj => cases hj; exact ⟨hc 3 _ rfl, hc 4 _ rfl, hc 5 _ rfl⟩
  · refine ⟨?_, .tuple #[.string (txt (bt 6 (w2Eq n e r))), .int .i64 0], rfl, ?_⟩
    · intro p hp
      obtain rfl := by simpa using hp
      intro q hq
      simp only [List.mem_cons, List.mem_nil_iff, or_false] at hq
      rcases hq with rfl | rfl <;> rfl
    · rintro w ys st ⟨y, zs, rfl, ⟨l, rfl, y0, l1, rfl, h0, y1, l2, rfl, ⟨bk, off, cap, xs, rfl, hbk, hxs, hc⟩, rfl⟩, rfl⟩
      obtain rfl : Value.int .u64 6 = y0 := Option.some.inj h0
      obtain rfl : _ = xs := Option.some.inj hxs
      refine (batch_any 6 (w2Eq n e r) bk off cap w (by decide) hbk (by simp [w2Eq]) (by simp [w2Eq]) (wxEq2 hs) ?_).mono fun e w' ⟨h1, h2⟩ => ⟨h1, stands_of_below h2⟩
      intro j p hj
      match j, hj with
      | 0, hj => cases hj; exact ⟨hc 0 _ rfl, hc 1 _ rfl, hc 2 _ rfl⟩
      | 1, hj => cases hj; exact ⟨hc 3 _ rfl, hc 4 _ rfl, hc 5 _ rfl⟩
  · refine ⟨?_, .tuple #[.string (txt (bt 8 (w3Eq n e r))), .int .i64 0], rfl, ?_⟩
    · intro p hp
      obtain rfl := by simpa using hp
      intro q hq
      simp only [List.mem_cons, List.mem_nil_iff, or_false] at hq
      rcases hq with rfl | rfl <;> rfl
    · rintro w ys st ⟨y, zs, rfl, ⟨l, rfl, y0, l1, rfl, h0, y1, l2, rfl, ⟨bk, off, cap, xs, rfl, hbk, hxs, hc⟩, rfl⟩, rfl⟩
      obtain rfl : Value.int .u64 8 = y0 := Option.some.inj h0
      obtain rfl : _ = xs := Option.some.inj hxs
      refine (batch_any 8 (w3Eq n e r) bk off cap w (by decide) hbk (by simp [w3Eq]) (by simp [w3Eq]) (wxEq3 hs) ?_).mono fun e w' ⟨h1, h2⟩ => ⟨h1, stands_of_below h2⟩
      intro j p hj
      match j, hj with
      | 0, hj => cases hj; exact ⟨hc 0 _ rfl, hc 1 _ rfl, hc 2 _ rfl⟩
      | 1, hj => cases hj; exact ⟨hc 3 _ rfl, hc 4 _ rfl, hc 5 _ rfl⟩
  · refine ⟨?_, .tuple #[.string (txt (bt 6 (w4Eq n e r))), .int .i64 0], rfl, ?_⟩
    · intro p hp
      obtain rfl := by simpa using hp
      intro q hq
      simp only [List.mem_cons, List.mem_nil_iff, or_false] at hq
      rcases hq with rfl | rfl <;> rfl
    · rintro w ys st ⟨y, zs, rfl, ⟨l, rfl, y0, l1, rfl, h0, y1, l2, rfl, ⟨bk, off, cap, xs, rfl, hbk, hxs, hc⟩, rfl⟩, rfl⟩
      obtain rfl : Value.int .u64 6 = y0 := Option.some.inj h0
      obtain rfl : _ = xs := Option.some.inj hxs
      refine (batch_any 6 (w4Eq n e r) bk off cap w (by decide) hbk (by simp [w4Eq]) (by simp [w4Eq]) (wxEq4 hs) ?_).mono fun e w' ⟨h1, h2⟩ => ⟨h1, stands_of_below h2⟩
      intro j p hj
      match j, hj with
      | 0, hj => cases hj; exact ⟨hc 0 _ rfl, hc 1 _ rfl, hc 2 _ rfl⟩
      | 1, hj => cases hj; exact ⟨hc 3 _ rfl, hc 4 _ rfl, hc 5 _ rfl⟩
noncomputable def rFrameEq : List (List AV × AV) := [([.symStr 21], .symStr 22), ([.symStr 23], .symStr 24), ([.symStr 25], .symStr 26), ([.symStr 27], .symStr 28), ([.symStr 29], .symStr 30)]
theorem cFrameEq (hs : Sc n e r) : ConOK Tryz.prog (PEq w0 n e r) 171 (.fn (rowFn rFrameEq)) := by
  refine rowFn_ok fun r_ hr => ?_
  simp only [rFrameEq, List.mem_cons, List.mem_nil_iff, or_false] at hr
  rcases hr with rfl | rfl | rfl | rfl | rfl
  · exact ⟨[.string (txt (bt 1 (w0Eq n e r)))], .string (txt (fr (bt 1 (w0Eq n e r)))), rfl, rfl, fun w bk off cap _ hb hc => (frame_any (txt (bt 1 (w0Eq n e r))) bk off cap w hb (by have := zEq90 hs; omega) (hc 0 _ rfl)).mono fun e w' ⟨h1, h2⟩ => ⟨by rw [h1, txt_list], h2⟩⟩
  · exact ⟨[.string (txt (bt 4 (w1Eq n e r)))], .string (txt (fr (bt 4 (w1Eq n e r)))), rfl, rfl, fun w bk off cap _ hb hc => (frame_any (txt (bt 4 (w1Eq n e r))) bk off cap w hb (by have := zEq92 hs; omega) (hc 0 _ rfl)).mono fun e w' ⟨h1, h2⟩ => ⟨by rw [h1, txt_list], h2⟩⟩
  · exact ⟨[.string (txt (bt 6 (w2Eq n e r)))], .string (txt (fr (bt 6 (w2Eq n e r)))), rfl, rfl, fun w bk off cap _ hb hc => (frame_any (txt (bt 6 (w2Eq n e r))) bk off cap w hb (by have := zEq94 hs; omega) (hc 0 _ rfl)).mono fun e w' ⟨h1, h2⟩ => ⟨by rw [h1, txt_list], h2⟩⟩
  · exact ⟨[.string (txt (bt 8 (w3Eq n e r)))], .string (txt (fr (bt 8 (w3Eq n e r)))), rfl, rfl, fun w bk off cap _ hb hc => (frame_any (txt (bt 8 (w3Eq n e r))) bk off cap w hb (by have := zEq96 hs; omega) (hc 0 _ rfl)).mono fun e w' ⟨h1, h2⟩ => ⟨by rw [h1, txt_list], h2⟩⟩
  · exact ⟨[.string (txt (bt 6 (w4Eq n e r)))], .string (txt (fr (bt 6 (w4Eq n e r)))), rfl, rfl, fun w bk off cap _ hb hc => (frame_any (txt (bt 6 (w4Eq n e r))) bk off cap w hb (by have := zEq98 hs; omega) (hc 0 _ rfl)).mono fun e w' ⟨h1, h2⟩ => ⟨by rw [h1, txt_list], h2⟩⟩
noncomputable def rNTEq : List (List AV × AV) := [([.symStr 0], .symStr 35)]
theorem cNTEq (hs : Sc n e r) : ConOK Tryz.prog (PEq w0 n e r) 149 (.fn (rowFn rNTEq)) := by
  refine rowFn_ok fun r_ hr => ?_
  simp only [rNTEq, List.mem_cons, List.mem_nil_iff, or_false] at hr
  subst hr
  · refine ⟨[.string (txt n)], _, rfl, rfl, fun w bk off cap _ hb hc => (text_any [txt n] bk off cap w hb (by simp) (by have := z104 hs; rw [txt_size] at this; omega) (by intro s hq; simp at hq; subst hq; have := z0 hs; omega) (fun j s hj => ?_)).mono fun e w' ⟨h1, h2⟩ => ⟨h1, stands_of_below h2⟩⟩
    match j, hj with
    | 0, hj => cases hj; exact hc 0 _ rfl
noncomputable def rItemsEq : List (List PArg × AV) := [([(.one (.row 1 [.symStr 1, .int .u8 0, .int .u8 0, .int .u8 0, .int .u8 1, .int .u64 1, .str []]))], .symStr 64), ([(.one (.row 1 [.symStr 1, .int .u8 0, .int .u8 0, .int .u8 0, .int .u8 1, .int .u64 2, .str []]))], .symStr 65), ([(.one (.row 1 [.symStr 1, .int .u8 0, .int .u8 0, .int .u8 0, .int .u8 1, .int .u64 3, .str []]))], .symStr 66)]
theorem cItemsEq (hs : Sc n e r) : ConOK Tryz.prog (PEq w0 n e r) 300 (.fn (patFn rItemsEq)) := by
  refine patFn_ok fun r_ hr => ?_
  simp only [rItemsEq, List.mem_cons, List.mem_nil_iff, or_false] at hr
  rcases hr with rfl | rfl | rfl
  · refine ⟨?_, .string (txt (itm (txt e) (txt (dotk 1)) ⟨#[]⟩)), rfl, ?_⟩
    · intro p hp
      obtain rfl := by simpa using hp
      rfl
    · rintro w ys st ⟨y, zs, rfl, ⟨bk, off, cap, xs, rfl, hbk, hxs, hc⟩, rfl⟩
      obtain rfl : _ = xs := Option.some.inj hxs
      exact items_any (txt e) ⟨#[]⟩ (txt (dotk 1)) 0 0 0 1 1 bk off cap w hbk (by have := z1 hs; omega) (by decide) (by decide) dot1_any (hc 0 _ rfl) (hc 1 _ rfl) (hc 2 _ rfl) (hc 3 _ rfl) (hc 4 _ rfl) (hc 5 _ rfl) (hc 6 _ rfl)
  · refine ⟨?_, .string (txt (itm (txt e) (txt (dotk 2)) ⟨#[]⟩)), rfl, ?_⟩
    · intro p hp
      obtain rfl := by simpa using hp
      rfl
    · rintro w ys st ⟨y, zs, rfl, ⟨bk, off, cap, xs, rfl, hbk, hxs, hc⟩, rfl⟩
      obtain rfl : _ = xs := Option.some.inj hxs
      exact items_any (txt e) ⟨#[]⟩ (txt (dotk 2)) 0 0 0 1 2 bk off cap w hbk (by have := z1 hs; omega) (by decide) (by decide) dot2_any (hc 0 _ rfl) (hc 1 _ rfl) (hc 2 _ rfl) (hc 3 _ rfl) (hc 4 _ rfl) (hc 5 _ rfl) (hc 6 _ rfl)
  · refine ⟨?_, .string (txt (itm (txt e) (txt (dotk 3)) ⟨#[]⟩)), rfl, ?_⟩
    · intro p hp
      obtain rfl := by simpa using hp
      rfl
    · rintro w ys st ⟨y, zs, rfl, ⟨bk, off, cap, xs, rfl, hbk, hxs, hc⟩, rfl⟩
      obtain rfl : _ = xs := Option.some.inj hxs
      exact items_any (txt e) ⟨#[]⟩ (txt (dotk 3)) 0 0 0 1 3 bk off cap w hbk (by have := z1 hs; omega) (by decide) (by decide) dot3_any (hc 0 _ rfl) (hc 1 _ rfl) (hc 2 _ rfl) (hc 3 _ rfl) (hc 4 _ rfl) (hc 5 _ rfl) (hc 6 _ rfl)
noncomputable def rSortEq : List (List AV × List AV) := [([.symStr 7, .symStr 8, .symStr 17], [.symStr 7, .symStr 8, .symStr 17]), ([.symStr 7, .symStr 17, .symStr 8], [.symStr 7, .symStr 8, .symStr 17]), ([.symStr 8, .symStr 7, .symStr 17], [.symStr 7, .symStr 8, .symStr 17]), ([.symStr 8, .symStr 17, .symStr 7], [.symStr 7, .symStr 8, .symStr 17]), ([.symStr 17, .symStr 7, .symStr 8], [.symStr 7, .symStr 8, .symStr 17]), ([.symStr 17, .symStr 8, .symStr 7], [.symStr 7, .symStr 8, .symStr 17]), ([.symStr 8, .symStr 20], [.symStr 8, .symStr 20]), ([.symStr 20, .symStr 8], [.symStr 8, .symStr 20]), ([.symStr 8, .symStr 19], [.symStr 8, .symStr 19]), ([.symStr 19, .symStr 8], [.symStr 8, .symStr 19]), ([.symStr 8, .symStr 9], [.symStr 8, .symStr 9]), ([.symStr 9, .symStr 8], [.symStr 8, .symStr 9])]
theorem cSortEq : ConOK Tryz.prog (PEq w0 n e r) 197 (.fn (sortFn rSortEq)) := by
  refine sortFn_ok (fun r_ hr => ?_) fun blk off cap ss w h1 h2 h3 => AnyM.slices_Sort_string Tryz.mSort blk off cap ss w h1 h2 h3
  simp only [rSortEq, List.mem_cons, List.mem_nil_iff, or_false] at hr
  rcases hr with rfl | rfl | rfl | rfl | rfl | rfl | rfl | rfl | rfl | rfl | rfl | rfl
  · exact ⟨[key n [0], key n [1], key n (sf e 1 (dotk 1))], [key n [0], key n [1], key n (sf e 1 (dotk 1))], rfl, rfl, sort_row (List.Perm.refl _) (pw3 (key_lt n (rfl : ltL [0] [1] = true)) (key_lt n (rfl : ltL [0] (sf e 1 (dotk 1)) = true)) (key_lt n (rfl : ltL [1] (sf e 1 (dotk 1)) = true)))⟩
  · exact ⟨[key n [0], key n (sf e 1 (dotk 1)), key n [1]], [key n [0], key n [1], key n (sf e 1 (dotk 1))], rfl, rfl, sort_row (pm1 _ _ _) (pw3 (key_lt n (rfl : ltL [0] [1] = true)) (key_lt n (rfl : ltL [0] (sf e 1 (dotk 1)) = true)) (key_lt n (rfl : ltL [1] (sf e 1 (dotk 1)) = true)))⟩
  · exact ⟨[key n [1], key n [0], key n (sf e 1 (dotk 1))], [key n [0], key n [1], key n (sf e 1 (dotk 1))], rfl, rfl, sort_row (pm2 _ _ _) (pw3 (key_lt n (rfl : ltL [0] [1] = true)) (key_lt n (rfl : ltL [0] (sf e 1 (dotk 1)) = true)) (key_lt n (rfl : ltL [1] (sf e 1 (dotk 1)) = true)))⟩
  · exact ⟨[key n [1], key n (sf e 1 (dotk 1)), key n [0]], [key n [0], key n [1], key n (sf e 1 (dotk 1))], rfl, rfl, sort_row (pm3 _ _ _) (pw3 (key_lt n (rfl : ltL [0] [1] = true)) (key_lt n (rfl : ltL [0] (sf e 1 (dotk 1)) = true)) (key_lt n (rfl : ltL [1] (sf e 1 (dotk 1)) = true)))⟩
  · exact ⟨[key n (sf e 1 (dotk 1)), key n [0], key n [1]], [key n [0], key n [1], key n (sf e 1 (dotk 1))], rfl, rfl, sort_row (pm4 _ _ _) (pw3 (key_lt n (rfl : ltL [0] [1] = true)) (key_lt n (rfl : ltL [0] (sf e 1 (dotk 1)) = true)) (key_lt n (rfl : ltL [1] (sf e 1 (dotk 1)) = true)))⟩
  · exact ⟨[key n (sf e 1 (dotk 1)), key n [1], key n [0]], [key n [0], key n [1], key n (sf e 1 (dotk 1))], rfl, rfl, sort_row (pm5 _ _ _) (pw3 (key_lt n (rfl : ltL [0] [1] = true)) (key_lt n (rfl : ltL [0] (sf e 1 (dotk 1)) = true)) (key_lt n (rfl : ltL [1] (sf e 1 (dotk 1)) = true)))⟩
  · exact ⟨[key n [1], key n (sf e 1 (dotk 2))], [key n [1], key n (sf e 1 (dotk 2))], rfl, rfl, sort_row (List.Perm.refl _) (pw2 (key_lt n (rfl : ltL [1] (sf e 1 (dotk 2)) = true)))⟩
  · exact ⟨[key n (sf e 1 (dotk 2)), key n [1]], [key n [1], key n (sf e 1 (dotk 2))], rfl, rfl, sort_row (List.Perm.swap _ _ []) (pw2 (key_lt n (rfl : ltL [1] (sf e 1 (dotk 2)) = true)))⟩
  · exact ⟨[key n [1], key n (sf e 1 (dotk 3))], [key n [1], key n (sf e 1 (dotk 3))], rfl, rfl, sort_row (List.Perm.refl _) (pw2 (key_lt n (rfl : ltL [1] (sf e 1 (dotk 3)) = true)))⟩
  · exact ⟨[key n (sf e 1 (dotk 3)), key n [1]], [key n [1], key n (sf e 1 (dotk 3))], rfl, rfl, sort_row (List.Perm.swap _ _ []) (pw2 (key_lt n (rfl : ltL [1] (sf e 1 (dotk 3)) = true)))⟩
  · exact ⟨[key n [1], key n [2]], [key n [1], key n [2]], rfl, rfl, sort_row (List.Perm.refl _) (pw2 (key_lt n (rfl : ltL [1] [2] = true)))⟩
  · exact ⟨[key n [2], key n [1]], [key n [1], key n [2]], rfl, rfl, sort_row (List.Perm.swap _ _ []) (pw2 (key_lt n (rfl : ltL [1] [2] = true)))⟩
noncomputable def baseEq : List (FuncId × Con) := [(86, .ans rTextEq), (288, .ans rPartEq), (69, .ans rCloneEq), (261, .ans rCmpEq), (117, .fn (patFn rBatchEq)), (171, .fn (rowFn rFrameEq)), (149, .fn (rowFn rNTEq)), (300, .fn (patFn rItemsEq)), (197, .fn (sortFn rSortEq)), (206, .fn cmpRows), (5, .yes [])]
theorem baseEq_ok (hs : Sc n e r) {m : Int} (hm : w0.cell? ⟨0, 0, none⟩ = some (.int .i64 m)) : ∀ p ∈ baseEq, ConOK Tryz.prog (PEq w0 n e r) p.1 p.2 := by
  intro p hp
  simp only [baseEq, List.mem_cons, List.mem_nil_iff, or_false] at hp
  rcases hp with rfl | rfl | rfl | rfl | rfl | rfl | rfl | rfl | rfl | rfl | rfl
  · exact cTextEq hs hm
  · exact cPartEq hs
  · exact cCloneEq hs
  · exact cCmpEq
  · exact cBatchEq hs
  · exact cFrameEq hs
  · exact cNTEq hs
  · exact cItemsEq hs
  · exact cSortEq
  · exact conBytes
  · exact yes_ok rfl fun w _ => alive_yes w
theorem progEq {cs : List (FuncId × Con)} (hs : Sc n e r) (K : ∀ p ∈ cs, ConOK Tryz.prog (PEq w0 n e r) p.1 p.2) : ProgOK Tryz.prog (CEq cs (sgEq n e r)) (PEq w0 n e r) :=
  withAll_ok (ctx_ok [] K) (fun _ _ _ h => h.σ) (fun _ _ _ _ _ _ _ h => by cases h) (factsOkEq hs) (ofactsOkEq hs)
noncomputable def inEq0 : Heap := heapOf [0xc1b00000000000000000000000000000000000000000000000000e300060000000000000001000000070001000200000000000400010002000000000001000000070001000200000000000100000004000100020000000000040001000200000000000400010002000000020000000100010000000100010000000100010001000100010000000000000000000000000000000000a000070000000000000002000200000000000100000004000100020000000000040001000200000000000100000007000100020000000000000000000400010002000000000004000100020001001300020000000200000001000100000001000100000001000000010000000100000001000000010001]
noncomputable def outEq0 : Heap := heapOf [0xf0f00000000000000000000000000000000000000000000000000e300060000000000000001000000070001000200000000000400010002000000000001000000070001000200000000000100000004000100020000000000040001000200000000000400010002000000020000000100010000000100010000000100010001000100010000000000000000000000000000000000a000070000000000000002000200000000000100000004000100020000000000040001000200000000000100000007000100020000000000000000000400010002000000000004000100020001001300020000000200000001000100000001000100000001000000010000000100000001000000010001]
noncomputable def argEq0 : AV := avOf [0x6000100000001000006a00007000100000001000006bd00070000001300010000000300010005000f]
theorem putEq0 (σ0 : Nat → Option Value) : isOuts (runF (CEq baseEq σ0) 100000 299 [argEq0] inEq0) [(.tuple [.symStr 49, .int .i64 0], outEq0)] = true := by kernel_rfl
noncomputable def inEq1 : Heap := heapOf [0x186c000000000000000000000000000000000000000000000000000000a0000700000000000000020002000000000001000000040001000200000000000400010002000000000002000000070001000200000000000000000004000100020000000000040001000200010013000200000002000100010001000000010001000000010000000100010000000100010001000000000000000000000000000000000000000000000000000000e300060000000000000002000000070001000200000000000400010002000000000002000000070001000200000000000100000004000100020000000000040001000200000000000400010002000000020001000100010000000100010000000100010001000000010000000100010001]
noncomputable def outEq1 : Heap := heapOf [0x1b60000000000000000000000000000000000000000000000000000000a0000700000000000000020002000000000001000000040001000200000000000400010002000000000002000000070001000200000000000000000004000100020000000000040001000200010013000200000002000100010001000000010001000000010000000100010000000100010001000000000000000000000000000000000000000000000000000000e300060000000000000002000000070001000200000000000400010002000000000002000000070001000200000000000100000004000100020000000000040001000200000000000400010002000000020001000100010000000100010000000100010001000000010000000100010001]
noncomputable def argEq1 : AV := avOf [0x60001000000010000114b00070001000000010000116800070000001300010000000300010005000f]
theorem putEq1 (σ0 : Nat → Option Value) : isOuts (runF (CEq baseEq σ0) 100000 299 [argEq1] inEq1) [(.tuple [.symStr 50, .int .i64 0], outEq1)] = true := by kernel_rfl
noncomputable def inEq2 : Heap := heapOf [0x272a00000000000000000000000000000000000000e300060000000000000003000000070001000200000000000400010002000000000003000000070001000200000000000100000004000100020000000000040001000200000000000400010002000000020000000100000001000000010000000100000001000000010000000100010000000100010001000000000000000000000000000000000000000000000000000000000000000000a0000700000000000000020002000000000001000000040001000200000000000400010002000000000003000000070001000200000000000000000004000100020000000000040001000200010013000200000002000100010001000100010001000100010001000100000001000000010001]
noncomputable def outEq2 : Heap := heapOf [0x2a1e00000000000000000000000000000000000000e300060000000000000003000000070001000200000000000400010002000000000003000000070001000200000000000100000004000100020000000000040001000200000000000400010002000000020000000100000001000000010000000100000001000000010000000100010000000100010001000000000000000000000000000000000000000000000000000000000000000000a0000700000000000000020002000000000001000000040001000200000000000400010002000000000003000000070001000200000000000000000004000100020000000000040001000200010013000200000002000100010001000100010001000100010001000100000001000000010001]
noncomputable def argEq2 : AV := avOf [0x600010000000100001fe800070001000000010000200500070000001300010000000300010005000f]
theorem putEq2 (σ0 : Nat → Option Value) : isOuts (runF (CEq baseEq σ0) 100000 299 [argEq2] inEq2) [(.tuple [.symStr 51, .int .i64 0], outEq2)] = true := by kernel_rfl
noncomputable def inEq3 : Heap := heapOf [0x375f0000000000000000000000000000000000000000000100e30006000000000000000100000007000100020000000000040001000200000000000200000007000100020000000000010000000400010002000000000004000100020000000000040001000200000002000100000001000000010000000100000001000100010001000000010000000100000000000000000000000000000000000000e30006000000000000000400000007000100020000000000040001000200000000000400000007000100020000000000010000000400010002000000000004000100020000000000040001000200000002000100000001000000010000000100010000000100010000000100000001000000010001000100000001]
noncomputable def outEq3 : Heap := heapOf [0x3a420000000000000000000000000000000000000000000100e30006000000000000000100000007000100020000000000040001000200000000000200000007000100020000000000010000000400010002000000000004000100020000000000040001000200000002000100000001000000010000000100000001000100010001000000010000000100000000000000000000000000000000000000e30006000000000000000400000007000100020000000000040001000200000000000400000007000100020000000000010000000400010002000000000004000100020000000000040001000200000002000100000001000000010000000100010000000100010000000100000001000000010001000100000001]
noncomputable def argEq3 : AV := avOf [0x2f1c0001000100002f1c000700010000000100002eb8000700060000001300010000000300010005000f]
theorem putEq3 (σ0 : Nat → Option Value) : isOuts (runF (CEq baseEq σ0) 100000 299 [argEq3] inEq3) [(.tuple [.symStr 52, .int .i64 0], outEq3)] = true := by kernel_rfl
noncomputable def inEq4 : Heap := heapOf [0x2adc0000000000000000000000000000000000000000000000000000000000e3000600000000000000030000000700010002000000000004000100020000000000030000000700010002000000000001000000040001000200000000000400010002000000000004000100020000000200010001000100000001000100010000000100010001000100000000000000000000000000000000000000000000000100e300060000000000000001000000070001000200000000000400010002000000000002000000070001000200000000000100000004000100020000000000040001000200000000000400010002000000020001000100010000000100010000000100010000000100010000000100010000000100000001]
noncomputable def outEq4 : Heap := heapOf [0x2dbf0000000000000000000000000000000000000000000000000000000000e3000600000000000000030000000700010002000000000004000100020000000000030000000700010002000000000001000000040001000200000000000400010002000000000004000100020000000200010001000100000001000100010000000100010001000100000000000000000000000000000000000000000000000100e300060000000000000001000000070001000200000000000400010002000000000002000000070001000200000000000100000004000100020000000000040001000200000000000400010002000000020001000100010000000100010000000100010000000100010000000100010000000100000001]
noncomputable def argEq4 : AV := avOf [0x22aa00010001000022aa000700010000000100002246000700060000001300010000000300010005000f]
theorem putEq4 (σ0 : Nat → Option Value) : isOuts (runF (CEq baseEq σ0) 100000 299 [argEq4] inEq4) [(.tuple [.symStr 53, .int .i64 0], outEq4)] = true := by kernel_rfl
noncomputable def msgsEq : List (List AV × Heap × List (AV × Heap)) := [([.agg [.int .i64 1, .int .i64 1, .int .i64 2, .int .i64 0, .int .i64 1, .symStr 0, .slice 1725 0 1 (.lit 1), .slice 1696 0 1 (.lit 1), .nils, .str [], .str [], .str [], .bool false, .int .i64 0, .nils, .nils, .nils, .nils]], inEq0, [(.symStr 54, outEq0)]), ([.agg [.int .i64 1, .int .i64 1, .int .i64 2, .int .i64 0, .int .i64 1, .symStr 0, .slice 4456 0 1 (.lit 1), .slice 4427 0 1 (.lit 1), .nils, .str [], .str [], .str [], .bool false, .int .i64 0, .nils, .nils, .nils, .nils]], inEq1, [(.symStr 55, outEq1)]), ([.agg [.int .i64 1, .int .i64 1, .int .i64 2, .int .i64 0, .int .i64 1, .symStr 0, .slice 8197 0 1 (.lit 1), .slice 8168 0 1 (.lit 1), .nils, .str [], .str [], .str [], .bool false, .int .i64 0, .nils, .nils, .nils, .nils]], inEq2, [(.symStr 56, outEq2)]), ([.agg [.int .i64 1, .int .i64 1, .int .i64 2, .int .i64 0, .int .i64 1, .symStr 0, .nils, .slice 11960 0 1 (.lit 1), .slice 12060 0 1 (.var 12060 0), .str [], .str [], .str [], .bool false, .int .i64 0, .nils, .nils, .nils, .nils]], inEq3, [(.symStr 57, outEq3)]), ([.agg [.int .i64 1, .int .i64 1, .int .i64 2, .int .i64 0, .int .i64 1, .symStr 0, .nils, .slice 8774 0 1 (.lit 1), .slice 8874 0 1 (.var 8874 0), .str [], .str [], .str [], .bool false, .int .i64 0, .nils, .nils, .nils, .nils]], inEq4, [(.symStr 58, outEq4)])]
theorem cMsgEq (hs : Sc n e r) {m : Int} (hm : w0.cell? ⟨0, 0, none⟩ = some (.int .i64 m)) : ConOK Tryz.prog (PEq w0 n e r) 229 (.known msgsEq) := by
  refine msg_known fun r_ hr => ?_
  simp only [msgsEq, List.mem_cons, List.mem_nil_iff, or_false] at hr
  rcases hr with rfl | rfl | rfl | rfl | rfl
  · exact ⟨((1 :: tx [txt n]) ++ itm (txt e) (txt (dotk 1)) ⟨#[]⟩) ++ [7, 1, 0, 0, 0, 1, 1, 0, 1, 0], 1, .symStr 0, txt n, .slice 1725 0 1 (.lit 1), .slice 1696 0 1 (.lit 1), .nils, .symStr 54, .symStr 49, outEq0, sgEq n e r, by have := zEq140 hs; rw [txt_size] at this; omega, rfl, rfl, fun η H w o => ⟨fun _ _ h => (by cases h), fun _ _ h => (by cases h), o.σ⟩, rfl, rfl, rfl, CEq baseEq (sgEq n e r), 100000, progEq hs (baseEq_ok hs hm), by rw [← runF_eq]; exact isOuts_eq (putEq0 _)⟩
  · exact ⟨((1 :: tx [txt n]) ++ itm (txt e) (txt (dotk 2)) ⟨#[]⟩) ++ [7, 1, 0, 0, 0, 1, 2, 0, 1, 0], 1, .symStr 0, txt n, .slice 4456 0 1 (.lit 1), .slice 4427 0 1 (.lit 1), .nils, .symStr 55, .symStr 50, outEq1, sgEq n e r, by have := zEq141 hs; rw [txt_size] at this; omega, rfl, rfl, fun η H w o => ⟨fun _ _ h => (by cases h), fun _ _ h => (by cases h), o.σ⟩, rfl, rfl, rfl, CEq baseEq (sgEq n e r), 100000, progEq hs (baseEq_ok hs hm), by rw [← runF_eq]; exact isOuts_eq (putEq1 _)⟩
  · exact ⟨((1 :: tx [txt n]) ++ itm (txt e) (txt (dotk 3)) ⟨#[]⟩) ++ [7, 1, 0, 0, 0, 1, 3, 0, 1, 0], 1, .symStr 0, txt n, .slice 8197 0 1 (.lit 1), .slice 8168 0 1 (.lit 1), .nils, .symStr 56, .symStr 51, outEq2, sgEq n e r, by have := zEq142 hs; rw [txt_size] at this; omega, rfl, rfl, fun η H w o => ⟨fun _ _ h => (by cases h), fun _ _ h => (by cases h), o.σ⟩, rfl, rfl, rfl, CEq baseEq (sgEq n e r), 100000, progEq hs (baseEq_ok hs hm), by rw [← runF_eq]; exact isOuts_eq (putEq2 _)⟩
  · exact ⟨((1 :: tx [txt n]) ++ [0]) ++ [7, 1, 0, 0, 0, 1, 4, 0, 7, 1, 0, 0, 0, 1, 1, 1], 1, .symStr 0, txt n, .nils, .slice 11960 0 1 (.lit 1), .slice 12060 0 1 (.var 12060 0), .symStr 57, .symStr 52, outEq3, sgEq n e r, by have := zEq143 hs; rw [txt_size] at this; omega, rfl, rfl, fun η H w o => ⟨fun _ _ h => (by cases h), fun _ _ h => (by cases h), o.σ⟩, rfl, rfl, rfl, CEq baseEq (sgEq n e r), 100000, progEq hs (baseEq_ok hs hm), by rw [← runF_eq]; exact isOuts_eq (putEq3 _)⟩
  · exact ⟨((1 :: tx [txt n]) ++ [0]) ++ [7, 1, 0, 0, 0, 1, 3, 0, 7, 1, 0, 0, 0, 1, 1, 1], 1, .symStr 0, txt n, .nils, .slice 8774 0 1 (.lit 1), .slice 8874 0 1 (.var 8874 0), .symStr 58, .symStr 53, outEq4, sgEq n e r, by have := zEq144 hs; rw [txt_size] at this; omega, rfl, rfl, fun η H w o => ⟨fun _ _ h => (by cases h), fun _ _ h => (by cases h), o.σ⟩, rfl, rfl, rfl, CEq baseEq (sgEq n e r), 100000, progEq hs (baseEq_ok hs hm), by rw [← runF_eq]; exact isOuts_eq (putEq4 _)⟩
noncomputable def consEq : List (FuncId × Con) := (229, .known msgsEq) :: baseEq
theorem consEq_ok (hs : Sc n e r) {m : Int} (hm : w0.cell? ⟨0, 0, none⟩ = some (.int .i64 m)) : ∀ p ∈ consEq, ConOK Tryz.prog (PEq w0 n e r) p.1 p.2 := by
  unfold consEq
  exact List.forall_mem_cons.2 ⟨cMsgEq hs hm, baseEq_ok hs hm⟩
end
end Go.Proofs.YtckjnglhbjiklaaGreatDoor.Wk
