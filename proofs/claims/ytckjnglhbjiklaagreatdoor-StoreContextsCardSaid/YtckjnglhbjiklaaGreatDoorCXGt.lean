/-
  Part of the proof of a statement of this seat: walks of its functions and the closed run; no condition but those written in each theorem.
-/
import Derived.Test.YtckjnglhbjiklaaGreatDoorCT
import Derived.Test.YtckjnglhbjiklaaGreatDoorKA
namespace Go.Proofs.YtckjnglhbjiklaaGreatDoor.Wk
set_option maxRecDepth 100000
open Go.RowKit Go.VmK Go.NumPure Go.Shelf
abbrev w0Gt (n e _r : List UInt8) : List (ByteArray × ByteArray) := [(txt (key n [0]), ⟨#[1]⟩), (txt (key n [1]), ⟨#[1, 0, 0, 0, 1, 1, 0]⟩), (txt (key n (sf e 1 (dotk 1))), ⟨#[]⟩)]
abbrev w1Gt (n _e r : List UInt8) : List (ByteArray × ByteArray) := [(txt (key n [1]), ⟨#[1, 0, 0, 0, 1, 1, 1]⟩), (txt (key n (sf r 1 (dotk 2))), ⟨#[]⟩)]
abbrev w2Gt (n e _r : List UInt8) : List (ByteArray × ByteArray) := [(txt (key n [1]), ⟨#[1, 0, 0, 0, 1, 1, 2]⟩), (txt (key n (sf e 1 (dotk 3))), ⟨#[]⟩)]
abbrev w3Gt (n _e _r : List UInt8) : List (ByteArray × ByteArray) := [(txt (key n [1]), ⟨#[1, 0, 0, 0, 1, 1, 3]⟩), (txt (key n [2]), ⟨#[1, 0, 0, 0, 1, 1, 0]⟩)]
abbrev w4Gt (n _e _r : List UInt8) : List (ByteArray × ByteArray) := [(txt (key n [1]), ⟨#[1, 0, 0, 0, 1, 1, 2]⟩), (txt (key n [2]), ⟨#[1, 0, 0, 0, 1, 1, 0]⟩)]
section
variable {n e r : List UInt8}
theorem wxGt0 (hs : Sc n e r) : ∀ p ∈ ((w0Gt n e r) : List (ByteArray × ByteArray)), p.1.size ≤ 300 ∧ p.2.size ≤ 1000 := by
  intro p hp
  simp only [w0Gt, List.mem_cons, List.mem_nil_iff, or_false] at hp
  rcases hp with rfl | rfl | rfl
  · exact ⟨Nat.le_trans (z30 hs).2 (by decide), (by decide : (⟨#[1]⟩ : ByteArray).size ≤ 1000)⟩
  · exact ⟨Nat.le_trans (z31 hs).2 (by decide), (by decide : (⟨#[1, 0, 0, 0, 1, 1, 0]⟩ : ByteArray).size ≤ 1000)⟩
  · exact ⟨Nat.le_trans (z60 hs).2 (by decide), (by decide : (⟨#[]⟩ : ByteArray).size ≤ 1000)⟩
theorem zGt90 (hs : Sc n e r) : 0 ≤ (txt (bt 1 (w0Gt n e r))).size ∧ (txt (bt 1 (w0Gt n e r))).size ≤ 4100 := by
  have := bt_size (first := 1) (by omega) (by simp [w0Gt]) (wxGt0 hs)
  rw [txt_size]
  simp only [w0Gt, List.length_cons, List.length_nil] at this
  simp only [w0Gt]
  omega
theorem zGt91 (hs : Sc n e r) : 0 ≤ (txt (fr (bt 1 (w0Gt n e r)))).size ∧ (txt (fr (bt 1 (w0Gt n e r)))).size ≤ 4200 := by
  have h := zGt90 hs
  rw [txt_size] at h
  rw [fr_size]
  omega
theorem wxGt1 (hs : Sc n e r) : ∀ p ∈ ((w1Gt n e r) : List (ByteArray × ByteArray)), p.1.size ≤ 300 ∧ p.2.size ≤ 1000 := by
  intro p hp
  simp only [w1Gt, List.mem_cons, List.mem_nil_iff, or_false] at hp
  rcases hp with rfl | rfl
  · exact ⟨Nat.le_trans (z31 hs).2 (by decide), (by decide : (⟨#[1, 0, 0, 0, 1, 1, 1]⟩ : ByteArray).size ≤ 1000)⟩
  · exact ⟨Nat.le_trans (z61 hs).2 (by decide), (by decide : (⟨#[]⟩ : ByteArray).size ≤ 1000)⟩
theorem zGt92 (hs : Sc n e r) : 0 ≤ (txt (bt 4 (w1Gt n e r))).size ∧ (txt (bt 4 (w1Gt n e r))).size ≤ 4100 := by
  have := bt_size (first := 4) (by omega) (by simp [w1Gt]) (wxGt1 hs)
  rw [txt_size]
  simp only [w1Gt, List.length_cons, List.length_nil] at this
  simp only [w1Gt]
  omega
theorem zGt93 (hs : Sc n e r) : 0 ≤ (txt (fr (bt 4 (w1Gt n e r)))).size ∧ (txt (fr (bt 4 (w1Gt n e r)))).size ≤ 4200 := by
  have h := zGt92 hs
  rw [txt_size] at h
  rw [fr_size]
  omega
theorem wxGt2 (hs : Sc n e r) : ∀ p ∈ ((w2Gt n e r) : List (ByteArray × ByteArray)), p.1.size ≤ 300 ∧ p.2.size ≤ 1000 := by
  intro p hp
  simp only [w2Gt, List.mem_cons, List.mem_nil_iff, or_false] at hp
  rcases hp with rfl | rfl
  · exact ⟨Nat.le_trans (z31 hs).2 (by decide), (by decide : (⟨#[1, 0, 0, 0, 1, 1, 2]⟩ : ByteArray).size ≤ 1000)⟩
  · exact ⟨Nat.le_trans (z62 hs).2 (by decide), (by decide : (⟨#[]⟩ : ByteArray).size ≤ 1000)⟩
theorem zGt94 (hs : Sc n e r) : 0 ≤ (txt (bt 6 (w2Gt n e r))).size ∧ (txt (bt 6 (w2Gt n e r))).size ≤ 4100 := by
  have := bt_size (first := 6) (by omega) (by simp [w2Gt]) (wxGt2 hs)
  rw [txt_size]
  simp only [w2Gt, List.length_cons, List.length_nil] at this
  simp only [w2Gt]
  omega
theorem zGt95 (hs : Sc n e r) : 0 ≤ (txt (fr (bt 6 (w2Gt n e r)))).size ∧ (txt (fr (bt 6 (w2Gt n e r)))).size ≤ 4200 := by
  have h := zGt94 hs
  rw [txt_size] at h
  rw [fr_size]
  omega
theorem wxGt3 (hs : Sc n e r) : ∀ p ∈ ((w3Gt n e r) : List (ByteArray × ByteArray)), p.1.size ≤ 300 ∧ p.2.size ≤ 1000 := by
  intro p hp
  simp only [w3Gt, List.mem_cons, List.mem_nil_iff, or_false] at hp
  rcases hp with rfl | rfl
  · exact ⟨Nat.le_trans (z31 hs).2 (by decide), (by decide : (⟨#[1, 0, 0, 0, 1, 1, 3]⟩ : ByteArray).size ≤ 1000)⟩
  · exact ⟨Nat.le_trans (z32 hs).2 (by decide), (by decide : (⟨#[1, 0, 0, 0, 1, 1, 0]⟩ : ByteArray).size ≤ 1000)⟩
theorem zGt96 (hs : Sc n e r) : 0 ≤ (txt (bt 8 (w3Gt n e r))).size ∧ (txt (bt 8 (w3Gt n e r))).size ≤ 4100 := by
  have := bt_size (first := 8) (by omega) (by simp [w3Gt]) (wxGt3 hs)
  rw [txt_size]
  simp only [w3Gt, List.length_cons, List.length_nil] at this
  simp only [w3Gt]
  omega
theorem zGt97 (hs : Sc n e r) : 0 ≤ (txt (fr (bt 8 (w3Gt n e r)))).size ∧ (txt (fr (bt 8 (w3Gt n e r)))).size ≤ 4200 := by
  have h := zGt96 hs
  rw [txt_size] at h
  rw [fr_size]
  omega
theorem wxGt4 (hs : Sc n e r) : ∀ p ∈ ((w4Gt n e r) : List (ByteArray × ByteArray)), p.1.size ≤ 300 ∧ p.2.size ≤ 1000 := by
  intro p hp
  simp only [w4Gt, List.mem_cons, List.mem_nil_iff, or_false] at hp
  rcases hp with rfl | rfl
  · exact ⟨Nat.le_trans (z31 hs).2 (by decide), (by decide : (⟨#[1, 0, 0, 0, 1, 1, 2]⟩ : ByteArray).size ≤ 1000)⟩
  · exact ⟨Nat.le_trans (z32 hs).2 (by decide), (by decide : (⟨#[1, 0, 0, 0, 1, 1, 0]⟩ : ByteArray).size ≤ 1000)⟩
theorem zGt98 (hs : Sc n e r) : 0 ≤ (txt (bt 6 (w4Gt n e r))).size ∧ (txt (bt 6 (w4Gt n e r))).size ≤ 4100 := by
  have := bt_size (first := 6) (by omega) (by simp [w4Gt]) (wxGt4 hs)
  rw [txt_size]
  simp only [w4Gt, List.length_cons, List.length_nil] at this
  simp only [w4Gt]
  omega
theorem zGt99 (hs : Sc n e r) : 0 ≤ (txt (fr (bt 6 (w4Gt n e r)))).size ∧ (txt (fr (bt 6 (w4Gt n e r)))).size ≤ 4200 := by
  have h := zGt98 hs
  rw [txt_size] at h
  rw [fr_size]
  omega
theorem zGt131 (hs : Sc n e r) : 0 ≤ ((txt (fr (bt 1 (w0Gt n e r))) ++ txt (fr (bt 4 (w1Gt n e r))))).size ∧ ((txt (fr (bt 1 (w0Gt n e r))) ++ txt (fr (bt 4 (w1Gt n e r))))).size ≤ 8400 := by
  have h := zGt93 hs
  have h2 := zGt91 hs
  rw [ByteArray.size_append]
  omega
theorem zGt132 (hs : Sc n e r) : 0 ≤ (((txt (fr (bt 1 (w0Gt n e r))) ++ txt (fr (bt 4 (w1Gt n e r)))) ++ txt (fr (bt 6 (w2Gt n e r))))).size ∧ (((txt (fr (bt 1 (w0Gt n e r))) ++ txt (fr (bt 4 (w1Gt n e r)))) ++ txt (fr (bt 6 (w2Gt n e r))))).size ≤ 12600 := by
  have h := zGt95 hs
  have h2 := zGt131 hs
  rw [ByteArray.size_append]
  omega
theorem zGt133 (hs : Sc n e r) : 0 ≤ ((((txt (fr (bt 1 (w0Gt n e r))) ++ txt (fr (bt 4 (w1Gt n e r)))) ++ txt (fr (bt 6 (w2Gt n e r)))) ++ txt (fr (bt 8 (w3Gt n e r))))).size ∧ ((((txt (fr (bt 1 (w0Gt n e r))) ++ txt (fr (bt 4 (w1Gt n e r)))) ++ txt (fr (bt 6 (w2Gt n e r)))) ++ txt (fr (bt 8 (w3Gt n e r))))).size ≤ 16800 := by
  have h := zGt97 hs
  have h2 := zGt132 hs
  rw [ByteArray.size_append]
  omega
theorem zGt134 (hs : Sc n e r) : 0 ≤ (((txt (fr (bt 1 (w0Gt n e r))) ++ txt (fr (bt 4 (w1Gt n e r)))) ++ txt (fr (bt 6 (w4Gt n e r))))).size ∧ (((txt (fr (bt 1 (w0Gt n e r))) ++ txt (fr (bt 4 (w1Gt n e r)))) ++ txt (fr (bt 6 (w4Gt n e r))))).size ≤ 21000 := by
  have h := zGt99 hs
  have h2 := zGt131 hs
  rw [ByteArray.size_append]
  omega
theorem zGt155 (hs : Sc n e r) : 0 ≤ (txt (itm (txt e) (txt (dotk 1)) ⟨#[]⟩)).size ∧ (txt (itm (txt e) (txt (dotk 1)) ⟨#[]⟩)).size ≤ 500 := by
  have b := itm_len e 1 (hs.e2)
  rw [txt_size]
  omega
theorem zGt150 (hs : Sc n e r) : 0 ≤ (txt ((1 :: tx [txt n]) ++ itm (txt e) (txt (dotk 1)) ⟨#[]⟩)).size ∧ (txt ((1 :: tx [txt n]) ++ itm (txt e) (txt (dotk 1)) ⟨#[]⟩)).size ≤ 700 := by
  have a := (z105 hs).2
  have b := itm_len e 1 (hs.e2)
  rw [txt_size] at a
  simp only [txt_size, List.length_append, List.length_cons] at a ⊢
  omega
theorem zGt140 (hs : Sc n e r) : 0 ≤ (txt (((1 :: tx [txt n]) ++ itm (txt e) (txt (dotk 1)) ⟨#[]⟩) ++ [7, 1, 0, 0, 0, 1, 1, 0, 1, 0])).size ∧ (txt (((1 :: tx [txt n]) ++ itm (txt e) (txt (dotk 1)) ⟨#[]⟩) ++ [7, 1, 0, 0, 0, 1, 1, 0, 1, 0])).size ≤ 700 := by
  have a := (z105 hs).2
  have b := itm_len e 1 (hs.e2)
  rw [txt_size] at a
  simp only [txt_size, List.length_append, List.length_cons, List.length_nil] at a ⊢
  omega
theorem zGt156 (hs : Sc n e r) : 0 ≤ (txt (itm (txt r) (txt (dotk 2)) ⟨#[]⟩)).size ∧ (txt (itm (txt r) (txt (dotk 2)) ⟨#[]⟩)).size ≤ 500 := by
  have b := itm_len r 2 (hs.r2)
  rw [txt_size]
  omega
theorem zGt151 (hs : Sc n e r) : 0 ≤ (txt ((1 :: tx [txt n]) ++ itm (txt r) (txt (dotk 2)) ⟨#[]⟩)).size ∧ (txt ((1 :: tx [txt n]) ++ itm (txt r) (txt (dotk 2)) ⟨#[]⟩)).size ≤ 700 := by
  have a := (z105 hs).2
  have b := itm_len r 2 (hs.r2)
  rw [txt_size] at a
  simp only [txt_size, List.length_append, List.length_cons] at a ⊢
  omega
theorem zGt141 (hs : Sc n e r) : 0 ≤ (txt (((1 :: tx [txt n]) ++ itm (txt r) (txt (dotk 2)) ⟨#[]⟩) ++ [7, 1, 0, 0, 0, 1, 2, 0, 1, 0])).size ∧ (txt (((1 :: tx [txt n]) ++ itm (txt r) (txt (dotk 2)) ⟨#[]⟩) ++ [7, 1, 0, 0, 0, 1, 2, 0, 1, 0])).size ≤ 700 := by
  have a := (z105 hs).2
  have b := itm_len r 2 (hs.r2)
  rw [txt_size] at a
  simp only [txt_size, List.length_append, List.length_cons, List.length_nil] at a ⊢
  omega
theorem zGt157 (hs : Sc n e r) : 0 ≤ (txt (itm (txt e) (txt (dotk 3)) ⟨#[]⟩)).size ∧ (txt (itm (txt e) (txt (dotk 3)) ⟨#[]⟩)).size ≤ 500 := by
  have b := itm_len e 3 (hs.e2)
  rw [txt_size]
  omega
theorem zGt152 (hs : Sc n e r) : 0 ≤ (txt ((1 :: tx [txt n]) ++ itm (txt e) (txt (dotk 3)) ⟨#[]⟩)).size ∧ (txt ((1 :: tx [txt n]) ++ itm (txt e) (txt (dotk 3)) ⟨#[]⟩)).size ≤ 700 := by
  have a := (z105 hs).2
  have b := itm_len e 3 (hs.e2)
  rw [txt_size] at a
  simp only [txt_size, List.length_append, List.length_cons] at a ⊢
  omega
theorem zGt142 (hs : Sc n e r) : 0 ≤ (txt (((1 :: tx [txt n]) ++ itm (txt e) (txt (dotk 3)) ⟨#[]⟩) ++ [7, 1, 0, 0, 0, 1, 3, 0, 1, 0])).size ∧ (txt (((1 :: tx [txt n]) ++ itm (txt e) (txt (dotk 3)) ⟨#[]⟩) ++ [7, 1, 0, 0, 0, 1, 3, 0, 1, 0])).size ≤ 700 := by
  have a := (z105 hs).2
  have b := itm_len e 3 (hs.e2)
  rw [txt_size] at a
  simp only [txt_size, List.length_append, List.length_cons, List.length_nil] at a ⊢
  omega
theorem zGt153 (hs : Sc n e r) : 0 ≤ (txt ((1 :: tx [txt n]) ++ [0])).size ∧ (txt ((1 :: tx [txt n]) ++ [0])).size ≤ 700 := by
  have a := (z105 hs).2
  rw [txt_size] at a
  simp only [txt_size, List.length_append, List.length_cons, List.length_nil] at a ⊢
  omega
theorem zGt143 (hs : Sc n e r) : 0 ≤ (txt (((1 :: tx [txt n]) ++ [0]) ++ [7, 1, 0, 0, 0, 1, 4, 0, 7, 1, 0, 0, 0, 1, 1, 0])).size ∧ (txt (((1 :: tx [txt n]) ++ [0]) ++ [7, 1, 0, 0, 0, 1, 4, 0, 7, 1, 0, 0, 0, 1, 1, 0])).size ≤ 700 := by
  have a := (z105 hs).2
  rw [txt_size] at a
  simp only [txt_size, List.length_append, List.length_cons, List.length_nil] at a ⊢
  omega
theorem zGt144 (hs : Sc n e r) : 0 ≤ (txt (((1 :: tx [txt n]) ++ [0]) ++ [7, 1, 0, 0, 0, 1, 3, 0, 7, 1, 0, 0, 0, 1, 1, 0])).size ∧ (txt (((1 :: tx [txt n]) ++ [0]) ++ [7, 1, 0, 0, 0, 1, 3, 0, 7, 1, 0, 0, 0, 1, 1, 0])).size ≤ 700 := by
  have a := (z105 hs).2
  rw [txt_size] at a
  simp only [txt_size, List.length_append, List.length_cons, List.length_nil] at a ⊢
  omega
end
def mGt100 (n _e _r : List UInt8) : Int := (0 : Int) + Int.ofNat (txt (key n [0])).size
theorem bGt100 {n e r : List UInt8} (hs : Sc n e r) : 0 ≤ mGt100 n e r ∧ mGt100 n e r ≤ 84 := by
  have h2 := z30 hs
  simp only [mGt100, Int.ofNat_eq_natCast]
  omega
def mGt101 (n e r : List UInt8) : Int := mGt100 n e r + 1
theorem bGt101 {n e r : List UInt8} (hs : Sc n e r) : 0 ≤ mGt101 n e r ∧ mGt101 n e r ≤ 85 := by
  have h := bGt100 hs
  simp only [mGt101]
  omega
def mGt102 (n e r : List UInt8) : Int := mGt101 n e r + 16
theorem bGt102 {n e r : List UInt8} (hs : Sc n e r) : 0 ≤ mGt102 n e r ∧ mGt102 n e r ≤ 101 := by
  have h := bGt101 hs
  simp only [mGt102]
  omega
def mGt103 (n e r : List UInt8) : Int := mGt102 n e r + Int.ofNat (txt (key n [1])).size
theorem bGt103 {n e r : List UInt8} (hs : Sc n e r) : 0 ≤ mGt103 n e r ∧ mGt103 n e r ≤ 185 := by
  have h := bGt102 hs
  have h2 := z31 hs
  simp only [mGt103, Int.ofNat_eq_natCast]
  omega
def mGt104 (n e r : List UInt8) : Int := mGt103 n e r + 7
theorem bGt104 {n e r : List UInt8} (hs : Sc n e r) : 0 ≤ mGt104 n e r ∧ mGt104 n e r ≤ 192 := by
  have h := bGt103 hs
  simp only [mGt104]
  omega
def mGt105 (n e r : List UInt8) : Int := mGt104 n e r + 16
theorem bGt105 {n e r : List UInt8} (hs : Sc n e r) : 0 ≤ mGt105 n e r ∧ mGt105 n e r ≤ 208 := by
  have h := bGt104 hs
  simp only [mGt105]
  omega
def mGt106 (n e r : List UInt8) : Int := mGt105 n e r + Int.ofNat (txt (key n (sf e 1 (dotk 1)))).size
theorem bGt106 {n e r : List UInt8} (hs : Sc n e r) : 0 ≤ mGt106 n e r ∧ mGt106 n e r ≤ 438 := by
  have h := bGt105 hs
  have h2 := z60 hs
  simp only [mGt106, Int.ofNat_eq_natCast]
  omega
def mGt107 (n e r : List UInt8) : Int := mGt106 n e r + 0
theorem bGt107 {n e r : List UInt8} (hs : Sc n e r) : 0 ≤ mGt107 n e r ∧ mGt107 n e r ≤ 438 := by
  have h := bGt106 hs
  simp only [mGt107]
  omega
def mGt108 (n e r : List UInt8) : Int := mGt107 n e r + 16
theorem bGt108 {n e r : List UInt8} (hs : Sc n e r) : 0 ≤ mGt108 n e r ∧ mGt108 n e r ≤ 454 := by
  have h := bGt107 hs
  simp only [mGt108]
  omega
def mGt109 (n e r : List UInt8) : Int := mGt108 n e r + Int.ofNat (txt (key n [1])).size
theorem bGt109 {n e r : List UInt8} (hs : Sc n e r) : 0 ≤ mGt109 n e r ∧ mGt109 n e r ≤ 538 := by
  have h := bGt108 hs
  have h2 := z31 hs
  simp only [mGt109, Int.ofNat_eq_natCast]
  omega
def mGt110 (n e r : List UInt8) : Int := mGt109 n e r + 7
theorem bGt110 {n e r : List UInt8} (hs : Sc n e r) : 0 ≤ mGt110 n e r ∧ mGt110 n e r ≤ 545 := by
  have h := bGt109 hs
  simp only [mGt110]
  omega
def mGt111 (n e r : List UInt8) : Int := mGt110 n e r + 16
theorem bGt111 {n e r : List UInt8} (hs : Sc n e r) : 0 ≤ mGt111 n e r ∧ mGt111 n e r ≤ 561 := by
  have h := bGt110 hs
  simp only [mGt111]
  omega
def mGt112 (n e r : List UInt8) : Int := mGt111 n e r + Int.ofNat (txt (key n (sf r 1 (dotk 2)))).size
theorem bGt112 {n e r : List UInt8} (hs : Sc n e r) : 0 ≤ mGt112 n e r ∧ mGt112 n e r ≤ 791 := by
  have h := bGt111 hs
  have h2 := z61 hs
  simp only [mGt112, Int.ofNat_eq_natCast]
  omega
def mGt113 (n e r : List UInt8) : Int := mGt112 n e r + 0
theorem bGt113 {n e r : List UInt8} (hs : Sc n e r) : 0 ≤ mGt113 n e r ∧ mGt113 n e r ≤ 791 := by
  have h := bGt112 hs
  simp only [mGt113]
  omega
def mGt114 (n e r : List UInt8) : Int := mGt113 n e r + 16
theorem bGt114 {n e r : List UInt8} (hs : Sc n e r) : 0 ≤ mGt114 n e r ∧ mGt114 n e r ≤ 807 := by
  have h := bGt113 hs
  simp only [mGt114]
  omega
def mGt115 (n e r : List UInt8) : Int := mGt114 n e r + Int.ofNat (txt (key n [1])).size
theorem bGt115 {n e r : List UInt8} (hs : Sc n e r) : 0 ≤ mGt115 n e r ∧ mGt115 n e r ≤ 891 := by
  have h := bGt114 hs
  have h2 := z31 hs
  simp only [mGt115, Int.ofNat_eq_natCast]
  omega
def mGt116 (n e r : List UInt8) : Int := mGt115 n e r + 7
theorem bGt116 {n e r : List UInt8} (hs : Sc n e r) : 0 ≤ mGt116 n e r ∧ mGt116 n e r ≤ 898 := by
  have h := bGt115 hs
  simp only [mGt116]
  omega
def mGt117 (n e r : List UInt8) : Int := mGt116 n e r + 16
theorem bGt117 {n e r : List UInt8} (hs : Sc n e r) : 0 ≤ mGt117 n e r ∧ mGt117 n e r ≤ 914 := by
  have h := bGt116 hs
  simp only [mGt117]
  omega
def mGt118 (n e r : List UInt8) : Int := mGt117 n e r + Int.ofNat (txt (key n (sf e 1 (dotk 3)))).size
theorem bGt118 {n e r : List UInt8} (hs : Sc n e r) : 0 ≤ mGt118 n e r ∧ mGt118 n e r ≤ 1144 := by
  have h := bGt117 hs
  have h2 := z62 hs
  simp only [mGt118, Int.ofNat_eq_natCast]
  omega
def mGt119 (n e r : List UInt8) : Int := mGt118 n e r + 0
theorem bGt119 {n e r : List UInt8} (hs : Sc n e r) : 0 ≤ mGt119 n e r ∧ mGt119 n e r ≤ 1144 := by
  have h := bGt118 hs
  simp only [mGt119]
  omega
def mGt120 (n e r : List UInt8) : Int := mGt119 n e r + 16
theorem bGt120 {n e r : List UInt8} (hs : Sc n e r) : 0 ≤ mGt120 n e r ∧ mGt120 n e r ≤ 1160 := by
  have h := bGt119 hs
  simp only [mGt120]
  omega
def mGt121 (n e r : List UInt8) : Int := mGt120 n e r + Int.ofNat (txt (key n [1])).size
theorem bGt121 {n e r : List UInt8} (hs : Sc n e r) : 0 ≤ mGt121 n e r ∧ mGt121 n e r ≤ 1244 := by
  have h := bGt120 hs
  have h2 := z31 hs
  simp only [mGt121, Int.ofNat_eq_natCast]
  omega
def mGt122 (n e r : List UInt8) : Int := mGt121 n e r + 7
theorem bGt122 {n e r : List UInt8} (hs : Sc n e r) : 0 ≤ mGt122 n e r ∧ mGt122 n e r ≤ 1251 := by
  have h := bGt121 hs
  simp only [mGt122]
  omega
def mGt123 (n e r : List UInt8) : Int := mGt122 n e r + 16
theorem bGt123 {n e r : List UInt8} (hs : Sc n e r) : 0 ≤ mGt123 n e r ∧ mGt123 n e r ≤ 1267 := by
  have h := bGt122 hs
  simp only [mGt123]
  omega
def mGt124 (n e r : List UInt8) : Int := mGt123 n e r + Int.ofNat (txt (key n [2])).size
theorem bGt124 {n e r : List UInt8} (hs : Sc n e r) : 0 ≤ mGt124 n e r ∧ mGt124 n e r ≤ 1351 := by
  have h := bGt123 hs
  have h2 := z32 hs
  simp only [mGt124, Int.ofNat_eq_natCast]
  omega
def mGt125 (n e r : List UInt8) : Int := mGt124 n e r + 7
theorem bGt125 {n e r : List UInt8} (hs : Sc n e r) : 0 ≤ mGt125 n e r ∧ mGt125 n e r ≤ 1358 := by
  have h := bGt124 hs
  simp only [mGt125]
  omega
def mGt126 (n e r : List UInt8) : Int := mGt125 n e r + 16
theorem bGt126 {n e r : List UInt8} (hs : Sc n e r) : 0 ≤ mGt126 n e r ∧ mGt126 n e r ≤ 1374 := by
  have h := bGt125 hs
  simp only [mGt126]
  omega
def mGt200 (n e r : List UInt8) : Int := mGt117 n e r + Int.ofNat (txt (key n [2])).size
theorem bGt200 {n e r : List UInt8} (hs : Sc n e r) : 0 ≤ mGt200 n e r ∧ mGt200 n e r ≤ 998 := by
  have h := bGt117 hs
  have h2 := z32 hs
  simp only [mGt200, Int.ofNat_eq_natCast]
  omega
def mGt201 (n e r : List UInt8) : Int := mGt200 n e r + 7
theorem bGt201 {n e r : List UInt8} (hs : Sc n e r) : 0 ≤ mGt201 n e r ∧ mGt201 n e r ≤ 1005 := by
  have h := bGt200 hs
  simp only [mGt201]
  omega
def mGt202 (n e r : List UInt8) : Int := mGt201 n e r + 16
theorem bGt202 {n e r : List UInt8} (hs : Sc n e r) : 0 ≤ mGt202 n e r ∧ mGt202 n e r ≤ 1021 := by
  have h := bGt201 hs
  simp only [mGt202]
  omega
/-- what the symbols stand for -/
noncomputable def sgGt (n e r : List UInt8) : Nat → Option Value := fun i => ([
  .string (txt n),
  .string (txt e),
  .string (txt r),
  .string (txt (ok n)),
  .string (txt (ok e)),
  .string (txt (ok r)),
  .string (txt (111 :: ok n)),
  .string (txt (key n [0])),
  .string (txt (key n [1])),
  .string (txt (key n [2])),
  .string (txt (key n [3])),
  .string (txt (key n (sf e 1 []))),
  .string (txt (key n (sf r 1 []))),
  .string (txt (key n (sf e 2 []))),
  .string (txt (key n (sC e))),
  .string (txt (key n (sf r 2 []))),
  .string (txt (key n (sC r))),
  .string (txt (key n (sf e 1 (dotk 1)))),
  .string (txt (key n (sf r 1 (dotk 2)))),
  .string (txt (key n (sf e 1 (dotk 3)))),
  .string (txt (key n (sf e 1 (dotk 2)))),
  .string (txt (bt 1 (w0Gt n e r))),
  .string (txt (fr (bt 1 (w0Gt n e r)))),
  .string (txt (bt 4 (w1Gt n e r))),
  .string (txt (fr (bt 4 (w1Gt n e r)))),
  .string (txt (bt 6 (w2Gt n e r))),
  .string (txt (fr (bt 6 (w2Gt n e r)))),
  .string (txt (bt 8 (w3Gt n e r))),
  .string (txt (fr (bt 8 (w3Gt n e r)))),
  .string (txt (bt 6 (w4Gt n e r))),
  .string (txt (fr (bt 6 (w4Gt n e r)))),
  .string (txt (ok n ++ sf e 1 (dotk 1))),
  .string (txt (ok n ++ sf r 1 (dotk 2))),
  .string (txt (ok n ++ sf e 1 (dotk 3))),
  .string (txt (ok n ++ sf e 1 (dotk 2))),
  .string (txt (tx [txt n])),
  .string (txt (1 :: tx [txt n])),
  .string (txt (sf e 1 (dotk 1))),
  .string (txt (sf r 1 (dotk 2))),
  .string (txt (sf e 1 (dotk 3))),
  .string (txt (sf e 1 (dotk 2))),
  .string (txt (esc e ++ 0 :: 1 :: (dotk 1))),
  .string (txt (esc r ++ 0 :: 1 :: (dotk 2))),
  .string (txt (esc e ++ 0 :: 1 :: (dotk 3))),
  .string (txt (esc e ++ 0 :: 1 :: (dotk 2))),
  .string ((txt (fr (bt 1 (w0Gt n e r))) ++ txt (fr (bt 4 (w1Gt n e r))))),
  .string (((txt (fr (bt 1 (w0Gt n e r))) ++ txt (fr (bt 4 (w1Gt n e r)))) ++ txt (fr (bt 6 (w2Gt n e r))))),
  .string ((((txt (fr (bt 1 (w0Gt n e r))) ++ txt (fr (bt 4 (w1Gt n e r)))) ++ txt (fr (bt 6 (w2Gt n e r)))) ++ txt (fr (bt 8 (w3Gt n e r))))),
  .string (((txt (fr (bt 1 (w0Gt n e r))) ++ txt (fr (bt 4 (w1Gt n e r)))) ++ txt (fr (bt 6 (w4Gt n e r))))),
  .string (txt (((1 :: tx [txt n]) ++ itm (txt e) (txt (dotk 1)) ⟨#[]⟩) ++ [7, 1, 0, 0, 0, 1, 1, 0, 1, 0])),
  .string (txt (((1 :: tx [txt n]) ++ itm (txt r) (txt (dotk 2)) ⟨#[]⟩) ++ [7, 1, 0, 0, 0, 1, 2, 0, 1, 0])),
  .string (txt (((1 :: tx [txt n]) ++ itm (txt e) (txt (dotk 3)) ⟨#[]⟩) ++ [7, 1, 0, 0, 0, 1, 3, 0, 1, 0])),
  .string (txt (((1 :: tx [txt n]) ++ [0]) ++ [7, 1, 0, 0, 0, 1, 4, 0, 7, 1, 0, 0, 0, 1, 1, 0])),
  .string (txt (((1 :: tx [txt n]) ++ [0]) ++ [7, 1, 0, 0, 0, 1, 3, 0, 7, 1, 0, 0, 0, 1, 1, 0])),
  .string (pm (((1 :: tx [txt n]) ++ itm (txt e) (txt (dotk 1)) ⟨#[]⟩) ++ [7, 1, 0, 0, 0, 1, 1, 0, 1, 0])),
  .string (pm (((1 :: tx [txt n]) ++ itm (txt r) (txt (dotk 2)) ⟨#[]⟩) ++ [7, 1, 0, 0, 0, 1, 2, 0, 1, 0])),
  .string (pm (((1 :: tx [txt n]) ++ itm (txt e) (txt (dotk 3)) ⟨#[]⟩) ++ [7, 1, 0, 0, 0, 1, 3, 0, 1, 0])),
  .string (pm (((1 :: tx [txt n]) ++ [0]) ++ [7, 1, 0, 0, 0, 1, 4, 0, 7, 1, 0, 0, 0, 1, 1, 0])),
  .string (pm (((1 :: tx [txt n]) ++ [0]) ++ [7, 1, 0, 0, 0, 1, 3, 0, 7, 1, 0, 0, 0, 1, 1, 0])),
  .string (txt ((1 :: tx [txt n]) ++ itm (txt e) (txt (dotk 1)) ⟨#[]⟩)),
  .string (txt ((1 :: tx [txt n]) ++ itm (txt r) (txt (dotk 2)) ⟨#[]⟩)),
  .string (txt ((1 :: tx [txt n]) ++ itm (txt e) (txt (dotk 3)) ⟨#[]⟩)),
  .string (txt ((1 :: tx [txt n]) ++ [0])),
  .bool false,
  .string (txt (itm (txt e) (txt (dotk 1)) ⟨#[]⟩)),
  .string (txt (itm (txt r) (txt (dotk 2)) ⟨#[]⟩)),
  .string (txt (itm (txt e) (txt (dotk 3)) ⟨#[]⟩)),
  .bool false,
  .bool false,
  .int .i64 (((txt (key n (sf e 1 []))).size - 1 : Nat)),
  .int .i64 (((txt (key n (sf r 1 []))).size - 1 : Nat)),
  .int .i64 ((0 : Int) + Int.ofNat (txt (fr (bt 1 (w0Gt n e r)))).size),
  .int .i64 ((0 : Int) + Int.ofNat (txt (fr (bt 1 (w0Gt n e r)))).size + Int.ofNat (txt (fr (bt 4 (w1Gt n e r)))).size),
  .int .i64 ((0 : Int) + Int.ofNat (txt (fr (bt 1 (w0Gt n e r)))).size + Int.ofNat (txt (fr (bt 4 (w1Gt n e r)))).size + Int.ofNat (txt (fr (bt 6 (w2Gt n e r)))).size),
  .int .i64 ((0 : Int) + Int.ofNat (txt (fr (bt 1 (w0Gt n e r)))).size + Int.ofNat (txt (fr (bt 4 (w1Gt n e r)))).size + Int.ofNat (txt (fr (bt 6 (w2Gt n e r)))).size + Int.ofNat (txt (fr (bt 8 (w3Gt n e r)))).size),
  .int .i64 ((0 : Int) + Int.ofNat (txt (fr (bt 1 (w0Gt n e r)))).size + Int.ofNat (txt (fr (bt 4 (w1Gt n e r)))).size + Int.ofNat (txt (fr (bt 6 (w4Gt n e r)))).size),
  .int .i64 (mGt100 n e r),
  .int .i64 (mGt101 n e r),
  .int .i64 (mGt102 n e r),
  .int .i64 (mGt103 n e r),
  .int .i64 (mGt104 n e r),
  .int .i64 (mGt105 n e r),
  .int .i64 (mGt106 n e r),
  .int .i64 (mGt107 n e r),
  .int .i64 (mGt108 n e r),
  .int .i64 (mGt109 n e r),
  .int .i64 (mGt110 n e r),
  .int .i64 (mGt111 n e r),
  .int .i64 (mGt112 n e r),
  .int .i64 (mGt113 n e r),
  .int .i64 (mGt114 n e r),
  .int .i64 (mGt115 n e r),
  .int .i64 (mGt116 n e r),
  .int .i64 (mGt117 n e r),
  .int .i64 (mGt118 n e r),
  .int .i64 (mGt119 n e r),
  .int .i64 (mGt120 n e r),
  .int .i64 (mGt121 n e r),
  .int .i64 (mGt122 n e r),
  .int .i64 (mGt123 n e r),
  .int .i64 (mGt124 n e r),
  .int .i64 (mGt125 n e r),
  .int .i64 (mGt126 n e r),
  .int .i64 (mGt200 n e r),
  .int .i64 (mGt201 n e r),
  .int .i64 (mGt202 n e r),
  .bool false,
  .bool false,
  .bool false] : List Value)[i]?
theorem sgGt_none (n e r : List UInt8) (i : Nat) (h : 109 ≤ i) : sgGt n e r i = none := by
  obtain ⟨k, rfl⟩ : ∃ k, i = k + 109 := ⟨i - 109, by omega⟩
  rfl
noncomputable def factsGt : List (BinOp × AV × AV × AV) := [(.eql, .symStr 7, .symStr 7, .bool true),
  (.lss, .symStr 7, .symStr 7, .bool false),
  (.eql, .symStr 7, .symStr 8, .bool false),
  (.lss, .symStr 7, .symStr 8, .bool true),
  (.lss, .symStr 7, .symStr 9, .bool true),
  (.lss, .symStr 7, .symStr 12, .bool true),
  (.lss, .symStr 7, .symStr 11, .bool true),
  (.eql, .symStr 7, .symStr 17, .bool false),
  (.eql, .symStr 8, .symStr 8, .bool true),
  (.lss, .symStr 8, .symStr 8, .bool false),
  (.lss, .symStr 8, .symStr 9, .bool true),
  (.lss, .symStr 8, .symStr 12, .bool true),
  (.eql, .symStr 8, .symStr 18, .bool false),
  (.lss, .symStr 8, .symStr 11, .bool true),
  (.eql, .symStr 8, .symStr 17, .bool false),
  (.eql, .symStr 8, .symStr 19, .bool false),
  (.eql, .symStr 9, .symStr 8, .bool false),
  (.eql, .symStr 9, .symStr 9, .bool true),
  (.lss, .symStr 9, .symStr 9, .bool false),
  (.lss, .symStr 9, .symStr 12, .bool true),
  (.lss, .symStr 9, .symStr 11, .bool true),
  (.eql, .symStr 18, .symStr 9, .bool false),
  (.lss, .symStr 18, .symStr 9, .bool false),
  (.lss, .symStr 18, .symStr 12, .bool false),
  (.geq, .symStr 18, .symStr 15, .bool false),
  (.lss, .symStr 18, .symStr 11, .bool true),
  (.eql, .symStr 17, .symStr 9, .bool false),
  (.lss, .symStr 17, .symStr 9, .bool false),
  (.geq, .symStr 17, .symStr 15, .bool true),
  (.lss, .symStr 17, .symStr 11, .bool false),
  (.geq, .symStr 17, .symStr 13, .bool false),
  (.eql, .symStr 19, .symStr 17, .bool false),
  (.geq, .symStr 19, .symStr 13, .bool false),
  (.gtr, .symLen 7, .int .i64 300, .bool false),
  (.gtr, .symLen 8, .int .i64 300, .bool false),
  (.gtr, .symLen 9, .int .i64 300, .bool false),
  (.eql, .symStr 12, .str [], .bool false),
  (.neq, .symStr 12, .str [], .bool true),
  (.leq, .symLen 18, .int .i64 1099511627776, .bool true),
  (.gtr, .symLen 18, .int .i64 300, .bool false),
  (.geq, .symLen 18, .int .i64 1, .bool true),
  (.eql, .symStr 15, .str [], .bool false),
  (.eql, .symStr 11, .str [], .bool false),
  (.neq, .symStr 11, .str [], .bool true),
  (.leq, .symLen 17, .int .i64 1099511627776, .bool true),
  (.gtr, .symLen 17, .int .i64 300, .bool false),
  (.geq, .symLen 17, .int .i64 1, .bool true),
  (.leq, .symLen 19, .int .i64 1099511627776, .bool true),
  (.gtr, .symLen 19, .int .i64 300, .bool false),
  (.geq, .symLen 19, .int .i64 1, .bool true),
  (.eql, .symStr 13, .str [], .bool false),
  (.lss, .symLen 0, .int .i64 1, .bool false),
  (.gtr, .symLen 0, .int .i64 40, .bool false),
  (.leq, .symLen 0, .int .i64 40, .bool true),
  (.neq, .symStr 0, .str [], .bool true),
  (.lss, .symLen 1, .int .i64 1, .bool false),
  (.gtr, .symLen 1, .int .i64 60, .bool false),
  (.leq, .symLen 1, .int .i64 60, .bool true),
  (.neq, .symStr 1, .str [], .bool true),
  (.lss, .symLen 2, .int .i64 1, .bool false),
  (.gtr, .symLen 2, .int .i64 60, .bool false),
  (.leq, .symLen 2, .int .i64 60, .bool true),
  (.neq, .symStr 2, .str [], .bool true),
  (.eql, .symStr 2, .symStr 1, .bool false),
  (.add, .str [111], .symStr 3, .symStr 6),
  (.add, .symStr 6, .str [0], .symStr 7),
  (.add, .symStr 6, .str [1], .symStr 8),
  (.add, .symStr 6, .str [2], .symStr 9),
  (.add, .symStr 6, .str [3], .symStr 10),
  (.add, .symStr 10, .symStr 4, .symStr 11),
  (.add, .symStr 10, .symStr 5, .symStr 12),
  (.add, .symStr 11, .str [0, 0, 0, 1, 0, 0, 0, 0, 0, 0, 0, 1], .symStr 17),
  (.add, .symStr 11, .str [0, 0, 0, 1, 0, 0, 0, 0, 0, 0, 0, 3], .symStr 19),
  (.add, .symStr 12, .str [0, 0, 0, 1, 0, 0, 0, 0, 0, 0, 0, 2], .symStr 18),
  (.sub, .symLen 11, .int .i64 1, .symInt .i64 69),
  (.add, .symStr 14, .str [2], .symStr 13),
  (.sub, .symLen 12, .int .i64 1, .symInt .i64 70),
  (.add, .symStr 16, .str [2], .symStr 15),
  (.add, .str [1], .symStr 35, .symStr 36),
  (.add, .symStr 36, .symStr 64, .symStr 59),
  (.add, .symStr 59, .str [7, 1, 0, 0, 0, 1, 1, 0, 1, 0], .symStr 49),
  (.add, .symStr 36, .symStr 65, .symStr 60),
  (.add, .symStr 60, .str [7, 1, 0, 0, 0, 1, 2, 0, 1, 0], .symStr 50),
  (.add, .symStr 36, .symStr 66, .symStr 61),
  (.add, .symStr 61, .str [7, 1, 0, 0, 0, 1, 3, 0, 1, 0], .symStr 51),
  (.add, .symStr 36, .str [0], .symStr 62),
  (.add, .symStr 62, .str [7, 1, 0, 0, 0, 1, 4, 0, 7, 1, 0, 0, 0, 1, 1, 0], .symStr 52),
  (.add, .symStr 62, .str [7, 1, 0, 0, 0, 1, 3, 0, 7, 1, 0, 0, 0, 1, 1, 0], .symStr 53),
  (.add, .str [], .symStr 22, .symStr 22),
  (.add, .int .i64 0, .symLen 22, .symInt .i64 71),
  (.add, .int .i64 0, .symLen 7, .symInt .i64 76),
  (.add, .symInt .i64 76, .int .i64 1, .symInt .i64 77),
  (.add, .symInt .i64 77, .int .i64 16, .symInt .i64 78),
  (.add, .symInt .i64 78, .symLen 8, .symInt .i64 79),
  (.add, .symInt .i64 79, .int .i64 7, .symInt .i64 80),
  (.add, .symInt .i64 80, .int .i64 16, .symInt .i64 81),
  (.add, .symInt .i64 81, .symLen 17, .symInt .i64 82),
  (.add, .symInt .i64 82, .int .i64 0, .symInt .i64 83),
  (.add, .symInt .i64 83, .int .i64 16, .symInt .i64 84),
  (.gtr, .symInt .i64 84, .int .i64 2000, .bool false),
  (.add, .symStr 22, .symStr 24, .symStr 45),
  (.add, .symInt .i64 71, .symLen 24, .symInt .i64 72),
  (.add, .symInt .i64 84, .symLen 8, .symInt .i64 85),
  (.add, .symInt .i64 85, .int .i64 7, .symInt .i64 86),
  (.add, .symInt .i64 86, .int .i64 16, .symInt .i64 87),
  (.add, .symInt .i64 87, .symLen 18, .symInt .i64 88),
  (.add, .symInt .i64 88, .int .i64 0, .symInt .i64 89),
  (.add, .symInt .i64 89, .int .i64 16, .symInt .i64 90),
  (.gtr, .symInt .i64 90, .int .i64 2000, .bool false),
  (.add, .symStr 45, .symStr 26, .symStr 46),
  (.add, .symInt .i64 72, .symLen 26, .symInt .i64 73),
  (.add, .symInt .i64 90, .symLen 8, .symInt .i64 91),
  (.add, .symInt .i64 91, .int .i64 7, .symInt .i64 92),
  (.add, .symInt .i64 92, .int .i64 16, .symInt .i64 93),
  (.add, .symInt .i64 93, .symLen 19, .symInt .i64 94),
  (.add, .symInt .i64 94, .int .i64 0, .symInt .i64 95),
  (.add, .symInt .i64 95, .int .i64 16, .symInt .i64 96),
  (.gtr, .symInt .i64 96, .int .i64 2000, .bool false),
  (.add, .symStr 46, .symStr 28, .symStr 47),
  (.add, .symInt .i64 73, .symLen 28, .symInt .i64 74),
  (.add, .symInt .i64 96, .symLen 8, .symInt .i64 97),
  (.add, .symInt .i64 97, .int .i64 7, .symInt .i64 98),
  (.add, .symInt .i64 98, .int .i64 16, .symInt .i64 99),
  (.add, .symInt .i64 99, .symLen 9, .symInt .i64 100),
  (.add, .symInt .i64 100, .int .i64 7, .symInt .i64 101),
  (.add, .symInt .i64 101, .int .i64 16, .symInt .i64 102),
  (.gtr, .symInt .i64 102, .int .i64 2000, .bool false),
  (.add, .symStr 45, .symStr 30, .symStr 48),
  (.add, .symInt .i64 72, .symLen 30, .symInt .i64 75),
  (.add, .symInt .i64 93, .symLen 9, .symInt .i64 103),
  (.add, .symInt .i64 103, .int .i64 7, .symInt .i64 104),
  (.add, .symInt .i64 104, .int .i64 16, .symInt .i64 105),
  (.gtr, .symInt .i64 105, .int .i64 2000, .bool false),
  (.eql, .symStr 37, .str [], .bool false),
  (.eql, .symStr 38, .str [], .bool false),
  (.eql, .symStr 39, .str [], .bool false)]
noncomputable def ofactsGt : List ((Nat × Nat × Nat) × List AV × AV) := [((5, 9, 0), [.symStr 11, .symInt .i64 69], .int .u8 1),
  ((6, 9, 2), [.symStr 11, .symInt .i64 69], .symStr 14),
  ((5, 9, 0), [.symStr 12, .symInt .i64 70], .int .u8 1),
  ((6, 9, 2), [.symStr 12, .symInt .i64 70], .symStr 16),
  ((6, 9, 2), [.symStr 17, .int .i64 1], .str [111]),
  ((6, 9, 1), [.symStr 17, .int .i64 1], .symStr 31),
  ((5, 9, 0), [.symStr 37, .int .i64 0], .int .u8 3),
  ((6, 9, 1), [.symStr 37, .int .i64 1], .symStr 41),
  ((6, 9, 2), [.symStr 18, .int .i64 1], .str [111]),
  ((6, 9, 1), [.symStr 18, .int .i64 1], .symStr 32),
  ((5, 9, 0), [.symStr 38, .int .i64 0], .int .u8 3),
  ((6, 9, 1), [.symStr 38, .int .i64 1], .symStr 42),
  ((6, 9, 2), [.symStr 19, .int .i64 1], .str [111]),
  ((6, 9, 1), [.symStr 19, .int .i64 1], .symStr 33),
  ((5, 9, 0), [.symStr 39, .int .i64 0], .int .u8 3),
  ((6, 9, 1), [.symStr 39, .int .i64 1], .symStr 43),
  ((12, 0, 0), [.symInt .i64 78, .int .i64 4611686018427387904], .symInt .i64 78),
  ((12, 0, 0), [.symInt .i64 81, .int .i64 4611686018427387904], .symInt .i64 81),
  ((12, 0, 0), [.symInt .i64 84, .int .i64 4611686018427387904], .symInt .i64 84),
  ((12, 0, 0), [.symInt .i64 87, .int .i64 4611686018427387904], .symInt .i64 87),
  ((12, 0, 0), [.symInt .i64 90, .int .i64 4611686018427387904], .symInt .i64 90),
  ((12, 0, 0), [.symInt .i64 93, .int .i64 4611686018427387904], .symInt .i64 93),
  ((12, 0, 0), [.symInt .i64 96, .int .i64 4611686018427387904], .symInt .i64 96),
  ((12, 0, 0), [.symInt .i64 99, .int .i64 4611686018427387904], .symInt .i64 99),
  ((12, 0, 0), [.symInt .i64 102, .int .i64 4611686018427387904], .symInt .i64 102),
  ((12, 0, 0), [.symInt .i64 105, .int .i64 4611686018427387904], .symInt .i64 105)]
noncomputable def CGt (cs : List (FuncId × Con)) (σ0 : Nat → Option Value) : Ctx := withAll (ctx cs []) factsGt ofactsGt σ0 fun _ _ => none
abbrev FGt (cs : List (FuncId × Con)) (n e r : List UInt8) (f : BinOp × AV × AV × AV) : Prop := FactOK Tryz.prog (CGt cs (sgGt n e r)) f
abbrev OGt (cs : List (FuncId × Con)) (n e r : List UInt8) (f : (Nat × Nat × Nat) × List AV × AV) : Prop := OFactOK Tryz.prog (CGt cs (sgGt n e r)) f
section
variable {cs : List (FuncId × Con)} {n e r : List UInt8}
theorem fGt0 : FGt cs n e r (.eql, .symStr 7, .symStr 7, .bool true) := fact_eqs rfl rfl (by simp)
theorem fGt1 : FGt cs n e r (.lss, .symStr 7, .symStr 7, .bool false) := fact_lssS rfl rfl (ltL_irr _)
theorem fGt2 : FGt cs n e r (.eql, .symStr 7, .symStr 8, .bool false) := fact_eqs rfl rfl (decide_eq_false (ne_txt (key_lt n (rfl : ltL [0] [1] = true)))).symm
theorem fGt3 : FGt cs n e r (.lss, .symStr 7, .symStr 8, .bool true) := fact_lssS rfl rfl (key_lt n (rfl : ltL [0] [1] = true))
theorem fGt4 : FGt cs n e r (.lss, .symStr 7, .symStr 9, .bool true) := fact_lssS rfl rfl (key_lt n (rfl : ltL [0] [2] = true))
theorem fGt5 : FGt cs n e r (.lss, .symStr 7, .symStr 12, .bool true) := fact_lssS rfl rfl (key_lt n (rfl : ltL [0] (sf r 1 []) = true))
theorem fGt6 : FGt cs n e r (.lss, .symStr 7, .symStr 11, .bool true) := fact_lssS rfl rfl (key_lt n (rfl : ltL [0] (sf e 1 []) = true))
theorem fGt7 : FGt cs n e r (.eql, .symStr 7, .symStr 17, .bool false) := fact_eqs rfl rfl (decide_eq_false (ne_txt (key_lt n (rfl : ltL [0] (sf e 1 (dotk 1)) = true)))).symm
theorem fGt8 : FGt cs n e r (.eql, .symStr 8, .symStr 8, .bool true) := fact_eqs rfl rfl (by simp)
theorem fGt9 : FGt cs n e r (.lss, .symStr 8, .symStr 8, .bool false) := fact_lssS rfl rfl (ltL_irr _)
theorem fGt10 : FGt cs n e r (.lss, .symStr 8, .symStr 9, .bool true) := fact_lssS rfl rfl (key_lt n (rfl : ltL [1] [2] = true))
theorem fGt11 : FGt cs n e r (.lss, .symStr 8, .symStr 12, .bool true) := fact_lssS rfl rfl (key_lt n (rfl : ltL [1] (sf r 1 []) = true))
theorem fGt12 : FGt cs n e r (.eql, .symStr 8, .symStr 18, .bool false) := fact_eqs rfl rfl (decide_eq_false (ne_txt (key_lt n (rfl : ltL [1] (sf r 1 (dotk 2)) = true)))).symm
theorem fGt13 : FGt cs n e r (.lss, .symStr 8, .symStr 11, .bool true) := fact_lssS rfl rfl (key_lt n (rfl : ltL [1] (sf e 1 []) = true))
theorem fGt14 : FGt cs n e r (.eql, .symStr 8, .symStr 17, .bool false) := fact_eqs rfl rfl (decide_eq_false (ne_txt (key_lt n (rfl : ltL [1] (sf e 1 (dotk 1)) = true)))).symm
theorem fGt15 : FGt cs n e r (.eql, .symStr 8, .symStr 19, .bool false) := fact_eqs rfl rfl (decide_eq_false (ne_txt (key_lt n (rfl : ltL [1] (sf e 1 (dotk 3)) = true)))).symm
theorem fGt16 : FGt cs n e r (.eql, .symStr 9, .symStr 8, .bool false) := fact_eqs rfl rfl (decide_eq_false (ne_txt' (key_lt n (rfl : ltL [1] [2] = true)))).symm
theorem fGt17 : FGt cs n e r (.eql, .symStr 9, .symStr 9, .bool true) := fact_eqs rfl rfl (by simp)
theorem fGt18 : FGt cs n e r (.lss, .symStr 9, .symStr 9, .bool false) := fact_lssS rfl rfl (ltL_irr _)
theorem fGt19 : FGt cs n e r (.lss, .symStr 9, .symStr 12, .bool true) := fact_lssS rfl rfl (key_lt n (rfl : ltL [2] (sf r 1 []) = true))
theorem fGt20 : FGt cs n e r (.lss, .symStr 9, .symStr 11, .bool true) := fact_lssS rfl rfl (key_lt n (rfl : ltL [2] (sf e 1 []) = true))
theorem fGt21 : FGt cs n e r (.eql, .symStr 18, .symStr 9, .bool false) := fact_eqs rfl rfl (decide_eq_false (ne_txt' (key_lt n (rfl : ltL [2] (sf r 1 (dotk 2)) = true)))).symm
theorem fGt22 : FGt cs n e r (.lss, .symStr 18, .symStr 9, .bool false) := fact_lssS rfl rfl (ltL_asym (key_lt n (rfl : ltL [2] (sf r 1 (dotk 2)) = true)))
theorem fGt23 : FGt cs n e r (.lss, .symStr 18, .symStr 12, .bool false) := fact_lssS rfl rfl (ltL_asym (key_lt n (sf_lt r rfl)))
theorem fGt24 : FGt cs n e r (.geq, .symStr 18, .symStr 15, .bool false) := fact_geqS rfl rfl (key_lt n (sf_lt r rfl))
theorem fGt25 (h : ltL r e = true) : FGt cs n e r (.lss, .symStr 18, .symStr 11, .bool true) := fact_lssS rfl rfl (key_lt n (sf_lt2 1 1 (dotk 2) [] (by decide) h))
theorem fGt26 : FGt cs n e r (.eql, .symStr 17, .symStr 9, .bool false) := fact_eqs rfl rfl (decide_eq_false (ne_txt' (key_lt n (rfl : ltL [2] (sf e 1 (dotk 1)) = true)))).symm
theorem fGt27 : FGt cs n e r (.lss, .symStr 17, .symStr 9, .bool false) := fact_lssS rfl rfl (ltL_asym (key_lt n (rfl : ltL [2] (sf e 1 (dotk 1)) = true)))
theorem fGt28 (h : ltL r e = true) : FGt cs n e r (.geq, .symStr 17, .symStr 15, .bool true) := fact_geqS rfl rfl (ltL_asym (key_lt n (sf_lt2 2 1 [] (dotk 1) (by decide) h)))
theorem fGt29 : FGt cs n e r (.lss, .symStr 17, .symStr 11, .bool false) := fact_lssS rfl rfl (ltL_asym (key_lt n (sf_lt e rfl)))
theorem fGt30 : FGt cs n e r (.geq, .symStr 17, .symStr 13, .bool false) := fact_geqS rfl rfl (key_lt n (sf_lt e rfl))
theorem fGt31 : FGt cs n e r (.eql, .symStr 19, .symStr 17, .bool false) := fact_eqs rfl rfl (decide_eq_false (ne_txt' (key_lt n (sf_lt e rfl)))).symm
theorem fGt32 : FGt cs n e r (.geq, .symStr 19, .symStr 13, .bool false) := fact_geqS rfl rfl (key_lt n (sf_lt e rfl))
theorem fGt33 (hs : Sc n e r) : FGt cs n e r (.gtr, .symLen 7, .int .i64 300, .bool false) := fact_gtr rfl rfl (dgt (z30 hs).2 (by decide))
theorem fGt34 (hs : Sc n e r) : FGt cs n e r (.gtr, .symLen 8, .int .i64 300, .bool false) := fact_gtr rfl rfl (dgt (z31 hs).2 (by decide))
theorem fGt35 (hs : Sc n e r) : FGt cs n e r (.gtr, .symLen 9, .int .i64 300, .bool false) := fact_gtr rfl rfl (dgt (z32 hs).2 (by decide))
theorem fGt36 (hs : Sc n e r) : FGt cs n e r (.eql, .symStr 12, .str [], .bool false) := fact_eqs rfl rfl (decide_eq_false (ne_empty (by have := z51 hs; omega))).symm
theorem fGt37 (hs : Sc n e r) : FGt cs n e r (.neq, .symStr 12, .str [], .bool true) := fact_nes rfl rfl (decide_eq_true (ne_empty (by have := z51 hs; omega))).symm
theorem fGt38 (hs : Sc n e r) : FGt cs n e r (.leq, .symLen 18, .int .i64 1099511627776, .bool true) := fact_leq rfl rfl (dle (z61 hs).2 (by decide))
theorem fGt39 (hs : Sc n e r) : FGt cs n e r (.gtr, .symLen 18, .int .i64 300, .bool false) := fact_gtr rfl rfl (dgt (z61 hs).2 (by decide))
theorem fGt40 (hs : Sc n e r) : FGt cs n e r (.geq, .symLen 18, .int .i64 1, .bool true) := fact_geq rfl rfl (dge (z61 hs).1 (by decide))
theorem fGt41 (hs : Sc n e r) : FGt cs n e r (.eql, .symStr 15, .str [], .bool false) := fact_eqs rfl rfl (decide_eq_false (ne_empty (by have := z54 hs; omega))).symm
theorem fGt42 (hs : Sc n e r) : FGt cs n e r (.eql, .symStr 11, .str [], .bool false) := fact_eqs rfl rfl (decide_eq_false (ne_empty (by have := z50 hs; omega))).symm
theorem fGt43 (hs : Sc n e r) : FGt cs n e r (.neq, .symStr 11, .str [], .bool true) := fact_nes rfl rfl (decide_eq_true (ne_empty (by have := z50 hs; omega))).symm
theorem fGt44 (hs : Sc n e r) : FGt cs n e r (.leq, .symLen 17, .int .i64 1099511627776, .bool true) := fact_leq rfl rfl (dle (z60 hs).2 (by decide))
theorem fGt45 (hs : Sc n e r) : FGt cs n e r (.gtr, .symLen 17, .int .i64 300, .bool false) := fact_gtr rfl rfl (dgt (z60 hs).2 (by decide))
theorem fGt46 (hs : Sc n e r) : FGt cs n e r (.geq, .symLen 17, .int .i64 1, .bool true) := fact_geq rfl rfl (dge (z60 hs).1 (by decide))
theorem fGt47 (hs : Sc n e r) : FGt cs n e r (.leq, .symLen 19, .int .i64 1099511627776, .bool true) := fact_leq rfl rfl (dle (z62 hs).2 (by decide))
theorem fGt48 (hs : Sc n e r) : FGt cs n e r (.gtr, .symLen 19, .int .i64 300, .bool false) := fact_gtr rfl rfl (dgt (z62 hs).2 (by decide))
theorem fGt49 (hs : Sc n e r) : FGt cs n e r (.geq, .symLen 19, .int .i64 1, .bool true) := fact_geq rfl rfl (dge (z62 hs).1 (by decide))
theorem fGt50 (hs : Sc n e r) : FGt cs n e r (.eql, .symStr 13, .str [], .bool false) := fact_eqs rfl rfl (decide_eq_false (ne_empty (by have := z52 hs; omega))).symm
theorem fGt51 (hs : Sc n e r) : FGt cs n e r (.lss, .symLen 0, .int .i64 1, .bool false) := fact_lss rfl rfl (dlt (z0 hs).1 (by decide))
theorem fGt52 (hs : Sc n e r) : FGt cs n e r (.gtr, .symLen 0, .int .i64 40, .bool false) := fact_gtr rfl rfl (dgt (z0 hs).2 (by decide))
theorem fGt53 (hs : Sc n e r) : FGt cs n e r (.leq, .symLen 0, .int .i64 40, .bool true) := fact_leq rfl rfl (dle (z0 hs).2 (by decide))
theorem fGt54 (hs : Sc n e r) : FGt cs n e r (.neq, .symStr 0, .str [], .bool true) := fact_nes rfl rfl (decide_eq_true (ne_empty (by have := z0 hs; omega))).symm
theorem fGt55 (hs : Sc n e r) : FGt cs n e r (.lss, .symLen 1, .int .i64 1, .bool false) := fact_lss rfl rfl (dlt (z1 hs).1 (by decide))
theorem fGt56 (hs : Sc n e r) : FGt cs n e r (.gtr, .symLen 1, .int .i64 60, .bool false) := fact_gtr rfl rfl (dgt (z1 hs).2 (by decide))
theorem fGt57 (hs : Sc n e r) : FGt cs n e r (.leq, .symLen 1, .int .i64 60, .bool true) := fact_leq rfl rfl (dle (z1 hs).2 (by decide))
theorem fGt58 (hs : Sc n e r) : FGt cs n e r (.neq, .symStr 1, .str [], .bool true) := fact_nes rfl rfl (decide_eq_true (ne_empty (by have := z1 hs; omega))).symm
theorem fGt59 (hs : Sc n e r) : FGt cs n e r (.lss, .symLen 2, .int .i64 1, .bool false) := fact_lss rfl rfl (dlt (z2 hs).1 (by decide))
theorem fGt60 (hs : Sc n e r) : FGt cs n e r (.gtr, .symLen 2, .int .i64 60, .bool false) := fact_gtr rfl rfl (dgt (z2 hs).2 (by decide))
theorem fGt61 (hs : Sc n e r) : FGt cs n e r (.leq, .symLen 2, .int .i64 60, .bool true) := fact_leq rfl rfl (dle (z2 hs).2 (by decide))
theorem fGt62 (hs : Sc n e r) : FGt cs n e r (.neq, .symStr 2, .str [], .bool true) := fact_nes rfl rfl (decide_eq_true (ne_empty (by have := z2 hs; omega))).symm
theorem fGt63 (h : ltL r e = true) : FGt cs n e r (.eql, .symStr 2, .symStr 1, .bool false) := fact_eqs rfl rfl (decide_eq_false (ne_txt h)).symm
theorem fGt64 (hs : Sc n e r) : FGt cs n e r (.add, .str [111], .symStr 3, .symStr 6) := fact_cat rfl rfl rfl (txt_append [111] _) (by have := z10 hs; have := szn [111] 1 rfl; omega)
theorem fGt65 (hs : Sc n e r) : FGt cs n e r (.add, .symStr 6, .str [0], .symStr 7) := fact_cat rfl rfl rfl (txt_append (111 :: ok n) [0]) (by have := z20 hs; have := szn [0] 1 rfl; omega)
theorem fGt66 (hs : Sc n e r) : FGt cs n e r (.add, .symStr 6, .str [1], .symStr 8) := fact_cat rfl rfl rfl (txt_append (111 :: ok n) [1]) (by have := z20 hs; have := szn [1] 1 rfl; omega)
theorem fGt67 (hs : Sc n e r) : FGt cs n e r (.add, .symStr 6, .str [2], .symStr 9) := fact_cat rfl rfl rfl (txt_append (111 :: ok n) [2]) (by have := z20 hs; have := szn [2] 1 rfl; omega)
theorem fGt68 (hs : Sc n e r) : FGt cs n e r (.add, .symStr 6, .str [3], .symStr 10) := fact_cat rfl rfl rfl (txt_append (111 :: ok n) [3]) (by have := z20 hs; have := szn [3] 1 rfl; omega)
theorem fGt69 (hs : Sc n e r) : FGt cs n e r (.add, .symStr 10, .symStr 4, .symStr 11) := fact_cat rfl rfl rfl (key_cat n [3] _) (by have := z33 hs; have := z11 hs; omega)
theorem fGt70 (hs : Sc n e r) : FGt cs n e r (.add, .symStr 10, .symStr 5, .symStr 12) := fact_cat rfl rfl rfl (key_cat n [3] _) (by have := z33 hs; have := z12 hs; omega)
theorem fGt71 (hs : Sc n e r) : FGt cs n e r (.add, .symStr 11, .str [0, 0, 0, 1, 0, 0, 0, 0, 0, 0, 0, 1], .symStr 17) := fact_cat rfl rfl rfl (sf_cat n e 1 [] (dotk 1)) (by have := z50 hs; have := szn [0, 0, 0, 1, 0, 0, 0, 0, 0, 0, 0, 1] 12 rfl; omega)
theorem fGt72 (hs : Sc n e r) : FGt cs n e r (.add, .symStr 11, .str [0, 0, 0, 1, 0, 0, 0, 0, 0, 0, 0, 3], .symStr 19) := fact_cat rfl rfl rfl (sf_cat n e 1 [] (dotk 3)) (by have := z50 hs; have := szn [0, 0, 0, 1, 0, 0, 0, 0, 0, 0, 0, 3] 12 rfl; omega)
theorem fGt73 (hs : Sc n e r) : FGt cs n e r (.add, .symStr 12, .str [0, 0, 0, 1, 0, 0, 0, 0, 0, 0, 0, 2], .symStr 18) := fact_cat rfl rfl rfl (sf_cat n r 1 [] (dotk 2)) (by have := z51 hs; have := szn [0, 0, 0, 1, 0, 0, 0, 0, 0, 0, 0, 2] 12 rfl; omega)
theorem fGt74 (hs : Sc n e r) : FGt cs n e r (.sub, .symLen 11, .int .i64 1, .symInt .i64 69) := fact_sub (k := .i64) rfl rfl rfl (by have := z50 hs; simp only [Int.ofNat_eq_natCast]; rw [wrap_small (by omega) (by omega)]; omega)
theorem fGt75 (hs : Sc n e r) : FGt cs n e r (.add, .symStr 14, .str [2], .symStr 13) := fact_cat rfl rfl rfl (sC_cat n e 2) (by have := z53 hs; have := szn [2] 1 rfl; omega)
theorem fGt76 (hs : Sc n e r) : FGt cs n e r (.sub, .symLen 12, .int .i64 1, .symInt .i64 70) := fact_sub (k := .i64) rfl rfl rfl (by have := z51 hs; simp only [Int.ofNat_eq_natCast]; rw [wrap_small (by omega) (by omega)]; omega)
theorem fGt77 (hs : Sc n e r) : FGt cs n e r (.add, .symStr 16, .str [2], .symStr 15) := fact_cat rfl rfl rfl (sC_cat n r 2) (by have := z55 hs; have := szn [2] 1 rfl; omega)
theorem fGt78 (hs : Sc n e r) : FGt cs n e r (.add, .str [1], .symStr 35, .symStr 36) := fact_cat rfl rfl rfl (txt_append [1] _) (by have := z104 hs; have := szn [1] 1 rfl; omega)
theorem fGt79 (hs : Sc n e r) : FGt cs n e r (.add, .symStr 36, .symStr 64, .symStr 59) := fact_cat rfl rfl rfl (txt_append _ _) (by have := z105 hs; have := zGt155 hs; omega)
theorem fGt80 (hs : Sc n e r) : FGt cs n e r (.add, .symStr 59, .str [7, 1, 0, 0, 0, 1, 1, 0, 1, 0], .symStr 49) := fact_cat rfl rfl rfl (txt_append _ _) (by have := zGt150 hs; have := szn [7, 1, 0, 0, 0, 1, 1, 0, 1, 0] 10 rfl; omega)
theorem fGt81 (hs : Sc n e r) : FGt cs n e r (.add, .symStr 36, .symStr 65, .symStr 60) := fact_cat rfl rfl rfl (txt_append _ _) (by have := z105 hs; have := zGt156 hs; omega)
theorem fGt82 (hs : Sc n e r) : FGt cs n e r (.add, .symStr 60, .str [7, 1, 0, 0, 0, 1, 2, 0, 1, 0], .symStr 50) := fact_cat rfl rfl rfl (txt_append _ _) (by have := zGt151 hs; have := szn [7, 1, 0, 0, 0, 1, 2, 0, 1, 0] 10 rfl; omega)
theorem fGt83 (hs : Sc n e r) : FGt cs n e r (.add, .symStr 36, .symStr 66, .symStr 61) := fact_cat rfl rfl rfl (txt_append _ _) (by have := z105 hs; have := zGt157 hs; omega)
theorem fGt84 (hs : Sc n e r) : FGt cs n e r (.add, .symStr 61, .str [7, 1, 0, 0, 0, 1, 3, 0, 1, 0], .symStr 51) := fact_cat rfl rfl rfl (txt_append _ _) (by have := zGt152 hs; have := szn [7, 1, 0, 0, 0, 1, 3, 0, 1, 0] 10 rfl; omega)
theorem fGt85 (hs : Sc n e r) : FGt cs n e r (.add, .symStr 36, .str [0], .symStr 62) := fact_cat rfl rfl rfl (txt_append _ _) (by have := z105 hs; have := szn [0] 1 rfl; omega)
theorem fGt86 (hs : Sc n e r) : FGt cs n e r (.add, .symStr 62, .str [7, 1, 0, 0, 0, 1, 4, 0, 7, 1, 0, 0, 0, 1, 1, 0], .symStr 52) := fact_cat rfl rfl rfl (txt_append _ _) (by have := zGt153 hs; have := szn [7, 1, 0, 0, 0, 1, 4, 0, 7, 1, 0, 0, 0, 1, 1, 0] 16 rfl; omega)
theorem fGt87 (hs : Sc n e r) : FGt cs n e r (.add, .symStr 62, .str [7, 1, 0, 0, 0, 1, 3, 0, 7, 1, 0, 0, 0, 1, 1, 0], .symStr 53) := fact_cat rfl rfl rfl (txt_append _ _) (by have := zGt153 hs; have := szn [7, 1, 0, 0, 0, 1, 3, 0, 7, 1, 0, 0, 0, 1, 1, 0] 16 rfl; omega)
theorem fGt88 (hs : Sc n e r) : FGt cs n e r (.add, .str [], .symStr 22, .symStr 22) := fact_cat rfl rfl rfl (nil_cat _) (by have := zGt91 hs; have := szn [] 0 rfl; omega)
theorem fGt89 (hs : Sc n e r) : FGt cs n e r (.add, .int .i64 0, .symLen 22, .symInt .i64 71) := fact_add (k := .i64) rfl rfl rfl (wrap_small (by simp only [Int.ofNat_eq_natCast]; omega) (by simp only [Int.ofNat_eq_natCast]; have := zGt91 hs; have := zGt93 hs; have := zGt95 hs; have := zGt97 hs; have := zGt99 hs; omega))
theorem fGt90 (hs : Sc n e r) : FGt cs n e r (.add, .int .i64 0, .symLen 7, .symInt .i64 76) := fact_add (k := .i64) rfl rfl rfl (wrap_small (bGt100 hs).1 (Int.le_trans (bGt100 hs).2 (by decide)))
theorem fGt91 (hs : Sc n e r) : FGt cs n e r (.add, .symInt .i64 76, .int .i64 1, .symInt .i64 77) := fact_add (k := .i64) rfl rfl rfl (wrap_small (bGt101 hs).1 (Int.le_trans (bGt101 hs).2 (by decide)))
theorem fGt92 (hs : Sc n e r) : FGt cs n e r (.add, .symInt .i64 77, .int .i64 16, .symInt .i64 78) := fact_add (k := .i64) rfl rfl rfl (wrap_small (bGt102 hs).1 (Int.le_trans (bGt102 hs).2 (by decide)))
theorem fGt93 (hs : Sc n e r) : FGt cs n e r (.add, .symInt .i64 78, .symLen 8, .symInt .i64 79) := fact_add (k := .i64) rfl rfl rfl (wrap_small (bGt103 hs).1 (Int.le_trans (bGt103 hs).2 (by decide)))
theorem fGt94 (hs : Sc n e r) : FGt cs n e r (.add, .symInt .i64 79, .int .i64 7, .symInt .i64 80) := fact_add (k := .i64) rfl rfl rfl (wrap_small (bGt104 hs).1 (Int.le_trans (bGt104 hs).2 (by decide)))
theorem fGt95 (hs : Sc n e r) : FGt cs n e r (.add, .symInt .i64 80, .int .i64 16, .symInt .i64 81) := fact_add (k := .i64) rfl rfl rfl (wrap_small (bGt105 hs).1 (Int.le_trans (bGt105 hs).2 (by decide)))
theorem fGt96 (hs : Sc n e r) : FGt cs n e r (.add, .symInt .i64 81, .symLen 17, .symInt .i64 82) := fact_add (k := .i64) rfl rfl rfl (wrap_small (bGt106 hs).1 (Int.le_trans (bGt106 hs).2 (by decide)))
theorem fGt97 (hs : Sc n e r) : FGt cs n e r (.add, .symInt .i64 82, .int .i64 0, .symInt .i64 83) := fact_add (k := .i64) rfl rfl rfl (wrap_small (bGt107 hs).1 (Int.le_trans (bGt107 hs).2 (by decide)))
theorem fGt98 (hs : Sc n e r) : FGt cs n e r (.add, .symInt .i64 83, .int .i64 16, .symInt .i64 84) := fact_add (k := .i64) rfl rfl rfl (wrap_small (bGt108 hs).1 (Int.le_trans (bGt108 hs).2 (by decide)))
theorem fGt99 (hs : Sc n e r) : FGt cs n e r (.gtr, .symInt .i64 84, .int .i64 2000, .bool false) := fact_gtr rfl rfl (by refine (decide_eq_false ?_).symm; (try simp only [Int.ofNat_eq_natCast]); have := bGt108 hs; omega)
theorem fGt100 (hs : Sc n e r) : FGt cs n e r (.add, .symStr 22, .symStr 24, .symStr 45) := fact_cat rfl rfl rfl (rfl) (by have := zGt91 hs; have := zGt93 hs; omega)
theorem fGt101 (hs : Sc n e r) : FGt cs n e r (.add, .symInt .i64 71, .symLen 24, .symInt .i64 72) := fact_add (k := .i64) rfl rfl rfl (wrap_small (by simp only [Int.ofNat_eq_natCast]; omega) (by simp only [Int.ofNat_eq_natCast]; have := zGt91 hs; have := zGt93 hs; have := zGt95 hs; have := zGt97 hs; have := zGt99 hs; omega))
theorem fGt102 (hs : Sc n e r) : FGt cs n e r (.add, .symInt .i64 84, .symLen 8, .symInt .i64 85) := fact_add (k := .i64) rfl rfl rfl (wrap_small (bGt109 hs).1 (Int.le_trans (bGt109 hs).2 (by decide)))
theorem fGt103 (hs : Sc n e r) : FGt cs n e r (.add, .symInt .i64 85, .int .i64 7, .symInt .i64 86) := fact_add (k := .i64) rfl rfl rfl (wrap_small (bGt110 hs).1 (Int.le_trans (bGt110 hs).2 (by decide)))
theorem fGt104 (hs : Sc n e r) : FGt cs n e r (.add, .symInt .i64 86, .int .i64 16, .symInt .i64 87) := fact_add (k := .i64) rfl rfl rfl (wrap_small (bGt111 hs).1 (Int.le_trans (bGt111 hs).2 (by decide)))
theorem fGt105 (hs : Sc n e r) : FGt cs n e r (.add, .symInt .i64 87, .symLen 18, .symInt .i64 88) := fact_add (k := .i64) rfl rfl rfl (wrap_small (bGt112 hs).1 (Int.le_trans (bGt112 hs).2 (by decide)))
theorem fGt106 (hs : Sc n e r) : FGt cs n e r (.add, .symInt .i64 88, .int .i64 0, .symInt .i64 89) := fact_add (k := .i64) rfl rfl rfl (wrap_small (bGt113 hs).1 (Int.le_trans (bGt113 hs).2 (by decide)))
theorem fGt107 (hs : Sc n e r) : FGt cs n e r (.add, .symInt .i64 89, .int .i64 16, .symInt .i64 90) := fact_add (k := .i64) rfl rfl rfl (wrap_small (bGt114 hs).1 (Int.le_trans (bGt114 hs).2 (by decide)))
theorem fGt108 (hs : Sc n e r) : FGt cs n e r (.gtr, .symInt .i64 90, .int .i64 2000, .bool false) := fact_gtr rfl rfl (by refine (decide_eq_false ?_).symm; (try simp only [Int.ofNat_eq_natCast]); have := bGt114 hs; omega)
theorem fGt109 (hs : Sc n e r) : FGt cs n e r (.add, .symStr 45, .symStr 26, .symStr 46) := fact_cat rfl rfl rfl (rfl) (by have := zGt131 hs; have := zGt95 hs; omega)
theorem fGt110 (hs : Sc n e r) : FGt cs n e r (.add, .symInt .i64 72, .symLen 26, .symInt .i64 73) := fact_add (k := .i64) rfl rfl rfl (wrap_small (by simp only [Int.ofNat_eq_natCast]; omega) (by simp only [Int.ofNat_eq_natCast]; have := zGt91 hs; have := zGt93 hs; have := zGt95 hs; have := zGt97 hs; have := zGt99 hs; omega))
theorem fGt111 (hs : Sc n e r) : FGt cs n e r (.add, .symInt .i64 90, .symLen 8, .symInt .i64 91) := fact_add (k := .i64) rfl rfl rfl (wrap_small (bGt115 hs).1 (Int.le_trans (bGt115 hs).2 (by decide)))
theorem fGt112 (hs : Sc n e r) : FGt cs n e r (.add, .symInt .i64 91, .int .i64 7, .symInt .i64 92) := fact_add (k := .i64) rfl rfl rfl (wrap_small (bGt116 hs).1 (Int.le_trans (bGt116 hs).2 (by decide)))
theorem fGt113 (hs : Sc n e r) : FGt cs n e r (.add, .symInt .i64 92, .int .i64 16, .symInt .i64 93) := fact_add (k := .i64) rfl rfl rfl (wrap_small (bGt117 hs).1 (Int.le_trans (bGt117 hs).2 (by decide)))
theorem fGt114 (hs : Sc n e r) : FGt cs n e r (.add, .symInt .i64 93, .symLen 19, .symInt .i64 94) := fact_add (k := .i64) rfl rfl rfl (wrap_small (bGt118 hs).1 (Int.le_trans (bGt118 hs).2 (by decide)))
theorem fGt115 (hs : Sc n e r) : FGt cs n e r (.add, .symInt .i64 94, .int .i64 0, .symInt .i64 95) := fact_add (k := .i64) rfl rfl rfl (wrap_small (bGt119 hs).1 (Int.le_trans (bGt119 hs).2 (by decide)))
theorem fGt116 (hs : Sc n e r) : FGt cs n e r (.add, .symInt .i64 95, .int .i64 16, .symInt .i64 96) := fact_add (k := .i64) rfl rfl rfl (wrap_small (bGt120 hs).1 (Int.le_trans (bGt120 hs).2 (by decide)))
theorem fGt117 (hs : Sc n e r) : FGt cs n e r (.gtr, .symInt .i64 96, .int .i64 2000, .bool false) := fact_gtr rfl rfl (by refine (decide_eq_false ?_).symm; (try simp only [Int.ofNat_eq_natCast]); have := bGt120 hs; omega)
theorem fGt118 (hs : Sc n e r) : FGt cs n e r (.add, .symStr 46, .symStr 28, .symStr 47) := fact_cat rfl rfl rfl (rfl) (by have := zGt132 hs; have := zGt97 hs; omega)
theorem fGt119 (hs : Sc n e r) : FGt cs n e r (.add, .symInt .i64 73, .symLen 28, .symInt .i64 74) := fact_add (k := .i64) rfl rfl rfl (wrap_small (by simp only [Int.ofNat_eq_natCast]; omega) (by simp only [Int.ofNat_eq_natCast]; have := zGt91 hs; have := zGt93 hs; have := zGt95 hs; have := zGt97 hs; have := zGt99 hs; omega))
theorem fGt120 (hs : Sc n e r) : FGt cs n e r (.add, .symInt .i64 96, .symLen 8, .symInt .i64 97) := fact_add (k := .i64) rfl rfl rfl (wrap_small (bGt121 hs).1 (Int.le_trans (bGt121 hs).2 (by decide)))
theorem fGt121 (hs : Sc n e r) : FGt cs n e r (.add, .symInt .i64 97, .int .i64 7, .symInt .i64 98) := fact_add (k := .i64) rfl rfl rfl (wrap_small (bGt122 hs).1 (Int.le_trans (bGt122 hs).2 (by decide)))
theorem fGt122 (hs : Sc n e r) : FGt cs n e r (.add, .symInt .i64 98, .int .i64 16, .symInt .i64 99) := fact_add (k := .i64) rfl rfl rfl (wrap_small (bGt123 hs).1 (Int.le_trans (bGt123 hs).2 (by decide)))
theorem fGt123 (hs : Sc n e r) : FGt cs n e r (.add, .symInt .i64 99, .symLen 9, .symInt .i64 100) := fact_add (k := .i64) rfl rfl rfl (wrap_small (bGt124 hs).1 (Int.le_trans (bGt124 hs).2 (by decide)))
theorem fGt124 (hs : Sc n e r) : FGt cs n e r (.add, .symInt .i64 100, .int .i64 7, .symInt .i64 101) := fact_add (k := .i64) rfl rfl rfl (wrap_small (bGt125 hs).1 (Int.le_trans (bGt125 hs).2 (by decide)))
theorem fGt125 (hs : Sc n e r) : FGt cs n e r (.add, .symInt .i64 101, .int .i64 16, .symInt .i64 102) := fact_add (k := .i64) rfl rfl rfl (wrap_small (bGt126 hs).1 (Int.le_trans (bGt126 hs).2 (by decide)))
theorem fGt126 (hs : Sc n e r) : FGt cs n e r (.gtr, .symInt .i64 102, .int .i64 2000, .bool false) := fact_gtr rfl rfl (by refine (decide_eq_false ?_).symm; (try simp only [Int.ofNat_eq_natCast]); have := bGt126 hs; omega)
theorem fGt127 (hs : Sc n e r) : FGt cs n e r (.add, .symStr 45, .symStr 30, .symStr 48) := fact_cat rfl rfl rfl (rfl) (by have := zGt131 hs; have := zGt99 hs; omega)
theorem fGt128 (hs : Sc n e r) : FGt cs n e r (.add, .symInt .i64 72, .symLen 30, .symInt .i64 75) := fact_add (k := .i64) rfl rfl rfl (wrap_small (by simp only [Int.ofNat_eq_natCast]; omega) (by simp only [Int.ofNat_eq_natCast]; have := zGt91 hs; have := zGt93 hs; have := zGt95 hs; have := zGt97 hs; have := zGt99 hs; omega))
theorem fGt129 (hs : Sc n e r) : FGt cs n e r (.add, .symInt .i64 93, .symLen 9, .symInt .i64 103) := fact_add (k := .i64) rfl rfl rfl (wrap_small (bGt200 hs).1 (Int.le_trans (bGt200 hs).2 (by decide)))
theorem fGt130 (hs : Sc n e r) : FGt cs n e r (.add, .symInt .i64 103, .int .i64 7, .symInt .i64 104) := fact_add (k := .i64) rfl rfl rfl (wrap_small (bGt201 hs).1 (Int.le_trans (bGt201 hs).2 (by decide)))
theorem fGt131 (hs : Sc n e r) : FGt cs n e r (.add, .symInt .i64 104, .int .i64 16, .symInt .i64 105) := fact_add (k := .i64) rfl rfl rfl (wrap_small (bGt202 hs).1 (Int.le_trans (bGt202 hs).2 (by decide)))
theorem fGt132 (hs : Sc n e r) : FGt cs n e r (.gtr, .symInt .i64 105, .int .i64 2000, .bool false) := fact_gtr rfl rfl (by refine (decide_eq_false ?_).symm; (try simp only [Int.ofNat_eq_natCast]); have := bGt202 hs; omega)
theorem fGt133 (hs : Sc n e r) : FGt cs n e r (.eql, .symStr 37, .str [], .bool false) := fact_eqs rfl rfl (decide_eq_false (ne_empty (by have := z110 hs; omega))).symm
theorem fGt134 (hs : Sc n e r) : FGt cs n e r (.eql, .symStr 38, .str [], .bool false) := fact_eqs rfl rfl (decide_eq_false (ne_empty (by have := z111 hs; omega))).symm
theorem fGt135 (hs : Sc n e r) : FGt cs n e r (.eql, .symStr 39, .str [], .bool false) := fact_eqs rfl rfl (decide_eq_false (ne_empty (by have := z112 hs; omega))).symm
theorem factsOkGt (hs : Sc n e r) (h : ltL r e = true) : ∀ f ∈ factsGt, FGt cs n e r f := by
  unfold factsGt
  exact ac (fGt0) <| ac (fGt1) <| ac (fGt2) <| ac (fGt3) <| ac (fGt4) <| ac (fGt5) <| ac (fGt6) <| ac (fGt7) <| ac (fGt8) <| ac (fGt9) <| ac (fGt10) <| ac (fGt11) <| ac (fGt12) <| ac (fGt13) <| ac (fGt14) <| ac (fGt15) <| ac (fGt16) <| ac (fGt17) <| ac (fGt18) <| ac (fGt19) <| ac (fGt20) <| ac (fGt21) <| ac (fGt22) <| ac (fGt23) <| ac (fGt24) <| ac (fGt25 h) <| ac (fGt26) <| ac (fGt27) <| ac (fGt28 h) <| ac (fGt29) <| ac (fGt30) <| ac (fGt31) <| ac (fGt32) <| ac (fGt33 hs) <| ac (fGt34 hs) <| ac (fGt35 hs) <| ac (fGt36 hs) <| ac (fGt37 hs) <| ac (fGt38 hs) <| ac (fGt39 hs) <| ac (fGt40 hs) <| ac (fGt41 hs) <| ac (fGt42 hs) <| ac (fGt43 hs) <| ac (fGt44 hs) <| ac (fGt45 hs) <| ac (fGt46 hs) <| ac (fGt47 hs) <| ac (fGt48 hs) <| ac (fGt49 hs) <| ac (fGt50 hs) <| ac (fGt51 hs) <| ac (fGt52 hs) <| ac (fGt53 hs) <| ac (fGt54 hs) <| ac (fGt55 hs) <| ac (fGt56 hs) <| ac (fGt57 hs) <| ac (fGt58 hs) <| ac (fGt59 hs) <| ac (fGt60 hs) <| ac (fGt61 hs) <| ac (fGt62 hs) <| ac (fGt63 h) <| ac (fGt64 hs) <| ac (fGt65 hs) <| ac (fGt66 hs) <| ac (fGt67 hs) <| ac (fGt68 hs) <| ac (fGt69 hs) <| ac (fGt70 hs) <| ac (fGt71 hs) <| ac (fGt72 hs) <| ac (fGt73 hs) <| ac (fGt74 hs) <| ac (fGt75 hs) <| ac (fGt76 hs) <| ac (fGt77 hs) <| ac (fGt78 hs) <| ac (fGt79 hs) <| ac (fGt80 hs) <| ac (fGt81 hs) <| ac (fGt82 hs) <| ac (fGt83 hs) <| ac (fGt84 hs) <| ac (fGt85 hs) <| ac (fGt86 hs) <| ac (fGt87 hs) <| ac (fGt88 hs) <| ac (fGt89 hs) <| ac (fGt90 hs) <| ac (fGt91 hs) <| ac (fGt92 hs) <| ac (fGt93 hs) <| ac (fGt94 hs) <| ac (fGt95 hs) <| ac (fGt96 hs) <| ac (fGt97 hs) <| ac (fGt98 hs) <| ac (fGt99 hs) <| ac (fGt100 hs) <| ac (fGt101 hs) <| ac (fGt102 hs) <| ac (fGt103 hs) <| ac (fGt104 hs) <| ac (fGt105 hs) <| ac (fGt106 hs) <| ac (fGt107 hs) <| ac (fGt108 hs) <| ac (fGt109 hs) <| ac (fGt110 hs) <| ac (fGt111 hs) <| ac (fGt112 hs) <| ac (fGt113 hs) <| ac (fGt114 hs) <| ac (fGt115 hs) <| ac (fGt116 hs) <| ac (fGt117 hs) <| ac (fGt118 hs) <| ac (fGt119 hs) <| ac (fGt120 hs) <| ac (fGt121 hs) <| ac (fGt122 hs) <| ac (fGt123 hs) <| ac (fGt124 hs) <| ac (fGt125 hs) <| ac (fGt126 hs) <| ac (fGt127 hs) <| ac (fGt128 hs) <| ac (fGt129 hs) <| ac (fGt130 hs) <| ac (fGt131 hs) <| ac (fGt132 hs) <| ac (fGt133 hs) <| ac (fGt134 hs) <| ac (fGt135 hs) <| an
theorem oGt0 : OGt cs n e r ((5, 9, 0), [.symStr 11, .symInt .i64 69], .int .u8 1) := ofact_byte (p := 111 :: (ok n ++ sC e)) (q := []) (c := 1) Tryz.underlying9 rfl rfl (by show key _ _ = _; simp [key, sf, sC]) (by rw [key_size]; simp [sf, sC]; omega) rfl
theorem oGt1 : OGt cs n e r ((6, 9, 2), [.symStr 11, .symInt .i64 69], .symStr 14) := ofact_hi (p := key n (sC e)) (q := [1]) Tryz.underlying9 rfl rfl (by show key _ _ = _; simp [key, sf, sC]) (by rw [key_size]; simp [key, sf, sC]; omega) rfl
theorem oGt2 : OGt cs n e r ((5, 9, 0), [.symStr 12, .symInt .i64 70], .int .u8 1) := ofact_byte (p := 111 :: (ok n ++ sC r)) (q := []) (c := 1) Tryz.underlying9 rfl rfl (by show key _ _ = _; simp [key, sf, sC]) (by rw [key_size]; simp [sf, sC]; omega) rfl
theorem oGt3 : OGt cs n e r ((6, 9, 2), [.symStr 12, .symInt .i64 70], .symStr 16) := ofact_hi (p := key n (sC r)) (q := [1]) Tryz.underlying9 rfl rfl (by show key _ _ = _; simp [key, sf, sC]) (by rw [key_size]; simp [key, sf, sC]; omega) rfl
theorem oGt4 : OGt cs n e r ((6, 9, 2), [.symStr 17, .int .i64 1], .str [111]) := ofact_hi (i := 1) (p := [111]) (q := ok n ++ sf e 1 (dotk 1)) Tryz.underlying9 rfl rfl rfl rfl rfl
theorem oGt5 : OGt cs n e r ((6, 9, 1), [.symStr 17, .int .i64 1], .symStr 31) := ofact_lo (i := 1) (p := [111]) Tryz.underlying9 rfl rfl rfl rfl rfl
theorem oGt6 : OGt cs n e r ((5, 9, 0), [.symStr 37, .int .i64 0], .int .u8 3) := ofact_byte (i := 0) (p := []) (q := esc e ++ 0 :: 1 :: (dotk 1)) (c := 3) Tryz.underlying9 rfl rfl rfl rfl rfl
theorem oGt7 : OGt cs n e r ((6, 9, 1), [.symStr 37, .int .i64 1], .symStr 41) := ofact_lo (i := 1) (p := [3]) Tryz.underlying9 rfl rfl rfl rfl rfl
theorem oGt8 : OGt cs n e r ((6, 9, 2), [.symStr 18, .int .i64 1], .str [111]) := ofact_hi (i := 1) (p := [111]) (q := ok n ++ sf r 1 (dotk 2)) Tryz.underlying9 rfl rfl rfl rfl rfl
theorem oGt9 : OGt cs n e r ((6, 9, 1), [.symStr 18, .int .i64 1], .symStr 32) := ofact_lo (i := 1) (p := [111]) Tryz.underlying9 rfl rfl rfl rfl rfl
theorem oGt10 : OGt cs n e r ((5, 9, 0), [.symStr 38, .int .i64 0], .int .u8 3) := ofact_byte (i := 0) (p := []) (q := esc r ++ 0 :: 1 :: (dotk 2)) (c := 3) Tryz.underlying9 rfl rfl rfl rfl rfl
theorem oGt11 : OGt cs n e r ((6, 9, 1), [.symStr 38, .int .i64 1], .symStr 42) := ofact_lo (i := 1) (p := [3]) Tryz.underlying9 rfl rfl rfl rfl rfl
theorem oGt12 : OGt cs n e r ((6, 9, 2), [.symStr 19, .int .i64 1], .str [111]) := ofact_hi (i := 1) (p := [111]) (q := ok n ++ sf e 1 (dotk 3)) Tryz.underlying9 rfl rfl rfl rfl rfl
theorem oGt13 : OGt cs n e r ((6, 9, 1), [.symStr 19, .int .i64 1], .symStr 33) := ofact_lo (i := 1) (p := [111]) Tryz.underlying9 rfl rfl rfl rfl rfl
theorem oGt14 : OGt cs n e r ((5, 9, 0), [.symStr 39, .int .i64 0], .int .u8 3) := ofact_byte (i := 0) (p := []) (q := esc e ++ 0 :: 1 :: (dotk 3)) (c := 3) Tryz.underlying9 rfl rfl rfl rfl rfl
theorem oGt15 : OGt cs n e r ((6, 9, 1), [.symStr 39, .int .i64 1], .symStr 43) := ofact_lo (i := 1) (p := [3]) Tryz.underlying9 rfl rfl rfl rfl rfl
theorem oGt16 (hs : Sc n e r) : OGt cs n e r ((12, 0, 0), [.symInt .i64 78, .int .i64 4611686018427387904], .symInt .i64 78) := ofact_min rfl rfl rfl (if_neg (by have := bGt102 hs; omega))
theorem oGt17 (hs : Sc n e r) : OGt cs n e r ((12, 0, 0), [.symInt .i64 81, .int .i64 4611686018427387904], .symInt .i64 81) := ofact_min rfl rfl rfl (if_neg (by have := bGt105 hs; omega))
theorem oGt18 (hs : Sc n e r) : OGt cs n e r ((12, 0, 0), [.symInt .i64 84, .int .i64 4611686018427387904], .symInt .i64 84) := ofact_min rfl rfl rfl (if_neg (by have := bGt108 hs; omega))
theorem oGt19 (hs : Sc n e r) : OGt cs n e r ((12, 0, 0), [.symInt .i64 87, .int .i64 4611686018427387904], .symInt .i64 87) := ofact_min rfl rfl rfl (if_neg (by have := bGt111 hs; omega))
theorem oGt20 (hs : Sc n e r) : OGt cs n e r ((12, 0, 0), [.symInt .i64 90, .int .i64 4611686018427387904], .symInt .i64 90) := ofact_min rfl rfl rfl (if_neg (by have := bGt114 hs; omega))
theorem oGt21 (hs : Sc n e r) : OGt cs n e r ((12, 0, 0), [.symInt .i64 93, .int .i64 4611686018427387904], .symInt .i64 93) := ofact_min rfl rfl rfl (if_neg (by have := bGt117 hs; omega))
theorem oGt22 (hs : Sc n e r) : OGt cs n e r ((12, 0, 0), [.symInt .i64 96, .int .i64 4611686018427387904], .symInt .i64 96) := ofact_min rfl rfl rfl (if_neg (by have := bGt120 hs; omega))
theorem oGt23 (hs : Sc n e r) : OGt cs n e r ((12, 0, 0), [.symInt .i64 99, .int .i64 4611686018427387904], .symInt .i64 99) := ofact_min rfl rfl rfl (if_neg (by have := bGt123 hs; omega))
theorem oGt24 (hs : Sc n e r) : OGt cs n e r ((12, 0, 0), [.symInt .i64 102, .int .i64 4611686018427387904], .symInt .i64 102) := ofact_min rfl rfl rfl (if_neg (by have := bGt126 hs; omega))
theorem oGt25 (hs : Sc n e r) : OGt cs n e r ((12, 0, 0), [.symInt .i64 105, .int .i64 4611686018427387904], .symInt .i64 105) := ofact_min rfl rfl rfl (if_neg (by have := bGt202 hs; omega))
theorem ofactsOkGt (hs : Sc n e r) : ∀ f ∈ ofactsGt, OGt cs n e r f := by
  unfold ofactsGt
  exact ac (oGt0) <| ac (oGt1) <| ac (oGt2) <| ac (oGt3) <| ac (oGt4) <| ac (oGt5) <| ac (oGt6) <| ac (oGt7) <| ac (oGt8) <| ac (oGt9) <| ac (oGt10) <| ac (oGt11) <| ac (oGt12) <| ac (oGt13) <| ac (oGt14) <| ac (oGt15) <| ac (oGt16 hs) <| ac (oGt17 hs) <| ac (oGt18 hs) <| ac (oGt19 hs) <| ac (oGt20 hs) <| ac (oGt21 hs) <| ac (oGt22 hs) <| ac (oGt23 hs) <| ac (oGt24 hs) <| ac (oGt25 hs) <| an
end
section
variable {n e r : List UInt8} {w0 : World}
abbrev PGt (w0 : World) (n e r : List UInt8) := Outer w0 (sgGt n e r) fun b => b < w0.heap.size
noncomputable def rTextGt : List (List AV × AV) := [([.symStr 0], .symStr 3), ([.symStr 1], .symStr 4), ([.symStr 2], .symStr 5)]
theorem cTextGt (hs : Sc n e r) {m : Int} (hm : w0.cell? ⟨0, 0, none⟩ = some (.int .i64 m)) : ConOK Tryz.prog (PGt w0 n e r) 86 (.ans rTextGt) := by
  refine ans_ok fun r_ hr => ?_
  simp only [rTextGt, List.mem_cons, List.mem_nil_iff, or_false] at hr
  rcases hr with rfl | rfl | rfl
  · exact ⟨[.string (txt n)], _, rfl, rfl, fun w st => (okey_any _ m w (by have := z0 hs; omega) (cell_st st hm)).mono fun e w' ⟨h1, h2⟩ => ⟨h1, stands_of_below h2⟩⟩
  · exact ⟨[.string (txt e)], _, rfl, rfl, fun w st => (okey_any _ m w (by have := z1 hs; omega) (cell_st st hm)).mono fun e w' ⟨h1, h2⟩ => ⟨h1, stands_of_below h2⟩⟩
  · exact ⟨[.string (txt r)], _, rfl, rfl, fun w st => (okey_any _ m w (by have := z2 hs; omega) (cell_st st hm)).mono fun e w' ⟨h1, h2⟩ => ⟨h1, stands_of_below h2⟩⟩
noncomputable def rPartGt : List (List AV × AV) := [([.symStr 31], .tuple [.symStr 0, .symStr 37, .int .i64 0]), ([.symStr 32], .tuple [.symStr 0, .symStr 38, .int .i64 0]), ([.symStr 33], .tuple [.symStr 0, .symStr 39, .int .i64 0]), ([.symStr 41], .tuple [.symStr 1, .str [0, 0, 0, 1, 0, 0, 0, 0, 0, 0, 0, 1], .int .i64 0]), ([.symStr 42], .tuple [.symStr 2, .str [0, 0, 0, 1, 0, 0, 0, 0, 0, 0, 0, 2], .int .i64 0]), ([.symStr 43], .tuple [.symStr 1, .str [0, 0, 0, 1, 0, 0, 0, 0, 0, 0, 0, 3], .int .i64 0])]
theorem cPartGt (hs : Sc n e r) : ConOK Tryz.prog (PGt w0 n e r) 288 (.ans rPartGt) := by
  refine ans_ok fun r_ hr => ?_
  simp only [rPartGt, List.mem_cons, List.mem_nil_iff, or_false] at hr
  rcases hr with rfl | rfl | rfl | rfl | rfl | rfl
  · refine ⟨[.string (txt (ok n ++ sf e 1 (dotk 1)))], .tuple #[.string (txt n), .string (txt (sf e 1 (dotk 1))), .int .i64 0], rfl, rfl, fun w st => (part_any n (sf e 1 (dotk 1)) (txt (ok n ++ sf e 1 (dotk 1))) ?_ (by have := z100 hs; omega) w).mono fun e w' ⟨h1, h2⟩ => ⟨h1, stands_of_below h2⟩⟩
    show ok n ++ _ = _; simp [ok]
  · refine ⟨[.string (txt (ok n ++ sf r 1 (dotk 2)))], .tuple #[.string (txt n), .string (txt (sf r 1 (dotk 2))), .int .i64 0], rfl, rfl, fun w st => (part_any n (sf r 1 (dotk 2)) (txt (ok n ++ sf r 1 (dotk 2))) ?_ (by have := z101 hs; omega) w).mono fun e w' ⟨h1, h2⟩ => ⟨h1, stands_of_below h2⟩⟩
    show ok n ++ _ = _; simp [ok]
  · refine ⟨[.string (txt (ok n ++ sf e 1 (dotk 3)))], .tuple #[.string (txt n), .string (txt (sf e 1 (dotk 3))), .int .i64 0], rfl, rfl, fun w st => (part_any n (sf e 1 (dotk 3)) (txt (ok n ++ sf e 1 (dotk 3))) ?_ (by have := z102 hs; omega) w).mono fun e w' ⟨h1, h2⟩ => ⟨h1, stands_of_below h2⟩⟩
    show ok n ++ _ = _; simp [ok]
  · refine ⟨[.string (txt (esc e ++ 0 :: 1 :: (dotk 1)))], .tuple #[.string (txt e), .string (txt (dotk 1)), .int .i64 0], rfl, rfl, fun w st => (part_any e (dotk 1) (txt (esc e ++ 0 :: 1 :: (dotk 1))) ?_ (by have := z120 hs; omega) w).mono fun e w' ⟨h1, h2⟩ => ⟨h1, stands_of_below h2⟩⟩
    rfl
  · refine ⟨[.string (txt (esc r ++ 0 :: 1 :: (dotk 2)))], .tuple #[.string (txt r), .string (txt (dotk 2)), .int .i64 0], rfl, rfl, fun w st => (part_any r (dotk 2) (txt (esc r ++ 0 :: 1 :: (dotk 2))) ?_ (by have := z121 hs; omega) w).mono fun e w' ⟨h1, h2⟩ => ⟨h1, stands_of_below h2⟩⟩
    rfl
  · refine ⟨[.string (txt (esc e ++ 0 :: 1 :: (dotk 3)))], .tuple #[.string (txt e), .string (txt (dotk 3)), .int .i64 0], rfl, rfl, fun w st => (part_any e (dotk 3) (txt (esc e ++ 0 :: 1 :: (dotk 3))) ?_ (by have := z122 hs; omega) w).mono fun e w' ⟨h1, h2⟩ => ⟨h1, stands_of_below h2⟩⟩
    rfl
noncomputable def rCloneGt : List (List AV × AV) := [([.symStr 0], .symStr 0), ([.symStr 1], .symStr 1), ([.symStr 2], .symStr 2), ([.symStr 7], .symStr 7), ([.symStr 8], .symStr 8), ([.symStr 9], .symStr 9), ([.symStr 17], .symStr 17), ([.symStr 18], .symStr 18), ([.symStr 19], .symStr 19), ([.symStr 37], .symStr 37), ([.symStr 38], .symStr 38), ([.symStr 39], .symStr 39)]
theorem cCloneGt (hs : Sc n e r) : ConOK Tryz.prog (PGt w0 n e r) 69 (.ans rCloneGt) := by
  refine ans_ok fun r_ hr => ?_
  simp only [rCloneGt, List.mem_cons, List.mem_nil_iff, or_false] at hr
  rcases hr with rfl | rfl | rfl | rfl | rfl | rfl | rfl | rfl | rfl | rfl | rfl | rfl
  · exact ⟨[.string (txt n)], _, rfl, rfl, fun w _ => clone_any _ (by have := z0 hs; omega) w⟩
  · exact ⟨[.string (txt e)], _, rfl, rfl, fun w _ => clone_any _ (by have := z1 hs; omega) w⟩
  · exact ⟨[.string (txt r)], _, rfl, rfl, fun w _ => clone_any _ (by have := z2 hs; omega) w⟩
  · exact ⟨[.string (txt (key n [0]))], _, rfl, rfl, fun w _ => clone_any _ (by have := z30 hs; omega) w⟩
  · exact ⟨[.string (txt (key n [1]))], _, rfl, rfl, fun w _ => clone_any _ (by have := z31 hs; omega) w⟩
  · exact ⟨[.string (txt (key n [2]))], _, rfl, rfl, fun w _ => clone_any _ (by have := z32 hs; omega) w⟩
  · exact ⟨[.string (txt (key n (sf e 1 (dotk 1))))], _, rfl, rfl, fun w _ => clone_any _ (by have := z60 hs; omega) w⟩
  · exact ⟨[.string (txt (key n (sf r 1 (dotk 2))))], _, rfl, rfl, fun w _ => clone_any _ (by have := z61 hs; omega) w⟩
  · exact ⟨[.string (txt (key n (sf e 1 (dotk 3))))], _, rfl, rfl, fun w _ => clone_any _ (by have := z62 hs; omega) w⟩
  · exact ⟨[.string (txt (sf e 1 (dotk 1)))], _, rfl, rfl, fun w _ => clone_any _ (by have := z110 hs; omega) w⟩
  · exact ⟨[.string (txt (sf r 1 (dotk 2)))], _, rfl, rfl, fun w _ => clone_any _ (by have := z111 hs; omega) w⟩
  · exact ⟨[.string (txt (sf e 1 (dotk 3)))], _, rfl, rfl, fun w _ => clone_any _ (by have := z112 hs; omega) w⟩
noncomputable def rCmpGt : List (List AV × AV) := [([.symStr 7, .symStr 8], .int .i64 (-1)), ([.symStr 7, .symStr 9], .int .i64 (-1)), ([.symStr 7, .symStr 17], .int .i64 (-1)), ([.symStr 7, .symStr 18], .int .i64 (-1)), ([.symStr 7, .symStr 19], .int .i64 (-1)), ([.symStr 8, .symStr 8], .int .i64 0), ([.symStr 8, .symStr 9], .int .i64 (-1)), ([.symStr 8, .symStr 17], .int .i64 (-1)), ([.symStr 8, .symStr 18], .int .i64 (-1)), ([.symStr 8, .symStr 19], .int .i64 (-1)), ([.symStr 17, .symStr 18], .int .i64 1), ([.symStr 17, .symStr 19], .int .i64 (-1)), ([.symStr 18, .symStr 9], .int .i64 1), ([.symStr 18, .symStr 19], .int .i64 (-1))]
theorem cCmpGt (h : ltL r e = true) : ConOK Tryz.prog (PGt w0 n e r) 261 (.ans rCmpGt) := by
  refine ans_ok fun r_ hr => ?_
  simp only [rCmpGt, List.mem_cons, List.mem_nil_iff, or_false] at hr
  rcases hr with rfl | rfl | rfl | rfl | rfl | rfl | rfl | rfl | rfl | rfl | rfl | rfl | rfl | rfl
  · exact ⟨[.string (txt (key n [0])), .string (txt (key n [1]))], _, rfl, rfl, fun w _ => cmp_lt (key_lt n (rfl : ltL [0] [1] = true)) w⟩
  · exact ⟨[.string (txt (key n [0])), .string (txt (key n [2]))], _, rfl, rfl, fun w _ => cmp_lt (key_lt n (rfl : ltL [0] [2] = true)) w⟩
  · exact ⟨[.string (txt (key n [0])), .string (txt (key n (sf e 1 (dotk 1))))], _, rfl, rfl, fun w _ => cmp_lt (key_lt n (rfl : ltL [0] (sf e 1 (dotk 1)) = true)) w⟩
  · exact ⟨[.string (txt (key n [0])), .string (txt (key n (sf r 1 (dotk 2))))], _, rfl, rfl, fun w _ => cmp_lt (key_lt n (rfl : ltL [0] (sf r 1 (dotk 2)) = true)) w⟩
  · exact ⟨[.string (txt (key n [0])), .string (txt (key n (sf e 1 (dotk 3))))], _, rfl, rfl, fun w _ => cmp_lt (key_lt n (rfl : ltL [0] (sf e 1 (dotk 3)) = true)) w⟩
  · exact ⟨[.string (txt (key n [1])), .string (txt (key n [1]))], _, rfl, rfl, fun w _ => cmp_eq w⟩
  · exact ⟨[.string (txt (key n [1])), .string (txt (key n [2]))], _, rfl, rfl, fun w _ => cmp_lt (key_lt n (rfl : ltL [1] [2] = true)) w⟩
  · exact ⟨[.string (txt (key n [1])), .string (txt (key n (sf e 1 (dotk 1))))], _, rfl, rfl, fun w _ => cmp_lt (key_lt n (rfl : ltL [1] (sf e 1 (dotk 1)) = true)) w⟩
  · exact ⟨[.string (txt (key n [1])), .string (txt (key n (sf r 1 (dotk 2))))], _, rfl, rfl, fun w _ => cmp_lt (key_lt n (rfl : ltL [1] (sf r 1 (dotk 2)) = true)) w⟩
  · exact ⟨[.string (txt (key n [1])), .string (txt (key n (sf e 1 (dotk 3))))], _, rfl, rfl, fun w _ => cmp_lt (key_lt n (rfl : ltL [1] (sf e 1 (dotk 3)) = true)) w⟩
  · exact ⟨[.string (txt (key n (sf e 1 (dotk 1)))), .string (txt (key n (sf r 1 (dotk 2))))], _, rfl, rfl, fun w _ => cmp_gt (key_lt n (sf_lt2 1 1 (dotk 2) (dotk 1) (by decide) h)) w⟩
  · exact ⟨[.string (txt (key n (sf e 1 (dotk 1)))), .string (txt (key n (sf e 1 (dotk 3))))], _, rfl, rfl, fun w _ => cmp_lt (key_lt n (sf_lt e rfl)) w⟩
  · exact ⟨[.string (txt (key n (sf r 1 (dotk 2)))), .string (txt (key n [2]))], _, rfl, rfl, fun w _ => cmp_gt (key_lt n (rfl : ltL [2] (sf r 1 (dotk 2)) = true)) w⟩
  · exact ⟨[.string (txt (key n (sf r 1 (dotk 2)))), .string (txt (key n (sf e 1 (dotk 3))))], _, rfl, rfl, fun w _ => cmp_lt (key_lt n (sf_lt2 1 1 (dotk 2) (dotk 3) (by decide) h)) w⟩
noncomputable def rBatchGt : List (List PArg × AV) := [([(.agg [.v (.int .u64 1), .row 3 [.symStr 7, .str [1], .bool false, .symStr 8, .str [1, 0, 0, 0, 1, 1, 0], .bool false, .symStr 17, .str [], .bool false]])], .tuple [.symStr 21, .int .i64 0]), ([(.agg [.v (.int .u64 4), .row 2 [.symStr 8, .str [1, 0, 0, 0, 1, 1, 1], .bool false, .symStr 18, .str [], .bool false]])], .tuple [.symStr 23, .int .i64 0]), ([(.agg [.v (.int .u64 6), .row 2 [.symStr 8, .str [1, 0, 0, 0, 1, 1, 2], .bool false, .symStr 19, .str [], .bool false]])], .tuple [.symStr 25, .int .i64 0]), ([(.agg [.v (.int .u64 8), .row 2 [.symStr 8, .str [1, 0, 0, 0, 1, 1, 3], .bool false, .symStr 9, .str [1, 0, 0, 0, 1, 1, 0], .bool false]])], .tuple [.symStr 27, .int .i64 0]), ([(.agg [.v (.int .u64 6), .row 2 [.symStr 8, .str [1, 0, 0, 0, 1, 1, 2], .bool false, .symStr 9, .str [1, 0, 0, 0, 1, 1, 0], .bool false]])], .tuple [.symStr 29, .int .i64 0])]
theorem cBatchGt (hs : Sc n e r) : ConOK Tryz.prog (PGt w0 n e r) 117 (.fn (patFn rBatchGt)) := by
  refine patFn_ok fun r_ hr => ?_
  simp only [rBatchGt, List.mem_cons, List.mem_nil_iff, or_false] at hr
  rcases hr with rfl | rfl | rfl | rfl | rfl
  · refine ⟨?_, .tuple #[.string (txt (bt 1 (w0Gt n e r))), .int .i64 0], rfl, ?_⟩
    · intro p hp
      obtain rfl := by simpa using hp
      intro q hq
      simp only [List.mem_cons, List.mem_nil_iff, or_false] at hq
      rcases hq with rfl | rfl <;> rfl
    · rintro w ys st ⟨y, zs, rfl, ⟨l, rfl, y0, l1, rfl, h0, y1, l2, rfl, ⟨bk, off, cap, xs, rfl, hbk, hxs, hc⟩, rfl⟩, rfl⟩
      obtain rfl : Value.int .u64 1 = y0 := Option.some.inj h0
      obtain rfl : _ = xs := Option.some.inj hxs
      refine (batch_any 1 (w0Gt n e r) bk off cap w (by decide) hbk (by simp [w0Gt]) (by simp [w0Gt]) (wxGt0 hs) ?_).mono fun e w' ⟨h1, h2⟩ => ⟨h1, stands_of_below h2⟩
      intro j p hj
      match j, hj with
      | 0, hj => cases hj; exact ⟨hc 0 _ rfl, hc 1 _ rfl, hc 2 _ rfl⟩
      | 1, hj => cases hj; exact ⟨hc 3 _ rfl, hc 4 _ rfl, hc 5 _ rfl⟩
      | 2, hj => cases hj; exact ⟨hc 6 _ rfl, hc 7 _ rfl, hc 8 _ rfl⟩
  · refine ⟨?_, .tuple #[.string (txt (bt 4 (w1Gt n e r))), .int .i64 0], rfl, ?_⟩
    · intro p hp
      obtain rfl := by simpa using hp
      intro q hq
      simp only [List.mem_cons, List.mem_nil_iff, or_false] at hq
      rcases hq with rfl | rfl <;> rfl
    · rintro w ys st ⟨y, zs, rfl, ⟨l, rfl, y0, l1, rfl, h0, y1, l2, rfl, ⟨bk, off, cap, xs, rfl, hbk, hxs, hc⟩, rfl⟩, rfl⟩
      obtain rfl : Value.int .u64 4 = y0 := Option.some.inj h0
      obtain rfl : _ = xs := Option.some.inj hxs
      refine (batch_any 4 (w1Gt n e r) bk off cap w (by decide) hbk (by simp [w1Gt]) (by simp [w1Gt]) (wxGt1 hs) ?_).mono fun e w' ⟨h1, h2⟩ => ⟨h1, stands_of_below h2⟩
      intro j p hj
      match j, hj with
      | 0, hj => cases hj; exact ⟨hc 0 _ rfl, hc 1 _ rfl, hc 2 _ rfl⟩
      | 1, hj => cases hj; exact ⟨hc 3 _ rfl, hc 4 _ rfl, hc 5 _ rfl⟩
  · refine ⟨?_, .tuple #[.string (txt (bt 6 (w2Gt n e r))), .int .i64 0], rfl, ?_⟩
    · intro p hp
      obtain rfl := by simpa using hp
      intro q hq
      simp only [List.mem_cons, List.mem_nil_iff, or_false] at hq
      rcases hq with rfl | rfl <;> rfl
    · rintro w ys st ⟨y, zs, rfl, ⟨l, rfl, y0, l1, rfl, h0, y1, l2, rfl, ⟨bk, off, cap, xs, rfl, hbk, hxs, hc⟩, rfl⟩, rfl⟩
      obtain rfl : Value.int .u64 6 = y0 := Option.some.inj h0
      obtain rfl : _ = xs := Option.some.inj hxs
      refine (batch_any 6 (w2Gt n e r) bk off cap w (by decide) hbk (by simp [w2Gt]) (by simp [w2Gt]) (wxGt2 hs) ?_).mono fun e w' ⟨h1, h2⟩ => ⟨h1, stands_of_below h2⟩
      intro j p hj
      match j, hj with
      | 0, hj => cases hj; exact ⟨hc 0 _ rfl, hc 1 _ rfl, hc 2 _ rfl⟩
      | 1, hj => cases hj; exact ⟨hc 3 _ rfl, hc 4 _ rfl, hc 5 _ rfl⟩
  · refine ⟨?_, .tuple #[.string (txt (bt 8 (w3Gt n e r))), .int .i64 0], rfl, ?_⟩
    · intro p hp
      obtain rfl := by simpa using hp
      intro q hq
      simp only [List.mem_cons, List.mem_nil_iff, or_false] at hq
      rcases hq with rfl | rfl <;> rfl
    · rintro w ys st ⟨y, zs, rfl, ⟨l, rfl, y0, l1, rfl, h0, y1, l2, rfl, ⟨bk, off, cap, xs, rfl, hbk, hxs, hc⟩, rfl⟩, rfl⟩
      obtain rfl : Value.int .u64 8 = y0 := Option.some.inj h0
      obtain rfl : _ = xs := Option.some.inj hxs
      refine (batch_any 8 (w3Gt n e r) bk off cap w (by decide) hbk (by simp [w3Gt]) (by simp [w3Gt]) (wxGt3 hs) ?_).mono fun e w' ⟨h1, h2⟩ => ⟨h1, stands_of_below h2⟩
      intro j p hj
      match j, hj with
      | 0, hj => cases hj; exact ⟨hc 0 _ rfl, hc 1 _ rfl, hc 2 _ rfl⟩
      | 1, hj => cases hj; exact ⟨hc 3 _ rfl, hc 4 _ rfl, hc 5 _ rfl⟩
  · refine ⟨?_, .tuple #[.string (txt (bt 6 (w4Gt n e r))), .int .i64 0], rfl, ?_⟩
    · intro p hp
      obtain rfl := by simpa using hp
      intro q hq
      simp only [List.mem_cons, List.mem_nil_iff, or_false] at hq
      rcases hq with rfl | rfl <;> rfl
    · rintro w ys st ⟨y, zs, rfl, ⟨l, rfl, y0, l1, rfl, h0, y1, l2, rfl, ⟨bk, off, cap, xs, rfl, hbk, hxs, hc⟩, rfl⟩, rfl⟩
      obtain rfl : Value.int .u64 6 = y0 := Option.some.inj h0
      obtain rfl : _ = xs := Option.some.inj hxs
      refine (batch_any 6 (w4Gt n e r) bk off cap w (by decide) hbk (by simp [w4Gt]) (by simp [w4Gt]) (wxGt4 hs) ?_).mono fun e w' ⟨h1, h2⟩ => ⟨h1, stands_of_below h2⟩
      intro j p hj
      match j, hj with
      | 0, hj => cases hj; exact ⟨hc 0 _ rfl, hc 1 _ rfl, hc 2 _ rfl⟩
      | 1, hj => cases hj; exact ⟨hc 3 _ rfl, hc 4 _ rfl, hc 5 _ rfl⟩
noncomputable def rFrameGt : List (List AV × AV) := [([.symStr 21], .symStr 22), ([.symStr 23], .symStr 24), ([.symStr 25], .symStr 26), ([.symStr 27], .symStr 28), ([.symStr 29], .symStr 30)]
theorem cFrameGt (hs : Sc n e r) : ConOK Tryz.prog (PGt w0 n e r) 171 (.fn (rowFn rFrameGt)) := by
  refine rowFn_ok fun r_ hr => ?_
  simp only [rFrameGt, List.mem_cons, List.mem_nil_iff, or_false] at hr
  rcases hr with rfl | rfl | rfl | rfl | rfl
  · exact ⟨[.string (txt (bt 1 (w0Gt n e r)))], .string (txt (fr (bt 1 (w0Gt n e r)))), rfl, rfl, fun w bk off cap _ hb hc => (frame_any (txt (bt 1 (w0Gt n e r))) bk off cap w hb (by have := zGt90 hs; omega) (hc 0 _ rfl)).mono fun e w' ⟨h1, h2⟩ => ⟨by rw [h1, txt_list], h2⟩⟩
  · exact ⟨[.string (txt (bt 4 (w1Gt n e r)))], .string (txt (fr (bt 4 (w1Gt n e r)))), rfl, rfl, fun w bk off cap _ hb hc => (frame_any (txt (bt 4 (w1Gt n e r))) bk off cap w hb (by have := zGt92 hs; omega) (hc 0 _ rfl)).mono fun e w' ⟨h1, h2⟩ => ⟨by rw [h1, txt_list], h2⟩⟩
  · exact ⟨[.string (txt (bt 6 (w2Gt n e r)))], .string (txt (fr (bt 6 (w2Gt n e r)))), rfl, rfl, fun w bk off cap _ hb hc => (frame_any (txt (bt 6 (w2Gt n e r))) bk off cap w hb (by have := zGt94 hs; omega) (hc 0 _ rfl)).mono fun e w' ⟨h1, h2⟩ => ⟨by rw [h1, txt_list], h2⟩⟩
  · exact ⟨[.string (txt (bt 8 (w3Gt n e r)))], .string (txt (fr (bt 8 (w3Gt n e r)))), rfl, rfl, fun w bk off cap _ hb hc => (frame_any (txt (bt 8 (w3Gt n e r))) bk off cap w hb (by have := zGt96 hs; omega) (hc 0 _ rfl)).mono fun e w' ⟨h1, h2⟩ => ⟨by rw [h1, txt_list], h2⟩⟩
  · exact ⟨[.string (txt (bt 6 (w4Gt n e r)))], .string (txt (fr (bt 6 (w4Gt n e r)))), rfl, rfl, fun w bk off cap _ hb hc => (frame_any (txt (bt 6 (w4Gt n e r))) bk off cap w hb (by have := zGt98 hs; omega) (hc 0 _ rfl)).mono fun e w' ⟨h1, h2⟩ => ⟨by rw [h1, txt_list], h2⟩⟩
noncomputable def rNTGt : List (List AV × AV) := [([.symStr 0], .symStr 35)]
theorem cNTGt (hs : Sc n e r) : ConOK Tryz.prog (PGt w0 n e r) 149 (.fn (rowFn rNTGt)) := by
  refine rowFn_ok fun r_ hr => ?_
  simp only [rNTGt, List.mem_cons, List.mem_nil_iff, or_false] at hr
  subst hr
  · refine ⟨[.string (txt n)], _, rfl, rfl, fun w bk off cap _ hb hc => (text_any [txt n] bk off cap w hb (by simp) (by have := z104 hs; rw [txt_size] at this; omega) (by intro s hq; simp at hq; subst hq; have := z0 hs; omega) (fun j s hj => ?_)).mono fun e w' ⟨h1, h2⟩ => ⟨h1, stands_of_below h2⟩⟩
    match j, hj with
    | 0, hj => cases hj; exact hc 0 _ rfl
noncomputable def rItemsGt : List (List PArg × AV) := [([(.one (.row 1 [.symStr 1, .int .u8 0, .int .u8 0, .int .u8 0, .int .u8 1, .int .u64 1, .str []]))], .symStr 64), ([(.one (.row 1 [.symStr 2, .int .u8 0, .int .u8 0, .int .u8 0, .int .u8 1, .int .u64 2, .str []]))], .symStr 65), ([(.one (.row 1 [.symStr 1, .int .u8 0, .int .u8 0, .int .u8 0, .int .u8 1, .int .u64 3, .str []]))], .symStr 66)]
theorem cItemsGt (hs : Sc n e r) : ConOK Tryz.prog (PGt w0 n e r) 300 (.fn (patFn rItemsGt)) := by
  refine patFn_ok fun r_ hr => ?_
  simp only [rItemsGt, List.mem_cons, List.mem_nil_iff, or_false] at hr
  rcases hr with rfl | rfl | rfl
  · refine ⟨?_, .string (txt (itm (txt e) (txt (dotk 1)) ⟨#[]⟩)), rfl, ?_⟩
    · intro p hp
      obtain rfl := by simpa using hp
      rfl
    · rintro w ys st ⟨y, zs, rfl, ⟨bk, off, cap, xs, rfl, hbk, hxs, hc⟩, rfl⟩
      obtain rfl : _ = xs := Option.some.inj hxs
      exact items_any (txt e) ⟨#[]⟩ (txt (dotk 1)) 0 0 0 1 1 bk off cap w hbk (by have := z1 hs; omega) (by decide) (by decide) dot1_any (hc 0 _ rfl) (hc 1 _ rfl) (hc 2 _ rfl) (hc 3 _ rfl) (hc 4 _ rfl) (hc 5 _ rfl) (hc 6 _ rfl)
  · refine ⟨?_, .string (txt (itm (txt r) (txt (dotk 2)) ⟨#[]⟩)), rfl, ?_⟩
    · intro p hp
      obtain rfl := by simpa using hp
      rfl
    · rintro w ys st ⟨y, zs, rfl, ⟨bk, off, cap, xs, rfl, hbk, hxs, hc⟩, rfl⟩
      obtain rfl : _ = xs := Option.some.inj hxs
      exact items_any (txt r) ⟨#[]⟩ (txt (dotk 2)) 0 0 0 1 2 bk off cap w hbk (by have := z2 hs; omega) (by decide) (by decide) dot2_any (hc 0 _ rfl) (hc 1 _ rfl) (hc 2 _ rfl) (hc 3 _ rfl) (hc 4 _ rfl) (hc 5 _ rfl) (hc 6 _ rfl)
  · refine ⟨?_, .string (txt (itm (txt e) (txt (dotk 3)) ⟨#[]⟩)), rfl, ?_⟩
    · intro p hp
      obtain rfl := by simpa using hp
      rfl
    · rintro w ys st ⟨y, zs, rfl, ⟨bk, off, cap, xs, rfl, hbk, hxs, hc⟩, rfl⟩
      obtain rfl : _ = xs := Option.some.inj hxs
      exact items_any (txt e) ⟨#[]⟩ (txt (dotk 3)) 0 0 0 1 3 bk off cap w hbk (by have := z1 hs; omega) (by decide) (by decide) dot3_any (hc 0 _ rfl) (hc 1 _ rfl) (hc 2 _ rfl) (hc 3 _ rfl) (hc 4 _ rfl) (hc 5 _ rfl) (hc 6 _ rfl)
noncomputable def rSortGt : List (List AV × List AV) := [([.symStr 7, .symStr 8, .symStr 17], [.symStr 7, .symStr 8, .symStr 17]), ([.symStr 7, .symStr 17, .symStr 8], [.symStr 7, .symStr 8, .symStr 17]), ([.symStr 8, .symStr 7, .symStr 17], [.symStr 7, .symStr 8, .symStr 17]), ([.symStr 8, .symStr 17, .symStr 7], [.symStr 7, .symStr 8, .symStr 17]), ([.symStr 17, .symStr 7, .symStr 8], [.symStr 7, .symStr 8, .symStr 17]), ([.symStr 17, .symStr 8, .symStr 7], [.symStr 7, .symStr 8, .symStr 17]), ([.symStr 8, .symStr 18], [.symStr 8, .symStr 18]), ([.symStr 18, .symStr 8], [.symStr 8, .symStr 18]), ([.symStr 8, .symStr 19], [.symStr 8, .symStr 19]), ([.symStr 19, .symStr 8], [.symStr 8, .symStr 19]), ([.symStr 8, .symStr 9], [.symStr 8, .symStr 9]), ([.symStr 9, .symStr 8], [.symStr 8, .symStr 9])]
theorem cSortGt : ConOK Tryz.prog (PGt w0 n e r) 197 (.fn (sortFn rSortGt)) := by
  refine sortFn_ok (fun r_ hr => ?_) fun blk off cap ss w h1 h2 h3 => AnyM.slices_Sort_string Tryz.mSort blk off cap ss w h1 h2 h3
  simp only [rSortGt, List.mem_cons, List.mem_nil_iff, or_false] at hr
  rcases hr with rfl | rfl | rfl | rfl | rfl | rfl | rfl | rfl | rfl | rfl | rfl | rfl
  · exact ⟨[key n [0], key n [1], key n (sf e 1 (dotk 1))], [key n [0], key n [1], key n (sf e 1 (dotk 1))], rfl, rfl, sort_row (List.Perm.refl _) (pw3 (key_lt n (rfl : ltL [0] [1] = true)) (key_lt n (rfl : ltL [0] (sf e 1 (dotk 1)) = true)) (key_lt n (rfl : ltL [1] (sf e 1 (dotk 1)) = true)))⟩
  · exact ⟨[key n [0], key n (sf e 1 (dotk 1)), key n [1]], [key n [0], key n [1], key n (sf e 1 (dotk 1))], rfl, rfl, sort_row (pm1 _ _ _) (pw3 (key_lt n (rfl : ltL [0] [1] = true)) (key_lt n (rfl : ltL [0] (sf e 1 (dotk 1)) = true)) (key_lt n (rfl : ltL [1] (sf e 1 (dotk 1)) = true)))⟩
  · exact ⟨[key n [1], key n [0], key n (sf e 1 (dotk 1))], [key n [0], key n [1], key n (sf e 1 (dotk 1))], rfl, rfl, sort_row (pm2 _ _ _) (pw3 (key_lt n (rfl : ltL [0] [1] = true)) (key_lt n (rfl : ltL [0] (sf e 1 (dotk 1)) = true)) (key_lt n (rfl : ltL [1] (sf e 1 (dotk 1)) = true)))⟩
  · exact ⟨[key n [1], key n (sf e 1 (dotk 1)), key n [0]], [key n [0], key n [1], key n (sf e 1 (dotk 1))], rfl, rfl, sort_row (pm3 _ _ _) (pw3 (key_lt n (rfl : ltL [0] [1] = true)) (key_lt n (rfl : ltL [0] (sf e 1 (dotk 1)) = true)) (key_lt n (rfl : ltL [1] (sf e 1 (dotk 1)) = true)))⟩
  · exact ⟨[key n (sf e 1 (dotk 1)), key n [0], key n [1]], [key n [0], key n [1], key n (sf e 1 (dotk 1))], rfl, rfl, sort_row (pm4 _ _ _) (pw3 (key_lt n (rfl : ltL [0] [1] = true)) (key_lt n (rfl : ltL [0] (sf e 1 (dotk 1)) = true)) (key_lt n (rfl : ltL [1] (sf e 1 (dotk 1)) = true)))⟩
  · exact ⟨[key n (sf e 1 (dotk 1)), key n [1], key n [0]], [key n [0], key n [1], key n (sf e 1 (dotk 1))], rfl, rfl, sort_row (pm5 _ _ _) (pw3 (key_lt n (rfl : ltL [0] [1] = true)) (key_lt n (rfl : ltL [0] (sf e 1 (dotk 1)) = true)) (key_lt n (rfl : ltL [1] (sf e 1 (dotk 1)) = true)))⟩
  · exact ⟨[key n [1], key n (sf r 1 (dotk 2))], [key n [1], key n (sf r 1 (dotk 2))], rfl, rfl, sort_row (List.Perm.refl _) (pw2 (key_lt n (rfl : ltL [1] (sf r 1 (dotk 2)) = true)))⟩
  · exact ⟨[key n (sf r 1 (dotk 2)), key n [1]], [key n [1], key n (sf r 1 (dotk 2))], rfl, rfl, sort_row (List.Perm.swap _ _ []) (pw2 (key_lt n (rfl : ltL [1] (sf r 1 (dotk 2)) = true)))⟩
  · exact ⟨[key n [1], key n (sf e 1 (dotk 3))], [key n [1], key n (sf e 1 (dotk 3))], rfl, rfl, sort_row (List.Perm.refl _) (pw2 (key_lt n (rfl : ltL [1] (sf e 1 (dotk 3)) = true)))⟩
  · exact ⟨[key n (sf e 1 (dotk 3)), key n [1]], [key n [1], key n (sf e 1 (dotk 3))], rfl, rfl, sort_row (List.Perm.swap _ _ []) (pw2 (key_lt n (rfl : ltL [1] (sf e 1 (dotk 3)) = true)))⟩
  · exact ⟨[key n [1], key n [2]], [key n [1], key n [2]], rfl, rfl, sort_row (List.Perm.refl _) (pw2 (key_lt n (rfl : ltL [1] [2] = true)))⟩
  · exact ⟨[key n [2], key n [1]], [key n [1], key n [2]], rfl, rfl, sort_row (List.Perm.swap _ _ []) (pw2 (key_lt n (rfl : ltL [1] [2] = true)))⟩
noncomputable def baseGt : List (FuncId × Con) := [(86, .ans rTextGt), (288, .ans rPartGt), (69, .ans rCloneGt), (261, .ans rCmpGt), (117, .fn (patFn rBatchGt)), (171, .fn (rowFn rFrameGt)), (149, .fn (rowFn rNTGt)), (300, .fn (patFn rItemsGt)), (197, .fn (sortFn rSortGt)), (5, .yes [])]
theorem baseGt_ok (hs : Sc n e r) (h : ltL r e = true) {m : Int} (hm : w0.cell? ⟨0, 0, none⟩ = some (.int .i64 m)) : ∀ p ∈ baseGt, ConOK Tryz.prog (PGt w0 n e r) p.1 p.2 := by
  intro p hp
  simp only [baseGt, List.mem_cons, List.mem_nil_iff, or_false] at hp
  rcases hp with rfl | rfl | rfl | rfl | rfl | rfl | rfl | rfl | rfl | rfl
  · exact cTextGt hs hm
  · exact cPartGt hs
  · exact cCloneGt hs
  · exact cCmpGt h
  · exact cBatchGt hs
  · exact cFrameGt hs
  · exact cNTGt hs
  · exact cItemsGt hs
  · exact cSortGt
  · exact yes_ok rfl fun w _ => alive_yes w
theorem progGt {cs : List (FuncId × Con)} (hs : Sc n e r) (h : ltL r e = true) (K : ∀ p ∈ cs, ConOK Tryz.prog (PGt w0 n e r) p.1 p.2) : ProgOK Tryz.prog (CGt cs (sgGt n e r)) (PGt w0 n e r) :=
  withAll_ok (ctx_ok [] K) (fun _ _ _ h => h.σ) (fun _ _ _ _ _ _ _ h => by cases h) (factsOkGt hs h) (ofactsOkGt hs)
noncomputable def inGt0 : Heap := heapOf [0xc1b00000000000000000000000000000000000000000000000000e300060000000000000001000000070001000200000000000400010002000000000001000000070001000200000000000100000004000100020000000000040001000200000000000400010002000000020000000100010000000100010000000100010001000100010000000000000000000000000000000000a000070000000000000002000200000000000100000004000100020000000000040001000200000000000100000007000100020000000000000000000400010002000000000004000100020001001300020000000200000001000100000001000100000001000000010000000100000001000000010001]
noncomputable def outGt0 : Heap := heapOf [0xf0f00000000000000000000000000000000000000000000000000e300060000000000000001000000070001000200000000000400010002000000000001000000070001000200000000000100000004000100020000000000040001000200000000000400010002000000020000000100010000000100010000000100010001000100010000000000000000000000000000000000a000070000000000000002000200000000000100000004000100020000000000040001000200000000000100000007000100020000000000000000000400010002000000000004000100020001001300020000000200000001000100000001000100000001000000010000000100000001000000010001]
noncomputable def argGt0 : AV := avOf [0x6000100000001000006a00007000100000001000006bd00070000001300010000000300010005000f]
theorem putGt0 (σ0 : Nat → Option Value) : isOuts (runF (CGt baseGt σ0) 100000 299 [argGt0] inGt0) [(.tuple [.symStr 49, .int .i64 0], outGt0)] = true := by kernel_rfl
noncomputable def inGt1 : Heap := heapOf [0x187b000000000000000000000000000000000000000000000000000000a0000700000000000000020002000000000001000000040001000200000000000400010002000000000002000000070001000200000000000000000004000100020000000000040001000200020013000200000002000100010001000000010001000000010000000100010000000100010001000000000000000000000000000000000000000000000000000000e300060000000000000002000000070001000200000000000400010002000000000002000000070001000200000000000100000004000100020000000000040001000200000000000400010002000000020001000100010000000100010000000100010001000000010000000100010001]
noncomputable def outGt1 : Heap := heapOf [0x1b6f000000000000000000000000000000000000000000000000000000a0000700000000000000020002000000000001000000040001000200000000000400010002000000000002000000070001000200000000000000000004000100020000000000040001000200020013000200000002000100010001000000010001000000010000000100010000000100010001000000000000000000000000000000000000000000000000000000e300060000000000000002000000070001000200000000000400010002000000000002000000070001000200000000000100000004000100020000000000040001000200000000000400010002000000020001000100010000000100010000000100010001000000010000000100010001]
noncomputable def argGt1 : AV := avOf [0x60001000000010000114b00070001000000010000116800070000001300010000000300010005000f]
theorem putGt1 (σ0 : Nat → Option Value) : isOuts (runF (CGt baseGt σ0) 100000 299 [argGt1] inGt1) [(.tuple [.symStr 50, .int .i64 0], outGt1)] = true := by kernel_rfl
noncomputable def inGt2 : Heap := heapOf [0x2677000000000000000000000000000000000000000000a000070000000000000002000200000000000100000004000100020000000000040001000200000000000300000007000100020000000000000000000400010002000000000004000100020001001300020000000200000001000000010000000100000001000100000001000100000001000100010000000100000000000000000000000000000000000000e3000600000000000000030000000700010002000000000004000100020000000000030000000700010002000000000001000000040001000200000000000400010002000000000004000100020000000200000001000000010000000100000001000100010000000100000001000100000001000000010001]
noncomputable def outGt2 : Heap := heapOf [0x296b000000000000000000000000000000000000000000a000070000000000000002000200000000000100000004000100020000000000040001000200000000000300000007000100020000000000000000000400010002000000000004000100020001001300020000000200000001000000010000000100000001000100000001000100000001000100010000000100000000000000000000000000000000000000e3000600000000000000030000000700010002000000000004000100020000000000030000000700010002000000000001000000040001000200000000000400010002000000000004000100020000000200000001000000010000000100000001000100010000000100000001000100000001000000010001]
noncomputable def argGt2 : AV := avOf [0x600010000000100001f35000700010000000100001f5200070000001300010000000300010005000f]
theorem putGt2 (σ0 : Nat → Option Value) : isOuts (runF (CGt baseGt σ0) 100000 299 [argGt2] inGt2) [(.tuple [.symStr 51, .int .i64 0], outGt2)] = true := by kernel_rfl
noncomputable def inGt3 : Heap := heapOf [0x36ac0000000000000000000000000000000000000000000000000000000000e300060000000000000004000000070001000200000000000400010002000000000004000000070001000200000000000100000004000100020000000000040001000200000000000400010002000000020001000000010000000100000001000100010001000100010001000000000000000000000000000000000000000100e3000600000000000000010000000700010002000000000004000100020000000000010000000700010002000000000001000000040001000200000000000400010002000000000004000100020000000200010000000100000001000000010001000100000001000000010001000000010001000000010001]
noncomputable def outGt3 : Heap := heapOf [0x398f0000000000000000000000000000000000000000000000000000000000e300060000000000000004000000070001000200000000000400010002000000000004000000070001000200000000000100000004000100020000000000040001000200000000000400010002000000020001000000010000000100000001000100010001000100010001000000000000000000000000000000000000000100e3000600000000000000010000000700010002000000000004000100020000000000010000000700010002000000000001000000040001000200000000000400010002000000000004000100020000000200010000000100000001000000010001000100000001000000010001000000010001000000010001]
noncomputable def argGt3 : AV := avOf [0x2e690001000100002e69000700010000000100002e05000700060000001300010000000300010005000f]
theorem putGt3 (σ0 : Nat → Option Value) : isOuts (runF (CGt baseGt σ0) 100000 299 [argGt3] inGt3) [(.tuple [.symStr 52, .int .i64 0], outGt3)] = true := by kernel_rfl
noncomputable def inGt4 : Heap := heapOf [0x2a2900000000000000000000000000000000000000000000000000000000000000e300060000000000000003000000070001000200000000000400010002000000000003000000070001000200000000000100000004000100020000000000040001000200000000000400010002000000020001000100010001000000010000000100010001000000010001000000000000000000000000000000000000000100e300060000000000000001000000070001000200000000000400010002000000000001000000070001000200000000000100000004000100020000000000040001000200000000000400010002000000020001000100010001000000010000000100000001000000010000000100000001000100010001]
noncomputable def outGt4 : Heap := heapOf [0x2d0c00000000000000000000000000000000000000000000000000000000000000e300060000000000000003000000070001000200000000000400010002000000000003000000070001000200000000000100000004000100020000000000040001000200000000000400010002000000020001000100010001000000010000000100010001000000010001000000000000000000000000000000000000000100e300060000000000000001000000070001000200000000000400010002000000000001000000070001000200000000000100000004000100020000000000040001000200000000000400010002000000020001000100010001000000010000000100000001000000010000000100000001000100010001]
noncomputable def argGt4 : AV := avOf [0x21f700010001000021f7000700010000000100002193000700060000001300010000000300010005000f]
theorem putGt4 (σ0 : Nat → Option Value) : isOuts (runF (CGt baseGt σ0) 100000 299 [argGt4] inGt4) [(.tuple [.symStr 53, .int .i64 0], outGt4)] = true := by kernel_rfl
noncomputable def msgsGt : List (List AV × Heap × List (AV × Heap)) := [([.agg [.int .i64 1, .int .i64 1, .int .i64 2, .int .i64 0, .int .i64 1, .symStr 0, .slice 1725 0 1 (.lit 1), .slice 1696 0 1 (.lit 1), .nils, .str [], .str [], .str [], .bool false, .int .i64 0, .nils, .nils, .nils, .nils]], inGt0, [(.symStr 54, outGt0)]), ([.agg [.int .i64 1, .int .i64 1, .int .i64 2, .int .i64 0, .int .i64 1, .symStr 0, .slice 4456 0 1 (.lit 1), .slice 4427 0 1 (.lit 1), .nils, .str [], .str [], .str [], .bool false, .int .i64 0, .nils, .nils, .nils, .nils]], inGt1, [(.symStr 55, outGt1)]), ([.agg [.int .i64 1, .int .i64 1, .int .i64 2, .int .i64 0, .int .i64 1, .symStr 0, .slice 8018 0 1 (.lit 1), .slice 7989 0 1 (.lit 1), .nils, .str [], .str [], .str [], .bool false, .int .i64 0, .nils, .nils, .nils, .nils]], inGt2, [(.symStr 56, outGt2)]), ([.agg [.int .i64 1, .int .i64 1, .int .i64 2, .int .i64 0, .int .i64 1, .symStr 0, .nils, .slice 11781 0 1 (.lit 1), .slice 11881 0 1 (.var 11881 0), .str [], .str [], .str [], .bool false, .int .i64 0, .nils, .nils, .nils, .nils]], inGt3, [(.symStr 57, outGt3)]), ([.agg [.int .i64 1, .int .i64 1, .int .i64 2, .int .i64 0, .int .i64 1, .symStr 0, .nils, .slice 8595 0 1 (.lit 1), .slice 8695 0 1 (.var 8695 0), .str [], .str [], .str [], .bool false, .int .i64 0, .nils, .nils, .nils, .nils]], inGt4, [(.symStr 58, outGt4)])]
theorem cMsgGt (hs : Sc n e r) (h : ltL r e = true) {m : Int} (hm : w0.cell? ⟨0, 0, none⟩ = some (.int .i64 m)) : ConOK Tryz.prog (PGt w0 n e r) 229 (.known msgsGt) := by
  refine msg_known fun r_ hr => ?_
  simp only [msgsGt, List.mem_cons, List.mem_nil_iff, or_false] at hr
  rcases hr with rfl | rfl | rfl | rfl | rfl
  · exact ⟨((1 :: tx [txt n]) ++ itm (txt e) (txt (dotk 1)) ⟨#[]⟩) ++ [7, 1, 0, 0, 0, 1, 1, 0, 1, 0], 1, .symStr 0, txt n, .slice 1725 0 1 (.lit 1), .slice 1696 0 1 (.lit 1), .nils, .symStr 54, .symStr 49, outGt0, sgGt n e r, by have := zGt140 hs; rw [txt_size] at this; omega, rfl, rfl, fun η H w o => ⟨fun _ _ h => (by cases h), fun _ _ h => (by cases h), o.σ⟩, rfl, rfl, rfl, CGt baseGt (sgGt n e r), 100000, progGt hs h (baseGt_ok hs h hm), by rw [← runF_eq]; exact isOuts_eq (putGt0 _)⟩
  · exact ⟨((1 :: tx [txt n]) ++ itm (txt r) (txt (dotk 2)) ⟨#[]⟩) ++ [7, 1, 0, 0, 0, 1, 2, 0, 1, 0], 1, .symStr 0, txt n, .slice 4456 0 1 (.lit 1), .slice 4427 0 1 (.lit 1), .nils, .symStr 55, .symStr 50, outGt1, sgGt n e r, by have := zGt141 hs; rw [txt_size] at this; omega, rfl, rfl, fun η H w o => ⟨fun _ _ h => (by cases h), fun _ _ h => (by cases h), o.σ⟩, rfl, rfl, rfl, CGt baseGt (sgGt n e r), 100000, progGt hs h (baseGt_ok hs h hm), by rw [← runF_eq]; exact isOuts_eq (putGt1 _)⟩
  · exact ⟨((1 :: tx [txt n]) ++ itm (txt e) (txt (dotk 3)) ⟨#[]⟩) ++ [7, 1, 0, 0, 0, 1, 3, 0, 1, 0], 1, .symStr 0, txt n, .slice 8018 0 1 (.lit 1), .slice 7989 0 1 (.lit 1), .nils, .symStr 56, .symStr 51, outGt2, sgGt n e r, by have := zGt142 hs; rw [txt_size] at this; omega, rfl, rfl, fun η H w o => ⟨fun _ _ h => (by cases h), fun _ _ h => (by cases h), o.σ⟩, rfl, rfl, rfl, CGt baseGt (sgGt n e r), 100000, progGt hs h (baseGt_ok hs h hm), by rw [← runF_eq]; exact isOuts_eq (putGt2 _)⟩
  · exact ⟨((1 :: tx [txt n]) ++ [0]) ++ [7, 1, 0, 0, 0, 1, 4, 0, 7, 1, 0, 0, 0, 1, 1, 0], 1, .symStr 0, txt n, .nils, .slice 11781 0 1 (.lit 1), .slice 11881 0 1 (.var 11881 0), .symStr 57, .symStr 52, outGt3, sgGt n e r, by have := zGt143 hs; rw [txt_size] at this; omega, rfl, rfl, fun η H w o => ⟨fun _ _ h => (by cases h), fun _ _ h => (by cases h), o.σ⟩, rfl, rfl, rfl, CGt baseGt (sgGt n e r), 100000, progGt hs h (baseGt_ok hs h hm), by rw [← runF_eq]; exact isOuts_eq (putGt3 _)⟩
  · exact ⟨((1 :: tx [txt n]) ++ [0]) ++ [7, 1, 0, 0, 0, 1, 3, 0, 7, 1, 0, 0, 0, 1, 1, 0], 1, .symStr 0, txt n, .nils, .slice 8595 0 1 (.lit 1), .slice 8695 0 1 (.var 8695 0), .symStr 58, .symStr 53, outGt4, sgGt n e r, by have := zGt144 hs; rw [txt_size] at this; omega, rfl, rfl, fun η H w o => ⟨fun _ _ h => (by cases h), fun _ _ h => (by cases h), o.σ⟩, rfl, rfl, rfl, CGt baseGt (sgGt n e r), 100000, progGt hs h (baseGt_ok hs h hm), by rw [← runF_eq]; exact isOuts_eq (putGt4 _)⟩
noncomputable def consGt : List (FuncId × Con) := (229, .known msgsGt) :: baseGt
theorem consGt_ok (hs : Sc n e r) (h : ltL r e = true) {m : Int} (hm : w0.cell? ⟨0, 0, none⟩ = some (.int .i64 m)) : ∀ p ∈ consGt, ConOK Tryz.prog (PGt w0 n e r) p.1 p.2 := by
  unfold consGt
  exact List.forall_mem_cons.2 ⟨cMsgGt hs h hm, baseGt_ok hs h hm⟩
end
end Go.Proofs.YtckjnglhbjiklaaGreatDoor.Wk
