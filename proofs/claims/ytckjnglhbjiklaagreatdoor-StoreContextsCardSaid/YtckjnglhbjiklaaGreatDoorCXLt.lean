/-
  Part of the proof of a statement of this seat: walks of its functions and the closed run; no condition but those written in each theorem.
-/
import Derived.Test.YtckjnglhbjiklaaGreatDoorCT
import Derived.Test.YtckjnglhbjiklaaGreatDoorKA
namespace Go.Proofs.YtckjnglhbjiklaaGreatDoor.Wk
set_option maxRecDepth 100000
open Go.RowKit Go.VmK Go.NumPure Go.Shelf
abbrev w0Lt (n e _r : List UInt8) : List (ByteArray × ByteArray) := [(txt (key n [0]), ⟨#[1]⟩), (txt (key n [1]), ⟨#[1, 0, 0, 0, 1, 1, 0]⟩), (txt (key n (sf e 1 (dotk 1))), ⟨#[]⟩)]
abbrev w1Lt (n _e r : List UInt8) : List (ByteArray × ByteArray) := [(txt (key n [1]), ⟨#[1, 0, 0, 0, 1, 1, 1]⟩), (txt (key n (sf r 1 (dotk 2))), ⟨#[]⟩)]
abbrev w2Lt (n e _r : List UInt8) : List (ByteArray × ByteArray) := [(txt (key n [1]), ⟨#[1, 0, 0, 0, 1, 1, 2]⟩), (txt (key n (sf e 1 (dotk 3))), ⟨#[]⟩)]
abbrev w3Lt (n _e _r : List UInt8) : List (ByteArray × ByteArray) := [(txt (key n [1]), ⟨#[1, 0, 0, 0, 1, 1, 3]⟩), (txt (key n [2]), ⟨#[1, 0, 0, 0, 1, 1, 0]⟩)]
abbrev w4Lt (n _e _r : List UInt8) : List (ByteArray × ByteArray) := [(txt (key n [1]), ⟨#[1, 0, 0, 0, 1, 1, 2]⟩), (txt (key n [2]), ⟨#[1, 0, 0, 0, 1, 1, 0]⟩)]
section
variable {n e r : List UInt8}
theorem wxLt0 (hs : Sc n e r) : ∀ p ∈ ((w0Lt n e r) : List (ByteArray × ByteArray)), p.1.size ≤ 300 ∧ p.2.size ≤ 1000 := by
  intro p hp
  simp only [w0Lt, List.mem_cons, List.mem_nil_iff, or_false] at hp
  rcases hp with rfl | rfl | rfl
  · exact ⟨Nat.le_trans (z30 hs).2 (by decide), (by decide : (⟨#[1]⟩ : ByteArray).size ≤ 1000)⟩
  · exact ⟨Nat.le_trans (z31 hs).2 (by decide), (by decide : (⟨#[1, 0, 0, 0, 1, 1, 0]⟩ : ByteArray).size ≤ 1000)⟩
  · exact ⟨Nat.le_trans (z60 hs).2 (by decide), (by decide : (⟨#[]⟩ : ByteArray).size ≤ 1000)⟩
theorem zLt90 (hs : Sc n e r) : 0 ≤ (txt (bt 1 (w0Lt n e r))).size ∧ (txt (bt 1 (w0Lt n e r))).size ≤ 4100 := by
  have := bt_size (first := 1) (by omega) (by simp [w0Lt]) (wxLt0 hs)
  rw [txt_size]
  simp only [w0Lt, List.length_cons, List.length_nil] at this
  simp only [w0Lt]
  omega
theorem zLt91 (hs : Sc n e r) : 0 ≤ (txt (fr (bt 1 (w0Lt n e r)))).size ∧ (txt (fr (bt 1 (w0Lt n e r)))).size ≤ 4200 := by
  have h := zLt90 hs
  rw [txt_size] at h
  rw [fr_size]
  omega
theorem wxLt1 (hs : Sc n e r) : ∀ p ∈ ((w1Lt n e r) : List (ByteArray × ByteArray)), p.1.size ≤ 300 ∧ p.2.size ≤ 1000 := by
  intro p hp
  simp only [w1Lt, List.mem_cons, List.mem_nil_iff, or_false] at hp
  rcases hp with rfl | rfl
  · exact ⟨Nat.le_trans (z31 hs).2 (by decide), (by decide : (⟨#[1, 0, 0, 0, 1, 1, 1]⟩ : ByteArray).size ≤ 1000)⟩
  · exact ⟨Nat.le_trans (z61 hs).2 (by decide), (by decide : (⟨#[]⟩ : ByteArray).size ≤ 1000)⟩
theorem zLt92 (hs : Sc n e r) : 0 ≤ (txt (bt 4 (w1Lt n e r))).size ∧ (txt (bt 4 (w1Lt n e r))).size ≤ 4100 := by
  have := bt_size (first := 4) (by omega) (by simp [w1Lt]) (wxLt1 hs)
  rw [txt_size]
  simp only [w1Lt, List.length_cons, List.length_nil] at this
  simp only [w1Lt]
  omega
theorem zLt93 (hs : Sc n e r) : 0 ≤ (txt (fr (bt 4 (w1Lt n e r)))).size ∧ (txt (fr (bt 4 (w1Lt n e r)))).size ≤ 4200 := by
  have h := zLt92 hs
  rw [txt_size] at h
  rw [fr_size]
  omega
theorem wxLt2 (hs : Sc n e r) : ∀ p ∈ ((w2Lt n e r) : List (ByteArray × ByteArray)), p.1.size ≤ 300 ∧ p.2.size ≤ 1000 := by
  intro p hp
  simp only [w2Lt, List.mem_cons, List.mem_nil_iff, or_false] at hp
  rcases hp with rfl | rfl
  · exact ⟨Nat.le_trans (z31 hs).2 (by decide), (by decide : (⟨#[1, 0, 0, 0, 1, 1, 2]⟩ : ByteArray).size ≤ 1000)⟩
  · exact ⟨Nat.le_trans (z62 hs).2 (by decide), (by decide : (⟨#[]⟩ : ByteArray).size ≤ 1000)⟩
theorem zLt94 (hs : Sc n e r) : 0 ≤ (txt (bt 6 (w2Lt n e r))).size ∧ (txt (bt 6 (w2Lt n e r))).size ≤ 4100 := by
  have := bt_size (first := 6) (by omega) (by simp [w2Lt]) (wxLt2 hs)
  rw [txt_size]
  simp only [w2Lt, List.length_cons, List.length_nil] at this
  simp only [w2Lt]
  omega
theorem zLt95 (hs : Sc n e r) : 0 ≤ (txt (fr (bt 6 (w2Lt n e r)))).size ∧ (txt (fr (bt 6 (w2Lt n e r)))).size ≤ 4200 := by
  have h := zLt94 hs
  rw [txt_size] at h
  rw [fr_size]
  omega
theorem wxLt3 (hs : Sc n e r) : ∀ p ∈ ((w3Lt n e r) : List (ByteArray × ByteArray)), p.1.size ≤ 300 ∧ p.2.size ≤ 1000 := by
  intro p hp
  simp only [w3Lt, List.mem_cons, List.mem_nil_iff, or_false] at hp
  rcases hp with rfl | rfl
  · exact ⟨Nat.le_trans (z31 hs).2 (by decide), (by decide : (⟨#[1, 0, 0, 0, 1, 1, 3]⟩ : ByteArray).size ≤ 1000)⟩
  · exact ⟨Nat.le_trans (z32 hs).2 (by decide), (by decide : (⟨#[1, 0, 0, 0, 1, 1, 0]⟩ : ByteArray).size ≤ 1000)⟩
theorem zLt96 (hs : Sc n e r) : 0 ≤ (txt (bt 8 (w3Lt n e r))).size ∧ (txt (bt 8 (w3Lt n e r))).size ≤ 4100 := by
  have := bt_size (first := 8) (by omega) (by simp [w3Lt]) (wxLt3 hs)
  rw [txt_size]
  simp only [w3Lt, List.length_cons, List.length_nil] at this
  simp only [w3Lt]
  omega
theorem zLt97 (hs : Sc n e r) : 0 ≤ (txt (fr (bt 8 (w3Lt n e r)))).size ∧ (txt (fr (bt 8 (w3Lt n e r)))).size ≤ 4200 := by
  have h := zLt96 hs
  rw [txt_size] at h
  rw [fr_size]
  omega
theorem wxLt4 (hs : Sc n e r) : ∀ p ∈ ((w4Lt n e r) : List (ByteArray × ByteArray)), p.1.size ≤ 300 ∧ p.2.size ≤ 1000 := by
  intro p hp
  simp only [w4Lt, List.mem_cons, List.mem_nil_iff, or_false] at hp
  rcases hp with rfl | rfl
  · exact ⟨Nat.le_trans (z31 hs).2 (by decide), (by decide : (⟨#[1, 0, 0, 0, 1, 1, 2]⟩ : ByteArray).size ≤ 1000)⟩
  · exact ⟨Nat.le_trans (z32 hs).2 (by decide), (by decide : (⟨#[1, 0, 0, 0, 1, 1, 0]⟩ : ByteArray).size ≤ 1000)⟩
theorem zLt98 (hs : Sc n e r) : 0 ≤ (txt (bt 6 (w4Lt n e r))).size ∧ (txt (bt 6 (w4Lt n e r))).size ≤ 4100 := by
  have := bt_size (first := 6) (by omega) (by simp [w4Lt]) (wxLt4 hs)
  rw [txt_size]
  simp only [w4Lt, List.length_cons, List.length_nil] at this
  simp only [w4Lt]
  omega
theorem zLt99 (hs : Sc n e r) : 0 ≤ (txt (fr (bt 6 (w4Lt n e r)))).size ∧ (txt (fr (bt 6 (w4Lt n e r)))).size ≤ 4200 := by
  have h := zLt98 hs
  rw [txt_size] at h
  rw [fr_size]
  omega
theorem zLt131 (hs : Sc n e r) : 0 ≤ ((txt (fr (bt 1 (w0Lt n e r))) ++ txt (fr (bt 4 (w1Lt n e r))))).size ∧ ((txt (fr (bt 1 (w0Lt n e r))) ++ txt (fr (bt 4 (w1Lt n e r))))).size ≤ 8400 := by
  have h := zLt93 hs
  have h2 := zLt91 hs
  rw [ByteArray.size_append]
  omega
theorem zLt132 (hs : Sc n e r) : 0 ≤ (((txt (fr (bt 1 (w0Lt n e r))) ++ txt (fr (bt 4 (w1Lt n e r)))) ++ txt (fr (bt 6 (w2Lt n e r))))).size ∧ (((txt (fr (bt 1 (w0Lt n e r))) ++ txt (fr (bt 4 (w1Lt n e r)))) ++ txt (fr (bt 6 (w2Lt n e r))))).size ≤ 12600 := by
  have h := zLt95 hs
  have h2 := zLt131 hs
  rw [ByteArray.size_append]
  omega
theorem zLt133 (hs : Sc n e r) : 0 ≤ ((((txt (fr (bt 1 (w0Lt n e r))) ++ txt (fr (bt 4 (w1Lt n e r)))) ++ txt (fr (bt 6 (w2Lt n e r)))) ++ txt (fr (bt 8 (w3Lt n e r))))).size ∧ ((((txt (fr (bt 1 (w0Lt n e r))) ++ txt (fr (bt 4 (w1Lt n e r)))) ++ txt (fr (bt 6 (w2Lt n e r)))) ++ txt (fr (bt 8 (w3Lt n e r))))).size ≤ 16800 := by
  have h := zLt97 hs
  have h2 := zLt132 hs
  rw [ByteArray.size_append]
  omega
theorem zLt134 (hs : Sc n e r) : 0 ≤ (((txt (fr (bt 1 (w0Lt n e r))) ++ txt (fr (bt 4 (w1Lt n e r)))) ++ txt (fr (bt 6 (w4Lt n e r))))).size ∧ (((txt (fr (bt 1 (w0Lt n e r))) ++ txt (fr (bt 4 (w1Lt n e r)))) ++ txt (fr (bt 6 (w4Lt n e r))))).size ≤ 21000 := by
  have h := zLt99 hs
  have h2 := zLt131 hs
  rw [ByteArray.size_append]
  omega
theorem zLt155 (hs : Sc n e r) : 0 ≤ (txt (itm (txt e) (txt (dotk 1)) ⟨#[]⟩)).size ∧ (txt (itm (txt e) (txt (dotk 1)) ⟨#[]⟩)).size ≤ 500 := by
  have b := itm_len e 1 (hs.e2)
  rw [txt_size]
  omega
theorem zLt150 (hs : Sc n e r) : 0 ≤ (txt ((1 :: tx [txt n]) ++ itm (txt e) (txt (dotk 1)) ⟨#[]⟩)).size ∧ (txt ((1 :: tx [txt n]) ++ itm (txt e) (txt (dotk 1)) ⟨#[]⟩)).size ≤ 700 := by
  have a := (z105 hs).2
  have b := itm_len e 1 (hs.e2)
  rw [txt_size] at a
  simp only [txt_size, List.length_append, List.length_cons] at a ⊢
  omega
theorem zLt140 (hs : Sc n e r) : 0 ≤ (txt (((1 :: tx [txt n]) ++ itm (txt e) (txt (dotk 1)) ⟨#[]⟩) ++ [7, 1, 0, 0, 0, 1, 1, 0, 1, 0])).size ∧ (txt (((1 :: tx [txt n]) ++ itm (txt e) (txt (dotk 1)) ⟨#[]⟩) ++ [7, 1, 0, 0, 0, 1, 1, 0, 1, 0])).size ≤ 700 := by
  have a := (z105 hs).2
  have b := itm_len e 1 (hs.e2)
  rw [txt_size] at a
  simp only [txt_size, List.length_append, List.length_cons, List.length_nil] at a ⊢
  omega
theorem zLt156 (hs : Sc n e r) : 0 ≤ (txt (itm (txt r) (txt (dotk 2)) ⟨#[]⟩)).size ∧ (txt (itm (txt r) (txt (dotk 2)) ⟨#[]⟩)).size ≤ 500 := by
  have b := itm_len r 2 (hs.r2)
  rw [txt_size]
  omega
theorem zLt151 (hs : Sc n e r) : 0 ≤ (txt ((1 :: tx [txt n]) ++ itm (txt r) (txt (dotk 2)) ⟨#[]⟩)).size ∧ (txt ((1 :: tx [txt n]) ++ itm (txt r) (txt (dotk 2)) ⟨#[]⟩)).size ≤ 700 := by
  have a := (z105 hs).2
  have b := itm_len r 2 (hs.r2)
  rw [txt_size] at a
  simp only [txt_size, List.length_append, List.length_cons] at a ⊢
  omega
theorem zLt141 (hs : Sc n e r) : 0 ≤ (txt (((1 :: tx [txt n]) ++ itm (txt r) (txt (dotk 2)) ⟨#[]⟩) ++ [7, 1, 0, 0, 0, 1, 2, 0, 1, 0])).size ∧ (txt (((1 :: tx [txt n]) ++ itm (txt r) (txt (dotk 2)) ⟨#[]⟩) ++ [7, 1, 0, 0, 0, 1, 2, 0, 1, 0])).size ≤ 700 := by
  have a := (z105 hs).2
  have b := itm_len r 2 (hs.r2)
  rw [txt_size] at a
  simp only [txt_size, List.length_append, List.length_cons, List.length_nil] at a ⊢
  omega
theorem zLt157 (hs : Sc n e r) : 0 ≤ (txt (itm (txt e) (txt (dotk 3)) ⟨#[]⟩)).size ∧ (txt (itm (txt e) (txt (dotk 3)) ⟨#[]⟩)).size ≤ 500 := by
  have b := itm_len e 3 (hs.e2)
  rw [txt_size]
  omega
theorem zLt152 (hs : Sc n e r) : 0 ≤ (txt ((1 :: tx [txt n]) ++ itm (txt e) (txt (dotk 3)) ⟨#[]⟩)).size ∧ (txt ((1 :: tx [txt n]) ++ itm (txt e) (txt (dotk 3)) ⟨#[]⟩)).size ≤ 700 := by
  have a := (z105 hs).2
  have b := itm_len e 3 (hs.e2)
  rw [txt_size] at a
  simp only [txt_size, List.length_append, List.length_cons] at a ⊢
  omega
theorem zLt142 (hs : Sc n e r) : 0 ≤ (txt (((1 :: tx [txt n]) ++ itm (txt e) (txt (dotk 3)) ⟨#[]⟩) ++ [7, 1, 0, 0, 0, 1, 3, 0, 1, 0])).size ∧ (txt (((1 :: tx [txt n]) ++ itm (txt e) (txt (dotk 3)) ⟨#[]⟩) ++ [7, 1, 0, 0, 0, 1, 3, 0, 1, 0])).size ≤ 700 := by
  have a := (z105 hs).2
  have b := itm_len e 3 (hs.e2)
  rw [txt_size] at a
  simp only [txt_size, List.length_append, List.length_cons, List.length_nil] at a ⊢
  omega
theorem zLt153 (hs : Sc n e r) : 0 ≤ (txt ((1 :: tx [txt n]) ++ [0])).size ∧ (txt ((1 :: tx [txt n]) ++ [0])).size ≤ 700 := by
  have a := (z105 hs).2
  rw [txt_size] at a
  simp only [txt_size, List.length_append, List.length_cons, List.length_nil] at a ⊢
  omega
theorem zLt143 (hs : Sc n e r) : 0 ≤ (txt (((1 :: tx [txt n]) ++ [0]) ++ [7, 1, 0, 0, 0, 1, 4, 0, 7, 1, 0, 0, 0, 1, 1, 0])).size ∧ (txt (((1 :: tx [txt n]) ++ [0]) ++ [7, 1, 0, 0, 0, 1, 4, 0, 7, 1, 0, 0, 0, 1, 1, 0])).size ≤ 700 := by
  have a := (z105 hs).2
  rw [txt_size] at a
  simp only [txt_size, List.length_append, List.length_cons, List.length_nil] at a ⊢
  omega
theorem zLt144 (hs : Sc n e r) : 0 ≤ (txt (((1 :: tx [txt n]) ++ [0]) ++ [7, 1, 0, 0, 0, 1, 3, 0, 7, 1, 0, 0, 0, 1, 1, 0])).size ∧ (txt (((1 :: tx [txt n]) ++ [0]) ++ [7, 1, 0, 0, 0, 1, 3, 0, 7, 1, 0, 0, 0, 1, 1, 0])).size ≤ 700 := by
  have a := (z105 hs).2
  rw [txt_size] at a
  simp only [txt_size, List.length_append, List.length_cons, List.length_nil] at a ⊢
  omega
end
def mLt100 (n _e _r : List UInt8) : Int := (0 : Int) + Int.ofNat (txt (key n [0])).size
theorem bLt100 {n e r : List UInt8} (hs : Sc n e r) : 0 ≤ mLt100 n e r ∧ mLt100 n e r ≤ 84 := by
  have h2 := z30 hs
  simp only [mLt100, Int.ofNat_eq_natCast]
  omega
def mLt101 (n e r : List UInt8) : Int := mLt100 n e r + 1
theorem bLt101 {n e r : List UInt8} (hs : Sc n e r) : 0 ≤ mLt101 n e r ∧ mLt101 n e r ≤ 85 := by
  have h := bLt100 hs
  simp only [mLt101]
  omega
def mLt102 (n e r : List UInt8) : Int := mLt101 n e r + 16
theorem bLt102 {n e r : List UInt8} (hs : Sc n e r) : 0 ≤ mLt102 n e r ∧ mLt102 n e r ≤ 101 := by
  have h := bLt101 hs
  simp only [mLt102]
  omega
def mLt103 (n e r : List UInt8) : Int := mLt102 n e r + Int.ofNat (txt (key n [1])).size
theorem bLt103 {n e r : List UInt8} (hs : Sc n e r) : 0 ≤ mLt103 n e r ∧ mLt103 n e r ≤ 185 := by
  have h := bLt102 hs
  have h2 := z31 hs
  simp only [mLt103, Int.ofNat_eq_natCast]
  omega
def mLt104 (n e r : List UInt8) : Int := mLt103 n e r + 7
theorem bLt104 {n e r : List UInt8} (hs : Sc n e r) : 0 ≤ mLt104 n e r ∧ mLt104 n e r ≤ 192 := by
  have h := bLt103 hs
  simp only [mLt104]
  omega
def mLt105 (n e r : List UInt8) : Int := mLt104 n e r + 16
theorem bLt105 {n e r : List UInt8} (hs : Sc n e r) : 0 ≤ mLt105 n e r ∧ mLt105 n e r ≤ 208 := by
  have h := bLt104 hs
  simp only [mLt105]
  omega
def mLt106 (n e r : List UInt8) : Int := mLt105 n e r + Int.ofNat (txt (key n (sf e 1 (dotk 1)))).size
theorem bLt106 {n e r : List UInt8} (hs : Sc n e r) : 0 ≤ mLt106 n e r ∧ mLt106 n e r ≤ 438 := by
  have h := bLt105 hs
  have h2 := z60 hs
  simp only [mLt106, Int.ofNat_eq_natCast]
  omega
def mLt107 (n e r : List UInt8) : Int := mLt106 n e r + 0
theorem bLt107 {n e r : List UInt8} (hs : Sc n e r) : 0 ≤ mLt107 n e r ∧ mLt107 n e r ≤ 438 := by
  have h := bLt106 hs
  simp only [mLt107]
  omega
def mLt108 (n e r : List UInt8) : Int := mLt107 n e r + 16
theorem bLt108 {n e r : List UInt8} (hs : Sc n e r) : 0 ≤ mLt108 n e r ∧ mLt108 n e r ≤ 454 := by
  have h := bLt107 hs
  simp only [mLt108]
  omega
def mLt109 (n e r : List UInt8) : Int := mLt108 n e r + Int.ofNat (txt (key n [1])).size
theorem bLt109 {n e r : List UInt8} (hs : Sc n e r) : 0 ≤ mLt109 n e r ∧ mLt109 n e r ≤ 538 := by
  have h := bLt108 hs
  have h2 := z31 hs
  simp only [mLt109, Int.ofNat_eq_natCast]
  omega
def mLt110 (n e r : List UInt8) : Int := mLt109 n e r + 7
theorem bLt110 {n e r : List UInt8} (hs : Sc n e r) : 0 ≤ mLt110 n e r ∧ mLt110 n e r ≤ 545 := by
  have h := bLt109 hs
  simp only [mLt110]
  omega
def mLt111 (n e r : List UInt8) : Int := mLt110 n e r + 16
theorem bLt111 {n e r : List UInt8} (hs : Sc n e r) : 0 ≤ mLt111 n e r ∧ mLt111 n e r ≤ 561 := by
  have h := bLt110 hs
  simp only [mLt111]
  omega
def mLt112 (n e r : List UInt8) : Int := mLt111 n e r + Int.ofNat (txt (key n (sf r 1 (dotk 2)))).size
theorem bLt112 {n e r : List UInt8} (hs : Sc n e r) : 0 ≤ mLt112 n e r ∧ mLt112 n e r ≤ 791 := by
  have h := bLt111 hs
  have h2 := z61 hs
  simp only [mLt112, Int.ofNat_eq_natCast]
  omega
def mLt113 (n e r : List UInt8) : Int := mLt112 n e r + 0
theorem bLt113 {n e r : List UInt8} (hs : Sc n e r) : 0 ≤ mLt113 n e r ∧ mLt113 n e r ≤ 791 := by
  have h := bLt112 hs
  simp only [mLt113]
  omega
def mLt114 (n e r : List UInt8) : Int := mLt113 n e r + 16
theorem bLt114 {n e r : List UInt8} (hs : Sc n e r) : 0 ≤ mLt114 n e r ∧ mLt114 n e r ≤ 807 := by
  have h := bLt113 hs
  simp only [mLt114]
  omega
def mLt115 (n e r : List UInt8) : Int := mLt114 n e r + Int.ofNat (txt (key n [1])).size
theorem bLt115 {n e r : List UInt8} (hs : Sc n e r) : 0 ≤ mLt115 n e r ∧ mLt115 n e r ≤ 891 := by
  have h := bLt114 hs
  have h2 := z31 hs
  simp only [mLt115, Int.ofNat_eq_natCast]
  omega
def mLt116 (n e r : List UInt8) : Int := mLt115 n e r + 7
theorem bLt116 {n e r : List UInt8} (hs : Sc n e r) : 0 ≤ mLt116 n e r ∧ mLt116 n e r ≤ 898 := by
  have h := bLt115 hs
  simp only [mLt116]
  omega
def mLt117 (n e r : List UInt8) : Int := mLt116 n e r + 16
theorem bLt117 {n e r : List UInt8} (hs : Sc n e r) : 0 ≤ mLt117 n e r ∧ mLt117 n e r ≤ 914 := by
  have h := bLt116 hs
  simp only [mLt117]
  omega
def mLt118 (n e r : List UInt8) : Int := mLt117 n e r + Int.ofNat (txt (key n (sf e 1 (dotk 3)))).size
theorem bLt118 {n e r : List UInt8} (hs : Sc n e r) : 0 ≤ mLt118 n e r ∧ mLt118 n e r ≤ 1144 := by
  have h := bLt117 hs
  have h2 := z62 hs
  simp only [mLt118, Int.ofNat_eq_natCast]
  omega
def mLt119 (n e r : List UInt8) : Int := mLt118 n e r + 0
theorem bLt119 {n e r : List UInt8} (hs : Sc n e r) : 0 ≤ mLt119 n e r ∧ mLt119 n e r ≤ 1144 := by
  have h := bLt118 hs
  simp only [mLt119]
  omega
def mLt120 (n e r : List UInt8) : Int := mLt119 n e r + 16
theorem bLt120 {n e r : List UInt8} (hs : Sc n e r) : 0 ≤ mLt120 n e r ∧ mLt120 n e r ≤ 1160 := by
  have h := bLt119 hs
  simp only [mLt120]
  omega
def mLt121 (n e r : List UInt8) : Int := mLt120 n e r + Int.ofNat (txt (key n [1])).size
theorem bLt121 {n e r : List UInt8} (hs : Sc n e r) : 0 ≤ mLt121 n e r ∧ mLt121 n e r ≤ 1244 := by
  have h := bLt120 hs
  have h2 := z31 hs
  simp only [mLt121, Int.ofNat_eq_natCast]
  omega
def mLt122 (n e r : List UInt8) : Int := mLt121 n e r + 7
theorem bLt122 {n e r : List UInt8} (hs : Sc n e r) : 0 ≤ mLt122 n e r ∧ mLt122 n e r ≤ 1251 := by
  have h := bLt121 hs
  simp only [mLt122]
  omega
def mLt123 (n e r : List UInt8) : Int := mLt122 n e r + 16
theorem bLt123 {n e r : List UInt8} (hs : Sc n e r) : 0 ≤ mLt123 n e r ∧ mLt123 n e r ≤ 1267 := by
  have h := bLt122 hs
  simp only [mLt123]
  omega
def mLt124 (n e r : List UInt8) : Int := mLt123 n e r + Int.ofNat (txt (key n [2])).size
theorem bLt124 {n e r : List UInt8} (hs : Sc n e r) : 0 ≤ mLt124 n e r ∧ mLt124 n e r ≤ 1351 := by
  have h := bLt123 hs
  have h2 := z32 hs
  simp only [mLt124, Int.ofNat_eq_natCast]
  omega
def mLt125 (n e r : List UInt8) : Int := mLt124 n e r + 7
theorem bLt125 {n e r : List UInt8} (hs : Sc n e r) : 0 ≤ mLt125 n e r ∧ mLt125 n e r ≤ 1358 := by
  have h := bLt124 hs
  simp only [mLt125]
  omega
def mLt126 (n e r : List UInt8) : Int := mLt125 n e r + 16
theorem bLt126 {n e r : List UInt8} (hs : Sc n e r) : 0 ≤ mLt126 n e r ∧ mLt126 n e r ≤ 1374 := by
  have h := bLt125 hs
  simp only [mLt126]
  omega
def mLt200 (n e r : List UInt8) : Int := mLt117 n e r + Int.ofNat (txt (key n [2])).size
theorem bLt200 {n e r : List UInt8} (hs : Sc n e r) : 0 ≤ mLt200 n e r ∧ mLt200 n e r ≤ 998 := by
  have h := bLt117 hs
  have h2 := z32 hs
  simp only [mLt200, Int.ofNat_eq_natCast]
  omega
def mLt201 (n e r : List UInt8) : Int := mLt200 n e r + 7
theorem bLt201 {n e r : List UInt8} (hs : Sc n e r) : 0 ≤ mLt201 n e r ∧ mLt201 n e r ≤ 1005 := by
  have h := bLt200 hs
  simp only [mLt201]
  omega
def mLt202 (n e r : List UInt8) : Int := mLt201 n e r + 16
theorem bLt202 {n e r : List UInt8} (hs : Sc n e r) : 0 ≤ mLt202 n e r ∧ mLt202 n e r ≤ 1021 := by
  have h := bLt201 hs
  simp only [mLt202]
  omega
/-- what the symbols stand for -/
noncomputable def sgLt (n e r : List UInt8) : Nat → Option Value := fun i => ([
  .string (txt n),
  .string (txt e),
  .string (txt r),
  .string (txt (ok n)),
  .string (txt (ok e)),
  .string (txt (ok r)),
  .string (txt (111 :: ok n)),
  .string (txt (key n [0])),
  .string (txt (key n [1])),
  .string (txt (key n [2])),
  .string (txt (key n [3])),
  .string (txt (key n (sf e 1 []))),
  .string (txt (key n (sf r 1 []))),
  .string (txt (key n (sf e 2 []))),
  .string (txt (key n (sC e))),
  .string (txt (key n (sf r 2 []))),
  .string (txt (key n (sC r))),
  .string (txt (key n (sf e 1 (dotk 1)))),
  .string (txt (key n (sf r 1 (dotk 2)))),
  .string (txt (key n (sf e 1 (dotk 3)))),
  .string (txt (key n (sf e 1 (dotk 2)))),
  .string (txt (bt 1 (w0Lt n e r))),
  .string (txt (fr (bt 1 (w0Lt n e r)))),
  .string (txt (bt 4 (w1Lt n e r))),
  .string (txt (fr (bt 4 (w1Lt n e r)))),
  .string (txt (bt 6 (w2Lt n e r))),
  .string (txt (fr (bt 6 (w2Lt n e r)))),
  .string (txt (bt 8 (w3Lt n e r))),
  .string (txt (fr (bt 8 (w3Lt n e r)))),
  .string (txt (bt 6 (w4Lt n e r))),
  .string (txt (fr (bt 6 (w4Lt n e r)))),
  .string (txt (ok n ++ sf e 1 (dotk 1))),
  .string (txt (ok n ++ sf r 1 (dotk 2))),
  .string (txt (ok n ++ sf e 1 (dotk 3))),
  .string (txt (ok n ++ sf e 1 (dotk 2))),
  .string (txt (tx [txt n])),
  .string (txt (1 :: tx [txt n])),
  .string (txt (sf e 1 (dotk 1))),
  .string (txt (sf r 1 (dotk 2))),
  .string (txt (sf e 1 (dotk 3))),
  .string (txt (sf e 1 (dotk 2))),
  .string (txt (esc e ++ 0 :: 1 :: (dotk 1))),
  .string (txt (esc r ++ 0 :: 1 :: (dotk 2))),
  .string (txt (esc e ++ 0 :: 1 :: (dotk 3))),
  .string (txt (esc e ++ 0 :: 1 :: (dotk 2))),
  .string ((txt (fr (bt 1 (w0Lt n e r))) ++ txt (fr (bt 4 (w1Lt n e r))))),
  .string (((txt (fr (bt 1 (w0Lt n e r))) ++ txt (fr (bt 4 (w1Lt n e r)))) ++ txt (fr (bt 6 (w2Lt n e r))))),
  .string ((((txt (fr (bt 1 (w0Lt n e r))) ++ txt (fr (bt 4 (w1Lt n e r)))) ++ txt (fr (bt 6 (w2Lt n e r)))) ++ txt (fr (bt 8 (w3Lt n e r))))),
  .string (((txt (fr (bt 1 (w0Lt n e r))) ++ txt (fr (bt 4 (w1Lt n e r)))) ++ txt (fr (bt 6 (w4Lt n e r))))),
  .string (txt (((1 :: tx [txt n]) ++ itm (txt e) (txt (dotk 1)) ⟨#[]⟩) ++ [7, 1, 0, 0, 0, 1, 1, 0, 1, 0])),
  .string (txt (((1 :: tx [txt n]) ++ itm (txt r) (txt (dotk 2)) ⟨#[]⟩) ++ [7, 1, 0, 0, 0, 1, 2, 0, 1, 0])),
  .string (txt (((1 :: tx [txt n]) ++ itm (txt e) (txt (dotk 3)) ⟨#[]⟩) ++ [7, 1, 0, 0, 0, 1, 3, 0, 1, 0])),
  .string (txt (((1 :: tx [txt n]) ++ [0]) ++ [7, 1, 0, 0, 0, 1, 4, 0, 7, 1, 0, 0, 0, 1, 1, 0])),
  .string (txt (((1 :: tx [txt n]) ++ [0]) ++ [7, 1, 0, 0, 0, 1, 3, 0, 7, 1, 0, 0, 0, 1, 1, 0])),
  .string (pm (((1 :: tx [txt n]) ++ itm (txt e) (txt (dotk 1)) ⟨#[]⟩) ++ [7, 1, 0, 0, 0, 1, 1, 0, 1, 0])),
  .string (pm (((1 :: tx [txt n]) ++ itm (txt r) (txt (dotk 2)) ⟨#[]⟩) ++ [7, 1, 0, 0, 0, 1, 2, 0, 1, 0])),
  .string (pm (((1 :: tx [txt n]) ++ itm (txt e) (txt (dotk 3)) ⟨#[]⟩) ++ [7, 1, 0, 0, 0, 1, 3, 0, 1, 0])),
  .string (pm (((1 :: tx [txt n]) ++ [0]) ++ [7, 1, 0, 0, 0, 1, 4, 0, 7, 1, 0, 0, 0, 1, 1, 0])),
  .string (pm (((1 :: tx [txt n]) ++ [0]) ++ [7, 1, 0, 0, 0, 1, 3, 0, 7, 1, 0, 0, 0, 1, 1, 0])),
  .string (txt ((1 :: tx [txt n]) ++ itm (txt e) (txt (dotk 1)) ⟨#[]⟩)),
  .string (txt ((1 :: tx [txt n]) ++ itm (txt r) (txt (dotk 2)) ⟨#[]⟩)),
  .string (txt ((1 :: tx [txt n]) ++ itm (txt e) (txt (dotk 3)) ⟨#[]⟩)),
  .string (txt ((1 :: tx [txt n]) ++ [0])),
  .bool false,
  .string (txt (itm (txt e) (txt (dotk 1)) ⟨#[]⟩)),
  .string (txt (itm (txt r) (txt (dotk 2)) ⟨#[]⟩)),
  .string (txt (itm (txt e) (txt (dotk 3)) ⟨#[]⟩)),
  .bool false,
  .bool false,
  .int .i64 (((txt (key n (sf e 1 []))).size - 1 : Nat)),
  .int .i64 (((txt (key n (sf r 1 []))).size - 1 : Nat)),
  .int .i64 ((0 : Int) + Int.ofNat (txt (fr (bt 1 (w0Lt n e r)))).size),
  .int .i64 ((0 : Int) + Int.ofNat (txt (fr (bt 1 (w0Lt n e r)))).size + Int.ofNat (txt (fr (bt 4 (w1Lt n e r)))).size),
  .int .i64 ((0 : Int) + Int.ofNat (txt (fr (bt 1 (w0Lt n e r)))).size + Int.ofNat (txt (fr (bt 4 (w1Lt n e r)))).size + Int.ofNat (txt (fr (bt 6 (w2Lt n e r)))).size),
  .int .i64 ((0 : Int) + Int.ofNat (txt (fr (bt 1 (w0Lt n e r)))).size + Int.ofNat (txt (fr (bt 4 (w1Lt n e r)))).size + Int.ofNat (txt (fr (bt 6 (w2Lt n e r)))).size + Int.ofNat (txt (fr (bt 8 (w3Lt n e r)))).size),
  .int .i64 ((0 : Int) + Int.ofNat (txt (fr (bt 1 (w0Lt n e r)))).size + Int.ofNat (txt (fr (bt 4 (w1Lt n e r)))).size + Int.ofNat (txt (fr (bt 6 (w4Lt n e r)))).size),
  .int .i64 (mLt100 n e r),
  .int .i64 (mLt101 n e r),
  .int .i64 (mLt102 n e r),
  .int .i64 (mLt103 n e r),
  .int .i64 (mLt104 n e r),
  .int .i64 (mLt105 n e r),
  .int .i64 (mLt106 n e r),
  .int .i64 (mLt107 n e r),
  .int .i64 (mLt108 n e r),
  .int .i64 (mLt109 n e r),
  .int .i64 (mLt110 n e r),
  .int .i64 (mLt111 n e r),
  .int .i64 (mLt112 n e r),
  .int .i64 (mLt113 n e r),
  .int .i64 (mLt114 n e r),
  .int .i64 (mLt115 n e r),
  .int .i64 (mLt116 n e r),
  .int .i64 (mLt117 n e r),
  .int .i64 (mLt118 n e r),
  .int .i64 (mLt119 n e r),
  .int .i64 (mLt120 n e r),
  .int .i64 (mLt121 n e r),
  .int .i64 (mLt122 n e r),
  .int .i64 (mLt123 n e r),
  .int .i64 (mLt124 n e r),
  .int .i64 (mLt125 n e r),
  .int .i64 (mLt126 n e r),
  .int .i64 (mLt200 n e r),
  .int .i64 (mLt201 n e r),
  .int .i64 (mLt202 n e r),
  .bool false,
  .bool false,
  .bool false] : List Value)[i]?
theorem sgLt_none (n e r : List UInt8) (i : Nat) (h : 109 ≤ i) : sgLt n e r i = none := by
  obtain ⟨k, rfl⟩ : ∃ k, i = k + 109 := ⟨i - 109, by omega⟩
  rfl
noncomputable def factsLt : List (BinOp × AV × AV × AV) := [(.eql, .symStr 7, .symStr 7, .bool true),
  (.lss, .symStr 7, .symStr 7, .bool false),
  (.eql, .symStr 7, .symStr 8, .bool false),
  (.lss, .symStr 7, .symStr 8, .bool true),
  (.lss, .symStr 7, .symStr 9, .bool true),
  (.lss, .symStr 7, .symStr 11, .bool true),
  (.eql, .symStr 7, .symStr 17, .bool false),
  (.lss, .symStr 7, .symStr 12, .bool true),
  (.eql, .symStr 8, .symStr 8, .bool true),
  (.lss, .symStr 8, .symStr 8, .bool false),
  (.lss, .symStr 8, .symStr 9, .bool true),
  (.lss, .symStr 8, .symStr 11, .bool true),
  (.eql, .symStr 8, .symStr 17, .bool false),
  (.eql, .symStr 8, .symStr 19, .bool false),
  (.lss, .symStr 8, .symStr 12, .bool true),
  (.eql, .symStr 8, .symStr 18, .bool false),
  (.eql, .symStr 9, .symStr 8, .bool false),
  (.eql, .symStr 9, .symStr 9, .bool true),
  (.lss, .symStr 9, .symStr 9, .bool false),
  (.lss, .symStr 9, .symStr 11, .bool true),
  (.lss, .symStr 9, .symStr 12, .bool true),
  (.eql, .symStr 17, .symStr 9, .bool false),
  (.lss, .symStr 17, .symStr 9, .bool false),
  (.lss, .symStr 17, .symStr 11, .bool false),
  (.geq, .symStr 17, .symStr 13, .bool false),
  (.lss, .symStr 17, .symStr 12, .bool true),
  (.eql, .symStr 19, .symStr 17, .bool false),
  (.geq, .symStr 19, .symStr 13, .bool false),
  (.lss, .symStr 19, .symStr 12, .bool true),
  (.geq, .symStr 18, .symStr 13, .bool true),
  (.lss, .symStr 18, .symStr 12, .bool false),
  (.geq, .symStr 18, .symStr 15, .bool false),
  (.gtr, .symLen 7, .int .i64 300, .bool false),
  (.gtr, .symLen 8, .int .i64 300, .bool false),
  (.gtr, .symLen 9, .int .i64 300, .bool false),
  (.eql, .symStr 11, .str [], .bool false),
  (.neq, .symStr 11, .str [], .bool true),
  (.leq, .symLen 17, .int .i64 1099511627776, .bool true),
  (.gtr, .symLen 17, .int .i64 300, .bool false),
  (.geq, .symLen 17, .int .i64 1, .bool true),
  (.leq, .symLen 19, .int .i64 1099511627776, .bool true),
  (.gtr, .symLen 19, .int .i64 300, .bool false),
  (.geq, .symLen 19, .int .i64 1, .bool true),
  (.eql, .symStr 13, .str [], .bool false),
  (.eql, .symStr 12, .str [], .bool false),
  (.neq, .symStr 12, .str [], .bool true),
  (.leq, .symLen 18, .int .i64 1099511627776, .bool true),
  (.gtr, .symLen 18, .int .i64 300, .bool false),
  (.geq, .symLen 18, .int .i64 1, .bool true),
  (.eql, .symStr 15, .str [], .bool false),
  (.lss, .symLen 0, .int .i64 1, .bool false),
  (.gtr, .symLen 0, .int .i64 40, .bool false),
  (.leq, .symLen 0, .int .i64 40, .bool true),
  (.neq, .symStr 0, .str [], .bool true),
  (.lss, .symLen 1, .int .i64 1, .bool false),
  (.gtr, .symLen 1, .int .i64 60, .bool false),
  (.leq, .symLen 1, .int .i64 60, .bool true),
  (.neq, .symStr 1, .str [], .bool true),
  (.lss, .symLen 2, .int .i64 1, .bool false),
  (.gtr, .symLen 2, .int .i64 60, .bool false),
  (.leq, .symLen 2, .int .i64 60, .bool true),
  (.neq, .symStr 2, .str [], .bool true),
  (.eql, .symStr 2, .symStr 1, .bool false),
  (.add, .str [111], .symStr 3, .symStr 6),
  (.add, .symStr 6, .str [0], .symStr 7),
  (.add, .symStr 6, .str [1], .symStr 8),
  (.add, .symStr 6, .str [2], .symStr 9),
  (.add, .symStr 6, .str [3], .symStr 10),
  (.add, .symStr 10, .symStr 4, .symStr 11),
  (.add, .symStr 10, .symStr 5, .symStr 12),
  (.add, .symStr 11, .str [0, 0, 0, 1, 0, 0, 0, 0, 0, 0, 0, 1], .symStr 17),
  (.add, .symStr 11, .str [0, 0, 0, 1, 0, 0, 0, 0, 0, 0, 0, 3], .symStr 19),
  (.add, .symStr 12, .str [0, 0, 0, 1, 0, 0, 0, 0, 0, 0, 0, 2], .symStr 18),
  (.sub, .symLen 11, .int .i64 1, .symInt .i64 69),
  (.add, .symStr 14, .str [2], .symStr 13),
  (.sub, .symLen 12, .int .i64 1, .symInt .i64 70),
  (.add, .symStr 16, .str [2], .symStr 15),
  (.add, .str [1], .symStr 35, .symStr 36),
  (.add, .symStr 36, .symStr 64, .symStr 59),
  (.add, .symStr 59, .str [7, 1, 0, 0, 0, 1, 1, 0, 1, 0], .symStr 49),
  (.add, .symStr 36, .symStr 65, .symStr 60),
  (.add, .symStr 60, .str [7, 1, 0, 0, 0, 1, 2, 0, 1, 0], .symStr 50),
  (.add, .symStr 36, .symStr 66, .symStr 61),
  (.add, .symStr 61, .str [7, 1, 0, 0, 0, 1, 3, 0, 1, 0], .symStr 51),
  (.add, .symStr 36, .str [0], .symStr 62),
  (.add, .symStr 62, .str [7, 1, 0, 0, 0, 1, 4, 0, 7, 1, 0, 0, 0, 1, 1, 0], .symStr 52),
  (.add, .symStr 62, .str [7, 1, 0, 0, 0, 1, 3, 0, 7, 1, 0, 0, 0, 1, 1, 0], .symStr 53),
  (.add, .str [], .symStr 22, .symStr 22),
  (.add, .int .i64 0, .symLen 22, .symInt .i64 71),
  (.add, .int .i64 0, .symLen 7, .symInt .i64 76),
  (.add, .symInt .i64 76, .int .i64 1, .symInt .i64 77),
  (.add, .symInt .i64 77, .int .i64 16, .symInt .i64 78),
  (.add, .symInt .i64 78, .symLen 8, .symInt .i64 79),
  (.add, .symInt .i64 79, .int .i64 7, .symInt .i64 80),
  (.add, .symInt .i64 80, .int .i64 16, .symInt .i64 81),
  (.add, .symInt .i64 81, .symLen 17, .symInt .i64 82),
  (.add, .symInt .i64 82, .int .i64 0, .symInt .i64 83),
  (.add, .symInt .i64 83, .int .i64 16, .symInt .i64 84),
  (.gtr, .symInt .i64 84, .int .i64 2000, .bool false),
  (.add, .symStr 22, .symStr 24, .symStr 45),
  (.add, .symInt .i64 71, .symLen 24, .symInt .i64 72),
  (.add, .symInt .i64 84, .symLen 8, .symInt .i64 85),
  (.add, .symInt .i64 85, .int .i64 7, .symInt .i64 86),
  (.add, .symInt .i64 86, .int .i64 16, .symInt .i64 87),
  (.add, .symInt .i64 87, .symLen 18, .symInt .i64 88),
  (.add, .symInt .i64 88, .int .i64 0, .symInt .i64 89),
  (.add, .symInt .i64 89, .int .i64 16, .symInt .i64 90),
  (.gtr, .symInt .i64 90, .int .i64 2000, .bool false),
  (.add, .symStr 45, .symStr 26, .symStr 46),
  (.add, .symInt .i64 72, .symLen 26, .symInt .i64 73),
  (.add, .symInt .i64 90, .symLen 8, .symInt .i64 91),
  (.add, .symInt .i64 91, .int .i64 7, .symInt .i64 92),
  (.add, .symInt .i64 92, .int .i64 16, .symInt .i64 93),
  (.add, .symInt .i64 93, .symLen 19, .symInt .i64 94),
  (.add, .symInt .i64 94, .int .i64 0, .symInt .i64 95),
  (.add, .symInt .i64 95, .int .i64 16, .symInt .i64 96),
  (.gtr, .symInt .i64 96, .int .i64 2000, .bool false),
  (.add, .symStr 46, .symStr 28, .symStr 47),
  (.add, .symInt .i64 73, .symLen 28, .symInt .i64 74),
  (.add, .symInt .i64 96, .symLen 8, .symInt .i64 97),
  (.add, .symInt .i64 97, .int .i64 7, .symInt .i64 98),
  (.add, .symInt .i64 98, .int .i64 16, .symInt .i64 99),
  (.add, .symInt .i64 99, .symLen 9, .symInt .i64 100),
  (.add, .symInt .i64 100, .int .i64 7, .symInt .i64 101),
  (.add, .symInt .i64 101, .int .i64 16, .symInt .i64 102),
  (.gtr, .symInt .i64 102, .int .i64 2000, .bool false),
  (.add, .symStr 45, .symStr 30, .symStr 48),
  (.add, .symInt .i64 72, .symLen 30, .symInt .i64 75),
  (.add, .symInt .i64 93, .symLen 9, .symInt .i64 103),
  (.add, .symInt .i64 103, .int .i64 7, .symInt .i64 104),
  (.add, .symInt .i64 104, .int .i64 16, .symInt .i64 105),
  (.gtr, .symInt .i64 105, .int .i64 2000, .bool false),
  (.eql, .symStr 37, .str [], .bool false),
  (.eql, .symStr 38, .str [], .bool false),
  (.eql, .symStr 39, .str [], .bool false)]
noncomputable def ofactsLt : List ((Nat × Nat × Nat) × List AV × AV) := [((5, 9, 0), [.symStr 11, .symInt .i64 69], .int .u8 1),
  ((6, 9, 2), [.symStr 11, .symInt .i64 69], .symStr 14),
  ((5, 9, 0), [.symStr 12, .symInt .i64 70], .int .u8 1),
  ((6, 9, 2), [.symStr 12, .symInt .i64 70], .symStr 16),
  ((6, 9, 2), [.symStr 17, .int .i64 1], .str [111]),
  ((6, 9, 1), [.symStr 17, .int .i64 1], .symStr 31),
  ((5, 9, 0), [.symStr 37, .int .i64 0], .int .u8 3),
  ((6, 9, 1), [.symStr 37, .int .i64 1], .symStr 41),
  ((6, 9, 2), [.symStr 18, .int .i64 1], .str [111]),
  ((6, 9, 1), [.symStr 18, .int .i64 1], .symStr 32),
  ((5, 9, 0), [.symStr 38, .int .i64 0], .int .u8 3),
  ((6, 9, 1), [.symStr 38, .int .i64 1], .symStr 42),
  ((6, 9, 2), [.symStr 19, .int .i64 1], .str [111]),
  ((6, 9, 1), [.symStr 19, .int .i64 1], .symStr 33),
  ((5, 9, 0), [.symStr 39, .int .i64 0], .int .u8 3),
  ((6, 9, 1), [.symStr 39, .int .i64 1], .symStr 43),
  ((12, 0, 0), [.symInt .i64 78, .int .i64 4611686018427387904], .symInt .i64 78),
  ((12, 0, 0), [.symInt .i64 81, .int .i64 4611686018427387904], .symInt .i64 81),
  ((12, 0, 0), [.symInt .i64 84, .int .i64 4611686018427387904], .symInt .i64 84),
  ((12, 0, 0), [.symInt .i64 87, .int .i64 4611686018427387904], .symInt .i64 87),
  ((12, 0, 0), [.symInt .i64 90, .int .i64 4611686018427387904], .symInt .i64 90),
  ((12, 0, 0), [.symInt .i64 93, .int .i64 4611686018427387904], .symInt .i64 93),
  ((12, 0, 0), [.symInt .i64 96, .int .i64 4611686018427387904], .symInt .i64 96),
  ((12, 0, 0), [.symInt .i64 99, .int .i64 4611686018427387904], .symInt .i64 99),
  ((12, 0, 0), [.symInt .i64 102, .int .i64 4611686018427387904], .symInt .i64 102),
  ((12, 0, 0), [.symInt .i64 105, .int .i64 4611686018427387904], .symInt .i64 105)]
noncomputable def CLt (cs : List (FuncId × Con)) (σ0 : Nat → Option Value) : Ctx := withAll (ctx cs []) factsLt ofactsLt σ0 fun _ _ => none
abbrev FLt (cs : List (FuncId × Con)) (n e r : List UInt8) (f : BinOp × AV × AV × AV) : Prop := FactOK Tryz.prog (CLt cs (sgLt n e r)) f
abbrev OLt (cs : List (FuncId × Con)) (n e r : List UInt8) (f : (Nat × Nat × Nat) × List AV × AV) : Prop := OFactOK Tryz.prog (CLt cs (sgLt n e r)) f
section
variable {cs : List (FuncId × Con)} {n e r : List UInt8}
theorem fLt0 : FLt cs n e r (.eql, .symStr 7, .symStr 7, .bool true) := fact_eqs rfl rfl (by simp)
theorem fLt1 : FLt cs n e r (.lss, .symStr 7, .symStr 7, .bool false) := fact_lssS rfl rfl (ltL_irr _)
theorem fLt2 : FLt cs n e r (.eql, .symStr 7, .symStr 8, .bool false) := fact_eqs rfl rfl (decide_eq_false (ne_txt (key_lt n (rfl : ltL [0] [1] = true)))).symm
theorem fLt3 : FLt cs n e r (.lss, .symStr 7, .symStr 8, .bool true) := fact_lssS rfl rfl (key_lt n (rfl : ltL [0] [1] = true))
theorem fLt4 : FLt cs n e r (.lss, .symStr 7, .symStr 9, .bool true) := fact_lssS rfl rfl (key_lt n (rfl : ltL [0] [2] = true))
theorem fLt5 : FLt cs n e r (.lss, .symStr 7, .symStr 11, .bool true) := fact_lssS rfl rfl (key_lt n (rfl : ltL [0] (sf e 1 []) = true))
theorem fLt6 : FLt cs n e r (.eql, .symStr 7, .symStr 17, .bool false) := fact_eqs rfl rfl (decide_eq_false (ne_txt (key_lt n (rfl : ltL [0] (sf e 1 (dotk 1)) = true)))).symm
theorem fLt7 : FLt cs n e r (.lss, .symStr 7, .symStr 12, .bool true) := fact_lssS rfl rfl (key_lt n (rfl : ltL [0] (sf r 1 []) = true))
theorem fLt8 : FLt cs n e r (.eql, .symStr 8, .symStr 8, .bool true) := fact_eqs rfl rfl (by simp)
theorem fLt9 : FLt cs n e r (.lss, .symStr 8, .symStr 8, .bool false) := fact_lssS rfl rfl (ltL_irr _)
theorem fLt10 : FLt cs n e r (.lss, .symStr 8, .symStr 9, .bool true) := fact_lssS rfl rfl (key_lt n (rfl : ltL [1] [2] = true))
theorem fLt11 : FLt cs n e r (.lss, .symStr 8, .symStr 11, .bool true) := fact_lssS rfl rfl (key_lt n (rfl : ltL [1] (sf e 1 []) = true))
theorem fLt12 : FLt cs n e r (.eql, .symStr 8, .symStr 17, .bool false) := fact_eqs rfl rfl (decide_eq_false (ne_txt (key_lt n (rfl : ltL [1] (sf e 1 (dotk 1)) = true)))).symm
theorem fLt13 : FLt cs n e r (.eql, .symStr 8, .symStr 19, .bool false) := fact_eqs rfl rfl (decide_eq_false (ne_txt (key_lt n (rfl : ltL [1] (sf e 1 (dotk 3)) = true)))).symm
theorem fLt14 : FLt cs n e r (.lss, .symStr 8, .symStr 12, .bool true) := fact_lssS rfl rfl (key_lt n (rfl : ltL [1] (sf r 1 []) = true))
theorem fLt15 : FLt cs n e r (.eql, .symStr 8, .symStr 18, .bool false) := fact_eqs rfl rfl (decide_eq_false (ne_txt (key_lt n (rfl : ltL [1] (sf r 1 (dotk 2)) = true)))).symm
theorem fLt16 : FLt cs n e r (.eql, .symStr 9, .symStr 8, .bool false) := fact_eqs rfl rfl (decide_eq_false (ne_txt' (key_lt n (rfl : ltL [1] [2] = true)))).symm
theorem fLt17 : FLt cs n e r (.eql, .symStr 9, .symStr 9, .bool true) := fact_eqs rfl rfl (by simp)
theorem fLt18 : FLt cs n e r (.lss, .symStr 9, .symStr 9, .bool false) := fact_lssS rfl rfl (ltL_irr _)
theorem fLt19 : FLt cs n e r (.lss, .symStr 9, .symStr 11, .bool true) := fact_lssS rfl rfl (key_lt n (rfl : ltL [2] (sf e 1 []) = true))
theorem fLt20 : FLt cs n e r (.lss, .symStr 9, .symStr 12, .bool true) := fact_lssS rfl rfl (key_lt n (rfl : ltL [2] (sf r 1 []) = true))
theorem fLt21 : FLt cs n e r (.eql, .symStr 17, .symStr 9, .bool false) := fact_eqs rfl rfl (decide_eq_false (ne_txt' (key_lt n (rfl : ltL [2] (sf e 1 (dotk 1)) = true)))).symm
theorem fLt22 : FLt cs n e r (.lss, .symStr 17, .symStr 9, .bool false) := fact_lssS rfl rfl (ltL_asym (key_lt n (rfl : ltL [2] (sf e 1 (dotk 1)) = true)))
theorem fLt23 : FLt cs n e r (.lss, .symStr 17, .symStr 11, .bool false) := fact_lssS rfl rfl (ltL_asym (key_lt n (sf_lt e rfl)))
theorem fLt24 : FLt cs n e r (.geq, .symStr 17, .symStr 13, .bool false) := fact_geqS rfl rfl (key_lt n (sf_lt e rfl))
theorem fLt25 (h : ltL e r = true) : FLt cs n e r (.lss, .symStr 17, .symStr 12, .bool true) := fact_lssS rfl rfl (key_lt n (sf_lt2 1 1 (dotk 1) [] (by decide) h))
theorem fLt26 : FLt cs n e r (.eql, .symStr 19, .symStr 17, .bool false) := fact_eqs rfl rfl (decide_eq_false (ne_txt' (key_lt n (sf_lt e rfl)))).symm
theorem fLt27 : FLt cs n e r (.geq, .symStr 19, .symStr 13, .bool false) := fact_geqS rfl rfl (key_lt n (sf_lt e rfl))
theorem fLt28 (h : ltL e r = true) : FLt cs n e r (.lss, .symStr 19, .symStr 12, .bool true) := fact_lssS rfl rfl (key_lt n (sf_lt2 1 1 (dotk 3) [] (by decide) h))
theorem fLt29 (h : ltL e r = true) : FLt cs n e r (.geq, .symStr 18, .symStr 13, .bool true) := fact_geqS rfl rfl (ltL_asym (key_lt n (sf_lt2 2 1 [] (dotk 2) (by decide) h)))
theorem fLt30 : FLt cs n e r (.lss, .symStr 18, .symStr 12, .bool false) := fact_lssS rfl rfl (ltL_asym (key_lt n (sf_lt r rfl)))
theorem fLt31 : FLt cs n e r (.geq, .symStr 18, .symStr 15, .bool false) := fact_geqS rfl rfl (key_lt n (sf_lt r rfl))
theorem fLt32 (hs : Sc n e r) : FLt cs n e r (.gtr, .symLen 7, .int .i64 300, .bool false) := fact_gtr rfl rfl (dgt (z30 hs).2 (by decide))
theorem fLt33 (hs : Sc n e r) : FLt cs n e r (.gtr, .symLen 8, .int .i64 300, .bool false) := fact_gtr rfl rfl (dgt (z31 hs).2 (by decide))
theorem fLt34 (hs : Sc n e r) : FLt cs n e r (.gtr, .symLen 9, .int .i64 300, .bool false) := fact_gtr rfl rfl (dgt (z32 hs).2 (by decide))
theorem fLt35 (hs : Sc n e r) : FLt cs n e r (.eql, .symStr 11, .str [], .bool false) := fact_eqs rfl rfl (decide_eq_false (ne_empty (by have := z50 hs; omega))).symm
theorem fLt36 (hs : Sc n e r) : FLt cs n e r (.neq, .symStr 11, .str [], .bool true) := fact_nes rfl rfl (decide_eq_true (ne_empty (by have := z50 hs; omega))).symm
theorem fLt37 (hs : Sc n e r) : FLt cs n e r (.leq, .symLen 17, .int .i64 1099511627776, .bool true) := fact_leq rfl rfl (dle (z60 hs).2 (by decide))
theorem fLt38 (hs : Sc n e r) : FLt cs n e r (.gtr, .symLen 17, .int .i64 300, .bool false) := fact_gtr rfl rfl (dgt (z60 hs).2 (by decide))
theorem fLt39 (hs : Sc n e r) : FLt cs n e r (.geq, .symLen 17, .int .i64 1, .bool true) := fact_geq rfl rfl (dge (z60 hs).1 (by decide))
theorem fLt40 (hs : Sc n e r) : FLt cs n e r (.leq, .symLen 19, .int .i64 1099511627776, .bool true) := fact_leq rfl rfl (dle (z62 hs).2 (by decide))
theorem fLt41 (hs : Sc n e r) : FLt cs n e r (.gtr, .symLen 19, .int .i64 300, .bool false) := fact_gtr rfl rfl (dgt (z62 hs).2 (by decide))
theorem fLt42 (hs : Sc n e r) : FLt cs n e r (.geq, .symLen 19, .int .i64 1, .bool true) := fact_geq rfl rfl (dge (z62 hs).1 (by decide))
theorem fLt43 (hs : Sc n e r) : FLt cs n e r (.eql, .symStr 13, .str [], .bool false) := fact_eqs rfl rfl (decide_eq_false (ne_empty (by have := z52 hs; omega))).symm
theorem fLt44 (hs : Sc n e r) : FLt cs n e r (.eql, .symStr 12, .str [], .bool false) := fact_eqs rfl rfl (decide_eq_false (ne_empty (by have := z51 hs; omega))).symm
theorem fLt45 (hs : Sc n e r) : FLt cs n e r (.neq, .symStr 12, .str [], .bool true) := fact_nes rfl rfl (decide_eq_true (ne_empty (by have := z51 hs; omega))).symm
theorem fLt46 (hs : Sc n e r) : FLt cs n e r (.leq, .symLen 18, .int .i64 1099511627776, .bool true) := fact_leq rfl rfl (dle (z61 hs).2 (by decide))
theorem fLt47 (hs : Sc n e r) : FLt cs n e r (.gtr, .symLen 18, .int .i64 300, .bool false) := fact_gtr rfl rfl (dgt (z61 hs).2 (by decide))
theorem fLt48 (hs : Sc n e r) : FLt cs n e r (.geq, .symLen 18, .int .i64 1, .bool true) := fact_geq rfl rfl (dge (z61 hs).1 (by decide))
theorem fLt49 (hs : Sc n e r) : FLt cs n e r (.eql, .symStr 15, .str [], .bool false) := fact_eqs rfl rfl (decide_eq_false (ne_empty (by have := z54 hs; omega))).symm
theorem fLt50 (hs : Sc n e r) : FLt cs n e r (.lss, .symLen 0, .int .i64 1, .bool false) := fact_lss rfl rfl (dlt (z0 hs).1 (by decide))
theorem fLt51 (hs : Sc n e r) : FLt cs n e r (.gtr, .symLen 0, .int .i64 40, .bool false) := fact_gtr rfl rfl (dgt (z0 hs).2 (by decide))
theorem fLt52 (hs : Sc n e r) : FLt cs n e r (.leq, .symLen 0, .int .i64 40, .bool true) := fact_leq rfl rfl (dle (z0 hs).2 (by decide))
theorem fLt53 (hs : Sc n e r) : FLt cs n e r (.neq, .symStr 0, .str [], .bool true) := fact_nes rfl rfl (decide_eq_true (ne_empty (by have := z0 hs; omega))).symm
theorem fLt54 (hs : Sc n e r) : FLt cs n e r (.lss, .symLen 1, .int .i64 1, .bool false) := fact_lss rfl rfl (dlt (z1 hs).1 (by decide))
theorem fLt55 (hs : Sc n e r) : FLt cs n e r (.gtr, .symLen 1, .int .i64 60, .bool false) := fact_gtr rfl rfl (dgt (z1 hs).2 (by decide))
theorem fLt56 (hs : Sc n e r) : FLt cs n e r (.leq, .symLen 1, .int .i64 60, .bool true) := fact_leq rfl rfl (dle (z1 hs).2 (by decide))
theorem fLt57 (hs : Sc n e r) : FLt cs n e r (.neq, .symStr 1, .str [], .bool true) := fact_nes rfl rfl (decide_eq_true (ne_empty (by have := z1 hs; omega))).symm
theorem fLt58 (hs : Sc n e r) : FLt cs n e r (.lss, .symLen 2, .int .i64 1, .bool false) := fact_lss rfl rfl (dlt (z2 hs).1 (by decide))
theorem fLt59 (hs : Sc n e r) : FLt cs n e r (.gtr, .symLen 2, .int .i64 60, .bool false) := fact_gtr rfl rfl (dgt (z2 hs).2 (by decide))
theorem fLt60 (hs : Sc n e r) : FLt cs n e r (.leq, .symLen 2, .int .i64 60, .bool true) := fact_leq rfl rfl (dle (z2 hs).2 (by decide))
theorem fLt61 (hs : Sc n e r) : FLt cs n e r (.neq, .symStr 2, .str [], .bool true) := fact_nes rfl rfl (decide_eq_true (ne_empty (by have := z2 hs; omega))).symm
theorem fLt62 (h : ltL e r = true) : FLt cs n e r (.eql, .symStr 2, .symStr 1, .bool false) := fact_eqs rfl rfl (decide_eq_false (ne_txt' h)).symm
theorem fLt63 (hs : Sc n e r) : FLt cs n e r (.add, .str [111], .symStr 3, .symStr 6) := fact_cat rfl rfl rfl (txt_append [111] _) (by have := z10 hs; have := szn [111] 1 rfl; omega)
theorem fLt64 (hs : Sc n e r) : FLt cs n e r (.add, .symStr 6, .str [0], .symStr 7) := fact_cat rfl rfl rfl (txt_append (111 :: ok n) [0]) (by have := z20 hs; have := szn [0] 1 rfl; omega)
theorem fLt65 (hs : Sc n e r) : FLt cs n e r (.add, .symStr 6, .str [1], .symStr 8) := fact_cat rfl rfl rfl (txt_append (111 :: ok n) [1]) (by have := z20 hs; have := szn [1] 1 rfl; omega)
theorem fLt66 (hs : Sc n e r) : FLt cs n e r (.add, .symStr 6, .str [2], .symStr 9) := fact_cat rfl rfl rfl (txt_append (111 :: ok n) [2]) (by have := z20 hs; have := szn [2] 1 rfl; omega)
theorem fLt67 (hs : Sc n e r) : FLt cs n e r (.add, .symStr 6, .str [3], .symStr 10) := fact_cat rfl rfl rfl (txt_append (111 :: ok n) [3]) (by have := z20 hs; have := szn [3] 1 rfl; omega)
theorem fLt68 (hs : Sc n e r) : FLt cs n e r (.add, .symStr 10, .symStr 4, .symStr 11) := fact_cat rfl rfl rfl (key_cat n [3] _) (by have := z33 hs; have := z11 hs; omega)
theorem fLt69 (hs : Sc n e r) : FLt cs n e r (.add, .symStr 10, .symStr 5, .symStr 12) := fact_cat rfl rfl rfl (key_cat n [3] _) (by have := z33 hs; have := z12 hs; omega)
theorem fLt70 (hs : Sc n e r) : FLt cs n e r (.add, .symStr 11, .str [0, 0, 0, 1, 0, 0, 0, 0, 0, 0, 0, 1], .symStr 17) := fact_cat rfl rfl rfl (sf_cat n e 1 [] (dotk 1)) (by have := z50 hs; have := szn [0, 0, 0, 1, 0, 0, 0, 0, 0, 0, 0, 1] 12 rfl; omega)
theorem fLt71 (hs : Sc n e r) : FLt cs n e r (.add, .symStr 11, .str [0, 0, 0, 1, 0, 0, 0, 0, 0, 0, 0, 3], .symStr 19) := fact_cat rfl rfl rfl (sf_cat n e 1 [] (dotk 3)) (by have := z50 hs; have := szn [0, 0, 0, 1, 0, 0, 0, 0, 0, 0, 0, 3] 12 rfl; omega)
theorem fLt72 (hs : Sc n e r) : FLt cs n e r (.add, .symStr 12, .str [0, 0, 0, 1, 0, 0, 0, 0, 0, 0, 0, 2], .symStr 18) := fact_cat rfl rfl rfl (sf_cat n r 1 [] (dotk 2)) (by have := z51 hs; have := szn [0, 0, 0, 1, 0, 0, 0, 0, 0, 0, 0, 2] 12 rfl; omega)
theorem fLt73 (hs : Sc n e r) : FLt cs n e r (.sub, .symLen 11, .int .i64 1, .symInt .i64 69) := fact_sub (k := .i64) rfl rfl rfl (by have := z50 hs; simp only [Int.ofNat_eq_natCast]; rw [wrap_small (by omega) (by omega)]; omega)
theorem fLt74 (hs : Sc n e r) : FLt cs n e r (.add, .symStr 14, .str [2], .symStr 13) := fact_cat rfl rfl rfl (sC_cat n e 2) (by have := z53 hs; have := szn [2] 1 rfl; omega)
theorem fLt75 (hs : Sc n e r) : FLt cs n e r (.sub, .symLen 12, .int .i64 1, .symInt .i64 70) := fact_sub (k := .i64) rfl rfl rfl (by have := z51 hs; simp only [Int.ofNat_eq_natCast]; rw [wrap_small (by omega) (by omega)]; omega)
theorem fLt76 (hs : Sc n e r) : FLt cs n e r (.add, .symStr 16, .str [2], .symStr 15) := fact_cat rfl rfl rfl (sC_cat n r 2) (by have := z55 hs; have := szn [2] 1 rfl; omega)
theorem fLt77 (hs : Sc n e r) : FLt cs n e r (.add, .str [1], .symStr 35, .symStr 36) := fact_cat rfl rfl rfl (txt_append [1] _) (by have := z104 hs; have := szn [1] 1 rfl; omega)
theorem fLt78 (hs : Sc n e r) : FLt cs n e r (.add, .symStr 36, .symStr 64, .symStr 59) := fact_cat rfl rfl rfl (txt_append _ _) (by have := z105 hs; have := zLt155 hs; omega)
theorem fLt79 (hs : Sc n e r) : FLt cs n e r (.add, .symStr 59, .str [7, 1, 0, 0, 0, 1, 1, 0, 1, 0], .symStr 49) := fact_cat rfl rfl rfl (txt_append _ _) (by have := zLt150 hs; have := szn [7, 1, 0, 0, 0, 1, 1, 0, 1, 0] 10 rfl; omega)
theorem fLt80 (hs : Sc n e r) : FLt cs n e r (.add, .symStr 36, .symStr 65, .symStr 60) := fact_cat rfl rfl rfl (txt_append _ _) (by have := z105 hs; have := zLt156 hs; omega)
theorem fLt81 (hs : Sc n e r) : FLt cs n e r (.add, .symStr 60, .str [7, 1, 0, 0, 0, 1, 2, 0, 1, 0], .symStr 50) := fact_cat rfl rfl rfl (txt_append _ _) (by have := zLt151 hs; have := szn [7, 1, 0, 0, 0, 1, 2, 0, 1, 0] 10 rfl; omega)
theorem fLt82 (hs : Sc n e r) : FLt cs n e r (.add, .symStr 36, .symStr 66, .symStr 61) := fact_cat rfl rfl rfl (txt_append _ _) (by have := z105 hs; have := zLt157 hs; omega)
theorem fLt83 (hs : Sc n e r) : FLt cs n e r (.add, .symStr 61, .str [7, 1, 0, 0, 0, 1, 3, 0, 1, 0], .symStr 51) := fact_cat rfl rfl rfl (txt_append _ _) (by have := zLt152 hs; have := szn [7, 1, 0, 0, 0, 1, 3, 0, 1, 0] 10 rfl; omega)
theorem fLt84 (hs : Sc n e r) : FLt cs n e r (.add, .symStr 36, .str [0], .symStr 62) := fact_cat rfl rfl rfl (txt_append _ _) (by have := z105 hs; have := szn [0] 1 rfl; omega)
theorem fLt85 (hs : Sc n e r) : FLt cs n e r (.add, .symStr 62, .str [7, 1, 0, 0, 0, 1, 4, 0, 7, 1, 0, 0, 0, 1, 1, 0], .symStr 52) := fact_cat rfl rfl rfl (txt_append _ _) (by have := zLt153 hs; have := szn [7, 1, 0, 0, 0, 1, 4, 0, 7, 1, 0, 0, 0, 1, 1, 0] 16 rfl; omega)
theorem fLt86 (hs : Sc n e r) : FLt cs n e r (.add, .symStr 62, .str [7, 1, 0, 0, 0, 1, 3, 0, 7, 1, 0, 0, 0, 1, 1, 0], .symStr 53) := fact_cat rfl rfl rfl (txt_append _ _) (by have := zLt153 hs; have := szn [7, 1, 0, 0, 0, 1, 3, 0, 7, 1, 0, 0, 0, 1, 1, 0] 16 rfl; omega)
theorem fLt87 (hs : Sc n e r) : FLt cs n e r (.add, .str [], .symStr 22, .symStr 22) := fact_cat rfl rfl rfl (nil_cat _) (by have := zLt91 hs; have := szn [] 0 rfl; omega)
theorem fLt88 (hs : Sc n e r) : FLt cs n e r (.add, .int .i64 0, .symLen 22, .symInt .i64 71) := fact_add (k := .i64) rfl rfl rfl (wrap_small (by simp only [Int.ofNat_eq_natCast]; omega) (by simp only [Int.ofNat_eq_natCast]; have := zLt91 hs; have := zLt93 hs; have := zLt95 hs; have := zLt97 hs; have := zLt99 hs; omega))
theorem fLt89 (hs : Sc n e r) : FLt cs n e r (.add, .int .i64 0, .symLen 7, .symInt .i64 76) := fact_add (k := .i64) rfl rfl rfl (wrap_small (bLt100 hs).1 (Int.le_trans (bLt100 hs).2 (by decide)))
theorem fLt90 (hs : Sc n e r) : FLt cs n e r (.add, .symInt .i64 76, .int .i64 1, .symInt .i64 77) := fact_add (k := .i64) rfl rfl rfl (wrap_small (bLt101 hs).1 (Int.le_trans (bLt101 hs).2 (by decide)))
theorem fLt91 (hs : Sc n e r) : FLt cs n e r (.add, .symInt .i64 77, .int .i64 16, .symInt .i64 78) := fact_add (k := .i64) rfl rfl rfl (wrap_small (bLt102 hs).1 (Int.le_trans (bLt102 hs).2 (by decide)))
theorem fLt92 (hs : Sc n e r) : FLt cs n e r (.add, .symInt .i64 78, .symLen 8, .symInt .i64 79) := fact_add (k := .i64) rfl rfl rfl (wrap_small (bLt103 hs).1 (Int.le_trans (bLt103 hs).2 (by decide)))
theorem fLt93 (hs : Sc n e r) : FLt cs n e r (.add, .symInt .i64 79, .int .i64 7, .symInt .i64 80) := fact_add (k := .i64) rfl rfl rfl (wrap_small (bLt104 hs).1 (Int.le_trans (bLt104 hs).2 (by decide)))
theorem fLt94 (hs : Sc n e r) : FLt cs n e r (.add, .symInt .i64 80, .int .i64 16, .symInt .i64 81) := fact_add (k := .i64) rfl rfl rfl (wrap_small (bLt105 hs).1 (Int.le_trans (bLt105 hs).2 (by decide)))
theorem fLt95 (hs : Sc n e r) : FLt cs n e r (.add, .symInt .i64 81, .symLen 17, .symInt .i64 82) := fact_add (k := .i64) rfl rfl rfl (wrap_small (bLt106 hs).1 (Int.le_trans (bLt106 hs).2 (by decide)))
theorem fLt96 (hs : Sc n e r) : FLt cs n e r (.add, .symInt .i64 82, .int .i64 0, .symInt .i64 83) := fact_add (k := .i64) rfl rfl rfl (wrap_small (bLt107 hs).1 (Int.le_trans (bLt107 hs).2 (by decide)))
theorem fLt97 (hs : Sc n e r) : FLt cs n e r (.add, .symInt .i64 83, .int .i64 16, .symInt .i64 84) := fact_add (k := .i64) rfl rfl rfl (wrap_small (bLt108 hs).1 (Int.le_trans (bLt108 hs).2 (by decide)))
theorem fLt98 (hs : Sc n e r) : FLt cs n e r (.gtr, .symInt .i64 84, .int .i64 2000, .bool false) := fact_gtr rfl rfl (by refine (decide_eq_false ?_).symm; (try simp only [Int.ofNat_eq_natCast]); have := bLt108 hs; omega)
theorem fLt99 (hs : Sc n e r) : FLt cs n e r (.add, .symStr 22, .symStr 24, .symStr 45) := fact_cat rfl rfl rfl (rfl) (by have := zLt91 hs; have := zLt93 hs; omega)
theorem fLt100 (hs : Sc n e r) : FLt cs n e r (.add, .symInt .i64 71, .symLen 24, .symInt .i64 72) := fact_add (k := .i64) rfl rfl rfl (wrap_small (by simp only [Int.ofNat_eq_natCast]; omega) (by simp only [Int.ofNat_eq_natCast]; have := zLt91 hs; have := zLt93 hs; have := zLt95 hs; have := zLt97 hs; have := zLt99 hs; omega))
theorem fLt101 (hs : Sc n e r) : FLt cs n e r (.add, .symInt .i64 84, .symLen 8, .symInt .i64 85) := fact_add (k := .i64) rfl rfl rfl (wrap_small (bLt109 hs).1 (Int.le_trans (bLt109 hs).2 (by decide)))
theorem fLt102 (hs : Sc n e r) : FLt cs n e r (.add, .symInt .i64 85, .int .i64 7, .symInt .i64 86) := fact_add (k := .i64) rfl rfl rfl (wrap_small (bLt110 hs).1 (Int.le_trans (bLt110 hs).2 (by decide)))
theorem fLt103 (hs : Sc n e r) : FLt cs n e r (.add, .symInt .i64 86, .int .i64 16, .symInt .i64 87) := fact_add (k := .i64) rfl rfl rfl (wrap_small (bLt111 hs).1 (Int.le_trans (bLt111 hs).2 (by decide)))
theorem fLt104 (hs : Sc n e r) : FLt cs n e r (.add, .symInt .i64 87, .symLen 18, .symInt .i64 88) := fact_add (k := .i64) rfl rfl rfl (wrap_small (bLt112 hs).1 (Int.le_trans (bLt112 hs).2 (by decide)))
theorem fLt105 (hs : Sc n e r) : FLt cs n e r (.add, .symInt .i64 88, .int .i64 0, .symInt .i64 89) := fact_add (k := .i64) rfl rfl rfl (wrap_small (bLt113 hs).1 (Int.le_trans (bLt113 hs).2 (by decide)))
theorem fLt106 (hs : Sc n e r) : FLt cs n e r (.add, .symInt .i64 89, .int .i64 16, .symInt .i64 90) := fact_add (k := .i64) rfl rfl rfl (wrap_small (bLt114 hs).1 (Int.le_trans (bLt114 hs).2 (by decide)))
theorem fLt107 (hs : Sc n e r) : FLt cs n e r (.gtr, .symInt .i64 90, .int .i64 2000, .bool false) := fact_gtr rfl rfl (by refine (decide_eq_false ?_).symm; (try simp only [Int.ofNat_eq_natCast]); have := bLt114 hs; omega)
theorem fLt108 (hs : Sc n e r) : FLt cs n e r (.add, .symStr 45, .symStr 26, .symStr 46) := fact_cat rfl rfl rfl (rfl) (by have := zLt131 hs; have := zLt95 hs; omega)
theorem fLt109 (hs : Sc n e r) : FLt cs n e r (.add, .symInt .i64 72, .symLen 26, .symInt .i64 73) := fact_add (k := .i64) rfl rfl rfl (wrap_small (by simp only [Int.ofNat_eq_natCast]; omega) (by simp only [Int.ofNat_eq_natCast]; have := zLt91 hs; have := zLt93 hs; have := zLt95 hs; have := zLt97 hs; have := zLt99 hs; omega))
theorem fLt110 (hs : Sc n e r) : FLt cs n e r (.add, .symInt .i64 90, .symLen 8, .symInt .i64 91) := fact_add (k := .i64) rfl rfl rfl (wrap_small (bLt115 hs).1 (Int.le_trans (bLt115 hs).2 (by decide)))
theorem fLt111 (hs : Sc n e r) : FLt cs n e r (.add, .symInt .i64 91, .int .i64 7, .symInt .i64 92) := fact_add (k := .i64) rfl rfl rfl (wrap_small (bLt116 hs).1 (Int.le_trans (bLt116 hs).2 (by decide)))
theorem fLt112 (hs : Sc n e r) : FLt cs n e r (.add, .symInt .i64 92, .int .i64 16, .symInt .i64 93) := fact_add (k := .i64) rfl rfl rfl (wrap_small (bLt117 hs).1 (Int.le_trans (bLt117 hs).2 (by decide)))
theorem fLt113 (hs : Sc n e r) : FLt cs n e r (.add, .symInt .i64 93, .symLen 19, .symInt .i64 94) := fact_add (k := .i64) rfl rfl rfl (wrap_small (bLt118 hs).1 (Int.le_trans (bLt118 hs).2 (by decide)))
theorem fLt114 (hs : Sc n e r) : FLt cs n e r (.add, .symInt .i64 94, .int .i64 0, .symInt .i64 95) := fact_add (k := .i64) rfl rfl rfl (wrap_small (bLt119 hs).1 (Int.le_trans (bLt119 hs).2 (by decide)))
theorem fLt115 (hs : Sc n e r) : FLt cs n e r (.add, .symInt .i64 95, .int .i64 16, .symInt .i64 96) := fact_add (k := .i64) rfl rfl rfl (wrap_small (bLt120 hs).1 (Int.le_trans (bLt120 hs).2 (by decide)))
theorem fLt116 (hs : Sc n e r) : FLt cs n e r (.gtr, .symInt .i64 96, .int .i64 2000, .bool false) := fact_gtr rfl rfl (by refine (decide_eq_false ?_).symm; (try simp only [Int.ofNat_eq_natCast]); have := bLt120 hs; omega)
theorem fLt117 (hs : Sc n e r) : FLt cs n e r (.add, .symStr 46, .symStr 28, .symStr 47) := fact_cat rfl rfl rfl (rfl) (by have := zLt132 hs; have := zLt97 hs; omega)
theorem fLt118 (hs : Sc n e r) : FLt cs n e r (.add, .symInt .i64 73, .symLen 28, .symInt .i64 74) := fact_add (k := .i64) rfl rfl rfl (wrap_small (by simp only [Int.ofNat_eq_natCast]; omega) (by simp only [Int.ofNat_eq_natCast]; have := zLt91 hs; have := zLt93 hs; have := zLt95 hs; have := zLt97 hs; have := zLt99 hs; omega))
theorem fLt119 (hs : Sc n e r) : FLt cs n e r (.add, .symInt .i64 96, .symLen 8, .symInt .i64 97) := fact_add (k := .i64) rfl rfl rfl (wrap_small (bLt121 hs).1 (Int.le_trans (bLt121 hs).2 (by decide)))
theorem fLt120 (hs : Sc n e r) : FLt cs n e r (.add, .symInt .i64 97, .int .i64 7, .symInt .i64 98) := fact_add (k := .i64) rfl rfl rfl (wrap_small (bLt122 hs).1 (Int.le_trans (bLt122 hs).2 (by decide)))
theorem fLt121 (hs : Sc n e r) : FLt cs n e r (.add, .symInt .i64 98, .int .i64 16, .symInt .i64 99) := fact_add (k := .i64) rfl rfl rfl (wrap_small (bLt123 hs).1 (Int.le_trans (bLt123 hs).2 (by decide)))
theorem fLt122 (hs : Sc n e r) : FLt cs n e r (.add, .symInt .i64 99, .symLen 9, .symInt .i64 100) := fact_add (k := .i64) rfl rfl rfl (wrap_small (bLt124 hs).1 (Int.le_trans (bLt124 hs).2 (by decide)))
theorem fLt123 (hs : Sc n e r) : FLt cs n e r (.add, .symInt .i64 100, .int .i64 7, .symInt .i64 101) := fact_add (k := .i64) rfl rfl rfl (wrap_small (bLt125 hs).1 (Int.le_trans (bLt125 hs).2 (by decide)))
theorem fLt124 (hs : Sc n e r) : FLt cs n e r (.add, .symInt .i64 101, .int .i64 16, .symInt .i64 102) := fact_add (k := .i64) rfl rfl rfl (wrap_small (bLt126 hs).1 (Int.le_trans (bLt126 hs).2 (by decide)))
theorem fLt125 (hs : Sc n e r) : FLt cs n e r (.gtr, .symInt .i64 102, .int .i64 2000, .bool false) := fact_gtr rfl rfl (by refine (decide_eq_false ?_).symm; (try simp only [Int.ofNat_eq_natCast]); have := bLt126 hs; omega)
theorem fLt126 (hs : Sc n e r) : FLt cs n e r (.add, .symStr 45, .symStr 30, .symStr 48) := fact_cat rfl rfl rfl (rfl) (by have := zLt131 hs; have := zLt99 hs; omega)
theorem fLt127 (hs : Sc n e r) : FLt cs n e r (.add, .symInt .i64 72, .symLen 30, .symInt .i64 75) := fact_add (k := .i64) rfl rfl rfl (wrap_small (by simp only [Int.ofNat_eq_natCast]; omega) (by simp only [Int.ofNat_eq_natCast]; have := zLt91 hs; have := zLt93 hs; have := zLt95 hs; have := zLt97 hs; have := zLt99 hs; omega))
theorem fLt128 (hs : Sc n e r) : FLt cs n e r (.add, .symInt .i64 93, .symLen 9, .symInt .i64 103) := fact_add (k := .i64) rfl rfl rfl (wrap_small (bLt200 hs).1 (Int.le_trans (bLt200 hs).2 (by decide)))
theorem fLt129 (hs : Sc n e r) : FLt cs n e r (.add, .symInt .i64 103, .int .i64 7, .symInt .i64 104) := fact_add (k := .i64) rfl rfl rfl (wrap_small (bLt201 hs).1 (Int.le_trans (bLt201 hs).2 (by decide)))
theorem fLt130 (hs : Sc n e r) : FLt cs n e r (.add, .symInt .i64 104, .int .i64 16, .symInt .i64 105) := fact_add (k := .i64) rfl rfl rfl (wrap_small (bLt202 hs).1 (Int.le_trans (bLt202 hs).2 (by decide)))
theorem fLt131 (hs : Sc n e r) : FLt cs n e r (.gtr, .symInt .i64 105, .int .i64 2000, .bool false) := fact_gtr rfl rfl (by refine (decide_eq_false ?_).symm; (try simp only [Int.ofNat_eq_natCast]); have := bLt202 hs; omega)
theorem fLt132 (hs : Sc n e r) : FLt cs n e r (.eql, .symStr 37, .str [], .bool false) := fact_eqs rfl rfl (decide_eq_false (ne_empty (by have := z110 hs; omega))).symm
theorem fLt133 (hs : Sc n e r) : FLt cs n e r (.eql, .symStr 38, .str [], .bool false) := fact_eqs rfl rfl (decide_eq_false (ne_empty (by have := z111 hs; omega))).symm
theorem fLt134 (hs : Sc n e r) : FLt cs n e r (.eql, .symStr 39, .str [], .bool false) := fact_eqs rfl rfl (decide_eq_false (ne_empty (by have := z112 hs; omega))).symm
theorem factsOkLt (hs : Sc n e r) (h : ltL e r = true) : ∀ f ∈ factsLt, FLt cs n e r f := by
  unfold factsLt
  exact ac (fLt0) <| ac (fLt1) <| ac (fLt2) <| ac (fLt3) <| ac (fLt4) <| ac (fLt5) <| ac (fLt6) <| ac (fLt7) <| ac (fLt8) <| ac (fLt9) <| ac (fLt10) <| ac (fLt11) <| ac (fLt12) <| ac (fLt13) <| ac (fLt14) <| ac (fLt15) <| ac (fLt16) <| ac (fLt17) <| ac (fLt18) <| ac (fLt19) <| ac (fLt20) <| ac (fLt21) <| ac (fLt22) <| ac (fLt23) <| ac (fLt24) <| ac (fLt25 h) <| ac (fLt26) <| ac (fLt27) <| ac (fLt28 h) <| ac (fLt29 h) <| ac (fLt30) <| ac (fLt31) <| ac (fLt32 hs) <| ac (fLt33 hs) <| ac (fLt34 hs) <| ac (fLt35 hs) <| ac (fLt36 hs) <| ac (fLt37 hs) <| ac (fLt38 hs) <| ac (fLt39 hs) <| ac (fLt40 hs) <| ac (fLt41 hs) <| ac (fLt42 hs) <| ac (fLt43 hs) <| ac (fLt44 hs) <| ac (fLt45 hs) <| ac (fLt46 hs) <| ac (fLt47 hs) <| ac (fLt48 hs) <| ac (fLt49 hs) <| ac (fLt50 hs) <| ac (fLt51 hs) <| ac (fLt52 hs) <| ac (fLt53 hs) <| ac (fLt54 hs) <| ac (fLt55 hs) <| ac (fLt56 hs) <| ac (fLt57 hs) <| ac (fLt58 hs) <| ac (fLt59 hs) <| ac (fLt60 hs) <| ac (fLt61 hs) <| ac (fLt62 h) <| ac (fLt63 hs) <| ac (fLt64 hs) <| ac (fLt65 hs) <| ac (fLt66 hs) <| ac (fLt67 hs) <| ac (fLt68 hs) <| ac (fLt69 hs) <| ac (fLt70 hs) <| ac (fLt71 hs) <| ac (fLt72 hs) <| ac (fLt73 hs) <| ac (fLt74 hs) <| ac (fLt75 hs) <| ac (fLt76 hs) <| ac (fLt77 hs) <| ac (fLt78 hs) <| ac (fLt79 hs) <| ac (fLt80 hs) <| ac (fLt81 hs) <| ac (fLt82 hs) <| ac (fLt83 hs) <| ac (fLt84 hs) <| ac (fLt85 hs) <| ac (fLt86 hs) <| ac (fLt87 hs) <| ac (fLt88 hs) <| ac (fLt89 hs) <| ac (fLt90 hs) <| ac (fLt91 hs) <| ac (fLt92 hs) <| ac (fLt93 hs) <| ac (fLt94 hs) <| ac (fLt95 hs) <| ac (fLt96 hs) <| ac (fLt97 hs) <| ac (fLt98 hs) <| ac (fLt99 hs) <| ac (fLt100 hs) <| ac (fLt101 hs) <| ac (fLt102 hs) <| ac (fLt103 hs) <| ac (fLt104 hs) <| ac (fLt105 hs) <| ac (fLt106 hs) <| ac (fLt107 hs) <| ac (fLt108 hs) <| ac (fLt109 hs) <| ac (fLt110 hs) <| ac (fLt111 hs) <| ac (fLt112 hs) <| ac (fLt113 hs) <| ac (fLt114 hs) <| ac (fLt115 hs) <| ac (fLt116 hs) <| ac (fLt117 hs) <| ac (fLt118 hs) <| ac (fLt119 hs) <| ac (fLt120 hs) <| ac (fLt121 hs) <| ac (fLt122 hs) <| ac (fLt123 hs) <| ac (fLt124 hs) <| ac (fLt125 hs) <| ac (fLt126 hs) <| ac (fLt127 hs) <| ac (fLt128 hs) <| ac (fLt129 hs) <| ac (fLt130 hs) <| ac (fLt131 hs) <| ac (fLt132 hs) <| ac (fLt133 hs) <| ac (fLt134 hs) <| an
theorem oLt0 : OLt cs n e r ((5, 9, 0), [.symStr 11, .symInt .i64 69], .int .u8 1) := ofact_byte (p := 111 :: (ok n ++ sC e)) (q := []) (c := 1) Tryz.underlying9 rfl rfl (by show key _ _ = _; simp [key, sf, sC]) (by rw [key_size]; simp [sf, sC]; omega) rfl
theorem oLt1 : OLt cs n e r ((6, 9, 2), [.symStr 11, .symInt .i64 69], .symStr 14) := ofact_hi (p := key n (sC e)) (q := [1]) Tryz.underlying9 rfl rfl (by show key _ _ = _; simp [key, sf, sC]) (by rw [key_size]; simp [key, sf, sC]; omega) rfl
theorem oLt2 : OLt cs n e r ((5, 9, 0), [.symStr 12, .symInt .i64 70], .int .u8 1) := ofact_byte (p := 111 :: (ok n ++ sC r)) (q := []) (c := 1) Tryz.underlying9 rfl rfl (by show key _ _ = _; simp [key, sf, sC]) (by rw [key_size]; simp [sf, sC]; omega) rfl
theorem oLt3 : OLt cs n e r ((6, 9, 2), [.symStr 12, .symInt .i64 70], .symStr 16) := ofact_hi (p := key n (sC r)) (q := [1]) Tryz.underlying9 rfl rfl (by show key _ _ = _; simp [key, sf, sC]) (by rw [key_size]; simp [key, sf, sC]; omega) rfl
theorem oLt4 : OLt cs n e r ((6, 9, 2), [.symStr 17, .int .i64 1], .str [111]) := ofact_hi (i := 1) (p := [111]) (q := ok n ++ sf e 1 (dotk 1)) Tryz.underlying9 rfl rfl rfl rfl rfl
theorem oLt5 : OLt cs n e r ((6, 9, 1), [.symStr 17, .int .i64 1], .symStr 31) := ofact_lo (i := 1) (p := [111]) Tryz.underlying9 rfl rfl rfl rfl rfl
theorem oLt6 : OLt cs n e r ((5, 9, 0), [.symStr 37, .int .i64 0], .int .u8 3) := ofact_byte (i := 0) (p := []) (q := esc e ++ 0 :: 1 :: (dotk 1)) (c := 3) Tryz.underlying9 rfl rfl rfl rfl rfl
theorem oLt7 : OLt cs n e r ((6, 9, 1), [.symStr 37, .int .i64 1], .symStr 41) := ofact_lo (i := 1) (p := [3]) Tryz.underlying9 rfl rfl rfl rfl rfl
theorem oLt8 : OLt cs n e r ((6, 9, 2), [.symStr 18, .int .i64 1], .str [111]) := ofact_hi (i := 1) (p := [111]) (q := ok n ++ sf r 1 (dotk 2)) Tryz.underlying9 rfl rfl rfl rfl rfl
theorem oLt9 : OLt cs n e r ((6, 9, 1), [.symStr 18, .int .i64 1], .symStr 32) := ofact_lo (i := 1) (p := [111]) Tryz.underlying9 rfl rfl rfl rfl rfl
theorem oLt10 : OLt cs n e r ((5, 9, 0), [.symStr 38, .int .i64 0], .int .u8 3) := ofact_byte (i := 0) (p := []) (q := esc r ++ 0 :: 1 :: (dotk 2)) (c := 3) Tryz.underlying9 rfl rfl rfl rfl rfl
theorem oLt11 : OLt cs n e r ((6, 9, 1), [.symStr 38, .int .i64 1], .symStr 42) := ofact_lo (i := 1) (p := [3]) Tryz.underlying9 rfl rfl rfl rfl rfl
theorem oLt12 : OLt cs n e r ((6, 9, 2), [.symStr 19, .int .i64 1], .str [111]) := ofact_hi (i := 1) (p := [111]) (q := ok n ++ sf e 1 (dotk 3)) Tryz.underlying9 rfl rfl rfl rfl rfl
theorem oLt13 : OLt cs n e r ((6, 9, 1), [.symStr 19, .int .i64 1], .symStr 33) := ofact_lo (i := 1) (p := [111]) Tryz.underlying9 rfl rfl rfl rfl rfl
theorem oLt14 : OLt cs n e r ((5, 9, 0), [.symStr 39, .int .i64 0], .int .u8 3) := ofact_byte (i := 0) (p := []) (q := esc e ++ 0 :: 1 :: (dotk 3)) (c := 3) Tryz.underlying9 rfl rfl rfl rfl rfl
theorem oLt15 : OLt cs n e r ((6, 9, 1), [.symStr 39, .int .i64 1], .symStr 43) := ofact_lo (i := 1) (p := [3]) Tryz.underlying9 rfl rfl rfl rfl rfl
theorem oLt16 (hs : Sc n e r) : OLt cs n e r ((12, 0, 0), [.symInt .i64 78, .int .i64 4611686018427387904], .symInt .i64 78) := ofact_min rfl rfl rfl (if_neg (by have := bLt102 hs; omega))
theorem oLt17 (hs : Sc n e r) : OLt cs n e r ((12, 0, 0), [.symInt .i64 81, .int .i64 4611686018427387904], .symInt .i64 81) := ofact_min rfl rfl rfl (if_neg (by have := bLt105 hs; omega))
theorem oLt18 (hs : Sc n e r) : OLt cs n e r ((12, 0, 0), [.symInt .i64 84, .int .i64 4611686018427387904], .symInt .i64 84) := ofact_min rfl rfl rfl (if_neg (by have := bLt108 hs; omega))
theorem oLt19 (hs : Sc n e r) : OLt cs n e r ((12, 0, 0), [.symInt .i64 87, .int .i64 4611686018427387904], .symInt .i64 87) := ofact_min rfl rfl rfl (if_neg (by have := bLt111 hs; omega))
theorem oLt20 (hs : Sc n e r) : OLt cs n e r ((12, 0, 0), [.symInt .i64 90, .int .i64 4611686018427387904], .symInt .i64 90) := ofact_min rfl rfl rfl (if_neg (by have := bLt114 hs; omega))
theorem oLt21 (hs : Sc n e r) : OLt cs n e r ((12, 0, 0), [.symInt .i64 93, .int .i64 4611686018427387904], .symInt .i64 93) := ofact_min rfl rfl rfl (if_neg (by have := bLt117 hs; omega))
theorem oLt22 (hs : Sc n e r) : OLt cs n e r ((12, 0, 0), [.symInt .i64 96, .int .i64 4611686018427387904], .symInt .i64 96) := ofact_min rfl rfl rfl (if_neg (by have := bLt120 hs; omega))
theorem oLt23 (hs : Sc n e r) : OLt cs n e r ((12, 0, 0), [.symInt .i64 99, .int .i64 4611686018427387904], .symInt .i64 99) := ofact_min rfl rfl rfl (if_neg (by have := bLt123 hs; omega))
theorem oLt24 (hs : Sc n e r) : OLt cs n e r ((12, 0, 0), [.symInt .i64 102, .int .i64 4611686018427387904], .symInt .i64 102) := ofact_min rfl rfl rfl (if_neg (by have := bLt126 hs; omega))
theorem oLt25 (hs : Sc n e r) : OLt cs n e r ((12, 0, 0), [.symInt .i64 105, .int .i64 4611686018427387904], .symInt .i64 105) := ofact_min rfl rfl rfl (if_neg (by have := bLt202 hs; omega))
theorem ofactsOkLt (hs : Sc n e r) : ∀ f ∈ ofactsLt, OLt cs n e r f := by
  unfold ofactsLt
  exact ac (oLt0) <| ac (oLt1) <| ac (oLt2) <| ac (oLt3) <| ac (oLt4) <| ac (oLt5) <| ac (oLt6) <| ac (oLt7) <| ac (oLt8) <| ac (oLt9) <| ac (oLt10) <| ac (oLt11) <| ac (oLt12) <| ac (oLt13) <| ac (oLt14) <| ac (oLt15) <| ac (oLt16 hs) <| ac (oLt17 hs) <| ac (oLt18 hs) <| ac (oLt19 hs) <| ac (oLt20 hs) <| ac (oLt21 hs) <| ac (oLt22 hs) <| ac (oLt23 hs) <| ac (oLt24 hs) <| ac (oLt25 hs) <| an
end
section
variable {n e r : List UInt8} {w0 : World}
abbrev PLt (w0 : World) (n e r : List UInt8) := Outer w0 (sgLt n e r) fun b => b < w0.heap.size
noncomputable def rTextLt : List (List AV × AV) := [([.symStr 0], .symStr 3), ([.symStr 1], .symStr 4), ([.symStr 2], .symStr 5)]
theorem cTextLt (hs : Sc n e r) {m : Int} (hm : w0.cell? ⟨0, 0, none⟩ = some (.int .i64 m)) : ConOK Tryz.prog (PLt w0 n e r) 86 (.ans rTextLt) := by
  refine ans_ok fun r_ hr => ?_
  simp only [rTextLt, List.mem_cons, List.mem_nil_iff, or_false] at hr
  rcases hr with rfl | rfl | rfl
  · exact ⟨[.string (txt n)], _, rfl, rfl, fun w st => (okey_any _ m w (by have := z0 hs; omega) (cell_st st hm)).mono fun e w' ⟨h1, h2⟩ => ⟨h1, stands_of_below h2⟩⟩
  · exact ⟨[.string (txt e)], _, rfl, rfl, fun w st => (okey_any _ m w (by have := z1 hs; omega) (cell_st st hm)).mono fun e w' ⟨h1, h2⟩ => ⟨h1, stands_of_below h2⟩⟩
  · exact ⟨[.string (txt r)], _, rfl, rfl, fun w st => (okey_any _ m w (by have := z2 hs; omega) (cell_st st hm)).mono fun e w' ⟨h1, h2⟩ => ⟨h1, stands_of_below h2⟩⟩
noncomputable def rPartLt : List (List AV × AV) := [([.symStr 31], .tuple [.symStr 0, .symStr 37, .int .i64 0]), ([.symStr 32], .tuple [.symStr 0, .symStr 38, .int .i64 0]), ([.symStr 33], .tuple [.symStr 0, .symStr 39, .int .i64 0]), ([.symStr 41], .tuple [.symStr 1, .str [0, 0, 0, 1, 0, 0, 0, 0, 0, 0, 0, 1], .int .i64 0]), ([.symStr 42], .tuple [.symStr 2, .str [0, 0, 0, 1, 0, 0, 0, 0, 0, 0, 0, 2], .int .i64 0]), ([.symStr 43], .tuple [.symStr 1, .str [0, 0, 0, 1, 0, 0, 0, 0, 0, 0, 0, 3], .int .i64 0])]
theorem cPartLt (hs : Sc n e r) : ConOK Tryz.prog (PLt w0 n e r) 288 (.ans rPartLt) := by
  refine ans_ok fun r_ hr => ?_
  simp only [rPartLt, List.mem_cons, List.mem_nil_iff, or_false] at hr
  rcases hr with rfl | rfl | rfl | rfl | rfl | rfl
  · refine ⟨[.string (txt (ok n ++ sf e 1 (dotk 1)))], .tuple #[.string (txt n), .string (txt (sf e 1 (dotk 1))), .int .i64 0], rfl, rfl, fun w st => (part_any n (sf e 1 (dotk 1)) (txt (ok n ++ sf e 1 (dotk 1))) ?_ (by have := z100 hs; omega) w).mono fun e w' ⟨h1, h2⟩ => ⟨h1, stands_of_below h2⟩⟩
    show ok n ++ _ = _; simp [ok]
  · refine ⟨[.string (txt (ok n ++ sf r 1 (dotk 2)))], .tuple #[.string (txt n), .string (txt (sf r 1 (dotk 2))), .int .i64 0], rfl, rfl, fun w st => (part_any n (sf r 1 (dotk 2)) (txt (ok n ++ sf r 1 (dotk 2))) ?_ (by have := z101 hs; omega) w).mono fun e w' ⟨h1, h2⟩ => ⟨h1, stands_of_below h2⟩⟩
    show ok n ++ _ = _; simp [ok]
  · refine ⟨[.string (txt (ok n ++ sf e 1 (dotk 3)))], .tuple #[.string (txt n), .string (txt (sf e 1 (dotk 3))), .int .i64 0], rfl, rfl, fun w st => (part_any n (sf e 1 (dotk 3)) (txt (ok n ++ sf e 1 (dotk 3))) ?_ (by have := z102 hs; omega) w).mono fun e w' ⟨h1, h2⟩ => ⟨h1, stands_of_below h2⟩⟩
    show ok n ++ _ = _; simp [ok]
  · refine ⟨[.string (txt (esc e ++ 0 :: 1 :: (dotk 1)))], .tuple #[.string (txt e), .string (txt (dotk 1)), .int .i64 0], rfl, rfl, fun w st => (part_any e (dotk 1) (txt (esc e ++ 0 :: 1 :: (dotk 1))) ?_ (by have := z120 hs; omega) w).mono fun e w' ⟨h1, h2⟩ => ⟨h1, stands_of_below h2⟩⟩
    rfl
  · refine ⟨[.string (txt (esc r ++ 0 :: 1 :: (dotk 2)))], .tuple #[.string (txt r), .string (txt (dotk 2)), .int .i64 0], rfl, rfl, fun w st => (part_any r (dotk 2) (txt (esc r ++ 0 :: 1 :: (dotk 2))) ?_ (by have := z121 hs; omega) w).mono fun e w' ⟨h1, h2⟩ => ⟨h1, stands_of_below h2⟩⟩
    rfl
  · refine ⟨[.string (txt (esc e ++ 0 :: 1 :: (dotk 3)))], .tuple #[.string (txt e), .string (txt (dotk 3)), .int .i64 0], rfl, rfl, fun w st => (part_any e (dotk 3) (txt (esc e ++ 0 :: 1 :: (dotk 3))) ?_ (by have := z122 hs; omega) w).mono fun e w' ⟨h1, h2⟩ => ⟨h1, stands_of_below h2⟩⟩
    rfl
noncomputable def rCloneLt : List (List AV × AV) := [([.symStr 0], .symStr 0), ([.symStr 1], .symStr 1), ([.symStr 2], .symStr 2), ([.symStr 7], .symStr 7), ([.symStr 8], .symStr 8), ([.symStr 9], .symStr 9), ([.symStr 17], .symStr 17), ([.symStr 18], .symStr 18), ([.symStr 19], .symStr 19), ([.symStr 37], .symStr 37), ([.symStr 38], .symStr 38), ([.symStr 39], .symStr 39)]
theorem cCloneLt (hs : Sc n e r) : ConOK Tryz.prog (PLt w0 n e r) 69 (.ans rCloneLt) := by
  refine ans_ok fun r_ hr => ?_
  simp only [rCloneLt, List.mem_cons, List.mem_nil_iff, or_false] at hr
  rcases hr with rfl | rfl | rfl | rfl | rfl | rfl | rfl | rfl | rfl | rfl | rfl | rfl
  · exact ⟨[.string (txt n)], _, rfl, rfl, fun w _ => clone_any _ (by have := z0 hs; omega) w⟩
  · exact ⟨[.string (txt e)], _, rfl, rfl, fun w _ => clone_any _ (by have := z1 hs; omega) w⟩
  · exact ⟨[.string (txt r)], _, rfl, rfl, fun w _ => clone_any _ (by have := z2 hs; omega) w⟩
  · exact ⟨[.string (txt (key n [0]))], _, rfl, rfl, fun w _ => clone_any _ (by have := z30 hs; omega) w⟩
  · exact ⟨[.string (txt (key n [1]))], _, rfl, rfl, fun w _ => clone_any _ (by have := z31 hs; omega) w⟩
  · exact ⟨[.string (txt (key n [2]))], _, rfl, rfl, fun w _ => clone_any _ (by have := z32 hs; omega) w⟩
  · exact ⟨[.string (txt (key n (sf e 1 (dotk 1))))], _, rfl, rfl, fun w _ => clone_any _ (by have := z60 hs; omega) w⟩
  · exact ⟨[.string (txt (key n (sf r 1 (dotk 2))))], _, rfl, rfl, fun w _ => clone_any _ (by have := z61 hs; omega) w⟩
  · exact ⟨[.string (txt (key n (sf e 1 (dotk 3))))], _, rfl, rfl, fun w _ => clone_any _ (by have := z62 hs; omega) w⟩
  · exact ⟨[.string (txt (sf e 1 (dotk 1)))], _, rfl, rfl, fun w _ => clone_any _ (by have := z110 hs; omega) w⟩
  · exact ⟨[.string (txt (sf r 1 (dotk 2)))], _, rfl, rfl, fun w _ => clone_any _ (by have := z111 hs; omega) w⟩
  · exact ⟨[.string (txt (sf e 1 (dotk 3)))], _, rfl, rfl, fun w _ => clone_any _ (by have := z112 hs; omega) w⟩
noncomputable def rCmpLt : List (List AV × AV) := [([.symStr 7, .symStr 8], .int .i64 (-1)), ([.symStr 7, .symStr 9], .int .i64 (-1)), ([.symStr 7, .symStr 17], .int .i64 (-1)), ([.symStr 7, .symStr 18], .int .i64 (-1)), ([.symStr 7, .symStr 19], .int .i64 (-1)), ([.symStr 8, .symStr 8], .int .i64 0), ([.symStr 8, .symStr 9], .int .i64 (-1)), ([.symStr 8, .symStr 17], .int .i64 (-1)), ([.symStr 8, .symStr 18], .int .i64 (-1)), ([.symStr 8, .symStr 19], .int .i64 (-1)), ([.symStr 17, .symStr 9], .int .i64 1), ([.symStr 17, .symStr 18], .int .i64 (-1)), ([.symStr 17, .symStr 19], .int .i64 (-1)), ([.symStr 18, .symStr 19], .int .i64 1)]
theorem cCmpLt (h : ltL e r = true) : ConOK Tryz.prog (PLt w0 n e r) 261 (.ans rCmpLt) := by
  refine ans_ok fun r_ hr => ?_
  simp only [rCmpLt, List.mem_cons, List.mem_nil_iff, or_false] at hr
  rcases hr with rfl | rfl | rfl | rfl | rfl | rfl | rfl | rfl | rfl | rfl | rfl | rfl | rfl | rfl
  · exact ⟨[.string (txt (key n [0])), .string (txt (key n [1]))], _, rfl, rfl, fun w _ => cmp_lt (key_lt n (rfl : ltL [0] [1] = true)) w⟩
  · exact ⟨[.string (txt (key n [0])), .string (txt (key n [2]))], _, rfl, rfl, fun w _ => cmp_lt (key_lt n (rfl : ltL [0] [2] = true)) w⟩
  · exact ⟨[.string (txt (key n [0])), .string (txt (key n (sf e 1 (dotk 1))))], _, rfl, rfl, fun w _ => cmp_lt (key_lt n (rfl : ltL [0] (sf e 1 (dotk 1)) = true)) w⟩
  · exact ⟨[.string (txt (key n [0])), .string (txt (key n (sf r 1 (dotk 2))))], _, rfl, rfl, fun w _ => cmp_lt (key_lt n (rfl : ltL [0] (sf r 1 (dotk 2)) = true)) w⟩
  · exact ⟨[.string (txt (key n [0])), .string (txt (key n (sf e 1 (dotk 3))))], _, rfl, rfl, fun w _ => cmp_lt (key_lt n (rfl : ltL [0] (sf e 1 (dotk 3)) = true)) w⟩
  · exact ⟨[.string (txt (key n [1])), .string (txt (key n [1]))], _, rfl, rfl, fun w _ => cmp_eq w⟩
  · exact ⟨[.string (txt (key n [1])), .string (txt (key n [2]))], _, rfl, rfl, fun w _ => cmp_lt (key_lt n (rfl : ltL [1] [2] = true)) w⟩
  · exact ⟨[.string (txt (key n [1])), .string (txt (key n (sf e 1 (dotk 1))))], _, rfl, rfl, fun w _ => cmp_lt (key_lt n (rfl : ltL [1] (sf e 1 (dotk 1)) = true)) w⟩
  · exact ⟨[.string (txt (key n [1])), .string (txt (key n (sf r 1 (dotk 2))))], _, rfl, rfl, fun w _ => cmp_lt (key_lt n (rfl : ltL [1] (sf r 1 (dotk 2)) = true)) w⟩
  · exact ⟨[.string (txt (key n [1])), .string (txt (key n (sf e 1 (dotk 3))))], _, rfl, rfl, fun w _ => cmp_lt (key_lt n (rfl : ltL [1] (sf e 1 (dotk 3)) = true)) w⟩
  · exact ⟨[.string (txt (key n (sf e 1 (dotk 1)))), .string (txt (key n [2]))], _, rfl, rfl, fun w _ => cmp_gt (key_lt n (rfl : ltL [2] (sf e 1 (dotk 1)) = true)) w⟩
  · exact ⟨[.string (txt (key n (sf e 1 (dotk 1)))), .string (txt (key n (sf r 1 (dotk 2))))], _, rfl, rfl, fun w _ => cmp_lt (key_lt n (sf_lt2 1 1 (dotk 1) (dotk 2) (by decide) h)) w⟩
  · exact ⟨[.string (txt (key n (sf e 1 (dotk 1)))), .string (txt (key n (sf e 1 (dotk 3))))], _, rfl, rfl, fun w _ => cmp_lt (key_lt n (sf_lt e rfl)) w⟩
  · exact ⟨[.string (txt (key n (sf r 1 (dotk 2)))), .string (txt (key n (sf e 1 (dotk 3))))], _, rfl, rfl, fun w _ => cmp_gt (key_lt n (sf_lt2 1 1 (dotk 3) (dotk 2) (by decide) h)) w⟩
noncomputable def rBatchLt : List (List PArg × AV) := [([(.agg [.v (.int .u64 1), .row 3 [.symStr 7, .str [1], .bool false, .symStr 8, .str [1, 0, 0, 0, 1, 1, 0], .bool false, .symStr 17, .str [], .bool false]])], .tuple [.symStr 21, .int .i64 0]), ([(.agg [.v (.int .u64 4), .row 2 [.symStr 8, .str [1, 0, 0, 0, 1, 1, 1], .bool false, .symStr 18, .str [], .bool false]])], .tuple [.symStr 23, .int .i64 0]), ([(.agg [.v (.int .u64 6), .row 2 [.symStr 8, .str [1, 0, 0, 0, 1, 1, 2], .bool false, .symStr 19, .str [], .bool false]])], .tuple [.symStr 25, .int .i64 0]), ([(.agg [.v (.int .u64 8), .row 2 [.symStr 8, .str [1, 0, 0, 0, 1, 1, 3], .bool false, .symStr 9, .str [1, 0, 0, 0, 1, 1, 0], .bool false]])], .tuple [.symStr 27, .int .i64 0]), ([(.agg [.v (.int .u64 6), .row 2 [.symStr 8, .str [1, 0, 0, 0, 1, 1, 2], .bool false, .symStr 9, .str [1, 0, 0, 0, 1, 1, 0], .bool false]])], .tuple [.symStr 29, .int .i64 0])]
theorem cBatchLt (hs : Sc n e r) : ConOK Tryz.prog (PLt w0 n e r) 117 (.fn (patFn rBatchLt)) := by
  refine patFn_ok fun r_ hr => ?_
  simp only [rBatchLt, List.mem_cons, List.mem_nil_iff, or_false] at hr
  rcases hr with rfl | rfl | rfl | rfl | rfl
  · refine ⟨?_, .tuple #[.string (txt (bt 1 (w0Lt n e r))), .int .i64 0], rfl, ?_⟩
    · intro p hp
      obtain rfl := by simpa using hp
      intro q hq
      simp only [List.mem_cons, List.mem_nil_iff, or_false] at hq
      rcases hq with rfl | rfl <;> rfl
    · rintro w ys st ⟨y, zs, rfl, ⟨l, rfl, y0, l1, rfl, h0, y1, l2, rfl, ⟨bk, off, cap, xs, rfl, hbk, hxs, hc⟩, rfl⟩, rfl⟩
      obtain rfl : Value.int .u64 1 = y0 := Option.some.inj h0
      obtain rfl : _ = xs := Option.some.inj hxs
      refine (batch_any 1 (w0Lt n e r) bk off cap w (by decide) hbk (by simp [w0Lt]) (by simp [w0Lt]) (wxLt0 hs) ?_).mono fun e w' ⟨h1, h2⟩ => ⟨h1, stands_of_below h2⟩
      intro j p hj
      match j, hj with
      | 0, hj => cases hj; exact ⟨hc 0 _ rfl, hc 1 _ rfl, hc 2 _ rfl⟩
      | 1, hj => cases hj; exact ⟨hc 3 _ rfl, hc 4 _ rfl, hc 5 _ rfl⟩
      | 2, hj => cases hj; exact ⟨hc 6 _ rfl, hc 7 _ rfl, hc 8 _ rfl⟩
  · refine ⟨?_, .tuple #[.string (txt (bt 4 (w1Lt n e r))), .int .i64 0], rfl, ?_⟩
    · intro p hp
      obtain rfl := by simpa using hp
      intro q hq
      simp only [List.mem_cons, List.mem_nil_iff, or_false] at hq
      rcases hq with rfl | rfl <;> rfl
    · rintro w ys st ⟨y, zs, rfl, ⟨l, rfl, y0, l1, rfl, h0, y1, l2, rfl, ⟨bk, off, cap, xs, rfl, hbk, hxs, hc⟩, rfl⟩, rfl⟩
      obtain rfl : Value.int .u64 4 = y0 := Option.some.inj h0
      obtain rfl : _ = xs := Option.some.inj hxs
      refine (batch_any 4 (w1Lt n e r) bk off cap w (by decide) hbk (by simp [w1Lt]) (by simp [w1Lt]) (wxLt1 hs) ?_).mono fun e w' ⟨h1, h2⟩ => ⟨h1, stands_of_below h2⟩
      intro j p hj
      match j, hj with
      | 0, hj => cases hj; exact ⟨hc 0 _ rfl, hc 1 _ rfl, hc 2 _ rfl⟩
      | 1, hj => cases hj; exact ⟨hc 3 _ rfl, hc 4 _ rfl, hc 5 _ rfl⟩
  · refine ⟨?_, .tuple #[.string (txt (bt 6 (w2Lt n e r))), .int .i64 0], rfl, ?_⟩
    · intro p hp
      obtain rfl := by simpa using hp
      intro q hq
      simp only [List.mem_cons, List.mem_nil_iff, or_false] at hq
      rcases hq with rfl | rfl <;> rfl
    · rintro w ys st ⟨y, zs, rfl, ⟨l, rfl, y0, l1, rfl, h0, y1, l2, rfl, ⟨bk, off, cap, xs, rfl, hbk, hxs, hc⟩, rfl⟩, rfl⟩
      obtain rfl : Value.int .u64 6 = y0 := Option.some.inj h0
      obtain rfl : _ = xs := Option.some.inj hxs
      refine (batch_any 6 (w2Lt n e r) bk off cap w (by decide) hbk (by simp [w2Lt]) (by simp [w2Lt]) (wxLt2 hs) ?_).mono fun e w' ⟨h1, h2⟩ => ⟨h1, stands_of_below h2⟩
      intro j p hj
      match j, hj with
      | 0, hj => cases hj; exact ⟨hc 0 _ rfl, hc 1 _ rfl, hc 2 _ rfl⟩
      | 1, hj => cases hj; exact ⟨hc 3 _ rfl, hc 4 _ rfl, hc 5 _ rfl⟩
  · refine ⟨?_, .tuple #[.string (txt (bt 8 (w3Lt n e r))), .int .i64 0], rfl, ?_⟩
    · intro p hp
      obtain rfl := by simpa using hp
      intro q hq
      simp only [List.mem_cons, List.mem_nil_iff, or_false] at hq
      rcases hq with rfl | rfl <;> rfl
    · rintro w ys st ⟨y, zs, rfl, ⟨l, rfl, y0, l1, rfl, h0, y1, l2, rfl, ⟨bk, off, cap, xs, rfl, hbk, hxs, hc⟩, rfl⟩, rfl⟩
      obtain rfl : Value.int .u64 8 = y0 := Option.some.inj h0
      obtain rfl : _ = xs := Option.some.inj hxs
      refine (batch_any 8 (w3Lt n e r) bk off cap w (by decide) hbk (by simp [w3Lt]) (by simp [w3Lt]) (wxLt3 hs) ?_).mono fun e w' ⟨h1, h2⟩ => ⟨h1, stands_of_below h2⟩
      intro j p hj
      match j, hj with
      | 0, hj => cases hj; exact ⟨hc 0 _ rfl, hc 1 _ rfl, hc 2 _ rfl⟩
      | 1, hj => cases hj; exact ⟨hc 3 _ rfl, hc 4 _ rfl, hc 5 _ rfl⟩
  · refine ⟨?_, .tuple #[.string (txt (bt 6 (w4Lt n e r))), .int .i64 0], rfl, ?_⟩
    · intro p hp
      obtain rfl := by simpa using hp
      intro q hq
      simp only [List.mem_cons, List.mem_nil_iff, or_false] at hq
      rcases hq with rfl | rfl <;> rfl
    · rintro w ys st ⟨y, zs, rfl, ⟨l, rfl, y0, l1, rfl, h0, y1, l2, rfl, ⟨bk, off, cap, xs, rfl, hbk, hxs, hc⟩, rfl⟩, rfl⟩
      obtain rfl : Value.int .u64 6 = y0 := Option.some.inj h0
      obtain rfl : _ = xs := Option.some.inj hxs
      refine (batch_any 6 (w4Lt n e r) bk off cap w (by decide) hbk (by simp [w4Lt]) (by simp [w4Lt]) (wxLt4 hs) ?_).mono fun e w' ⟨h1, h2⟩ => ⟨h1, stands_of_below h2⟩
      intro j p hj
      match j, hj with
      | 0, hj => cases hj; exact ⟨hc 0 _ rfl, hc 1 _ rfl, hc 2 _ rfl⟩
      | 1, hj => cases hj; exact ⟨hc 3 _ rfl, hc 4 _ rfl, hc 5 _ rfl⟩
noncomputable def rFrameLt : List (List AV × AV) := [([.symStr 21], .symStr 22), ([.symStr 23], .symStr 24), ([.symStr 25], .symStr 26), ([.symStr 27], .symStr 28), ([.symStr 29], .symStr 30)]
theorem cFrameLt (hs : Sc n e r) : ConOK Tryz.prog (PLt w0 n e r) 171 (.fn (rowFn rFrameLt)) := by
  refine rowFn_ok fun r_ hr => ?_
  simp only [rFrameLt, List.mem_cons, List.mem_nil_iff, or_false] at hr
  rcases hr with rfl | rfl | rfl | rfl | rfl
  · exact ⟨[.string (txt (bt 1 (w0Lt n e r)))], .string (txt (fr (bt 1 (w0Lt n e r)))), rfl, rfl, fun w bk off cap _ hb hc => (frame_any (txt (bt 1 (w0Lt n e r))) bk off cap w hb (by have := zLt90 hs; omega) (hc 0 _ rfl)).mono fun e w' ⟨h1, h2⟩ => ⟨by rw [h1, txt_list], h2⟩⟩
  · exact ⟨[.string (txt (bt 4 (w1Lt n e r)))], .string (txt (fr (bt 4 (w1Lt n e r)))), rfl, rfl, fun w bk off cap _ hb hc => (frame_any (txt (bt 4 (w1Lt n e r))) bk off cap w hb (by have := zLt92 hs; omega) (hc 0 _ rfl)).mono fun e w' ⟨h1, h2⟩ => ⟨by rw [h1, txt_list], h2⟩⟩
  · exact ⟨[.string (txt (bt 6 (w2Lt n e r)))], .string (txt (fr (bt 6 (w2Lt n e r)))), rfl, rfl, fun w bk off cap _ hb hc => (frame_any (txt (bt 6 (w2Lt n e r))) bk off cap w hb (by have := zLt94 hs; omega) (hc 0 _ rfl)).mono fun e w' ⟨h1, h2⟩ => ⟨by rw [h1, txt_list], h2⟩⟩
  · exact ⟨[.string (txt (bt 8 (w3Lt n e r)))], .string (txt (fr (bt 8 (w3Lt n e r)))), rfl, rfl, fun w bk off cap _ hb hc => (frame_any (txt (bt 8 (w3Lt n e r))) bk off cap w hb (by have := zLt96 hs; omega) (hc 0 _ rfl)).mono fun e w' ⟨h1, h2⟩ => ⟨by rw [h1, txt_list], h2⟩⟩
  · exact ⟨[.string (txt (bt 6 (w4Lt n e r)))], .string (txt (fr (bt 6 (w4Lt n e r)))), rfl, rfl, fun w bk off cap _ hb hc => (frame_any (txt (bt 6 (w4Lt n e r))) bk off cap w hb (by have := zLt98 hs; omega) (hc 0 _ rfl)).mono fun e w' ⟨h1, h2⟩ => ⟨by rw [h1, txt_list], h2⟩⟩
noncomputable def rNTLt : List (List AV × AV) := [([.symStr 0], .symStr 35)]
theorem cNTLt (hs : Sc n e r) : ConOK Tryz.prog (PLt w0 n e r) 149 (.fn (rowFn rNTLt)) := by
  refine rowFn_ok fun r_ hr => ?_
  simp only [rNTLt, List.mem_cons, List.mem_nil_iff, or_false] at hr
  subst hr
  · refine ⟨[.string (txt n)], _, rfl, rfl, fun w bk off cap _ hb hc => (text_any [txt n] bk off cap w hb (by simp) (by have := z104 hs; rw [txt_size] at this; omega) (by intro s hq; simp at hq; subst hq; have := z0 hs; omega) (fun j s hj => ?_)).mono fun e w' ⟨h1, h2⟩ => ⟨h1, stands_of_below h2⟩⟩
    match j, hj with
    | 0, hj => cases hj; exact hc 0 _ rfl
noncomputable def rItemsLt : List (List PArg × AV) := [([(.one (.row 1 [.symStr 1, .int .u8 0, .int .u8 0, .int .u8 0, .int .u8 1, .int .u64 1, .str []]))], .symStr 64), ([(.one (.row 1 [.symStr 2, .int .u8 0, .int .u8 0, .int .u8 0, .int .u8 1, .int .u64 2, .str []]))], .symStr 65), ([(.one (.row 1 [.symStr 1, .int .u8 0, .int .u8 0, .int .u8 0, .int .u8 1, .int .u64 3, .str []]))], .symStr 66)]
theorem cItemsLt (hs : Sc n e r) : ConOK Tryz.prog (PLt w0 n e r) 300 (.fn (patFn rItemsLt)) := by
  refine patFn_ok fun r_ hr => ?_
  simp only [rItemsLt, List.mem_cons, List.mem_nil_iff, or_false] at hr
  rcases hr with rfl | rfl | rfl
  · refine ⟨?_, .string (txt (itm (txt e) (txt (dotk 1)) ⟨#[]⟩)), rfl, ?_⟩
    · intro p hp
      obtain rfl := by simpa using hp
      rfl
    · rintro w ys st ⟨y, zs, rfl, ⟨bk, off, cap, xs, rfl, hbk, hxs, hc⟩, rfl⟩
      obtain rfl : _ = xs := Option.some.inj hxs
      exact items_any (txt e) ⟨#[]⟩ (txt (dotk 1)) 0 0 0 1 1 bk off cap w hbk (by have := z1 hs; omega) (by decide) (by decide) dot1_any (hc 0 _ rfl) (hc 1 _ rfl) (hc 2 _ rfl) (hc 3 _ rfl) (hc 4 _ rfl) (hc 5 _ rfl) (hc 6 _ rfl)
  · refine ⟨?_, .string (txt (itm (txt r) (txt (dotk 2)) ⟨#[]⟩)), rfl, ?_⟩
    · intro p hp
      obtain rfl := by simpa using hp
      rfl
    · rintro w ys st ⟨y, zs, rfl, ⟨bk, off, cap, xs, rfl, hbk, hxs, hc⟩, rfl⟩
      obtain rfl : _ = xs := Option.some.inj hxs
      exact items_any (txt r) ⟨#[]⟩ (txt (dotk 2)) 0 0 0 1 2 bk off cap w hbk (by have := z2 hs; omega) (by decide) (by decide) dot2_any (hc 0 _ rfl) (hc 1 _ rfl) (hc 2 _ rfl) (hc 3 _ rfl) (hc 4 _ rfl) (hc 5 _ rfl) (hc 6 _ rfl)
  · refine ⟨?_, .string (txt (itm (txt e) (txt (dotk 3)) ⟨#[]⟩)), rfl, ?_⟩
    · intro p hp
      obtain rfl := by simpa using hp
      rfl
    · rintro w ys st ⟨y, zs, rfl, ⟨bk, off, cap, xs, rfl, hbk, hxs, hc⟩, rfl⟩
      obtain rfl : _ = xs := Option.some.inj hxs
      exact items_any (txt e) ⟨#[]⟩ (txt (dotk 3)) 0 0 0 1 3 bk off cap w hbk (by have := z1 hs; omega) (by decide) (by decide) dot3_any (hc 0 _ rfl) (hc 1 _ rfl) (hc 2 _ rfl) (hc 3 _ rfl) (hc 4 _ rfl) (hc 5 _ rfl) (hc 6 _ rfl)
noncomputable def rSortLt : List (List AV × List AV) := [([.symStr 7, .symStr 8, .symStr 17], [.symStr 7, .symStr 8, .symStr 17]), ([.symStr 7, .symStr 17, .symStr 8], [.symStr 7, .symStr 8, .symStr 17]), ([.symStr 8, .symStr 7, .symStr 17], [.symStr 7, .symStr 8, .symStr 17]), ([.symStr 8, .symStr 17, .symStr 7], [.symStr 7, .symStr 8, .symStr 17]), ([.symStr 17, .symStr 7, .symStr 8], [.symStr 7, .symStr 8, .symStr 17]), ([.symStr 17, .symStr 8, .symStr 7], [.symStr 7, .symStr 8, .symStr 17]), ([.symStr 8, .symStr 18], [.symStr 8, .symStr 18]), ([.symStr 18, .symStr 8], [.symStr 8, .symStr 18]), ([.symStr 8, .symStr 19], [.symStr 8, .symStr 19]), ([.symStr 19, .symStr 8], [.symStr 8, .symStr 19]), ([.symStr 8, .symStr 9], [.symStr 8, .symStr 9]), ([.symStr 9, .symStr 8], [.symStr 8, .symStr 9])]
theorem cSortLt : ConOK Tryz.prog (PLt w0 n e r) 197 (.fn (sortFn rSortLt)) := by
  refine sortFn_ok (fun r_ hr => ?_) fun blk off cap ss w h1 h2 h3 => AnyM.slices_Sort_string Tryz.mSort blk off cap ss w h1 h2 h3
  simp only [rSortLt, List.mem_cons, List.mem_nil_iff, or_false] at hr
  rcases hr with rfl | rfl | rfl | rfl | rfl | rfl | rfl | rfl | rfl | rfl | rfl | rfl
  · exact ⟨[key n [0], key n [1], key n (sf e 1 (dotk 1))], [key n [0], key n [1], key n (sf e 1 (dotk 1))], rfl, rfl, sort_row (List.Perm.refl _) (pw3 (key_lt n (rfl : ltL [0] [1] = true)) (key_lt n (rfl : ltL [0] (sf e 1 (dotk 1)) = true)) (key_lt n (rfl : ltL [1] (sf e 1 (dotk 1)) = true)))⟩
  · exact ⟨[key n [0], key n (sf e 1 (dotk 1)), key n [1]], [key n [0], key n [1], key n (sf e 1 (dotk 1))], rfl, rfl, sort_row (pm1 _ _ _) (pw3 (key_lt n (rfl : ltL [0] [1] = true)) (key_lt n (rfl : ltL [0] (sf e 1 (dotk 1)) = true)) (key_lt n (rfl : ltL [1] (sf e 1 (dotk 1)) = true)))⟩
  · exact ⟨[key n [1], key n [0], key n (sf e 1 (dotk 1))], [key n [0], key n [1], key n (sf e 1 (dotk 1))], rfl, rfl, sort_row (pm2 _ _ _) (pw3 (key_lt n (rfl : ltL [0] [1] = true)) (key_lt n (rfl : ltL [0] (sf e 1 (dotk 1)) = true)) (key_lt n (rfl : ltL [1] (sf e 1 (dotk 1)) = true)))⟩
  · exact ⟨[key n [1], key n (sf e 1 (dotk 1)), key n [0]], [key n [0], key n [1], key n (sf e 1 (dotk 1))], rfl, rfl, sort_row (pm3 _ _ _) (pw3 (key_lt n (rfl : ltL [0] [1] = true)) (key_lt n (rfl : ltL [0] (sf e 1 (dotk 1)) = true)) (key_lt n (rfl : ltL [1] (sf e 1 (dotk 1)) = true)))⟩
  · exact ⟨[key n (sf e 1 (dotk 1)), key n [0], key n [1]], [key n [0], key n [1], key n (sf e 1 (dotk 1))], rfl, rfl, sort_row (pm4 _ _ _) (pw3 (key_lt n (rfl : ltL [0] [1] = true)) (key_lt n (rfl : ltL [0] (sf e 1 (dotk 1)) = true)) (key_lt n (rfl : ltL [1] (sf e 1 (dotk 1)) = true)))⟩
  · exact ⟨[key n (sf e 1 (dotk 1)), key n [1], key n [0]], [key n [0], key n [1], key n (sf e 1 (dotk 1))], rfl, rfl, sort_row (pm5 _ _ _) (pw3 (key_lt n (rfl : ltL [0] [1] = true)) (key_lt n (rfl : ltL [0] (sf e 1 (dotk 1)) = true)) (key_lt n (rfl : ltL [1] (sf e 1 (dotk 1)) = true)))⟩
  · exact ⟨[key n [1], key n (sf r 1 (dotk 2))], [key n [1], key n (sf r 1 (dotk 2))], rfl, rfl, sort_row (List.Perm.refl _) (pw2 (key_lt n (rfl : ltL [1] (sf r 1 (dotk 2)) = true)))⟩
  · exact ⟨[key n (sf r 1 (dotk 2)), key n [1]], [key n [1], key n (sf r 1 (dotk 2))], rfl, rfl, sort_row (List.Perm.swap _ _ []) (pw2 (key_lt n (rfl : ltL [1] (sf r 1 (dotk 2)) = true)))⟩
  · exact ⟨[key n [1], key n (sf e 1 (dotk 3))], [key n [1], key n (sf e 1 (dotk 3))], rfl, rfl, sort_row (List.Perm.refl _) (pw2 (key_lt n (rfl : ltL [1] (sf e 1 (dotk 3)) = true)))⟩
  · exact ⟨[key n (sf e 1 (dotk 3)), key n [1]], [key n [1], key n (sf e 1 (dotk 3))], rfl, rfl, sort_row (List.Perm.swap _ _ []) (pw2 (key_lt n (rfl : ltL [1] (sf e 1 (dotk 3)) = true)))⟩
  · exact ⟨[key n [1], key n [2]], [key n [1], key n [2]], rfl, rfl, sort_row (List.Perm.refl _) (pw2 (key_lt n (rfl : ltL [1] [2] = true)))⟩
  · exact ⟨[key n [2], key n [1]], [key n [1], key n [2]], rfl, rfl, sort_row (List.Perm.swap _ _ []) (pw2 (key_lt n (rfl : ltL [1] [2] = true)))⟩
noncomputable def baseLt : List (FuncId × Con) := [(86, .ans rTextLt), (288, .ans rPartLt), (69, .ans rCloneLt), (261, .ans rCmpLt), (117, .fn (patFn rBatchLt)), (171, .fn (rowFn rFrameLt)), (149, .fn (rowFn rNTLt)), (300, .fn (patFn rItemsLt)), (197, .fn (sortFn rSortLt)), (5, .yes [])]
theorem baseLt_ok (hs : Sc n e r) (h : ltL e r = true) {m : Int} (hm : w0.cell? ⟨0, 0, none⟩ = some (.int .i64 m)) : ∀ p ∈ baseLt, ConOK Tryz.prog (PLt w0 n e r) p.1 p.2 := by
  intro p hp
  simp only [baseLt, List.mem_cons, List.mem_nil_iff, or_false] at hp
  rcases hp with rfl | rfl | rfl | rfl | rfl | rfl | rfl | rfl | rfl | rfl
  · exact cTextLt hs hm
  · exact cPartLt hs
  · exact cCloneLt hs
  · exact cCmpLt h
  · exact cBatchLt hs
  · exact cFrameLt hs
  · exact cNTLt hs
  · exact cItemsLt hs
  · exact cSortLt
  · exact yes_ok rfl fun w _ => alive_yes w
theorem progLt {cs : List (FuncId × Con)} (hs : Sc n e r) (h : ltL e r = true) (K : ∀ p ∈ cs, ConOK Tryz.prog (PLt w0 n e r) p.1 p.2) : ProgOK Tryz.prog (CLt cs (sgLt n e r)) (PLt w0 n e r) :=
  withAll_ok (ctx_ok [] K) (fun _ _ _ h => h.σ) (fun _ _ _ _ _ _ _ h => by cases h) (factsOkLt hs h) (ofactsOkLt hs)
noncomputable def inLt0 : Heap := heapOf [0xc1b00000000000000000000000000000000000000000000000000e300060000000000000001000000070001000200000000000400010002000000000001000000070001000200000000000100000004000100020000000000040001000200000000000400010002000000020000000100010000000100010000000100010001000100010000000000000000000000000000000000a000070000000000000002000200000000000100000004000100020000000000040001000200000000000100000007000100020000000000000000000400010002000000000004000100020001001300020000000200000001000100000001000100000001000000010000000100000001000000010001]
noncomputable def outLt0 : Heap := heapOf [0xf0f00000000000000000000000000000000000000000000000000e300060000000000000001000000070001000200000000000400010002000000000001000000070001000200000000000100000004000100020000000000040001000200000000000400010002000000020000000100010000000100010000000100010001000100010000000000000000000000000000000000a000070000000000000002000200000000000100000004000100020000000000040001000200000000000100000007000100020000000000000000000400010002000000000004000100020001001300020000000200000001000100000001000100000001000000010000000100000001000000010001]
noncomputable def argLt0 : AV := avOf [0x6000100000001000006a00007000100000001000006bd00070000001300010000000300010005000f]
theorem putLt0 (σ0 : Nat → Option Value) : isOuts (runF (CLt baseLt σ0) 100000 299 [argLt0] inLt0) [(.tuple [.symStr 49, .int .i64 0], outLt0)] = true := by kernel_rfl
noncomputable def inLt1 : Heap := heapOf [0x186c000000000000000000000000000000000000000000000000000000a0000700000000000000020002000000000001000000040001000200000000000400010002000000000002000000070001000200000000000000000004000100020000000000040001000200020013000200000002000100010001000000010001000000010000000100010000000100010001000000000000000000000000000000000000000000000000000000e300060000000000000002000000070001000200000000000400010002000000000002000000070001000200000000000100000004000100020000000000040001000200000000000400010002000000020001000100010000000100010000000100010001000000010000000100010001]
noncomputable def outLt1 : Heap := heapOf [0x1b60000000000000000000000000000000000000000000000000000000a0000700000000000000020002000000000001000000040001000200000000000400010002000000000002000000070001000200000000000000000004000100020000000000040001000200020013000200000002000100010001000000010001000000010000000100010000000100010001000000000000000000000000000000000000000000000000000000e300060000000000000002000000070001000200000000000400010002000000000002000000070001000200000000000100000004000100020000000000040001000200000000000400010002000000020001000100010000000100010000000100010001000000010000000100010001]
noncomputable def argLt1 : AV := avOf [0x60001000000010000114b00070001000000010000116800070000001300010000000300010005000f]
theorem putLt1 (σ0 : Nat → Option Value) : isOuts (runF (CLt baseLt σ0) 100000 299 [argLt1] inLt1) [(.tuple [.symStr 50, .int .i64 0], outLt1)] = true := by kernel_rfl
noncomputable def inLt2 : Heap := heapOf [0x26790000000000000000000000000000000000000000000000e3000600000000000000030000000700010002000000000004000100020000000000030000000700010002000000000001000000040001000200000000000400010002000000000004000100020000000200000001000000010000000100000001000100010000000100010000000100010001000000000000000000000000000000000000000000a00007000000000000000200020000000000010000000400010002000000000004000100020000000000030000000700010002000000000000000000040001000200000000000400010002000100130002000000020000000100000001000000010000000100010000000100010001000100000001000000010001]
noncomputable def outLt2 : Heap := heapOf [0x296d0000000000000000000000000000000000000000000000e3000600000000000000030000000700010002000000000004000100020000000000030000000700010002000000000001000000040001000200000000000400010002000000000004000100020000000200000001000000010000000100000001000100010000000100010000000100010001000000000000000000000000000000000000000000a00007000000000000000200020000000000010000000400010002000000000004000100020000000000030000000700010002000000000000000000040001000200000000000400010002000100130002000000020000000100000001000000010000000100010000000100010001000100000001000000010001]
noncomputable def argLt2 : AV := avOf [0x600010000000100001f28000700010000000100001f4500070000001300010000000300010005000f]
theorem putLt2 (σ0 : Nat → Option Value) : isOuts (runF (CLt baseLt σ0) 100000 299 [argLt2] inLt2) [(.tuple [.symStr 51, .int .i64 0], outLt2)] = true := by kernel_rfl
noncomputable def inLt3 : Heap := heapOf [0x36ae00000000000000000000000000000000000000000000000100e30006000000000000000100000007000100020000000000040001000200000000000100000007000100020000000000010000000400010002000000000004000100020000000000040001000200000002000100000001000000010000000100010001000000010000000100010000000100000000000000000000000000000000000000000000000000e3000600000000000000040000000700010002000000000004000100020000000000040000000700010002000000000001000000040001000200000000000400010002000000000004000100020000000200010000000100000001000000010001000100010001000100000001000100010001]
noncomputable def outLt3 : Heap := heapOf [0x399100000000000000000000000000000000000000000000000100e30006000000000000000100000007000100020000000000040001000200000000000100000007000100020000000000010000000400010002000000000004000100020000000000040001000200000002000100000001000000010000000100010001000000010000000100010000000100000000000000000000000000000000000000000000000000e3000600000000000000040000000700010002000000000004000100020000000000040000000700010002000000000001000000040001000200000000000400010002000000000004000100020000000200010000000100000001000000010001000100010001000100000001000100010001]
noncomputable def argLt3 : AV := avOf [0x2e6b0001000100002e6b000700010000000100002e07000700060000001300010000000300010005000f]
theorem putLt3 (σ0 : Nat → Option Value) : isOuts (runF (CLt baseLt σ0) 100000 299 [argLt3] inLt3) [(.tuple [.symStr 52, .int .i64 0], outLt3)] = true := by kernel_rfl
noncomputable def inLt4 : Heap := heapOf [0x2a1c0000000000000000000000000000000000000000000000000000000000e300060000000000000003000000070001000200000000000400010002000000000003000000070001000200000000000100000004000100020000000000040001000200000000000400010002000000020001000100010001000000010000000100010001000100010000000000000000000000000000000000000000000100e3000600000000000000010000000700010002000000000004000100020000000000010000000700010002000000000001000000040001000200000000000400010002000000000004000100020000000200010001000100010000000100000001000000010000000100010000000100010000000100000001]
noncomputable def outLt4 : Heap := heapOf [0x2cff0000000000000000000000000000000000000000000000000000000000e300060000000000000003000000070001000200000000000400010002000000000003000000070001000200000000000100000004000100020000000000040001000200000000000400010002000000020001000100010001000000010000000100010001000100010000000000000000000000000000000000000000000100e3000600000000000000010000000700010002000000000004000100020000000000010000000700010002000000000001000000040001000200000000000400010002000000000004000100020000000200010001000100010000000100000001000000010000000100010000000100010000000100000001]
noncomputable def argLt4 : AV := avOf [0x21ea00010001000021ea000700010000000100002186000700060000001300010000000300010005000f]
theorem putLt4 (σ0 : Nat → Option Value) : isOuts (runF (CLt baseLt σ0) 100000 299 [argLt4] inLt4) [(.tuple [.symStr 53, .int .i64 0], outLt4)] = true := by kernel_rfl
noncomputable def msgsLt : List (List AV × Heap × List (AV × Heap)) := [([.agg [.int .i64 1, .int .i64 1, .int .i64 2, .int .i64 0, .int .i64 1, .symStr 0, .slice 1725 0 1 (.lit 1), .slice 1696 0 1 (.lit 1), .nils, .str [], .str [], .str [], .bool false, .int .i64 0, .nils, .nils, .nils, .nils]], inLt0, [(.symStr 54, outLt0)]), ([.agg [.int .i64 1, .int .i64 1, .int .i64 2, .int .i64 0, .int .i64 1, .symStr 0, .slice 4456 0 1 (.lit 1), .slice 4427 0 1 (.lit 1), .nils, .str [], .str [], .str [], .bool false, .int .i64 0, .nils, .nils, .nils, .nils]], inLt1, [(.symStr 55, outLt1)]), ([.agg [.int .i64 1, .int .i64 1, .int .i64 2, .int .i64 0, .int .i64 1, .symStr 0, .slice 8005 0 1 (.lit 1), .slice 7976 0 1 (.lit 1), .nils, .str [], .str [], .str [], .bool false, .int .i64 0, .nils, .nils, .nils, .nils]], inLt2, [(.symStr 56, outLt2)]), ([.agg [.int .i64 1, .int .i64 1, .int .i64 2, .int .i64 0, .int .i64 1, .symStr 0, .nils, .slice 11783 0 1 (.lit 1), .slice 11883 0 1 (.var 11883 0), .str [], .str [], .str [], .bool false, .int .i64 0, .nils, .nils, .nils, .nils]], inLt3, [(.symStr 57, outLt3)]), ([.agg [.int .i64 1, .int .i64 1, .int .i64 2, .int .i64 0, .int .i64 1, .symStr 0, .nils, .slice 8582 0 1 (.lit 1), .slice 8682 0 1 (.var 8682 0), .str [], .str [], .str [], .bool false, .int .i64 0, .nils, .nils, .nils, .nils]], inLt4, [(.symStr 58, outLt4)])]
theorem cMsgLt (hs : Sc n e r) (h : ltL e r = true) {m : Int} (hm : w0.cell? ⟨0, 0, none⟩ = some (.int .i64 m)) : ConOK Tryz.prog (PLt w0 n e r) 229 (.known msgsLt) := by
  refine msg_known fun r_ hr => ?_
  simp only [msgsLt, List.mem_cons, List.mem_nil_iff, or_false] at hr
  rcases hr with rfl | rfl | rfl | rfl | rfl
  · exact ⟨((1 :: tx [txt n]) ++ itm (txt e) (txt (dotk 1)) ⟨#[]⟩) ++ [7, 1, 0, 0, 0, 1, 1, 0, 1, 0], 1, .symStr 0, txt n, .slice 1725 0 1 (.lit 1), .slice 1696 0 1 (.lit 1), .nils, .symStr 54, .symStr 49, outLt0, sgLt n e r, by have := zLt140 hs; rw [txt_size] at this; omega, rfl, rfl, fun η H w o => ⟨fun _ _ h => (by cases h), fun _ _ h => (by cases h), o.σ⟩, rfl, rfl, rfl, CLt baseLt (sgLt n e r), 100000, progLt hs h (baseLt_ok hs h hm), by rw [← runF_eq]; exact isOuts_eq (putLt0 _)⟩
  · exact ⟨((1 :: tx [txt n]) ++ itm (txt r) (txt (dotk 2)) ⟨#[]⟩) ++ [7, 1, 0, 0, 0, 1, 2, 0, 1, 0], 1, .symStr 0, txt n, .slice 4456 0 1 (.lit 1), .slice 4427 0 1 (.lit 1), .nils, .symStr 55, .symStr 50, outLt1, sgLt n e r, by have := zLt141 hs; rw [txt_size] at this; omega, rfl, rfl, fun η H w o => ⟨fun _ _ h => (by cases h), fun _ _ h => (by cases h), o.σ⟩, rfl, rfl, rfl, CLt baseLt (sgLt n e r), 100000, progLt hs h (baseLt_ok hs h hm), by rw [← runF_eq]; exact isOuts_eq (putLt1 _)⟩
  · exact ⟨((1 :: tx [txt n]) ++ itm (txt e) (txt (dotk 3)) ⟨#[]⟩) ++ [7, 1, 0, 0, 0, 1, 3, 0, 1, 0], 1, .symStr 0, txt n, .slice 8005 0 1 (.lit 1), .slice 7976 0 1 (.lit 1), .nils, .symStr 56, .symStr 51, outLt2, sgLt n e r, by have := zLt142 hs; rw [txt_size] at this; omega, rfl, rfl, fun η H w o => ⟨fun _ _ h => (by cases h), fun _ _ h => (by cases h), o.σ⟩, rfl, rfl, rfl, CLt baseLt (sgLt n e r), 100000, progLt hs h (baseLt_ok hs h hm), by rw [← runF_eq]; exact isOuts_eq (putLt2 _)⟩
  · exact ⟨((1 :: tx [txt n]) ++ [0]) ++ [7, 1, 0, 0, 0, 1, 4, 0, 7, 1, 0, 0, 0, 1, 1, 0], 1, .symStr 0, txt n, .nils, .slice 11783 0 1 (.lit 1), .slice 11883 0 1 (.var 11883 0), .symStr 57, .symStr 52, outLt3, sgLt n e r, by have := zLt143 hs; rw [txt_size] at this; omega, rfl, rfl, fun η H w o => ⟨fun _ _ h => (by cases h), fun _ _ h => (by cases h), o.σ⟩, rfl, rfl, rfl, CLt baseLt (sgLt n e r), 100000, progLt hs h (baseLt_ok hs h hm), by rw [← runF_eq]; exact isOuts_eq (putLt3 _)⟩
  · exact ⟨((1 :: tx [txt n]) ++ [0]) ++ [7, 1, 0, 0, 0, 1, 3, 0, 7, 1, 0, 0, 0, 1, 1, 0], 1, .symStr 0, txt n, .nils, .slice 8582 0 1 (.lit 1), .slice 8682 0 1 (.var 8682 0), .symStr 58, .symStr 53, outLt4, sgLt n e r, by have := zLt144 hs; rw [txt_size] at this; omega, rfl, rfl, fun η H w o => ⟨fun _ _ h => (by cases h), fun _ _ h => (by cases h), o.σ⟩, rfl, rfl, rfl, CLt baseLt (sgLt n e r), 100000, progLt hs h (baseLt_ok hs h hm), by rw [← runF_eq]; exact isOuts_eq (putLt4 _)⟩
noncomputable def consLt : List (FuncId × Con) := (229, .known msgsLt) :: baseLt
theorem consLt_ok (hs : Sc n e r) (h : ltL e r = true) {m : Int} (hm : w0.cell? ⟨0, 0, none⟩ = some (.int .i64 m)) : ∀ p ∈ consLt, ConOK Tryz.prog (PLt w0 n e r) p.1 p.2 := by
  unfold consLt
  exact List.forall_mem_cons.2 ⟨cMsgLt hs h hm, baseLt_ok hs h hm⟩
end
end Go.Proofs.YtckjnglhbjiklaaGreatDoor.Wk
