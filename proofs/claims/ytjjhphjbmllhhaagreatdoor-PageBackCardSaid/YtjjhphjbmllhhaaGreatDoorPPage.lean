/-
  Part of the proof of a statement of this seat: walks of its functions and the closed run; no condition but those written in each theorem.
-/
import Derived.Test.YtjjhphjbmllhhaaGreatDoorPKit
/- A cursor's text: plain facts. -/
namespace Go.NumPure
open Go.RowKit
def zig (m : Int) : Nat := if 0 ≤ m then 2 * m.toNat else 2 * (-m - 1).toNat + 1
theorem zig_lt {m : Int} (h1 : -9223372036854775808 ≤ m) (h2 : m ≤ 9223372036854775807) : zig m < 18446744073709551616 := by unfold zig; split <;> omega
/-- a text behind its length, and what stands behind it -/
def lay (s : ByteArray) (r : List UInt8) : List UInt8 := vb s.size ++ (s.data.toList ++ r)
def cur (n l h x : ByteArray) (m : Int) (t : List UInt8) : List UInt8 := lay n (lay l (lay h (lay x (vb (zig m) ++ t))))
def sealed (p : ByteArray) : ByteArray := p ++ be4s (crc p.data.toList)
theorem cur_cat (n l h x : ByteArray) (m : Int) (d : UInt8) : (txt (tx [n, l, h, x]) ++ txt (vb (zig m))) ++ txt [d] = txt (cur n l h x m [d]) := by
  rw [txt_append, txt_append]
  congr 1
  simp [tx, cur, lay]
theorem vb_len {n : Nat} (h : n < 18446744073709551616) : (vb n).length ≤ 11 := by unfold vb; rw [List.length_map]; exact vr_short h
theorem cur_len (n l h x : ByteArray) (m : Int) (t : List UInt8) (hn : n.size ≤ 300) (hl : l.size ≤ 300) (hh : h.size ≤ 300) (hx : x.size ≤ 300) (h1 : -9223372036854775808 ≤ m) (h2 : m ≤ 9223372036854775807) (ht : t.length ≤ 1) : (cur n l h x m t).length ≤ 2000 := by
  have e : ∀ s : ByteArray, s.data.toList.length = s.size := fun s => rfl
  have a := vb_len (n := n.size) (by omega)
  have b := vb_len (n := l.size) (by omega)
  have c := vb_len (n := h.size) (by omega)
  have d := vb_len (n := x.size) (by omega)
  have f := vb_len (zig_lt h1 h2)
  simp only [cur, lay, List.length_append, e]
  omega
theorem vb_ne (n : Nat) : vb n ≠ [] := by
  unfold vb
  by_cases hn : n < 128
  · rw [vr_low hn]; simp
  · rw [vr_high (by omega)]; simp
theorem extract_head (s : ByteArray) (r : List UInt8) : (txt (s.data.toList ++ r)).extract 0 s.size = s := by
  apply ByteArray.ext
  apply Array.toList_inj.1
  rw [ByteArray.data_extract]
  simp [txt, List.extract]
theorem extract_tail (s : ByteArray) (r : List UInt8) : (txt (s.data.toList ++ r)).extract s.size (txt (s.data.toList ++ r)).size = txt r := by
  refine extract_txt _ _ _ ?_
  rw [txt_list]
  exact List.drop_left' rfl
theorem extract_pre (p q : ByteArray) : (p ++ q).extract 0 p.size = p := by
  apply ByteArray.ext
  apply Array.toList_inj.1
  rw [ByteArray.data_extract, ByteArray.data_append]
  simp [Array.toList_extract, List.extract]
  exact List.take_of_length_le (Nat.le_refl _)
theorem size_append' (p q : ByteArray) : (p ++ q).size = p.size + q.size := by
  show (p ++ q).data.size = _
  rw [ByteArray.data_append, Array.size_append]; rfl
theorem sealed_size (p : ByteArray) : (sealed p).size = p.size + 4 := by
  unfold sealed
  rw [size_append', be4s_size]
theorem sealed_rd (p : ByteArray) : rd4 (sealed p) p.size = crc p.data.toList := rd4_append _ _ (crc_lt _)
theorem sealed_pre (p : ByteArray) : (sealed p).extract 0 p.size = p := extract_pre p _
theorem sub4 {a b : Nat} (h : a = b + 4) (hb : b ≤ 1000000) : IntKind.i64.wrap (Int.ofNat a - 4) = (b : Int) := by
  rw [wrap_i64']
  simp only [Int.ofNat_eq_natCast]
  omega
theorem gt_len (s : ByteArray) (r : List UInt8) : false = decide (Int.ofNat (txt (s.data.toList ++ r)).size < (s.size : Int)) := by
  have : s.size ≤ (txt (s.data.toList ++ r)).size := by rw [txt_size, List.length_append]; exact Nat.le_add_right _ _
  refine (decide_eq_false ?_).symm
  simp only [Int.ofNat_eq_natCast]
  omega
theorem le_txt (s : ByteArray) (r : List UInt8) : s.size ≤ (txt (s.data.toList ++ r)).size := by rw [txt_size, List.length_append]; exact Nat.le_add_right _ _
theorem not_neg (a : Nat) : false = decide ((a : Int) < 0) := (decide_eq_false (by omega)).symm
theorem not_ne (a : Int) : false = decide (¬ a = a) := by simp
theorem wrap_size {a : Nat} (h : a ≤ 1000000) : IntKind.i64.wrap (a : Int) = (a : Int) := by
  rw [wrap_i64']
  omega
theorem lay_len_0 (n l h x : ByteArray) (m : Int) (t : List UInt8) : (lay n (lay l (lay h (lay x (vb (zig m) ++ t))))).length ≤ (cur n l h x m t).length := by simp only [cur, lay, List.length_append]; omega
theorem lay_len_1 (n l h x : ByteArray) (m : Int) (t : List UInt8) : (lay l (lay h (lay x (vb (zig m) ++ t)))).length ≤ (cur n l h x m t).length := by simp only [cur, lay, List.length_append]; omega
theorem lay_len_2 (n l h x : ByteArray) (m : Int) (t : List UInt8) : (lay h (lay x (vb (zig m) ++ t))).length ≤ (cur n l h x m t).length := by simp only [cur, lay, List.length_append]; omega
theorem lay_len_3 (n l h x : ByteArray) (m : Int) (t : List UInt8) : (lay x (vb (zig m) ++ t)).length ≤ (cur n l h x m t).length := by simp only [cur, lay, List.length_append]; omega
theorem lay_len_4 (n l h x : ByteArray) (m : Int) (t : List UInt8) : (vb (zig m) ++ t).length ≤ (cur n l h x m t).length := by simp only [cur, lay, List.length_append]; omega
/-- a text without its last byte -/
def cut1 (s : ByteArray) : ByteArray := s.extract 0 (s.size - 1)
theorem cut1_size (s : ByteArray) : (cut1 s).size = s.size - 1 := by
  unfold cut1
  rw [ByteArray.size_extract]
  omega
theorem cut1_list (s : ByteArray) : (cut1 s).data.toList = s.data.toList.dropLast := by
  unfold cut1
  rw [ByteArray.data_extract]
  simp [List.dropLast_eq_take]
theorem cut1_pre (n l h x : ByteArray) (m : Int) (d : UInt8) : (cut1 (sealed (txt (cur n l h x m [d])))).extract 0 (txt (cur n l h x m [])).size = txt (cur n l h x m []) := by
  have e : cur n l h x m [d] = cur n l h x m [] ++ [d] := by simp [cur, lay]
  apply ByteArray.ext
  apply Array.toList_inj.1
  rw [ByteArray.data_extract, Array.toList_extract, cut1_list]
  unfold sealed
  rw [ByteArray.data_append, Array.toList_append]
  simp only [txt_list, List.extract, Nat.sub_zero, List.drop_zero]
  rw [e, List.append_assoc, List.dropLast_append_of_ne_nil (by simp), txt_size]
  exact List.take_left' rfl
theorem cut1_len (n l h x : ByteArray) (m : Int) (d : UInt8) : (cut1 (sealed (txt (cur n l h x m [d])))).size = (txt (cur n l h x m [])).size + 4 := by
  have e : cur n l h x m [d] = cur n l h x m [] ++ [d] := by simp [cur, lay]
  rw [cut1_size, sealed_size, txt_size, txt_size, e, List.length_append]
  simp
end Go.NumPure
