/-
  Part of the proof of a statement of this seat: walks of its functions and the closed run; no condition but those written in each theorem.
-/
import Derived.Test.YtjjhphjbmllhhaaGreatDoorPPage
/- A byte changed in a sealed text: plain facts. -/
namespace Go.NumPure
def chg (s : ByteArray) (i : Nat) (v : UInt8) : ByteArray := txt (s.data.toList.set i v)
theorem chg_size (s : ByteArray) (i : Nat) (v : UInt8) : (chg s i v).size = s.size := by
  unfold chg
  rw [txt_size, List.length_set]
  rfl
theorem byteAt_chg (s : ByteArray) (i j : Nat) (v : UInt8) (hi : i < s.size) : byteAt (chg s i v) j = if j = i then v.toNat else byteAt s j := by
  unfold byteAt chg
  rw [txt_list, List.getD_eq_getElem?_getD, List.getD_eq_getElem?_getD, List.getElem?_set]
  by_cases h : i = j
  · subst h
    have : i < s.data.toList.length := hi
    rw [if_pos rfl, if_pos rfl, if_pos this]
    rfl
  · rw [if_neg h, if_neg (Ne.symm h)]
theorem extract_list (s : ByteArray) (k : Nat) : (s.extract 0 k).data.toList = s.data.toList.take k := by
  rw [ByteArray.data_extract, Array.toList_extract]
  simp [List.extract]
theorem sealed_list (p : ByteArray) : (sealed p).data.toList = p.data.toList ++ (be4s (crc p.data.toList)).data.toList := by
  unfold sealed
  rw [ByteArray.data_append, Array.toList_append]
theorem split_at (l : List UInt8) (i : Nat) (h : i < l.length) (v : UInt8) : ∃ a b, l = a ++ l[i] :: b ∧ l.set i v = a ++ v :: b :=
  ⟨l.take i, l.drop (i + 1), by rw [← List.drop_eq_getElem_cons h, List.take_append_drop], by
    rw [List.set_eq_take_append_cons_drop, if_pos h]⟩
theorem rd4_bytes {a b : ByteArray} {i : Nat} (h : rd4 a i = rd4 b i) : ∀ j, j < 4 → byteAt a (i + j) = byteAt b (i + j) := by
  unfold rd4 at h
  have := byteAt_lt a i; have := byteAt_lt a (i + 1); have := byteAt_lt a (i + 2); have := byteAt_lt a (i + 3)
  have := byteAt_lt b i; have := byteAt_lt b (i + 1); have := byteAt_lt b (i + 2); have := byteAt_lt b (i + 3)
  intro j hj
  obtain rfl | rfl | rfl | rfl : j = 0 ∨ j = 1 ∨ j = 2 ∨ j = 3 := by omega
  all_goals (first | omega | (rw [Nat.add_zero]; omega))
/-- A BYTE CHANGED IS SEEN. -/
theorem changed_seen (p : ByteArray) (i : Nat) (v : UInt8) (hi : i < (sealed p).size) (hv : ¬ v.toNat = byteAt (sealed p) i) :
    ¬ rd4 (chg (sealed p) i v) ((chg (sealed p) i v).size - 4) = crc ((chg (sealed p) i v).extract 0 ((chg (sealed p) i v).size - 4)).data.toList := by
  have hz : (chg (sealed p) i v).size - 4 = p.size := by rw [chg_size, sealed_size]; omega
  rw [hz, extract_list]
  have hpl : p.data.toList.length = p.size := rfl
  intro h
  by_cases hip : i < p.size
  · have e1 : ((chg (sealed p) i v).data.toList).take p.size = p.data.toList.set i v := by
      unfold chg
      rw [txt_list, sealed_list, List.set_append_left _ _ (by rw [hpl]; exact hip)]
      exact List.take_left' (by rw [List.length_set]; rfl)
    have e2 : rd4 (chg (sealed p) i v) p.size = crc p.data.toList := by
      rw [← sealed_rd p]
      unfold rd4
      rw [byteAt_chg _ _ _ _ hi, byteAt_chg _ _ _ _ hi, byteAt_chg _ _ _ _ hi, byteAt_chg _ _ _ _ hi, if_neg (by omega), if_neg (by omega), if_neg (by omega), if_neg (by omega)]
    rw [e1, e2] at h
    have hil : i < p.data.toList.length := hip
    obtain ⟨a, b, h1, h2⟩ := split_at p.data.toList i hil v
    rw [h2] at h
    have h3 : crc (a ++ p.data.toList[i] :: b) = crc (a ++ v :: b) := by rw [← h1]; exact h
    have h4 := crc_sees _ _ _ _ h3
    apply hv
    rw [← h4]
    unfold byteAt
    rw [sealed_list, List.getD_eq_getElem?_getD, List.getElem?_append_left hil, List.getElem?_eq_getElem hil]
    rfl
  · have e1 : ((chg (sealed p) i v).data.toList).take p.size = p.data.toList := by
      unfold chg
      rw [txt_list, sealed_list, List.set_append_right _ _ (by rw [hpl]; omega)]
      exact List.take_left' rfl
    rw [e1, ← sealed_rd p] at h
    rw [sealed_size] at hi
    have := rd4_bytes h (i - p.size) (by omega)
    rw [show p.size + (i - p.size) = i by omega, byteAt_chg _ _ _ _ (by rw [sealed_size]; exact hi), if_pos rfl] at this
    exact hv this
theorem bytesOf_set (s : ByteArray) (i : Nat) (v : Nat) (_hv : v < 256) : bytesOf ((s.data.toList.map UInt8.toNat).set i v) = chg s i (UInt8.ofNat v) := by
  unfold bytesOf chg txt
  congr 2
  rw [List.map_set, List.map_map]
  congr 1
  conv => rhs; rw [← List.map_id s.data.toList]
  apply List.map_congr_left
  intro a _
  simp
theorem xor_ne {a b : Nat} (h : ¬ b = 0) : ¬ a ^^^ b = a := by
  intro e
  have : a ^^^ b = a ^^^ 0 := by rw [e, Nat.xor_zero]
  exact h (xor_r this)
end Go.NumPure
