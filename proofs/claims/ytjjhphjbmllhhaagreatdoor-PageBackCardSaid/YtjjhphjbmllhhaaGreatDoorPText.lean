/-
  Part of the proof of a statement of this seat: walks of its functions and the closed run; no condition but those written in each theorem.
-/
import Derived.Test.YtjjhphjbmllhhaaGreatDoorProg
import Derived.WalkKit
import Derived.Lib.Hide
import Derived.KernelRfl
import Derived.Test.YtjjhphjbmllhhaaGreatDoorV7
import Derived.Test.YtjjhphjbmllhhaaGreatDoorPKit
import Derived.Test.YtjjhphjbmllhhaaGreatDoorPVar
import Derived.Test.YtjjhphjbmllhhaaGreatDoorPLay
namespace Go.Proofs.YtjjhphjbmllhhaaGreatDoor.Wk
set_option maxRecDepth 100000
open Go.RowKit Go.VmK Go.NumPure Go.Shelf
theorem extra166 : Builder.Extra Tryz.prog Tryz.lB166_ren := {
  sizeBuilder := by kernel_rfl
  liesBuilder := by kernel_rfl
  t5 := Tryz.underlying5
  a5 := Tryz.isAgg5
  z5 := Tryz.sizeOf5
  v5 := Tryz.zeroValue5
  infoByte := by kernel_rfl
  cellsByte := by kernel_rfl
  sizeByte := by kernel_rfl
  neB5 := by decide }
theorem extra169 : Builder.Extra Tryz.prog Tryz.lB169_ren := {
  sizeBuilder := by kernel_rfl
  liesBuilder := by kernel_rfl
  t5 := Tryz.underlying5
  a5 := Tryz.isAgg5
  z5 := Tryz.sizeOf5
  v5 := Tryz.zeroValue5
  infoByte := by kernel_rfl
  cellsByte := by kernel_rfl
  sizeByte := by kernel_rfl
  neB5 := by decide }
theorem builder_write (B b : Nat) (bs : List Value) (s : ByteArray) (w : World) (h : Lib.IsBuilder 83 5 B b bs w) (hlen : bs.length + s.size ≤ 140737488355328) (hBw : B ≤ w.heap.size) :
    Calls Tryz.prog 37 #[.pointer (some ⟨b, 0, none⟩), .string s] w fun e w' => e = .returned (.tuple #[.int .i64 s.size, .nilIface]) ∧ Lib.IsBuilder 83 5 B b (bs ++ Lib.strCells s) w' ∧ Below B w w' :=
  (Any.Builder_WriteString Tryz.lB166 extra166 B b bs s w h hlen hBw).mono fun _ _ ⟨h1, h2, h3⟩ => ⟨h1, .inr h2, h3⟩
theorem builder_string (B b : Nat) (l : List UInt8) (w : World) (h : Lib.IsBuilder 83 5 B b (Lib.byteCells l) w) (hBw : B ≤ w.heap.size) :
    Calls Tryz.prog 38 #[.pointer (some ⟨b, 0, none⟩)] w fun e w' => e = .returned (.string (txt l)) ∧ Below B w w' :=
  Any.Builder_String_any Tryz.lB169 extra169 B b l w h hBw
theorem stands_of_below {w w' : World} (h : RowKit.Below w.heap.size w w') : Stands w w' := ⟨h.os, h.output, h.size, h.block⟩
set_option maxHeartbeats 3200000 in
theorem text_any (xs : List ByteArray) (bk off cap : Nat) (w : World) (hbk : bk < w.heap.size) (hlen : xs.length ≤ 1000000) (hsz : (tx xs).length ≤ 1000000000) (hx : ∀ s ∈ xs, s.size ≤ 1000000000) (hc : ∀ (j : Nat) (s : ByteArray), xs[j]? = some s → w.cell? ⟨bk, off + j, none⟩ = some (.string s)) :
    Calls Tryz.prog 15 #[.slice (some ⟨bk, off, none⟩) xs.length cap] w fun e w' => e = .returned (.string (txt (tx xs))) ∧ Below w.heap.size w w' := by
  have hc := Lib.hid hc
  have hx := Lib.hid hx
  go_enter Tryz.func15, Tryz.ntmps15
  go_wp2
  go_loopw [5, 8] (fun _ i wr => ∃ k : Nat, k ≤ xs.length ∧ i = .int .i64 k ∧ Lib.IsBuilder 83 5 w.heap.size w.heap.size (Lib.byteCells (tx (xs.take k))) wr ∧ Below w.heap.size w wr ∧ w.heap.size < wr.heap.size) (fun _ i _ => xs.length - (intOf i).toNat)
  case atStart =>
    refine ⟨0, Nat.zero_le _, rfl, .inl ⟨Nat.le_refl _, .slice none 0 0, ?_, World.ownsRow_nil _ _ _ _, by simp [Value.ownBlock]⟩, (RowKit.Below.refl _ _).alloc (Nat.le_refl _) _, by simp⟩
    simp [World.alloc, -World.alloc_eq]
  case round =>
    obtain ⟨k, hk, rfl, hB, hbl, hws⟩ := hrel
    have htl := tx_take_len xs k
    by_cases hlt : k < xs.length
    · obtain ⟨s, hs⟩ : ∃ s, xs[k]? = some s := ⟨_, List.getElem?_eq_getElem hlt⟩
      have hss := hx.out s (List.mem_of_getElem? hs)
      have hcx : wr.cell? ⟨bk, off + k, none⟩ = some (.string s) := (hbl.cell (by exact hbk)).trans (hc.out k s hs)
      have hsn := Lib.hid (tx_snoc xs k s hs)
      have hbk1 := Lib.hid (builder_stays hB (w' := wr.alloc (.cells #[.int .u64 (s.size : Int)] 53)) (fun j hj => RowKit.Below.heap_alloc _ _ _ hj))
      clear hB
      have h11 : (txt (vb s.size)).size ≤ 11 := by have := vr_short (n := s.size) (by omega); simp [txt_size, vb]; exact this
      go_wp2_with fail
      refine (var_any s.size (by omega) wr.heap.size 0 1 _ (by simp) (cell_new _ _ _ _ _ rfl)).mono ?_
      rintro e w2 ⟨rfl, hv⟩
      have hb2 := Lib.hid (builder_stays hbk1.out (w' := w2) hv.block)
      rw [bytesOf_vr]
      go_wp2_with fail
      have hsz1 : (txt (vb s.size) ++ s).size = (vb s.size).length + s.size := by rw [txt_append_s, txt_size, List.length_append]; rfl
      have hsw : w.heap.size ≤ w2.heap.size := by have := hv.size; simp at this; omega
      refine (builder_write w.heap.size w.heap.size _ (txt (vb s.size) ++ s) w2 hb2.out (by rw [byteCells_len, hsz1]; have := txt_size (vb s.size); omega) hsw).mono ?_
      rintro e w3 ⟨rfl, hb3, hbl3⟩
      have hB3 : Hid (Lib.IsBuilder 83 5 w.heap.size w.heap.size (Lib.byteCells (tx (xs.take (k + 1)))) w3) := by
        rw [txt_append_s, strCells_txt, ← byteCells_append, ← hsn.out] at hb3
        exact Lib.hid hb3
      have hbl' : RowKit.Below w.heap.size w w3 := ((hbl.alloc hbl.size _).trans (hv.mono (by simp; omega))).trans hbl3
      have hws' : w.heap.size < w3.heap.size := by have := hbl3.size; have := hv.size; simp at this; omega
      clear hsz1
      go_wp2
      go_roundw
      case rel => exact ⟨k + 1, by omega, by go_num, hB3.out, hbl', hws'⟩
      case measure => simp only [intOf]; omega
    · have hke : k = xs.length := by omega
      have htk : xs.take k = xs := by rw [hke]; exact List.take_length
      have hB' := Lib.hid hB
      clear hB
      go_wp2_with fail
      refine (builder_string w.heap.size w.heap.size (tx (xs.take k)) wr hB'.out (by omega)).mono ?_
      rintro e w2 ⟨rfl, hv⟩
      rw [htk]
      clear htk hke
      go_wp2
      go_ret
      exact ⟨rfl, hbl.trans hv⟩
end Go.Proofs.YtjjhphjbmllhhaaGreatDoor.Wk
