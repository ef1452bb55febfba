/-
  Part of the proof of a statement of this seat: walks of its functions and the closed run; no condition but those written in each theorem.
-/
import Derived.Test.YtajngeaenfdigaaGreatDoorProg
import Derived.WalkKit
import Derived.Lib.Hide
import Derived.KernelRfl
import Derived.Test.YtajngeaenfdigaaGreatDoorV7
import Derived.Test.YtajngeaenfdigaaGreatDoorPA
import Derived.Test.YtajngeaenfdigaaGreatDoorPL
import Derived.Lib.Bytealg
import Derived.Lib.BytesEntry
namespace Go.Proofs.YtajngeaenfdigaaGreatDoor.Wk
set_option maxRecDepth 100000
open Go.RowKit Go.VmK Go.NumPure
theorem info8 : (Tryz.prog.info? 5).map (fun i => (i.zero, i.size, i.bytes)) = some (some (.int .u8 0), 1, 1) := by kernel_rfl
set_option maxHeartbeats 1600000 in
theorem var_any (v0 : Nat) (hv0 : v0 < 18446744073709551616) (bk off cap : Nat) (w : World) (_hbk : bk < w.heap.size) (hc : w.cell? ⟨bk, off, none⟩ = some (.int .u64 v0)) :
    Calls Tryz.prog 97 #[.slice (some ⟨bk, off, none⟩) 1 cap] w fun e w' => e = .returned (.string (bytesOf (vr v0))) ∧ Below w.heap.size w w' := by
  obtain ⟨i0, hi, hz0, hz1, hz2⟩ := info_parts info8
  go_enter Tryz.func97, Tryz.ntmps97
  go_wp2
  refine wp_loop_rounds 2 ?_
  rw [rounds_succ]
  go_wp2
  go_loopw [3, 5] (fun b v wr => ∃ (pre : List Nat) (n : Nat), v = .int .u64 n ∧ pre ++ vr n = vr v0 ∧ n < 18446744073709551616 ∧ wr.ownsRow w.heap.size 5 1 b pre.length (byteVals pre) ∧ Below w.heap.size w wr) (fun _ v _ => (intOf v).toNat)
  case atStart => exact ⟨[], v0, rfl, rfl, hv0, World.ownsRow_nil _ _ _ _, Below.refl _ _⟩
  case round =>
    obtain ⟨pre, n, rfl, hpre, hn, hown, hbl⟩ := hrel
    have hpl : pre.length ≤ 11 := by have := congrArg List.length hpre; have := vr_short hv0; simp at *; omega
    have hO := Lib.hid hpre
    clear hpre
    by_cases h128 : 128 ≤ n
    · have ho := Lib.hid (or128 n)
      have hrec := Lib.hid (vr_high h128)
      go_wp2_with (at_builtin; refine wpList_append_own _ rfl _ _ 56 rfl w.heap.size 5 i0 (.int .u8 0) 1 1 Tryz.underlying56 hi hz0 hz1 hz2 rfl (by decide) _ _ _ rfl (hown.alloc _) ⟨wr.heap.size, 0, none⟩ 1 1 [.int .u8 (bits .or .u8 ((n : Int) % 256) 128)] rfl rfl ?c1 ?c2 ?c3 ?c4 ?c5 ?_)
      case c1 =>
        intro j u hj
        match j, hj with
        | 0, hj => simp at hj; subst hj; simp [Addr.add]
      case c2 => intro u hu; simp at hu; subst hu; rfl
      case c3 => unfold maxLen; omega
      case c4 => omega
      case c5 => have := hbl.size; simp; omega
      intro v' w1 hown' hgrow _
      have hb1 : Below w.heap.size w w1 := (hbl.alloc hbl.size _).grown hgrow (by have := hbl.size; simp; omega) (fun j hj => by have := (hown.lt j hj).1; omega)
      clear hown hgrow hbl
      go_wp2
      go_roundw
      case rel =>
        refine ⟨pre ++ [n % 128 + 128], n / 128, by go_num, ?_, by omega, ?_, hb1⟩
        · rw [← hO.out, hrec.out]; simp
        · rw [ho.out] at hown'
          simpa [byteVals] using hown'
      case measure => simp only [intOf]; omega
    · go_wp2_with (at_builtin; refine wpList_append_own _ rfl _ _ 56 rfl w.heap.size 5 i0 (.int .u8 0) 1 1 Tryz.underlying56 hi hz0 hz1 hz2 rfl (by decide) _ _ _ rfl (hown.alloc _) ⟨wr.heap.size, 0, none⟩ 1 1 [.int .u8 (n : Int)] rfl rfl ?d1 ?d2 ?d3 ?d4 ?d5 ?_)
      case d1 =>
        intro j u hj
        match j, hj with
        | 0, hj => simp at hj; subst hj; simp [Addr.add]
      case d2 => intro u hu; simp at hu; subst hu; rfl
      case d3 => unfold maxLen; omega
      case d4 => omega
      case d5 => have := hbl.size; simp; omega
      intro v' w1 hown' hgrow _
      have hb1 : Below w.heap.size w w1 := (hbl.alloc hbl.size _).grown hgrow (by have := hbl.size; simp; omega) (fun j hj => by have := (hown.lt j hj).1; omega)
      have hrec := Lib.hid (vr_low (Nat.lt_of_not_le h128))
      clear hown hgrow hbl
      have hcv := conv_own (P := Tryz.prog) (w := w1) (l := pre ++ [n]) Tryz.underlying56 Tryz.underlying5 Tryz.underlying9 (by simpa [byteVals] using hown') (by simp)
      have hcv := Lib.hid hcv
      go_wp2
      rw [rounds_succ]
      replace hcv := hcv.out
      go_wp2
      go_ret
      have e : pre ++ [n] = vr v0 := by rw [← hO.out, hrec.out]
      exact ⟨congrArg (fun z => Ending.returned (.string (bytesOf z))) e, hb1⟩
end Go.Proofs.YtajngeaenfdigaaGreatDoor.Wk
namespace Go.Proofs.YtajngeaenfdigaaGreatDoor.Wk
set_option maxRecDepth 100000
open Go.RowKit Go.VmK Go.NumPure Go.Shelf
theorem extra166 : Builder.Extra Tryz.prog Tryz.lB166_ren := {
  sizeBuilder := by kernel_rfl
  liesBuilder := by kernel_rfl
  t5 := Tryz.underlying5
  a5 := Tryz.isAgg5
  z5 := Tryz.sizeOf5
  v5 := Tryz.zeroValue5
  infoByte := by kernel_rfl
  cellsByte := by kernel_rfl
  sizeByte := by kernel_rfl
  neB5 := by decide }
theorem extra169 : Builder.Extra Tryz.prog Tryz.lB169_ren := {
  sizeBuilder := by kernel_rfl
  liesBuilder := by kernel_rfl
  t5 := Tryz.underlying5
  a5 := Tryz.isAgg5
  z5 := Tryz.sizeOf5
  v5 := Tryz.zeroValue5
  infoByte := by kernel_rfl
  cellsByte := by kernel_rfl
  sizeByte := by kernel_rfl
  neB5 := by decide }
theorem builder_write (B b : Nat) (bs : List Value) (s : ByteArray) (w : World) (h : Lib.IsBuilder 181 5 B b bs w) (hlen : bs.length + s.size ≤ 140737488355328) (hBw : B ≤ w.heap.size) :
    Calls Tryz.prog 96 #[.pointer (some ⟨b, 0, none⟩), .string s] w fun e w' => e = .returned (.tuple #[.int .i64 s.size, .nilIface]) ∧ Lib.IsBuilder 181 5 B b (bs ++ Lib.strCells s) w' ∧ Below B w w' :=
  (Any.Builder_WriteString Tryz.lB166 extra166 B b bs s w h hlen hBw).mono fun _ _ ⟨h1, h2, h3⟩ => ⟨h1, .inr h2, h3⟩
theorem builder_string (B b : Nat) (l : List UInt8) (w : World) (h : Lib.IsBuilder 181 5 B b (Lib.byteCells l) w) (hBw : B ≤ w.heap.size) :
    Calls Tryz.prog 101 #[.pointer (some ⟨b, 0, none⟩)] w fun e w' => e = .returned (.string (txt l)) ∧ Below B w w' :=
  Any.Builder_String_any Tryz.lB169 extra169 B b l w h hBw
theorem stands_of_below {w w' : World} (h : RowKit.Below w.heap.size w w') : Stands w w' := ⟨h.os, h.output, h.size, h.block⟩
set_option maxHeartbeats 3200000 in
theorem text_any (xs : List ByteArray) (bk off cap : Nat) (w : World) (hbk : bk < w.heap.size) (hlen : xs.length ≤ 1000000) (hsz : (tx xs).length ≤ 1000000000) (hx : ∀ s ∈ xs, s.size ≤ 1000000000) (hc : ∀ (j : Nat) (s : ByteArray), xs[j]? = some s → w.cell? ⟨bk, off + j, none⟩ = some (.string s)) :
    Calls Tryz.prog 99 #[.slice (some ⟨bk, off, none⟩) xs.length cap] w fun e w' => e = .returned (.string (txt (tx xs))) ∧ Below w.heap.size w w' := by
  have hc := Lib.hid hc
  have hx := Lib.hid hx
  go_enter Tryz.func99, Tryz.ntmps99
  go_wp2
  go_loopw [5, 8] (fun _ i wr => ∃ k : Nat, k ≤ xs.length ∧ i = .int .i64 k ∧ Lib.IsBuilder 181 5 w.heap.size w.heap.size (Lib.byteCells (tx (xs.take k))) wr ∧ Below w.heap.size w wr ∧ w.heap.size < wr.heap.size) (fun _ i _ => xs.length - (intOf i).toNat)
  case atStart =>
    refine ⟨0, Nat.zero_le _, rfl, .inl ⟨Nat.le_refl _, .slice none 0 0, ?_, World.ownsRow_nil _ _ _ _, by simp [Value.ownBlock]⟩, (RowKit.Below.refl _ _).alloc (Nat.le_refl _) _, by simp⟩
    simp [World.alloc, -World.alloc_eq]
  case round =>
    obtain ⟨k, hk, rfl, hB, hbl, hws⟩ := hrel
    have htl := tx_take_len xs k
    by_cases hlt : k < xs.length
    · obtain ⟨s, hs⟩ : ∃ s, xs[k]? = some s := ⟨_, List.getElem?_eq_getElem hlt⟩
      have hss := hx.out s (List.mem_of_getElem? hs)
      have hcx : wr.cell? ⟨bk, off + k, none⟩ = some (.string s) := (hbl.cell (by exact hbk)).trans (hc.out k s hs)
      have hsn := Lib.hid (tx_snoc xs k s hs)
      have hbk1 := Lib.hid (builder_stays hB (w' := wr.alloc (.cells #[.int .u64 (s.size : Int)] 26)) (fun j hj => RowKit.Below.heap_alloc _ _ _ hj))
      clear hB
      have h11 : (txt (vb s.size)).size ≤ 11 := by have := vr_short (n := s.size) (by omega); simp [txt_size, vb]; exact this
      go_wp2_with fail
      refine (var_any s.size (by omega) wr.heap.size 0 1 _ (by simp) (cell_new _ _ _ _ _ rfl)).mono ?_
      rintro e w2 ⟨rfl, hv⟩
      have hb2 := Lib.hid (builder_stays hbk1.out (w' := w2) hv.block)
      rw [bytesOf_vr]
      go_wp2_with fail
      have hsz1 : (txt (vb s.size) ++ s).size = (vb s.size).length + s.size := by rw [txt_append_s, txt_size, List.length_append]; rfl
      have hsw : w.heap.size ≤ w2.heap.size := by have := hv.size; simp at this; omega
      refine (builder_write w.heap.size w.heap.size _ (txt (vb s.size) ++ s) w2 hb2.out (by rw [byteCells_len, hsz1]; have := txt_size (vb s.size); omega) hsw).mono ?_
      rintro e w3 ⟨rfl, hb3, hbl3⟩
      have hB3 : Hid (Lib.IsBuilder 181 5 w.heap.size w.heap.size (Lib.byteCells (tx (xs.take (k + 1)))) w3) := by
        rw [txt_append_s, strCells_txt, ← byteCells_append, ← hsn.out] at hb3
        exact Lib.hid hb3
      have hbl' : RowKit.Below w.heap.size w w3 := ((hbl.alloc hbl.size _).trans (hv.mono (by simp; omega))).trans hbl3
      have hws' : w.heap.size < w3.heap.size := by have := hbl3.size; have := hv.size; simp at this; omega
      clear hsz1
      go_wp2
      go_roundw
      case rel => exact ⟨k + 1, by omega, by go_num, hB3.out, hbl', hws'⟩
      case measure => simp only [intOf]; omega
    · have hke : k = xs.length := by omega
      have htk : xs.take k = xs := by rw [hke]; exact List.take_length
      have hB' := Lib.hid hB
      clear hB
      go_wp2_with fail
      refine (builder_string w.heap.size w.heap.size (tx (xs.take k)) wr hB'.out (by omega)).mono ?_
      rintro e w2 ⟨rfl, hv⟩
      rw [htk]
      clear htk hke
      go_wp2
      go_ret
      exact ⟨rfl, hbl.trans hv⟩
end Go.Proofs.YtajngeaenfdigaaGreatDoor.Wk
/- bytes.Compare of two rows. -/
namespace Go.Proofs.YtajngeaenfdigaaGreatDoor.Wk
set_option maxRecDepth 100000
open Go.RowKit Go.VmK Go.NumPure Go.Shelf
theorem st_refl (A : World) : Stands A A := ⟨rfl, rfl, Nat.le_refl _, fun _ _ => rfl⟩
theorem cell_st {W W' : World} {b i : Nat} {v : Value} (k : Stands W W') (h : W.cell? ⟨b, i, none⟩ = some v) : W'.cell? ⟨b, i, none⟩ = some v := by
  rw [← h]
  simp only [World.cell?, k.blocks b (World.block_lt_of_cell? _ _ h)]
theorem bytesOf_row (b o c : Nat) (x : List Nat) (w : World) (h : ∀ (j n : Nat), x[j]? = some n → w.cell? ⟨b, o + j, none⟩ = some (.int .u8 (Int.ofNat n))) :
    (Extern.Bytes.bytesOf (.slice (some ⟨b, o, none⟩) x.length c)).run Tryz.prog w = .ok (txt (x.map UInt8.ofNat)) w := by
  have hl := Lib.run_loadBytesX (P := Tryz.prog) w (x.map Int.ofNat) ⟨b, o, none⟩ .empty (fun j v hv => by
    have hadd : (⟨b, o, none⟩ : Addr).add j = ⟨b, o + j, none⟩ := by unfold Addr.add; split <;> simp_all
    rw [hadd]
    simp only [List.getElem?_map, Option.map_eq_some_iff] at hv
    obtain ⟨n, hn, rfl⟩ := hv
    exact h j n hn)
  rw [List.length_map] at hl
  simp only [Extern.Bytes.bytesOf]
  rw [hl]
  congr 1
  apply ByteArray.ext
  simp [txt, Lib.bytesOf, Function.comp_def]
/-- bytes.Compare, as the machine takes it -/
theorem conBytes {O : Env → Heap → World → Prop} : ConOK Tryz.prog O 17 (.fn cmpRows) := by
  refine cmpRows_ok fun w b1 o1 c1 b2 o2 c2 x y hb1 hb2 h1 h2 => ?_
  have hr : (Extern.BytealgCompare.compare #[.slice (some ⟨b1, o1, none⟩) x.length c1, .slice (some ⟨b2, o2, none⟩) y.length c2]).run Tryz.prog w = .ok (.int .i64 (Lib.compareBytes (x.map UInt8.ofNat) (y.map UInt8.ofNat))) w := by
    change Sem.run Tryz.prog (do pure (goInt (Extern.BytealgCompare.cmp (← Extern.Bytes.bytesOf (.slice (some ⟨b1, o1, none⟩) x.length c1)) (← Extern.Bytes.bytesOf (.slice (some ⟨b2, o2, none⟩) y.length c2))))) w = _
    simp only [Sem.run_bind, bytesOf_row b1 o1 c1 x w h1, bytesOf_row b2 o2 c2 y w h2, Sem.run_pure, Result.andThen]
    rw [Lib.cmp_eq]
    rfl
  have hc : (callFunc 30 #[.slice (some ⟨b1, o1, none⟩) x.length c1, .slice (some ⟨b2, o2, none⟩) y.length c2]).run Tryz.prog w = .ok (.value (.int .i64 (Lib.compareBytes (x.map UInt8.ofNat) (y.map UInt8.ofNat)))) w := by
    rw [run_callFunc_extern Tryz.func30 (by kernel_rfl) (by kernel_rfl) (by kernel_rfl) (show Extern.find _ = some Extern.BytealgCompare.compare by kernel_rfl), hr]
    simp [Result.andThen]
  go_enter Tryz.func17, Tryz.ntmps17
  go_wp2
  go_ret
  exact ⟨rfl, st_refl _⟩
end Go.Proofs.YtajngeaenfdigaaGreatDoor.Wk
