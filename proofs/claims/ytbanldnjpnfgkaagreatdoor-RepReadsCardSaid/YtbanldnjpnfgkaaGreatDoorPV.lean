/-
  Part of the proof of a statement of this seat: walks of its functions and the closed run; no condition but those written in each theorem.
-/
import Derived.Test.YtbanldnjpnfgkaaGreatDoorProg
import Derived.WalkKit
import Derived.Lib.Hide
import Derived.KernelRfl
import Derived.Test.YtbanldnjpnfgkaaGreatDoorV7
import Derived.Test.YtbanldnjpnfgkaaGreatDoorPA
import Derived.Test.YtbanldnjpnfgkaaGreatDoorPL
namespace Go.Proofs.YtbanldnjpnfgkaaGreatDoor.Wk
set_option maxRecDepth 100000
open Go.RowKit Go.VmK Go.NumPure
theorem info8 : (Tryz.prog.info? 5).map (fun i => (i.zero, i.size, i.bytes)) = some (some (.int .u8 0), 1, 1) := by kernel_rfl
set_option maxHeartbeats 1600000 in
theorem var_any (v0 : Nat) (hv0 : v0 < 18446744073709551616) (bk off cap : Nat) (w : World) (_hbk : bk < w.heap.size) (hc : w.cell? ⟨bk, off, none⟩ = some (.int .u64 v0)) :
    Calls Tryz.prog 223 #[.slice (some ⟨bk, off, none⟩) 1 cap] w fun e w' => e = .returned (.string (bytesOf (vr v0))) ∧ Below w.heap.size w w' := by
  obtain ⟨i0, hi, hz0, hz1, hz2⟩ := info_parts info8
  go_enter Tryz.func223, Tryz.ntmps223
  go_wp2
  refine wp_loop_rounds 2 ?_
  rw [rounds_succ]
  go_wp2
  go_loopw [3, 5] (fun b v wr => ∃ (pre : List Nat) (n : Nat), v = .int .u64 n ∧ pre ++ vr n = vr v0 ∧ n < 18446744073709551616 ∧ wr.ownsRow w.heap.size 5 1 b pre.length (byteVals pre) ∧ Below w.heap.size w wr) (fun _ v _ => (intOf v).toNat)
  case atStart => exact ⟨[], v0, rfl, rfl, hv0, World.ownsRow_nil _ _ _ _, Below.refl _ _⟩
  case round =>
    obtain ⟨pre, n, rfl, hpre, hn, hown, hbl⟩ := hrel
    have hpl : pre.length ≤ 11 := by have := congrArg List.length hpre; have := vr_short hv0; simp at *; omega
    have hO := Lib.hid hpre
    clear hpre
    by_cases h128 : 128 ≤ n
    · have ho := Lib.hid (or128 n)
      have hrec := Lib.hid (vr_high h128)
      go_wp2_with (at_builtin; refine wpList_append_own _ rfl _ _ 85 rfl w.heap.size 5 i0 (.int .u8 0) 1 1 Tryz.underlying85 hi hz0 hz1 hz2 rfl (by decide) _ _ _ rfl (hown.alloc _) ⟨wr.heap.size, 0, none⟩ 1 1 [.int .u8 (bits .or .u8 ((n : Int) % 256) 128)] rfl rfl ?c1 ?c2 ?c3 ?c4 ?c5 ?_)
      case c1 =>
        intro j u hj
        match j, hj with
        | 0, hj => simp at hj; subst hj; simp [Addr.add]
      case c2 => intro u hu; simp at hu; subst hu; rfl
      case c3 => unfold maxLen; omega
      case c4 => omega
      case c5 => have := hbl.size; simp; omega
      intro v' w1 hown' hgrow _
      have hb1 : Below w.heap.size w w1 := (hbl.alloc hbl.size _).grown hgrow (by have := hbl.size; simp; omega) (fun j hj => by have := (hown.lt j hj).1; omega)
      clear hown hgrow hbl
      go_wp2
      go_roundw
      case rel =>
        refine ⟨pre ++ [n % 128 + 128], n / 128, by go_num, ?_, by omega, ?_, hb1⟩
        · rw [← hO.out, hrec.out]; simp
        · rw [ho.out] at hown'
          simpa [byteVals] using hown'
      case measure => simp only [intOf]; omega
    · go_wp2_with (at_builtin; refine wpList_append_own _ rfl _ _ 85 rfl w.heap.size 5 i0 (.int .u8 0) 1 1 Tryz.underlying85 hi hz0 hz1 hz2 rfl (by decide) _ _ _ rfl (hown.alloc _) ⟨wr.heap.size, 0, none⟩ 1 1 [.int .u8 (n : Int)] rfl rfl ?d1 ?d2 ?d3 ?d4 ?d5 ?_)
      case d1 =>
        intro j u hj
        match j, hj with
        | 0, hj => simp at hj; subst hj; simp [Addr.add]
      case d2 => intro u hu; simp at hu; subst hu; rfl
      case d3 => unfold maxLen; omega
      case d4 => omega
      case d5 => have := hbl.size; simp; omega
      intro v' w1 hown' hgrow _
      have hb1 : Below w.heap.size w w1 := (hbl.alloc hbl.size _).grown hgrow (by have := hbl.size; simp; omega) (fun j hj => by have := (hown.lt j hj).1; omega)
      have hrec := Lib.hid (vr_low (Nat.lt_of_not_le h128))
      clear hown hgrow hbl
      have hcv := conv_own (P := Tryz.prog) (w := w1) (l := pre ++ [n]) Tryz.underlying85 Tryz.underlying5 Tryz.underlying9 (by simpa [byteVals] using hown') (by simp)
      have hcv := Lib.hid hcv
      go_wp2
      rw [rounds_succ]
      replace hcv := hcv.out
      go_wp2
      go_ret
      have e : pre ++ [n] = vr v0 := by rw [← hO.out, hrec.out]
      exact ⟨congrArg (fun z => Ending.returned (.string (bytesOf z))) e, hb1⟩
end Go.Proofs.YtbanldnjpnfgkaaGreatDoor.Wk
namespace Go.Proofs.YtbanldnjpnfgkaaGreatDoor.Wk
set_option maxRecDepth 100000
open Go.RowKit Go.VmK Go.NumPure Go.Shelf
theorem extra166 : Builder.Extra Tryz.prog Tryz.lB166_ren := {
  sizeBuilder := by kernel_rfl
  liesBuilder := by kernel_rfl
  t5 := Tryz.underlying5
  a5 := Tryz.isAgg5
  z5 := Tryz.sizeOf5
  v5 := Tryz.zeroValue5
  infoByte := by kernel_rfl
  cellsByte := by kernel_rfl
  sizeByte := by kernel_rfl
  neB5 := by decide }
theorem extra169 : Builder.Extra Tryz.prog Tryz.lB169_ren := {
  sizeBuilder := by kernel_rfl
  liesBuilder := by kernel_rfl
  t5 := Tryz.underlying5
  a5 := Tryz.isAgg5
  z5 := Tryz.sizeOf5
  v5 := Tryz.zeroValue5
  infoByte := by kernel_rfl
  cellsByte := by kernel_rfl
  sizeByte := by kernel_rfl
  neB5 := by decide }
theorem builder_write (B b : Nat) (bs : List Value) (s : ByteArray) (w : World) (h : Lib.IsBuilder 335 5 B b bs w) (hlen : bs.length + s.size ≤ 140737488355328) (hBw : B ≤ w.heap.size) :
    Calls Tryz.prog 222 #[.pointer (some ⟨b, 0, none⟩), .string s] w fun e w' => e = .returned (.tuple #[.int .i64 s.size, .nilIface]) ∧ Lib.IsBuilder 335 5 B b (bs ++ Lib.strCells s) w' ∧ Below B w w' :=
  (Any.Builder_WriteString Tryz.lB166 extra166 B b bs s w h hlen hBw).mono fun _ _ ⟨h1, h2, h3⟩ => ⟨h1, .inr h2, h3⟩
theorem builder_string (B b : Nat) (l : List UInt8) (w : World) (h : Lib.IsBuilder 335 5 B b (Lib.byteCells l) w) (hBw : B ≤ w.heap.size) :
    Calls Tryz.prog 224 #[.pointer (some ⟨b, 0, none⟩)] w fun e w' => e = .returned (.string (txt l)) ∧ Below B w w' :=
  Any.Builder_String_any Tryz.lB169 extra169 B b l w h hBw
theorem stands_of_below {w w' : World} (h : RowKit.Below w.heap.size w w') : Stands w w' := ⟨h.os, h.output, h.size, h.block⟩
set_option maxHeartbeats 3200000 in
theorem text_any (xs : List ByteArray) (bk off cap : Nat) (w : World) (hbk : bk < w.heap.size) (hlen : xs.length ≤ 1000000) (hsz : (tx xs).length ≤ 1000000000) (hx : ∀ s ∈ xs, s.size ≤ 1000000000) (hc : ∀ (j : Nat) (s : ByteArray), xs[j]? = some s → w.cell? ⟨bk, off + j, none⟩ = some (.string s)) :
    Calls Tryz.prog 249 #[.slice (some ⟨bk, off, none⟩) xs.length cap] w fun e w' => e = .returned (.string (txt (tx xs))) ∧ Below w.heap.size w w' := by
  have hc := Lib.hid hc
  have hx := Lib.hid hx
  go_enter Tryz.func249, Tryz.ntmps249
  go_wp2
  go_loopw [5, 8] (fun _ i wr => ∃ k : Nat, k ≤ xs.length ∧ i = .int .i64 k ∧ Lib.IsBuilder 335 5 w.heap.size w.heap.size (Lib.byteCells (tx (xs.take k))) wr ∧ Below w.heap.size w wr ∧ w.heap.size < wr.heap.size) (fun _ i _ => xs.length - (intOf i).toNat)
  case atStart =>
    refine ⟨0, Nat.zero_le _, rfl, .inl ⟨Nat.le_refl _, .slice none 0 0, ?_, World.ownsRow_nil _ _ _ _, by simp [Value.ownBlock]⟩, (RowKit.Below.refl _ _).alloc (Nat.le_refl _) _, by simp⟩
    simp [World.alloc, -World.alloc_eq]
  case round =>
    obtain ⟨k, hk, rfl, hB, hbl, hws⟩ := hrel
    have htl := tx_take_len xs k
    by_cases hlt : k < xs.length
    · obtain ⟨s, hs⟩ : ∃ s, xs[k]? = some s := ⟨_, List.getElem?_eq_getElem hlt⟩
      have hss := hx.out s (List.mem_of_getElem? hs)
      have hcx : wr.cell? ⟨bk, off + k, none⟩ = some (.string s) := (hbl.cell (by exact hbk)).trans (hc.out k s hs)
      have hsn := Lib.hid (tx_snoc xs k s hs)
      have hbk1 := Lib.hid (builder_stays hB (w' := wr.alloc (.cells #[.int .u64 (s.size : Int)] 45)) (fun j hj => RowKit.Below.heap_alloc _ _ _ hj))
      clear hB
      have h11 : (txt (vb s.size)).size ≤ 11 := by have := vr_short (n := s.size) (by omega); simp [txt_size, vb]; exact this
      go_wp2_with fail
      refine (var_any s.size (by omega) wr.heap.size 0 1 _ (by simp) (cell_new _ _ _ _ _ rfl)).mono ?_
      rintro e w2 ⟨rfl, hv⟩
      have hb2 := Lib.hid (builder_stays hbk1.out (w' := w2) hv.block)
      rw [bytesOf_vr]
      go_wp2_with fail
      have hsz1 : (txt (vb s.size) ++ s).size = (vb s.size).length + s.size := by rw [txt_append_s, txt_size, List.length_append]; rfl
      have hsw : w.heap.size ≤ w2.heap.size := by have := hv.size; simp at this; omega
      refine (builder_write w.heap.size w.heap.size _ (txt (vb s.size) ++ s) w2 hb2.out (by rw [byteCells_len, hsz1]; have := txt_size (vb s.size); omega) hsw).mono ?_
      rintro e w3 ⟨rfl, hb3, hbl3⟩
      have hB3 : Hid (Lib.IsBuilder 335 5 w.heap.size w.heap.size (Lib.byteCells (tx (xs.take (k + 1)))) w3) := by
        rw [txt_append_s, strCells_txt, ← byteCells_append, ← hsn.out] at hb3
        exact Lib.hid hb3
      have hbl' : RowKit.Below w.heap.size w w3 := ((hbl.alloc hbl.size _).trans (hv.mono (by simp; omega))).trans hbl3
      have hws' : w.heap.size < w3.heap.size := by have := hbl3.size; have := hv.size; simp at this; omega
      clear hsz1
      go_wp2
      go_roundw
      case rel => exact ⟨k + 1, by omega, by go_num, hB3.out, hbl', hws'⟩
      case measure => simp only [intOf]; omega
    · have hke : k = xs.length := by omega
      have htk : xs.take k = xs := by rw [hke]; exact List.take_length
      have hB' := Lib.hid hB
      clear hB
      go_wp2_with fail
      refine (builder_string w.heap.size w.heap.size (tx (xs.take k)) wr hB'.out (by omega)).mono ?_
      rintro e w2 ⟨rfl, hv⟩
      rw [htk]
      clear htk hke
      go_wp2
      go_ret
      exact ⟨rfl, hbl.trans hv⟩
end Go.Proofs.YtbanldnjpnfgkaaGreatDoor.Wk
namespace Go.Proofs.YtbanldnjpnfgkaaGreatDoor.Wk
set_option maxRecDepth 100000
open Go.RowKit Go.VmK Go.NumPure
theorem make4 (w : World) : (Instr.makeSlice 85 (.int .i64 4) (.int .i64 4)).run Tryz.prog w = .ok (.slice (some ⟨w.heap.size, 0, none⟩) 4 4) (w.alloc (.cells #[.int .u8 0, .int .u8 0, .int .u8 0, .int .u8 0] 5)) := by kernel_rfl
theorem fix4 (v : Nat) (hv : v < 4294967296) (w : World) :
    Calls Tryz.prog 377 #[.int .u64 v, .int .i64 4] w fun e w' => e = .returned (.tuple #[.string (be4s v), .int .i64 0]) ∧ Grown w w' := by
  have h0 : ((v : Int) / 4294967296 != 0) = false := by
    have : (v : Int) / 4294967296 = 0 := by omega
    rw [this]; rfl
  have hcv : ∀ w1 : World, (convert 85 9 (.slice (some ⟨w.heap.size, 0, none⟩) 4 4)).run Tryz.prog (w.alloc (.cells #[.int .u8 (↑v / 16777216), .int .u8 (↑v / 65536 % 256), .int .u8 (↑v / 256 % 256), .int .u8 (↑v % 256)] 5)) = .ok (.string (be4s v)) (w.alloc (.cells #[.int .u8 (↑v / 16777216), .int .u8 (↑v / 65536 % 256), .int .u8 (↑v / 256 % 256), .int .u8 (↑v % 256)] 5)) := fun _ =>
    conv_bytes Tryz.underlying85 Tryz.underlying5 Tryz.underlying9 w.heap.size 0 4 (be4 v) (by
      intro j n hn
      have hj : j < 4 := (List.getElem?_eq_some_iff.1 hn).1
      obtain rfl | rfl | rfl | rfl : j = 0 ∨ j = 1 ∨ j = 2 ∨ j = 3 := by omega
      all_goals (simp [be4] at hn; subst hn; exact cell_new _ _ _ _ _ (by simp)))
  have hcv := hcv w
  go_enter Tryz.func377, Tryz.ntmps377
  have hmk := make4
  go_wp2
  clear hmk
  refine wp_loop_rounds 5 ?_
  rw [rounds_succ]
  go_wp2
  rw [rounds_succ]
  go_wp2
  rw [rounds_succ]
  go_wp2
  rw [rounds_succ]
  go_wp2
  rw [rounds_succ]
  go_wp2
  go_ret2
  exact ⟨rfl, (Grown.refl _).alloc _ _⟩
theorem four_any (v : Nat) (hv : v < 4294967296) (w : World) :
    Calls Tryz.prog 299 #[.int .u32 v] w fun e w' => e = .returned (.string (be4s v)) ∧ Stands w w' := by
  go_enter Tryz.func299, Tryz.ntmps299
  go_wp2_with (go_at_call 377; refine (fix4 v hv _).mono ?_; rintro e w' ⟨rfl, hg⟩)
  go_ret
  exact ⟨rfl, stands_of_grown hg⟩
end Go.Proofs.YtbanldnjpnfgkaaGreatDoor.Wk
namespace Go.Proofs.YtbanldnjpnfgkaaGreatDoor.Wk
set_option maxRecDepth 100000
open Go.RowKit Go.VmK Go.NumPure
theorem lite_any (s : ByteArray) (h : s.size ≤ 281474976710656) (w : World) : Calls Tryz.prog 158 #[.string s] w fun e w' => e = .returned (.string s) ∧ Stands w w' :=
  (Any.stringslite_Clone Tryz.lClone s w h).mono fun _ _ ⟨h1, h2⟩ => ⟨h1, h2.os, h2.output, h2.size, h2.block⟩
theorem clone_any (s : ByteArray) (h : s.size ≤ 281474976710656) (w : World) : Calls Tryz.prog 78 #[.string s] w fun e w' => e = .returned (.string s) ∧ Stands w w' := by
  go_enter Tryz.func78, Tryz.ntmps78
  go_wp2_with (go_at_call 158; refine (lite_any s h _).mono ?_; rintro e w' ⟨rfl, hw⟩)
  go_ret
  exact ⟨rfl, hw⟩
end Go.Proofs.YtbanldnjpnfgkaaGreatDoor.Wk
namespace Go.Proofs.YtbanldnjpnfgkaaGreatDoor.Wk
set_option maxRecDepth 100000
open Go.RowKit Go.VmK Go.NumPure
theorem sumL_take (s : ByteArray) (k : Nat) (h : k < s.size) : sumL 4294967295 (s.data.toList.take (k + 1)) = sBits 8 (sumL 4294967295 (s.data.toList.take k) ^^^ s[k].toNat) := by
  rw [List.take_succ_eq_append_getElem (by simpa using h), sumL_snoc]; rfl
theorem crc_any (s : ByteArray) (bk off cap : Nat) (w : World) (hs : s.size ≤ 9223372036854775807) (hc : w.cell? ⟨bk, off, none⟩ = some (.string s)) :
    Calls Tryz.prog 153 #[.slice (some ⟨bk, off, none⟩) 1 cap] w fun e w' => e = .returned (.int .u32 (crc s.data.toList)) ∧ w' = w := by
  go_enter Tryz.func153, Tryz.ntmps153
  go_wp2
  refine wp_loop_rounds 2 ?_
  rw [rounds_succ]
  go_wp2
  go_loop [3, 16] (fun x i => ∃ k : Nat, k ≤ s.size ∧ x = .int .u32 (sumL 4294967295 (s.data.toList.take k) : Nat) ∧ i = .int .i64 k) (fun _ i => s.size - (intOf i).toNat)
  case atStart => exact ⟨0, Nat.zero_le _, rfl, rfl⟩
  case round =>
    obtain ⟨k, hk, rfl, rfl⟩ := hrel
    have hv := sumL_lt (s.data.toList.take k) (x := 4294967295) (by decide)
    by_cases hlt : k < s.size
    · have hb := s[k].toNat_lt
      have hn := Lib.hid (sumL_take s k hlt)
      have hx := Lib.hid (xor32 _ _ hv (by omega : s[k].toNat < 4294967296))
      have hxl : sumL 4294967295 (s.data.toList.take k) ^^^ s[k].toNat < 4294967296 := Nat.lt_of_lt_of_le (Nat.xor_lt_two_pow (n := 32) (by omega) (by omega)) (by decide)
      go_wp2
      go_loop [3, 25] (fun x i => ∃ j : Nat, j ≤ 8 ∧ x = .int .u32 (sBits j (sumL 4294967295 (s.data.toList.take k) ^^^ s[k].toNat) : Nat) ∧ i = .int .i64 j) (fun _ i => 8 - (intOf i).toNat)
      case atStart =>
        refine ⟨0, by omega, ?_, rfl⟩
        rw [hx.out]; rfl
      case round =>
        obtain ⟨j, hj, rfl, rfl⟩ := hrel
        have hu := sBits_lt hxl j
        have ha := Lib.hid (and32 _ 1 hu (by decide))
        have hp := Lib.hid (xor32 (sBits j (sumL 4294967295 (s.data.toList.take k) ^^^ s[k].toNat) / 2) 2197175160 (by omega) (by decide))
        by_cases hj8 : j < 8
        · go_wp2
          all_goals
            have ha := ha.out
            rename_i hodd
            rw [show ((1 : Int)) = ((1 : Nat) : Int) from rfl, ha, Nat.and_one_is_mod] at hodd
            go_round
            case rel =>
              refine ⟨j + 1, by omega, ?_, by go_num⟩
              show _ = Value.int .u32 ((sBit (sBits j (sumL 4294967295 (s.data.toList.take k) ^^^ s[k].toNat)) : Nat) : Int)
              unfold sBit
              first
                | (rw [if_pos (by have := eq_of_beq hodd; omega)]; rw [← hp.out]; rfl)
                | (rw [if_neg (by intro h; rw [h] at hodd; cases hodd)]; go_num)
            case measure => simp only [intOf]; omega
        · go_wp2
          have : j = 8 := by omega
          subst this
          go_round
          case rel => exact ⟨k + 1, by omega, by rw [hn.out], by go_num⟩
          case measure => simp only [intOf]; omega
    · have hx := Lib.hid (xor32 4294967295 _ (by decide) hv)
      go_wp2
      rw [rounds_succ]
      go_wp2
      have : s.data.toList.take k = s.data.toList := List.take_of_length_le (by simp; omega)
      go_ret
      rw [this] at hx
      refine ⟨?_, rfl⟩
      have hx := hx.out
      rw [Nat.xor_comm] at hx
      show Ending.returned (.int .u32 (bits .xor .u32 4294967295 _)) = _
      rw [this]
      exact congrArg (fun z => Ending.returned (.int .u32 z)) hx
end Go.Proofs.YtbanldnjpnfgkaaGreatDoor.Wk
namespace Go.Proofs.YtbanldnjpnfgkaaGreatDoor.Wk
set_option maxRecDepth 100000
open Go.RowKit Go.VmK Go.NumPure
theorem unfix4 (b : ByteArray) (i : Nat) (h : i + 4 ≤ b.size) (hb : b.size ≤ 9223372036854775807) (w : World) :
    Calls Tryz.prog 155 #[.string b, .int .i64 i, .int .i64 4] w fun e w' => e = .returned (.tuple #[.int .u64 (rd4 b i), .int .i64 0]) ∧ w' = w := by
  have hr := Lib.hid (or_four b i)
  go_enter Tryz.func155, Tryz.ntmps155
  go_wp2
  refine wp_loop_rounds 5 ?_
  rw [rounds_succ]
  go_wp2
  rw [rounds_succ]
  go_wp2
  rw [rounds_succ]
  go_wp2
  rw [rounds_succ]
  go_wp2
  rw [rounds_succ]
  go_wp2
  go_ret2
  have hr := hr.out
  rw [← byteAt_get b i (by omega), ← byteAt_get b (i + 1) (by omega), ← byteAt_get b (i + 2) (by omega), ← byteAt_get b (i + 3) (by omega)] at hr
  exact ⟨congrArg (fun z => Ending.returned (.tuple #[.int .u64 z, .int .i64 0])) hr, rfl⟩
theorem get_any (b : ByteArray) (i : Nat) (h : i + 4 ≤ b.size) (hb : b.size ≤ 9223372036854775807) (w : World) :
    Calls Tryz.prog 152 #[.string b, .int .i64 i] w fun e w' => e = .returned (.int .u32 (rd4 b i)) ∧ w' = w := by
  have hlt := rd4_lt b i
  go_enter Tryz.func152, Tryz.ntmps152
  go_wp2_with (go_at_call 155; refine (unfix4 b i h hb _).mono ?_; rintro e w' ⟨rfl, rfl⟩)
  go_ret
  exact ⟨rfl, rfl⟩
end Go.Proofs.YtbanldnjpnfgkaaGreatDoor.Wk
