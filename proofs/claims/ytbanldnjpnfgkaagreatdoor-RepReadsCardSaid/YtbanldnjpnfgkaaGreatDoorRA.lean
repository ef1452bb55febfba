/-
  Part of the proof of a statement of this seat: walks of its functions and the closed run; no condition but those written in each theorem.
-/
import Derived.Test.YtbanldnjpnfgkaaGreatDoorProg
import Derived.WalkKit
import Derived.Lib.Hide
import Derived.Test.YtbanldnjpnfgkaaGreatDoorV7
import Derived.Test.YtbanldnjpnfgkaaGreatDoorPV
import Derived.Lib.AppendStr
import Derived.KernelRfl
import Derived.Test.YtbanldnjpnfgkaaGreatDoorPA
import Derived.Test.YtbanldnjpnfgkaaGreatDoorQB
/- The reference's check sum. -/
namespace Go.Proofs.YtbanldnjpnfgkaaGreatDoor.Wk
set_option maxRecDepth 100000
open Go.RowKit Go.VmK Go.NumPure
set_option maxHeartbeats 1600000 in
theorem rcrc_any (s : ByteArray) (w : World) (hs : s.size ≤ 9223372036854775807) :
    Calls Tryz.prog 73 #[.string s] w fun e w' => e = .returned (.int .u32 (crc s.data.toList)) ∧ w' = w := by
  go_enter Tryz.func73, Tryz.ntmps73
  go_wp2
  go_loop [3, 4] (fun x i => ∃ k : Nat, k ≤ s.size ∧ x = .int .u32 (sumL 4294967295 (s.data.toList.take k) : Nat) ∧ i = .int .i64 k) (fun _ i => s.size - (intOf i).toNat)
  case atStart => exact ⟨0, Nat.zero_le _, rfl, rfl⟩
  case round =>
    obtain ⟨k, hk, rfl, rfl⟩ := hrel
    have hv := sumL_lt (s.data.toList.take k) (x := 4294967295) (by decide)
    by_cases hlt : k < s.size
    · have hb := s[k].toNat_lt
      have hn := Lib.hid (sumL_take s k hlt)
      have hx := Lib.hid (xor32 _ _ hv (by omega : s[k].toNat < 4294967296))
      have hxl : sumL 4294967295 (s.data.toList.take k) ^^^ s[k].toNat < 4294967296 := Nat.lt_of_lt_of_le (Nat.xor_lt_two_pow (n := 32) (by omega) (by omega)) (by decide)
      go_wp2
      go_loop [3, 5] (fun x i => ∃ j : Nat, j ≤ 8 ∧ x = .int .u32 (sBits j (sumL 4294967295 (s.data.toList.take k) ^^^ s[k].toNat) : Nat) ∧ i = .int .i64 j) (fun _ i => 8 - (intOf i).toNat)
      case atStart =>
        refine ⟨0, by omega, ?_, rfl⟩
        rw [hx.out]; rfl
      case round =>
        obtain ⟨j, hj, rfl, rfl⟩ := hrel
        have hu := sBits_lt hxl j
        have hp := Lib.hid (xor32 (sBits j (sumL 4294967295 (s.data.toList.take k) ^^^ s[k].toNat) / 2) 2197175160 (by omega) (by decide))
        by_cases hj8 : j < 8
        · by_cases hodd : sBits j (sumL 4294967295 (s.data.toList.take k) ^^^ s[k].toNat) % 2 = 1
          · have ho : (((sBits j (sumL 4294967295 (s.data.toList.take k) ^^^ s[k].toNat) : Nat) : Int) % 2 == 1) = true := by rw [beq_iff_eq]; omega
            replace hodd := Lib.hid hodd
            go_wp2
            go_round
            case rel =>
              refine ⟨j + 1, by omega, ?_, by go_num⟩
              show _ = Value.int .u32 ((sBit (sBits j (sumL 4294967295 (s.data.toList.take k) ^^^ s[k].toNat)) : Nat) : Int)
              unfold sBit
              rw [if_pos hodd.out, ← hp.out]; rfl
            case measure => simp only [intOf]; omega
          · have ho : (((sBits j (sumL 4294967295 (s.data.toList.take k) ^^^ s[k].toNat) : Nat) : Int) % 2 == 1) = false := by rw [beq_eq_false_iff_ne]; omega
            replace hodd := Lib.hid hodd
            go_wp2
            go_round
            case rel =>
              refine ⟨j + 1, by omega, ?_, by go_num⟩
              show _ = Value.int .u32 ((sBit (sBits j (sumL 4294967295 (s.data.toList.take k) ^^^ s[k].toNat)) : Nat) : Int)
              unfold sBit
              rw [if_neg hodd.out]
              go_num
            case measure => simp only [intOf]; omega
        · go_wp2
          have : j = 8 := by omega
          subst this
          go_round
          case rel => exact ⟨k + 1, by omega, by rw [hn.out], by go_num⟩
          case measure => simp only [intOf]; omega
    · have hx := Lib.hid (xor32 _ 4294967295 hv (by decide))
      go_wp2
      have : s.data.toList.take k = s.data.toList := List.take_of_length_le (by simp; omega)
      go_ret
      rw [this] at hx
      refine ⟨?_, rfl⟩
      have hx := hx.out
      rw [this]
      exact congrArg (fun z => Ending.returned (.int .u32 z)) hx
end Go.Proofs.YtbanldnjpnfgkaaGreatDoor.Wk
/- A row of bytes of the call's own, grown by texts. -/
namespace Go.Proofs.YtbanldnjpnfgkaaGreatDoor.Wk
set_option maxRecDepth 100000
open Go.RowKit Go.VmK Go.NumPure
def bv (l : List UInt8) : List Value := l.map fun x => Value.int .u8 (x.toNat : Int)
theorem bv_append (l m : List UInt8) : bv l ++ bv m = bv (l ++ m) := by simp [bv]
theorem bv_len (l : List UInt8) : (bv l).length = l.length := by simp [bv]
theorem bv_str (s : ByteArray) : Lib.strCells s = bv s.data.toList := rfl
theorem bv_one (x : UInt8) : [Value.int .u8 (x.toNat : Int)] = bv [x] := rfl
theorem bv_vals (l : List UInt8) : byteVals (l.map UInt8.toNat) = bv l := by simp [byteVals, bv]
theorem bytesOf_nat (l : List UInt8) : bytesOf (l.map UInt8.toNat) = txt l := by
  unfold bytesOf txt
  rw [List.map_map]
  congr 2
  conv => rhs; rw [← List.map_id l]
  apply List.map_congr_left
  intro a _
  simp
theorem owns_stands {w w' : World} {base size n : Nat} {e : TypeId} {v : Value} {xs : List Value} (h : w.ownsRow base e size v n xs) (hg : Stands w w') : w'.ownsRow base e size v n xs := by
  refine ⟨h.1, ?_⟩
  rcases h.2 with hn | ⟨g, cap, cur, rfl, hb, hgg, rest⟩
  · exact .inl hn
  · exact .inr ⟨g, cap, cur, rfl, hb, (hg.blocks g (Array.getElem?_eq_some_iff.1 hgg).1).trans hgg, rest⟩
theorem stands_own {w0 w w' : World} {e : TypeId} {size n : Nat} {v : Value} {xs : List Value} (hs : Stands w0 w) (ho : w.ownsRow w0.heap.size e size v n xs) (h : w.grownBy w' v.ownBlock) : Stands w0 w' := by
  refine ⟨h.os.trans hs.os, h.output.trans hs.output, Nat.le_trans hs.size h.size, fun b hb => (h.block b (Nat.lt_of_lt_of_le hb hs.size) ?_).trans (hs.blocks b hb)⟩
  rcases ho.2 with ⟨rfl, _⟩ | ⟨g, cap, cur, rfl, hg, _⟩
  · simp [Value.ownBlock]
  · simp only [Value.ownBlock, ne_eq, Option.some.injEq]
    omega
/-- such a row as a text -/
theorem own_text {w : World} {base : Nat} {b : Value} {l : List UInt8} (h : w.ownsRow base 5 1 b l.length (bv l)) (hl : l ≠ []) : (convert 85 9 b).run Tryz.prog w = .ok (.string (txt l)) w := by
  have e := conv_own (P := Tryz.prog) (w := w) (l := l.map UInt8.toNat) (base := base) (v := b) Tryz.underlying85 Tryz.underlying5 Tryz.underlying9 (by rw [bv_vals, List.length_map]; exact h) (by simpa using hl)
  rw [bytesOf_nat] at e
  exact e
end Go.Proofs.YtbanldnjpnfgkaaGreatDoor.Wk
/- The reference's small numbers and texts, and its check sum behind a text. -/
namespace Go.Proofs.YtbanldnjpnfgkaaGreatDoor.Wk
set_option maxRecDepth 100000
open Go.RowKit Go.VmK Go.NumPure
theorem rvar_low (v : Nat) (hv : v < 128) (w : World) :
    Calls Tryz.prog 35 #[.int .u64 v] w fun e w' => e = .returned (.string (bytesOf [v])) ∧ RowKit.Below w.heap.size w w' := by
  obtain ⟨i0, hi, hz0, hz1, hz2⟩ := info_parts info8
  have hlow : ¬ ((128 : Int) ≤ v) := by omega
  have h256 : (v : Int) % 256 = v := by omega
  go_enter Tryz.func35, Tryz.ntmps35
  go_wp2
  refine wp_loop_rounds 1 ?_
  rw [rounds_succ]
  go_wp2_with (at_builtin; refine wpList_append_own _ rfl _ _ 85 rfl w.heap.size 5 i0 (.int .u8 0) 1 1 Tryz.underlying85 hi hz0 hz1 hz2 rfl (by decide) _ _ _ rfl ((World.ownsRow_nil _ _ _ _).alloc _) ⟨w.heap.size, 0, none⟩ 1 1 [.int .u8 (v : Int)] rfl rfl ?d1 ?d2 ?d3 ?d4 ?d5 ?_)
  case d1 =>
    intro j u hj
    match j, hj with
    | 0, hj => simp at hj; subst hj; simp [Addr.add]
  case d2 => intro u hu; simp at hu; subst hu; rfl
  case d3 => unfold maxLen; omega
  case d4 => omega
  case d5 => simp
  intro v' w1 hown' hgrow _
  have hb1 : RowKit.Below w.heap.size w w1 := ((RowKit.Below.refl _ _).alloc (Nat.le_refl _) _).grown hgrow (by simp) (fun j hj => by simp [Value.ownBlock] at hj)
  have hcv := Lib.hid (conv_own (P := Tryz.prog) (w := w1) (l := [v]) Tryz.underlying85 Tryz.underlying5 Tryz.underlying9 (by simpa [byteVals] using hown') (by simp))
  clear hown' hgrow
  replace hcv := hcv.out
  go_wp2
  go_ret
  exact ⟨rfl, hb1⟩
theorem bytes_txt (v : Nat) : bytesOf [v] = txt [UInt8.ofNat v] := rfl
theorem rtext_low (s : ByteArray) (hs : s.size < 128) (w : World) :
    Calls Tryz.prog 33 #[.string s] w fun e w' => e = .returned (.string (txt (UInt8.ofNat s.size :: s.data.toList))) ∧ Stands w w' := by
  have hv := rvar_low s.size hs w
  go_enter Tryz.func33, Tryz.ntmps33
  go_wp2_with fail
  refine hv.mono ?_
  rintro e w1 ⟨rfl, h1⟩
  have hz : (bytesOf [s.size]).size = 1 := rfl
  replace h1 := Lib.hid h1
  go_wp2
  go_ret
  refine ⟨?_, ⟨h1.out.os, h1.out.output, h1.out.size, h1.out.block⟩⟩
  have e : bytesOf [s.size] ++ s = txt (UInt8.ofNat s.size :: s.data.toList) := by
    apply ByteArray.ext
    rw [bytes_txt, ByteArray.data_append]
    simp [txt]
  rw [e]
  rfl
end Go.Proofs.YtbanldnjpnfgkaaGreatDoor.Wk
/- The reference's rows of small numbers. -/
namespace Go.Proofs.YtbanldnjpnfgkaaGreatDoor.Wk
set_option maxRecDepth 100000
open Go.RowKit Go.VmK Go.NumPure
theorem byteVals_str (v : Nat) (h : v < 256) : Lib.strCells (bytesOf [v]) = byteVals [v] := by
  have e : (UInt8.ofNat v).toNat = v := by rw [UInt8.toNat_ofNat']; omega
  show [Value.int .u8 ((UInt8.ofNat v).toNat : Int)] = [Value.int .u8 (v : Int)]
  rw [e]
theorem byteVals_app (l m : List Nat) : byteVals l ++ byteVals m = byteVals (l ++ m) := by simp [byteVals]
set_option maxHeartbeats 1600000 in
theorem rvars_low (vs : List Nat) (hv : ∀ v ∈ vs, v < 128) (hl : vs.length ≤ 100) (hne : vs ≠ []) (bk off cap : Nat) (w : World) (hc : ∀ (j v : Nat), vs[j]? = some v → w.cell? ⟨bk, off + j, none⟩ = some (.int .u64 v)) :
    Calls Tryz.prog 31 #[.slice (some ⟨bk, off, none⟩) vs.length cap] w fun e w' => e = .returned (.string (bytesOf vs)) ∧ Stands w w' := by
  obtain ⟨i0, hi, hz0, hz1, hz2⟩ := info_parts info8
  replace hi := Lib.hid hi
  replace hz0 := Lib.hid hz0
  replace hz1 := Lib.hid hz1
  replace hz2 := Lib.hid hz2
  replace hc := Lib.hid hc
  replace hv := Lib.hid hv
  go_enter Tryz.func31, Tryz.ntmps31
  go_wp2
  go_loopw [3, 4] (fun b i wr => ∃ k : Nat, k ≤ vs.length ∧ i = .int .i64 k ∧ wr.ownsRow w.heap.size 5 1 b k (byteVals (vs.take k)) ∧ Stands w wr) (fun _ i _ => vs.length - (intOf i).toNat)
  case atStart => exact ⟨0, Nat.zero_le _, rfl, World.ownsRow_nil _ _ _ _, st_refl _⟩
  case round =>
    obtain ⟨k, hk, rfl, hown, hS⟩ := hrel
    by_cases hlt : k < vs.length
    · obtain ⟨v, hvk⟩ : ∃ v, vs[k]? = some v := ⟨_, List.getElem?_eq_getElem hlt⟩
      have hv1 := hv.out v (List.mem_of_getElem? hvk)
      have hcell := cell_st hS (hc.out k v hvk)
      have hlt' : (k : Int) < vs.length := by omega
      replace hown := Lib.hid hown
      replace hS := Lib.hid hS
      replace hvk := Lib.hid hvk
      go_wp2_with fail
      refine (rvar_low v hv1 _).mono ?_
      rintro e w1 ⟨rfl, h1⟩
      have st1 : Stands wr w1 := ⟨h1.os, h1.output, h1.size, h1.block⟩
      have hown1 := Lib.hid (owns_stands hown.out st1)
      have hs1 := hS.out.size
      have hs2 := st1.size
      have hS1 : Hid (Stands w w1) := Lib.hid ⟨st1.os.trans hS.out.os, st1.output.trans hS.out.output, Nat.le_trans hs1 hs2, fun b hb => (st1.blocks b (Nat.lt_of_lt_of_le hb hs1)).trans (hS.out.blocks b hb)⟩
      clear hcell h1 st1
      have hz : (bytesOf [v]).size = 1 := rfl
      go_wp2_with (at_builtin; refine Lib.wpList_append_own_string _ rfl _ _ 85 9 rfl w.heap.size 5 i0 Tryz.underlying85 Tryz.underlying9 hi.out hz0.out hz1.out hz2.out _ k _ rfl hown1.out (bytesOf [v]) rfl ?d1 ?d2 ?d3 ?_)
      case d1 => rw [hz]; unfold maxLen; omega
      case d2 => rw [hz]; omega
      case d3 => omega
      intro v' w2 hown2 hgrow _
      have hS2 := Lib.hid (stands_own hS1.out hown1.out hgrow)
      rw [byteVals_str v (by omega), byteVals_app] at hown2
      replace hown2 := Lib.hid hown2
      clear hgrow
      go_wp2
      go_roundw
      case rel =>
        refine ⟨k + 1, by omega, by go_num, ?_, hS2.out⟩
        have e : vs.take (k + 1) = vs.take k ++ [v] := by
          have h := hvk.out
          rw [List.getElem?_eq_getElem hlt] at h
          rw [List.take_succ_eq_append_getElem hlt, Option.some.inj h]
        rw [e]
        exact hown2.out
      case measure => simp only [intOf]; omega
    · obtain rfl : k = vs.length := by omega
      rw [List.take_length] at hown
      have hcv := conv_own (P := Tryz.prog) (w := wr) (l := vs) Tryz.underlying85 Tryz.underlying5 Tryz.underlying9 hown hne
      replace hS := Lib.hid hS
      clear hown
      go_wp2
      go_ret
      exact ⟨rfl, hS.out⟩
end Go.Proofs.YtbanldnjpnfgkaaGreatDoor.Wk
/- The reference's four bytes of a number. -/
namespace Go.Proofs.YtbanldnjpnfgkaaGreatDoor.Wk
set_option maxRecDepth 100000
open Go.RowKit Go.VmK Go.NumPure
theorem rfix4 (v : Nat) (hv : v < 4294967296) (w : World) :
    Calls Tryz.prog 151 #[.int .u64 v, .int .i64 4] w fun e w' => e = .returned (.tuple #[.string (be4s v), .int .i64 0]) ∧ Grown w w' := by
  have h0 : ¬ ((0 : Int) < (v : Int) / 256 / 256 / 256 / 256) := by omega
  have hcv : (convert 85 9 (.slice (some ⟨w.heap.size, 0, none⟩) 4 4)).run Tryz.prog (w.alloc (.cells #[.int .u8 (↑v / 256 / 256 / 256 % 256), .int .u8 (↑v / 256 / 256 % 256), .int .u8 (↑v / 256 % 256), .int .u8 (↑v % 256)] 5)) = .ok (.string (be4s v)) (w.alloc (.cells #[.int .u8 (↑v / 256 / 256 / 256 % 256), .int .u8 (↑v / 256 / 256 % 256), .int .u8 (↑v / 256 % 256), .int .u8 (↑v % 256)] 5)) :=
    conv_bytes Tryz.underlying85 Tryz.underlying5 Tryz.underlying9 w.heap.size 0 4 (be4 v) (by
      intro j n hn
      have hj : j < 4 := (List.getElem?_eq_some_iff.1 hn).1
      obtain rfl | rfl | rfl | rfl : j = 0 ∨ j = 1 ∨ j = 2 ∨ j = 3 := by omega
      all_goals
        simp [be4] at hn
        subst hn
        refine cell_new _ _ _ _ _ ?_
        simp
        try omega)
  go_enter Tryz.func151, Tryz.ntmps151
  have hmk := make4
  go_wp2
  clear hmk
  refine wp_loop_rounds 5 ?_
  rw [rounds_succ]
  go_wp2
  rw [rounds_succ]
  go_wp2
  rw [rounds_succ]
  go_wp2
  rw [rounds_succ]
  go_wp2
  rw [rounds_succ]
  go_wp2
  go_ret2
  exact ⟨rfl, (Grown.refl _).alloc _ _⟩
theorem rseal_any (s : ByteArray) (hs : s.size ≤ 1000000000) (w : World) :
    Calls Tryz.prog 39 #[.string s] w fun e w' => e = .returned (.string (s ++ be4s (crc s.data.toList))) ∧ Stands w w' := by
  have h4 := be4s_size (crc s.data.toList)
  have hcr := crc_lt s.data.toList
  have hf : ∀ w1 : World, Calls Tryz.prog 72 #[.int .u64 (crc s.data.toList : Nat), .int .i64 4] w1 fun e w' => e = .returned (.string (be4s (crc s.data.toList))) ∧ Grown w1 w' := by
    intro w1
    go_enter Tryz.func72, Tryz.ntmps72
    go_wp2_with (go_at_call 151; refine (rfix4 _ hcr _).mono ?_; rintro e w' ⟨rfl, hg⟩)
    go_ret
    exact ⟨rfl, hg⟩
  go_enter Tryz.func39, Tryz.ntmps39
  go_wp2_with fail
  refine (rcrc_any s _ (by omega)).mono ?_
  rintro e w1 ⟨rfl, rfl⟩
  have hm : (crc s.data.toList : Int) % 18446744073709551616 = crc s.data.toList := by omega
  go_wp2_with fail
  refine (hf _).mono ?_
  rintro e w2 ⟨rfl, hg⟩
  go_wp2
  go_ret
  exact ⟨rfl, stands_of_grown hg⟩
end Go.Proofs.YtbanldnjpnfgkaaGreatDoor.Wk
