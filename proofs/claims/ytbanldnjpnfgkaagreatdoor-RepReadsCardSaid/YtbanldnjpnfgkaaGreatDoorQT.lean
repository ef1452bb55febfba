/-
  Part of the proof of a statement of this seat: walks of its functions and the closed run; no condition but those written in each theorem.
-/
import Derived.Test.YtbanldnjpnfgkaaGreatDoorProg
import Derived.WalkKit
import Derived.Test.YtbanldnjpnfgkaaGreatDoorV7
import Derived.Test.YtbanldnjpnfgkaaGreatDoorPV
import Derived.Test.YtbanldnjpnfgkaaGreatDoorPA
import Derived.Lib.Hide
import Derived.KernelRfl
import Derived.Test.YtbanldnjpnfgkaaGreatDoorPL
import Derived.Deep.RegionWith
namespace Go.Proofs.YtbanldnjpnfgkaaGreatDoor.Wk
set_option maxRecDepth 100000
open Go.RowKit Go.VmK Go.NumPure Go.Shelf
theorem extraR : Builder.Extra Tryz.prog Tryz.lR155_ren := {
  sizeBuilder := by kernel_rfl
  liesBuilder := by kernel_rfl
  t5 := Tryz.underlying5
  a5 := Tryz.isAgg5
  z5 := Tryz.sizeOf5
  v5 := Tryz.zeroValue5
  infoByte := by kernel_rfl
  cellsByte := by kernel_rfl
  sizeByte := by kernel_rfl
  neB5 := by decide }
theorem replace_any (s : ByteArray) (m : Int) (w : World) (hs : s.size ≤ 1000000000) (hm : w.cell? ⟨0, 0, none⟩ = some (.int .i64 m)) :
    Calls Tryz.prog 304 #[.string s, .string ⟨#[0]⟩, .string ⟨#[0, 255]⟩] w fun e w' => e = .returned (.string (txt (esc s.data.toList))) ∧ Below w.heap.size w w' := by
  have hb := Lib.countB_mul_le ⟨#[0]⟩ (by decide) s.size s (Nat.le_refl _)
  have e1 : (⟨#[0]⟩ : ByteArray).size = 1 := rfl
  have e2 : (⟨#[0, 255]⟩ : ByteArray).size = 2 := rfl
  refine (Any.strings_ReplaceAll Tryz.lR155 extraR s ⟨#[0]⟩ ⟨#[0, 255]⟩ m w (by omega) hm (by decide) (by rw [e1] at hb; rw [e2]; omega)).mono ?_
  rintro e w' ⟨rfl, hw⟩
  exact ⟨by rw [← esc_replace]; rfl, hw⟩
theorem okey_any (s : ByteArray) (m : Int) (w : World) (hs : s.size ≤ 1000000000) (hm : w.cell? ⟨0, 0, none⟩ = some (.int .i64 m)) :
    Calls Tryz.prog 205 #[.string s] w fun e w' => e = .returned (.string (txt (ok s.data.toList))) ∧ Below w.heap.size w w' := by
  have hl := esc_len s.data.toList
  have hl := Lib.hid hl
  go_enter Tryz.func205, Tryz.ntmps205
  have hz : (txt (esc s.data.toList)).size ≤ 2000000000 := by
    have h := hl.out
    have e2 : s.data.toList.length = s.size := rfl
    rw [txt_size]
    omega
  have hz2 : (⟨#[0, 1]⟩ : ByteArray).size = 2 := rfl
  go_wp2_with (go_at_call 304; refine (replace_any s m _ hs hm).mono ?_; rintro e w' ⟨rfl, hw⟩)
  go_ret
  refine ⟨?_, hw⟩
  unfold ok
  rw [← txt_append]
  rfl
end Go.Proofs.YtbanldnjpnfgkaaGreatDoor.Wk
namespace Go.Proofs.YtbanldnjpnfgkaaGreatDoor.Wk
set_option maxRecDepth 100000
open Go.RowKit Go.VmK Go.NumPure
theorem sumL_take2 (c : Nat) (s : ByteArray) (k : Nat) (h : k < s.size) : sumL c (s.data.toList.take (k + 1)) = sBits 8 (sumL c (s.data.toList.take k) ^^^ s[k].toNat) := by
  rw [List.take_succ_eq_append_getElem (by simpa using h), sumL_snoc]; rfl
set_option maxHeartbeats 1600000 in
theorem crc2_any (a s : ByteArray) (bk off cap : Nat) (w : World) (ha : a.size ≤ 9223372036854775807) (hs : s.size ≤ 9223372036854775807) (hc : w.cell? ⟨bk, off, none⟩ = some (.string a)) (hd : w.cell? ⟨bk, off + 1, none⟩ = some (.string s)) :
    Calls Tryz.prog 153 #[.slice (some ⟨bk, off, none⟩) 2 cap] w fun e w' => e = .returned (.int .u32 (crc (a.data.toList ++ s.data.toList))) ∧ w' = w := by
  go_enter Tryz.func153, Tryz.ntmps153
  have hca : 4294967295 < 4294967296 := by decide
  go_wp2
  refine wp_loop_rounds 3 ?_
  rw [rounds_succ]
  go_wp2
  go_loop [3, 16] (fun x i => ∃ k : Nat, k ≤ a.size ∧ x = .int .u32 (sumL 4294967295 (a.data.toList.take k) : Nat) ∧ i = .int .i64 k) (fun _ i => a.size - (intOf i).toNat)
  case atStart => exact ⟨0, Nat.zero_le _, rfl, rfl⟩
  case round =>
    obtain ⟨ka, hka, rfl, rfl⟩ := hrel
    have hva := sumL_lt (a.data.toList.take ka) (x := 4294967295) hca
    by_cases hlt : ka < a.size
    · have hb := a[ka].toNat_lt
      have hn := Lib.hid (sumL_take2 4294967295 a ka hlt)
      have hx := Lib.hid (xor32 _ _ hva (by omega : a[ka].toNat < 4294967296))
      have hxl : sumL 4294967295 (a.data.toList.take ka) ^^^ a[ka].toNat < 4294967296 := Nat.lt_of_lt_of_le (Nat.xor_lt_two_pow (n := 32) (by omega) (by omega)) (by decide)
      go_wp2
      go_loop [3, 25] (fun x i => ∃ j : Nat, j ≤ 8 ∧ x = .int .u32 (sBits j (sumL 4294967295 (a.data.toList.take ka) ^^^ a[ka].toNat) : Nat) ∧ i = .int .i64 j) (fun _ i => 8 - (intOf i).toNat)
      case atStart =>
        refine ⟨0, by omega, ?_, rfl⟩
        rw [hx.out]; rfl
      case round =>
        obtain ⟨j, hj, rfl, rfl⟩ := hrel
        have hu := sBits_lt hxl j
        have ha := Lib.hid (and32 _ 1 hu (by decide))
        have hp := Lib.hid (xor32 (sBits j (sumL 4294967295 (a.data.toList.take ka) ^^^ a[ka].toNat) / 2) 2197175160 (by omega) (by decide))
        by_cases hj8 : j < 8
        · go_wp2
          all_goals
            have ha := ha.out
            rename_i hodd
            rw [show ((1 : Int)) = ((1 : Nat) : Int) from rfl, ha, Nat.and_one_is_mod] at hodd
            go_round
            case rel =>
              refine ⟨j + 1, by omega, ?_, by go_num⟩
              show _ = Value.int .u32 ((sBit (sBits j (sumL 4294967295 (a.data.toList.take ka) ^^^ a[ka].toNat)) : Nat) : Int)
              unfold sBit
              first
                | (rw [if_pos (by have := eq_of_beq hodd; omega)]; rw [← hp.out]; rfl)
                | (rw [if_neg (by intro h; rw [h] at hodd; cases hodd)]; go_num)
            case measure => simp only [intOf]; omega
        · go_wp2
          have : j = 8 := by omega
          subst this
          go_round
          case rel => exact ⟨ka + 1, by omega, by rw [hn.out], by go_num⟩
          case measure => simp only [intOf]; omega
    · go_wp2
      rw [rounds_succ]
      have hcs : (sumL 4294967295 (a.data.toList.take ka)) < 4294967296 := hva
      go_wp2
      go_loop [3, 16] (fun x i => ∃ k : Nat, k ≤ s.size ∧ x = .int .u32 (sumL (sumL 4294967295 (a.data.toList.take ka)) (s.data.toList.take k) : Nat) ∧ i = .int .i64 k) (fun _ i => s.size - (intOf i).toNat)
      case atStart => exact ⟨0, Nat.zero_le _, rfl, rfl⟩
      case round =>
        obtain ⟨ks, hks, rfl, rfl⟩ := hrel
        have hvs := sumL_lt (s.data.toList.take ks) (x := (sumL 4294967295 (a.data.toList.take ka))) hcs
        by_cases hlt : ks < s.size
        · have hb := s[ks].toNat_lt
          have hn := Lib.hid (sumL_take2 (sumL 4294967295 (a.data.toList.take ka)) s ks hlt)
          have hx := Lib.hid (xor32 _ _ hvs (by omega : s[ks].toNat < 4294967296))
          have hxl : sumL (sumL 4294967295 (a.data.toList.take ka)) (s.data.toList.take ks) ^^^ s[ks].toNat < 4294967296 := Nat.lt_of_lt_of_le (Nat.xor_lt_two_pow (n := 32) (by omega) (by omega)) (by decide)
          go_wp2
          go_loop [3, 25] (fun x i => ∃ j : Nat, j ≤ 8 ∧ x = .int .u32 (sBits j (sumL (sumL 4294967295 (a.data.toList.take ka)) (s.data.toList.take ks) ^^^ s[ks].toNat) : Nat) ∧ i = .int .i64 j) (fun _ i => 8 - (intOf i).toNat)
          case atStart =>
            refine ⟨0, by omega, ?_, rfl⟩
            rw [hx.out]; rfl
          case round =>
            obtain ⟨j, hj, rfl, rfl⟩ := hrel
            have hu := sBits_lt hxl j
            have ha := Lib.hid (and32 _ 1 hu (by decide))
            have hp := Lib.hid (xor32 (sBits j (sumL (sumL 4294967295 (a.data.toList.take ka)) (s.data.toList.take ks) ^^^ s[ks].toNat) / 2) 2197175160 (by omega) (by decide))
            by_cases hj8 : j < 8
            · go_wp2
              all_goals
                have ha := ha.out
                rename_i hodd
                rw [show ((1 : Int)) = ((1 : Nat) : Int) from rfl, ha, Nat.and_one_is_mod] at hodd
                go_round
                case rel =>
                  refine ⟨j + 1, by omega, ?_, by go_num⟩
                  show _ = Value.int .u32 ((sBit (sBits j (sumL (sumL 4294967295 (a.data.toList.take ka)) (s.data.toList.take ks) ^^^ s[ks].toNat)) : Nat) : Int)
                  unfold sBit
                  first
                    | (rw [if_pos (by have := eq_of_beq hodd; omega)]; rw [← hp.out]; rfl)
                    | (rw [if_neg (by intro h; rw [h] at hodd; cases hodd)]; go_num)
                case measure => simp only [intOf]; omega
            · go_wp2
              have : j = 8 := by omega
              subst this
              go_round
              case rel => exact ⟨ks + 1, by omega, by rw [hn.out], by go_num⟩
              case measure => simp only [intOf]; omega
        · have hx := Lib.hid (xor32 4294967295 _ (by decide) hvs)
          go_wp2
          rw [rounds_succ]
          go_wp2
          have e1 : a.data.toList.take ka = a.data.toList := List.take_of_length_le (by simp; omega)
          have e2 : s.data.toList.take ks = s.data.toList := List.take_of_length_le (by simp; omega)
          go_ret
          refine ⟨?_, rfl⟩
          have hx := hx.out
          rw [e1, e2, ← sumL_append] at hx
          rw [Nat.xor_comm] at hx
          show Ending.returned (.int .u32 (bits .xor .u32 4294967295 _)) = _
          rw [e1, e2, ← sumL_append]
          exact congrArg (fun z => Ending.returned (.int .u32 z)) hx
end Go.Proofs.YtbanldnjpnfgkaaGreatDoor.Wk
namespace Go.Proofs.YtbanldnjpnfgkaaGreatDoor.Wk
set_option maxRecDepth 100000
open Go.RowKit Go.VmK Go.NumPure Go.Shelf
theorem stands_alloc {w w1 : World} {o : Obj} (h : Stands (w.alloc o) w1) : Stands w w1 :=
  ⟨h.os, h.output, by have := h.size; simp at this; omega, fun j hj => (h.blocks j (by simp; omega)).trans (RowKit.Below.heap_alloc w o j hj)⟩
theorem _root_.Go.VmK.Stands.below {w a b : World} (h : Stands w a) (k : Stands a b) (_hs : w.heap.size ≤ a.heap.size) : Stands w b :=
  ⟨k.os.trans h.os, k.output.trans h.output, Nat.le_trans h.size k.size, fun j hj => (k.blocks j (Nat.lt_of_lt_of_le hj h.size)).trans (h.blocks j hj)⟩
theorem _root_.Go.VmK.Stands.upto {w a b : World} (h : Stands w a) (k : Below w.heap.size a b) : Stands w b :=
  ⟨k.os.trans h.os, k.output.trans h.output, Nat.le_trans h.size k.size, fun j hj => (k.block j hj).trans (h.blocks j hj)⟩
/-- a record, framed -/
def fr (l : List UInt8) : List UInt8 := (be4s l.length).data.toList ++ (be4s (crc ((be4s l.length).data.toList ++ l))).data.toList ++ l
set_option maxHeartbeats 3200000 in
theorem frame_any (s : ByteArray) (bk off cap : Nat) (w : World) (hbk : bk < w.heap.size) (hs : s.size ≤ 1000000000) (hc : w.cell? ⟨bk, off, none⟩ = some (.string s)) :
    Calls Tryz.prog 195 #[.slice (some ⟨bk, off, none⟩) 1 cap] w fun e w' => e = .returned (.string (txt (fr s.data.toList))) ∧ Stands w w' := by
  have h4 : ∀ v, (be4s v).size = 4 := be4s_size
  have h4a := h4 s.size
  have h4b := h4 (crc ((be4s s.size).data.toList ++ s.data.toList))
  have hcr := crc_lt ((be4s s.size).data.toList ++ s.data.toList)
  go_enter Tryz.func195, Tryz.ntmps195
  go_wp2
  refine wp_loop_rounds 2 ?_
  rw [rounds_succ]
  go_wp2_with fail
  refine (four_any s.size (by omega) _).mono ?_
  rintro e w1 ⟨rfl, hw1⟩
  go_wp2_with fail
  refine (crc2_any (be4s s.size) s w1.heap.size 0 2 _ (by omega) (by omega) (cell_new _ _ _ _ _ rfl) (cell_new _ _ _ _ _ rfl)).mono ?_
  rintro e w2 ⟨rfl, hw2⟩
  go_wp2_with fail
  refine (four_any _ hcr _).mono ?_
  rintro e w3 ⟨rfl, hw3⟩
  have hz1 : (be4s s.size ++ be4s (crc ((be4s s.size).data.toList ++ s.data.toList))).size = 8 := by rw [ByteArray.size_append]; omega
  have hz2 : (be4s s.size ++ be4s (crc ((be4s s.size).data.toList ++ s.data.toList)) ++ s).size = 8 + s.size := by rw [ByteArray.size_append, hz1]
  have hB0 : Lib.IsBuilder 335 5 w.heap.size w.heap.size (Lib.byteCells []) (w.alloc (.cells #[.pointer none, .slice none 0 0] 335)) := by
    refine .inl ⟨Nat.le_refl _, .slice none 0 0, ?_, World.ownsRow_nil _ _ _ _, by simp [Value.ownBlock]⟩
    simp [World.alloc, -World.alloc_eq]
  have hB1 := builder_stays hB0 (w' := w1) hw1.blocks
  subst hw2
  have hB2 := builder_stays hB1 (w' := w1.alloc (.cells #[.string (be4s s.size), .string s] 9)) (fun j hj => RowKit.Below.heap_alloc _ _ _ hj)
  have hB3 := Lib.hid (builder_stays hB2 (w' := w3) hw3.blocks)
  clear hB0 hB1 hB2
  have hsw : w.heap.size < w1.heap.size := by have := hw1.size; simp at this; omega
  have hsw3 : w1.heap.size < w3.heap.size := by have := hw3.size; simp at this; omega
  go_wp2_with fail
  refine (builder_write w.heap.size w.heap.size _ _ w3 hB3.out (by rw [byteCells_len, hz2]; simp; omega) (by omega)).mono ?_
  rintro e w4 ⟨rfl, hB4, hb4⟩
  go_wp2
  rw [rounds_succ]
  have hB4' : Hid (Lib.IsBuilder 335 5 w.heap.size w.heap.size (Lib.byteCells (fr s.data.toList)) w4) := by
    have e : be4s s.size ++ be4s (crc ((be4s s.size).data.toList ++ s.data.toList)) ++ s = txt (fr s.data.toList) := by
      apply ByteArray.ext
      simp [fr, txt]
    rw [e, strCells_txt, ← byteCells_append, List.nil_append] at hB4
    exact Lib.hid hB4
  have hs1 := stands_alloc hw1
  have hs3 := hs1.below (stands_alloc hw3) (by omega)
  have hs4 := hs3.upto hb4
  go_wp2_with fail
  refine (builder_string w.heap.size w.heap.size (fr s.data.toList) w4 hB4'.out (by have := hb4.size; omega)).mono ?_
  rintro e w5 ⟨rfl, hv⟩
  go_wp2
  go_ret
  exact ⟨rfl, hs4.upto hv⟩
end Go.Proofs.YtbanldnjpnfgkaaGreatDoor.Wk
namespace Go.Proofs.YtbanldnjpnfgkaaGreatDoor.Wk
set_option maxRecDepth 100000
open Go.RowKit Go.VmK Go.NumPure Go.Shelf
theorem right_any (k v : ByteArray) (w : World) (hk : k.size ≤ 300) (hv : v.size ≤ 60000) :
    Calls Tryz.prog 325 #[.agg #[.string k, .string v, .bool false]] w fun e w' => e = .returned (.bool true) ∧ w' = w.alloc (.cells #[.string k, .string v, .bool false] 332) := by
  go_enter Tryz.func325, Tryz.ntmps325
  go_wp2
  go_ret
  exact ⟨rfl, rfl⟩
theorem bool_any (w : World) : Calls Tryz.prog 247 #[.bool false] w fun e w' => e = .returned (.string ⟨#[0]⟩) ∧ w' = w := by
  go_enter Tryz.func247, Tryz.ntmps247
  go_wp2
  go_ret
  exact ⟨rfl, rfl⟩
theorem builder_len (B b : Nat) (l : List UInt8) (w : World) (h : Lib.IsBuilder 335 5 B b (Lib.byteCells l) w) :
    Calls Tryz.prog 326 #[.pointer (some ⟨b, 0, none⟩)] w fun e w' => e = .returned (.int .i64 l.length) ∧ w' = w := by
  refine (Any.Builder_Len Tryz.lB170 B b _ w h).mono ?_
  rintro e w' ⟨rfl, rfl⟩
  exact ⟨by rw [byteCells_len], rfl⟩
end Go.Proofs.YtbanldnjpnfgkaaGreatDoor.Wk
namespace Go.Proofs.YtbanldnjpnfgkaaGreatDoor.Wk
set_option maxRecDepth 100000
open Go.RowKit Go.VmK Go.NumPure Go.Shelf
theorem extra167 : Builder.Extra Tryz.prog Tryz.lB167_ren := {
  sizeBuilder := by kernel_rfl
  liesBuilder := by kernel_rfl
  t5 := Tryz.underlying5
  a5 := Tryz.isAgg5
  z5 := Tryz.sizeOf5
  v5 := Tryz.zeroValue5
  infoByte := by kernel_rfl
  cellsByte := by kernel_rfl
  sizeByte := by kernel_rfl
  neB5 := by decide }
theorem builder_byte (B b : Nat) (l : List UInt8) (c : UInt8) (w : World) (h : Lib.IsBuilder 335 5 B b (Lib.byteCells l) w) (hlen : l.length + 1 ≤ 140737488355328) (hBw : B ≤ w.heap.size) :
    Calls Tryz.prog 507 #[.pointer (some ⟨b, 0, none⟩), .int .u8 c.toNat] w fun e w' => e = .returned .nilIface ∧ Lib.IsBuilder 335 5 B b (Lib.byteCells (l ++ [c])) w' ∧ Below B w w' := by
  refine (Any.Builder_WriteByte Tryz.lB167 extra167 B b _ c.toNat w h (by rw [byteCells_len]; exact hlen) hBw).mono ?_
  rintro e w' ⟨rfl, h2, h3⟩
  have e : Lib.byteCells (l ++ [c]) = Lib.byteCells l ++ [.int .u8 c.toNat] := by simp [Lib.byteCells]
  rw [e]
  exact ⟨rfl, .inr h2, h3⟩
/-- a byte of a text, by what stands ahead of it -/
theorem byte_at {B : ByteArray} {p q : List UInt8} {c : UInt8} (h : B.data.toList = p ++ c :: q) : ∃ hb : p.length < B.size, B[p.length] = c := by
  have hs : B.size = B.data.toList.length := rfl
  have hb : p.length < B.size := by rw [hs, h]; simp
  refine ⟨hb, ?_⟩
  have e : B[p.length] = B.data.toList[p.length]'(by rw [← hs]; exact hb) := by simp [ByteArray.getElem_eq_getElem_data]
  rw [e]
  simp [h]
theorem esc_append : ∀ a b : List UInt8, esc (a ++ b) = esc a ++ esc b
  | [], _ => rfl
  | x :: a, b => by
    simp only [List.cons_append, esc, esc_append a b]
    split <;> rfl
set_option maxHeartbeats 3200000 in
theorem part_any (s rest : List UInt8) (B : ByteArray) (hB : B.data.toList = esc s ++ 0 :: 1 :: rest) (hl : B.size ≤ 1000000) (w : World) :
    Calls Tryz.prog 466 #[.string B] w fun e w' => e = .returned (.tuple #[.string (txt s), .string (txt rest), .int .i64 0]) ∧ Below w.heap.size w w' := by
  have hB := Lib.hid hB
  have hsl := esc_len s
  have hsz : B.size = (esc s).length + 2 + rest.length := by
    have : B.size = B.data.toList.length := rfl
    rw [this, hB.out]; simp; omega
  replace hsz := Lib.hid hsz
  replace hsl := Lib.hid hsl
  go_enter Tryz.func466, Tryz.ntmps466
  go_wp2
  go_loopw [6] (fun i wr => ∃ (pre post : List UInt8), s = pre ++ post ∧ i = .int .i64 (esc pre).length ∧ Lib.IsBuilder 335 5 w.heap.size w.heap.size (Lib.byteCells pre) wr ∧ Below w.heap.size w wr ∧ w.heap.size < wr.heap.size) (fun i _ => B.size - (intOf i).toNat)
  case atStart =>
    refine ⟨[], s, rfl, rfl, .inl ⟨Nat.le_refl _, .slice none 0 0, ?_, World.ownsRow_nil _ _ _ _, by simp [Value.ownBlock]⟩, (RowKit.Below.refl _ _).alloc (Nat.le_refl _) _, by simp⟩
    simp [World.alloc, -World.alloc_eq]
  case round =>
    obtain ⟨pre, post, hs, rfl, hb, hbl, hws⟩ := hrel
    have hsp := Lib.hid (esc_append pre post)
    have hpl := esc_len pre
    have hBe : B.data.toList = esc pre ++ (esc post ++ 0 :: 1 :: rest) := by rw [hB.out, hs, hsp.out, List.append_assoc]
    have hsl2 : s.length = pre.length + post.length := by rw [hs, List.length_append]
    have hse : (esc s).length = (esc pre).length + (esc post).length := by rw [hs, hsp.out, List.length_append]
    replace hs := Lib.hid hs
    match post, hBe, hse with
    | [], hBe, hse =>
      obtain ⟨h1, h2⟩ := byte_at (p := esc pre) (c := 0) (q := 1 :: rest) hBe
      obtain ⟨h3, h4⟩ := byte_at (B := B) (p := esc pre ++ [0]) (c := 1) (q := rest) (by rw [hBe]; simp [esc])
      have hp1 : (esc pre ++ [0]).length = (esc pre).length + 1 := by simp
      simp only [hp1] at h3 h4
      have h2 : B[(esc pre).length].toNat = 0 := by rw [h2]; rfl
      have h4 : B[(esc pre).length + 1].toNat = 1 := by rw [h4]; rfl
      have hbD := Lib.hid (builder_stays hb (w' := wr.drew) (fun _ _ => rfl))
      have hblD := Lib.hid hbl.drew
      clear hb hbl
      have hsv := Lib.hid (show s = pre by rw [hs.out, List.append_nil])
      have hle : (esc pre).length + 2 ≤ B.size := h3
      have hi1 : (0 : Int) ≤ ((esc pre).length : Int) + 1 + 1 ∧ ((esc pre).length : Int) + 1 + 1 ≤ (B.size : Int) := by omega
      have hwr : IntKind.i64.wrap (((esc pre).length : Int) + 1 + 1) = ((esc pre).length : Int) + 1 + 1 := by rw [wrap_i64']; omega
      have hi2 : (0 : Int) ≤ ((esc pre).length : Int) + 2 ∧ ((esc pre).length : Int) + 2 ≤ (B.size : Int) := by omega
      replace hse := Lib.hid hse
      replace hBe := Lib.hid hBe
      replace hsl2 := Lib.hid hsl2
      replace hpl := Lib.hid hpl
      go_wp2_with fail
      go_region_with (first
        | (go_at_call 224; refine (builder_string w.heap.size w.heap.size pre wr.drew hbD.out (by simp; omega)).mono ?_; rintro e w2 ⟨rfl, hv⟩)
        | (exfalso; omega))
      all_goals
        go_wp2
        go_ret3
        refine ⟨?_, hblD.out.trans hv⟩
        show Ending.returned (.tuple #[.string (txt pre), .string (B.extract _ B.size), .int .i64 0]) = _
        rw [extract_at (p := esc pre ++ [0, 1]) (q := rest) (by rw [hBe.out]; simp [esc]) (by simp; omega), hsv.out]
    | c :: post, hBe, hse =>
      have hle : (esc pre).length < B.size := by
        have h := hsz.out
        have : 0 < (esc (c :: post)).length := by unfold esc; split <;> simp
        omega
      by_cases hc : c = 0
      · subst hc
        have hBe : B.data.toList = esc pre ++ 0 :: (255 :: (esc post ++ 0 :: 1 :: rest)) := by simpa [esc] using hBe
        obtain ⟨h1, h2⟩ := byte_at (p := esc pre) (c := 0) hBe
        obtain ⟨h3, h4⟩ := byte_at (B := B) (p := esc pre ++ [0]) (c := 255) (q := esc post ++ 0 :: 1 :: rest) (by rw [hBe]; simp)
        have hp1 : (esc pre ++ [0]).length = (esc pre).length + 1 := by simp
        simp only [hp1] at h3 h4
        have h2 : B[(esc pre).length].toNat = 0 := by rw [h2]; rfl
        have h4 : B[(esc pre).length + 1].toNat = 255 := by rw [h4]; rfl
        have hsn := Lib.hid (show (esc (pre ++ [0])).length = (esc pre).length + 2 by rw [esc_append, List.length_append]; rfl)
        have hs' := Lib.hid (show s = (pre ++ [0]) ++ post by rw [hs.out, List.append_assoc]; rfl)
        replace hBe := Lib.hid hBe
        replace hse := Lib.hid hse
        replace hb := Lib.hid hb
        go_wp2_with fail
        refine (builder_byte w.heap.size w.heap.size pre 0 wr hb.out (by omega) (by omega)).mono ?_
        rintro e w2 ⟨rfl, hb2, hbl2⟩
        replace hb2 := Lib.hid hb2
        have hsz2 := hbl2.size
        go_wp2
        go_roundw
        case rel => exact ⟨pre ++ [0], post, hs'.out, by rw [hsn.out]; go_num, hb2.out, hbl.trans hbl2, by omega⟩
        case measure => simp only [intOf]; omega
      · have hBe : B.data.toList = esc pre ++ c :: (esc post ++ 0 :: 1 :: rest) := by simpa [esc, hc] using hBe
        obtain ⟨h1, h2⟩ := byte_at (p := esc pre) (c := c) hBe
        have hcn : ¬ c.toNat = 0 := fun e => hc (UInt8.toNat_inj.1 e)
        have h2 : B[(esc pre).length].toNat = c.toNat := by rw [h2]
        have hcz : ((c.toNat : Int) == 0) = false := beq_eq_false_iff_ne.2 (by omega)
        have hsn := Lib.hid (show (esc (pre ++ [c])).length = (esc pre).length + 1 by rw [esc_append, List.length_append]; simp [esc, hc])
        have hs' := Lib.hid (show s = (pre ++ [c]) ++ post by rw [hs.out, List.append_assoc]; rfl)
        replace hBe := Lib.hid hBe
        replace hse := Lib.hid hse
        replace hb := Lib.hid hb
        go_wp2_with fail
        refine (builder_byte w.heap.size w.heap.size pre c wr hb.out (by omega) (by omega)).mono ?_
        rintro e w2 ⟨rfl, hb2, hbl2⟩
        replace hb2 := Lib.hid hb2
        have hsz2 := hbl2.size
        go_wp2
        go_roundw
        case rel => exact ⟨pre ++ [c], post, hs'.out, by rw [hsn.out]; go_num, hb2.out, hbl.trans hbl2, by omega⟩
        case measure => simp only [intOf]; omega
end Go.Proofs.YtbanldnjpnfgkaaGreatDoor.Wk
namespace Go.Proofs.YtbanldnjpnfgkaaGreatDoor.Wk
open Go.VmK
/-- strings.Compare, as the machine tells it -/
theorem cmp_any (a b : ByteArray) (w : World) :
    Calls Tryz.prog 387 #[.string a, .string b] w fun e w' => e = .returned (.int .i64 (bif ltL a.data.toList b.data.toList then Int.negSucc 0 else bif ltL b.data.toList a.data.toList then Int.ofNat 1 else Int.ofNat 0)) ∧ w' = w :=
  (Any.strings_Compare Tryz.lCmp a b w).mono fun _ _ ⟨h1, h2⟩ => ⟨by rw [h1, compare_eq], h2⟩
end Go.Proofs.YtbanldnjpnfgkaaGreatDoor.Wk
