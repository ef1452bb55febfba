/-
  Part of the proof of a statement of this seat: walks of its functions and the closed run; no condition but those written in each theorem.
-/
import Derived.Test.YtjjhphjbmllhhaaGreatDoorProg
import Derived.WalkKit
import Derived.Lib.Hide
import Derived.Test.YtjjhphjbmllhhaaGreatDoorV7
import Derived.Test.YtjjhphjbmllhhaaGreatDoorNumPure
namespace Go.Proofs.YtjjhphjbmllhhaaGreatDoor.Wk
set_option maxRecDepth 100000
open Go.RowKit Go.VmK Go.NumPure
theorem sumL_take (s : ByteArray) (k : Nat) (h : k < s.size) : sumL 4294967295 (s.data.toList.take (k + 1)) = sBits 8 (sumL 4294967295 (s.data.toList.take k) ^^^ s[k].toNat) := by
  rw [List.take_succ_eq_append_getElem (by simpa using h), sumL_snoc]; rfl
theorem crc_any (s : ByteArray) (bk off cap : Nat) (w : World) (hs : s.size ≤ 9223372036854775807) (hc : w.cell? ⟨bk, off, none⟩ = some (.string s)) :
    Calls Tryz.prog 36 #[.slice (some ⟨bk, off, none⟩) 1 cap] w fun e w' => e = .returned (.int .u32 (crc s.data.toList)) ∧ w' = w := by
  go_enter Tryz.func36, Tryz.ntmps36
  go_wp2
  refine wp_loop_rounds 2 ?_
  rw [rounds_succ]
  go_wp2
  go_loop [3, 16] (fun x i => ∃ k : Nat, k ≤ s.size ∧ x = .int .u32 (sumL 4294967295 (s.data.toList.take k) : Nat) ∧ i = .int .i64 k) (fun _ i => s.size - (intOf i).toNat)
  case atStart => exact ⟨0, Nat.zero_le _, rfl, rfl⟩
  case round =>
    obtain ⟨k, hk, rfl, rfl⟩ := hrel
    have hv := sumL_lt (s.data.toList.take k) (x := 4294967295) (by decide)
    by_cases hlt : k < s.size
    · have hb := s[k].toNat_lt
      have hn := Lib.hid (sumL_take s k hlt)
      have hx := Lib.hid (xor32 _ _ hv (by omega : s[k].toNat < 4294967296))
      have hxl : sumL 4294967295 (s.data.toList.take k) ^^^ s[k].toNat < 4294967296 := Nat.lt_of_lt_of_le (Nat.xor_lt_two_pow (n := 32) (by omega) (by omega)) (by decide)
      go_wp2
      go_loop [3, 25] (fun x i => ∃ j : Nat, j ≤ 8 ∧ x = .int .u32 (sBits j (sumL 4294967295 (s.data.toList.take k) ^^^ s[k].toNat) : Nat) ∧ i = .int .i64 j) (fun _ i => 8 - (intOf i).toNat)
      case atStart =>
        refine ⟨0, by omega, ?_, rfl⟩
        rw [hx.out]; rfl
      case round =>
        obtain ⟨j, hj, rfl, rfl⟩ := hrel
        have hu := sBits_lt hxl j
        have ha := Lib.hid (and32 _ 1 hu (by decide))
        have hp := Lib.hid (xor32 (sBits j (sumL 4294967295 (s.data.toList.take k) ^^^ s[k].toNat) / 2) 2197175160 (by omega) (by decide))
        by_cases hj8 : j < 8
        · go_wp2
          all_goals
            have ha := ha.out
            rename_i hodd
            rw [show ((1 : Int)) = ((1 : Nat) : Int) from rfl, ha, Nat.and_one_is_mod] at hodd
            go_round
            case rel =>
              refine ⟨j + 1, by omega, ?_, by go_num⟩
              show _ = Value.int .u32 ((sBit (sBits j (sumL 4294967295 (s.data.toList.take k) ^^^ s[k].toNat)) : Nat) : Int)
              unfold sBit
              first
                | (rw [if_pos (by have := eq_of_beq hodd; omega)]; rw [← hp.out]; rfl)
                | (rw [if_neg (by intro h; rw [h] at hodd; cases hodd)]; go_num)
            case measure => simp only [intOf]; omega
        · go_wp2
          have : j = 8 := by omega
          subst this
          go_round
          case rel => exact ⟨k + 1, by omega, by rw [hn.out], by go_num⟩
          case measure => simp only [intOf]; omega
    · have hx := Lib.hid (xor32 4294967295 _ (by decide) hv)
      go_wp2
      rw [rounds_succ]
      go_wp2
      have : s.data.toList.take k = s.data.toList := List.take_of_length_le (by simp; omega)
      go_ret
      rw [this] at hx
      refine ⟨?_, rfl⟩
      have hx := hx.out
      rw [Nat.xor_comm] at hx
      show Ending.returned (.int .u32 (bits .xor .u32 4294967295 _)) = _
      rw [this]
      exact congrArg (fun z => Ending.returned (.int .u32 z)) hx
end Go.Proofs.YtjjhphjbmllhhaaGreatDoor.Wk
