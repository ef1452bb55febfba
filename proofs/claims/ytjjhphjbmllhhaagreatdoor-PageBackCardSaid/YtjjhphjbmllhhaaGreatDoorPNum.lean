/-
  Part of the proof of a statement of this seat: walks of its functions and the closed run; no condition but those written in each theorem.
-/
import Derived.Test.YtjjhphjbmllhhaaGreatDoorProg
import Derived.WalkKit
import Derived.RegionTactic
import Derived.ChangeAlike
import Derived.Lib.Hide
import Derived.KernelRfl
import Derived.Test.YtjjhphjbmllhhaaGreatDoorV7
import Derived.Test.YtjjhphjbmllhhaaGreatDoorPKit
namespace Go.Proofs.YtjjhphjbmllhhaaGreatDoor.Wk
set_option maxRecDepth 100000
open Go.RowKit Go.VmK Go.NumPure
theorem mod_step (n k : Nat) (_h : 128 ≤ n / 128 ^ k) : n % 128 ^ k + n / 128 ^ k % 128 * 128 ^ k = n % 128 ^ (k + 1) := by
  rw [Nat.pow_succ, Nat.mod_mul, Nat.mul_comm (128 ^ k)]
theorem mod_last (n k : Nat) : n % 128 ^ k + n / 128 ^ k * 128 ^ k = n := by
  have := Nat.div_add_mod n (128 ^ k)
  rw [Nat.mul_comm] at this
  omega
set_option maxHeartbeats 3200000 in
theorem number_any (n : Nat) (hn : n < 18446744073709551616) (b : ByteArray) (rest : List UInt8) (hb : b.size ≤ 9223372036854775800) (hbr : b.data.toList = vb n ++ rest) (w : World) :
    Calls Tryz.prog 80 #[.string b] w fun e w' => e = .returned (.tuple #[.int .u64 n, .string (txt rest), .int .i64 0]) ∧ Stands w w' := by
  have hbr := Lib.hid hbr
  go_enter Tryz.func80, Tryz.ntmps80
  go_wp2
  go_loop [5, 6, 7] (fun v i _ => ∃ k : Nat, k ≤ 9 ∧ i = .int .i64 k ∧ v = .int .u64 (n % 128 ^ k : Nat) ∧ b.data.toList.drop k = vb (n / 128 ^ k) ++ rest ∧ (0 < k → 0 < n / 128 ^ k)) (fun _ i _ => 10 - (intOf i).toNat)
  case atStart => exact ⟨0, by omega, rfl, by simp [Nat.mod_one], by simpa using hbr.out, by omega⟩
  case round =>
    obtain ⟨k, hk, rfl, rfl, hd, hp⟩ := hrel
    obtain ⟨hlt, hbk, hnext⟩ := at_number hd
    have hnext := Lib.hid hnext
    have hd := Lib.hid hd
    have hp := Lib.hid hp
    clear hd
    have h128k : (128 : Nat) ^ k ≤ 9223372036854775808 := Nat.le_trans (Nat.pow_le_pow_right (by decide) hk) (by simp)
    have hacc : n % 128 ^ k < 128 ^ k := Nat.mod_lt _ (Nat.pow_pos (by decide))
    have hsum := mod_last n k
    have h9 : k = 9 → n / 128 ^ k ≤ 1 := by
      rintro rfl
      have : (128 : Nat) ^ 9 = 9223372036854775808 := rfl
      rw [this]; omega
    by_cases hlast : n / 128 ^ k < 128
    · rw [if_pos hlast] at hbk
      have hnx : Hid (b.data.toList.drop (k + 1) = rest) := by have := hnext.out; rw [if_pos hlast] at this; exact Lib.hid this
      have hx := Lib.hid (extract_txt b rest (k + 1) hnx.out)
      have ha := Lib.hid (and127 b[k].toNat (by omega))
      have ho := Lib.hid (or_shift (n % 128 ^ k) (n / 128 ^ k) k hacc hlast (by omega))
      have hm := and128_low b[k].toNat (by omega)
      have hz : 0 < k → ¬ b[k].toNat = 0 := by have := hp.out; omega
      have hb1 : k = 9 → ¬ 1 < b[k].toNat := by omega
      have hS : Hid (n % 128 ^ k + n / 128 ^ k * 128 ^ k = n) := Lib.hid hsum
      have hB : Hid (b[k].toNat = n / 128 ^ k) := Lib.hid hbk
      clear hsum hbk hacc h128k h9
      by_cases hc0 : b[k].toNat = 0
      · have hk0 : k = 0 := by omega
        subst hk0
        have hn0 : n = 0 := by have := hB.out; simp at this; omega
        subst hn0
        have hv : Hid (bits .or .u64 0 (IntKind.u64.wrap (IntKind.u64.wrap (bits .and .u8 0 127) * 2 ^ (7 * 0))) = 0) := Lib.hid (by decide)
        have hx' := Lib.hid hx.out
        clear ha ho hp hS hB
        have hne : ¬ b = ByteArray.empty := by rintro rfl; simp at hlt
        go_wp2
        go_region
        go_wp2
        go_ret3
        refine ⟨?_, stands_of_grown (Grown.refl _).drew⟩
        rw [← hx'.out]
        first | exact congrArg (fun z => Ending.returned (.tuple #[.int .u64 z, .string (b.extract (0 + 1) b.size), .int .i64 0])) hv.out | rfl
      · have hc0' : (((b[k].toNat : Nat) : Int) == 0) = false := by simp; omega
        have hv : bits .or .u64 ((n : Int) % 128 ^ k) (IntKind.u64.wrap (IntKind.u64.wrap (bits .and .u8 (b[k].toNat : Int) 127) * 2 ^ (7 * k))) = (n : Int) := by
          have := ho.out
          rw [hS.out, ← hB.out] at this
          rw [ha.out, Nat.mod_eq_of_lt (by have := hB.out; omega)]
          simpa using this
        have hv := Lib.hid hv
        have hx' := Lib.hid hx.out
        clear ha ho
        have h9' : k = 9 → (1 : Int) ≥ (b[k].toNat : Int) := by omega
        by_cases hk9 : k = 9
        · subst hk9
          have hle : ¬ (1 < b[9].toNat) := by omega
          clear h9' hb1
          go_wp2
          go_region
          go_wp2
          go_ret3
          refine ⟨?_, stands_of_grown (Grown.refl _).drew⟩
          rw [← hx'.out]
          exact congrArg (fun z => Ending.returned (.tuple #[.int .u64 z, .string (b.extract (9 + 1) b.size), .int .i64 0])) hv.out
        · have h9'' : (((k : Nat) : Int) == 9) = false := by simp; omega
          clear h9' hb1
          go_wp2
          go_region
          go_wp2
          go_ret3
          refine ⟨?_, stands_of_grown (Grown.refl _).drew⟩
          rw [← hx'.out]
          first | exact congrArg (fun z => Ending.returned (.tuple #[.int .u64 z, .string (b.extract (k + 1) b.size), .int .i64 0])) hv.out | rfl
    · rw [if_neg hlast] at hbk
      have hk9 : ¬ k = 9 := by intro e; have := h9 e; omega
      have hnx : Hid (b.data.toList.drop (k + 1) = vb (n / 128 ^ k / 128) ++ rest) := by have := hnext.out; rw [if_neg hlast] at this; exact Lib.hid this
      have ha := Lib.hid (and127 b[k].toNat (by omega))
      have hlt64 : n % 128 ^ (k + 1) < 18446744073709551616 := Nat.lt_of_le_of_lt (Nat.mod_le _ _) hn
      have hst := mod_step n k (by omega)
      have ho := Lib.hid (or_shift (n % 128 ^ k) (n / 128 ^ k % 128) k hacc (by omega) (by omega))
      have hm := and128_high b[k].toNat (by omega) (by omega)
      have h9'' : (((k : Nat) : Int) == 9) = false := by simp; omega
      have hS : Hid (n % 128 ^ k + n / 128 ^ k % 128 * 128 ^ k = n % 128 ^ (k + 1)) := Lib.hid hst
      have hB : Hid (b[k].toNat % 128 = n / 128 ^ k % 128) := Lib.hid (by omega)
      have hdiv : Hid (n / 128 ^ k / 128 = n / 128 ^ (k + 1)) := Lib.hid (by rw [Nat.div_div_eq_div_mul, Nat.pow_succ])
      have hpos : Hid (0 < n / 128 ^ k / 128) := Lib.hid (by omega)
      have hv : bits .or .u64 ((n : Int) % 128 ^ k) (IntKind.u64.wrap (IntKind.u64.wrap (bits .and .u8 (b[k].toNat : Int) 127) * 2 ^ (7 * k))) = ((n % 128 ^ (k + 1) : Nat) : Int) := by
        have := ho.out
        rw [hS.out, ← hB.out] at this
        rw [ha.out]
        simpa using this
      have hv := Lib.hid hv
      clear ha ho hst hsum hbk hacc h128k h9 hlt64
      go_wp2
      go_round
      case rel => exact ⟨k + 1, by omega, by go_num, by first | rw [hv.out] | go_num | simp, by rw [← hdiv.out]; exact hnx.out, fun _ => by rw [← hdiv.out]; exact hpos.out⟩
      case measure => simp only [intOf]; omega
end Go.Proofs.YtjjhphjbmllhhaaGreatDoor.Wk
