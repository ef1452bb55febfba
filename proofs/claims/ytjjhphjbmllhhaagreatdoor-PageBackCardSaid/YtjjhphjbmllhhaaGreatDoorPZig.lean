/-
  Part of the proof of a statement of this seat: walks of its functions and the closed run; no condition but those written in each theorem.
-/
import Derived.Test.YtjjhphjbmllhhaaGreatDoorProg
import Derived.WalkKit
import Derived.Lib.Hide
import Derived.KernelRfl
import Derived.Test.YtjjhphjbmllhhaaGreatDoorV7
import Derived.Test.YtjjhphjbmllhhaaGreatDoorPKit
import Derived.Test.YtjjhphjbmllhhaaGreatDoorPPage
namespace Go.Proofs.YtjjhphjbmllhhaaGreatDoor.Wk
set_option maxRecDepth 100000
open Go.RowKit Go.VmK Go.NumPure
theorem zig_pos (v : Nat) (hv : v < 9223372036854775808) (w : World) :
    Calls Tryz.prog 17 #[.int .i64 v] w fun e w' => e = .returned (.int .u64 (2 * v)) ∧ w' = w := by
  go_enter Tryz.func17, Tryz.ntmps17
  go_wp2
  go_ret
  exact ⟨congrArg (fun z => Ending.returned (.int .u64 z)) (zig0 v hv), rfl⟩
theorem zig_neg (v : Nat) (hv : v < 9223372036854775808) (w : World) :
    Calls Tryz.prog 17 #[.int .i64 (-(v : Int) - 1)] w fun e w' => e = .returned (.int .u64 (2 * v + 1)) ∧ w' = w := by
  go_enter Tryz.func17, Tryz.ntmps17
  go_wp2
  go_ret
  exact ⟨congrArg (fun z => Ending.returned (.int .u64 z)) (zig1 v hv), rfl⟩
theorem zag_pos (v : Nat) (hv : v < 9223372036854775808) (w : World) :
    Calls Tryz.prog 43 #[.int .u64 (2 * (v : Int))] w fun e w' => e = .returned (.int .i64 v) ∧ w' = w := by
  go_enter Tryz.func43, Tryz.ntmps43
  go_wp2
  go_ret
  exact ⟨congrArg (fun z => Ending.returned (.int .i64 z)) (zag0 v hv), rfl⟩
theorem zag_neg (v : Nat) (hv : v < 9223372036854775808) (w : World) :
    Calls Tryz.prog 43 #[.int .u64 (2 * (v : Int) + 1)] w fun e w' => e = .returned (.int .i64 (-(v : Int) - 1)) ∧ w' = w := by
  go_enter Tryz.func43, Tryz.ntmps43
  go_wp2
  go_ret
  exact ⟨congrArg (fun z => Ending.returned (.int .i64 z)) (zag1 v hv), rfl⟩
theorem zig_nat (v : Nat) : zig (v : Int) = 2 * v := by unfold zig; rw [if_pos (by omega)]; omega
theorem zig_below (v : Nat) : zig (-(v : Int) - 1) = 2 * v + 1 := by unfold zig; rw [if_neg (by omega)]; omega
theorem two_nat (v : Nat) : ((2 * v : Nat) : Int) = 2 * (v : Int) := by omega
theorem two_nat1 (v : Nat) : ((2 * v + 1 : Nat) : Int) = 2 * (v : Int) + 1 := by omega
theorem stay {w w' : World} (h : w' = w) : Stands w w' := by rw [h]; exact stands_of_grown (Grown.refl _)
theorem int_cases (m : Int) (h1 : -9223372036854775808 ≤ m) (h2 : m ≤ 9223372036854775807) : ∃ v : Nat, v < 9223372036854775808 ∧ (m = v ∨ m = -(v : Int) - 1) := by
  by_cases h : 0 ≤ m
  · exact ⟨m.toNat, by omega, .inl (by omega)⟩
  · exact ⟨(-m - 1).toNat, by omega, .inr (by omega)⟩
theorem zig_any (m : Int) (h1 : -9223372036854775808 ≤ m) (h2 : m ≤ 9223372036854775807) (w : World) :
    Calls Tryz.prog 17 #[.int .i64 m] w fun e w' => e = .returned (.int .u64 (zig m)) ∧ Stands w w' := by
  obtain ⟨v, hv, rfl | rfl⟩ := int_cases m h1 h2
  · rw [zig_nat, two_nat]
    exact (zig_pos v hv w).mono fun e w' ⟨h1, h2⟩ => ⟨h1, stay h2⟩
  · rw [zig_below, two_nat1]
    exact (zig_neg v hv w).mono fun e w' ⟨h1, h2⟩ => ⟨h1, stay h2⟩
theorem zag_any (m : Int) (h1 : -9223372036854775808 ≤ m) (h2 : m ≤ 9223372036854775807) (w : World) :
    Calls Tryz.prog 43 #[.int .u64 (zig m)] w fun e w' => e = .returned (.int .i64 m) ∧ Stands w w' := by
  obtain ⟨v, hv, rfl | rfl⟩ := int_cases m h1 h2
  · rw [zig_nat, two_nat]
    exact (zag_pos v hv w).mono fun e w' ⟨h1, h2⟩ => ⟨h1, stay h2⟩
  · rw [zig_below, two_nat1]
    exact (zag_neg v hv w).mono fun e w' ⟨h1, h2⟩ => ⟨h1, stay h2⟩
end Go.Proofs.YtjjhphjbmllhhaaGreatDoor.Wk
