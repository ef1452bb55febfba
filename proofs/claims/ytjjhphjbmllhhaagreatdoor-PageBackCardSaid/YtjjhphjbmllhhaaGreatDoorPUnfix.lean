/-
  Part of the proof of a statement of this seat: walks of its functions and the closed run; no condition but those written in each theorem.
-/
import Derived.Test.YtjjhphjbmllhhaaGreatDoorProg
import Derived.WalkKit
import Derived.Lib.Hide
import Derived.KernelRfl
import Derived.Test.YtjjhphjbmllhhaaGreatDoorV7
import Derived.Test.YtjjhphjbmllhhaaGreatDoorPKit
namespace Go.Proofs.YtjjhphjbmllhhaaGreatDoor.Wk
set_option maxRecDepth 100000
open Go.RowKit Go.VmK Go.NumPure
theorem unfix4 (b : ByteArray) (i : Nat) (h : i + 4 ≤ b.size) (hb : b.size ≤ 9223372036854775807) (w : World) :
    Calls Tryz.prog 79 #[.string b, .int .i64 i, .int .i64 4] w fun e w' => e = .returned (.tuple #[.int .u64 (rd4 b i), .int .i64 0]) ∧ w' = w := by
  have hr := Lib.hid (or_four b i)
  go_enter Tryz.func79, Tryz.ntmps79
  go_wp2
  refine wp_loop_rounds 5 ?_
  rw [rounds_succ]
  go_wp2
  rw [rounds_succ]
  go_wp2
  rw [rounds_succ]
  go_wp2
  rw [rounds_succ]
  go_wp2
  rw [rounds_succ]
  go_wp2
  go_ret2
  have hr := hr.out
  rw [← byteAt_get b i (by omega), ← byteAt_get b (i + 1) (by omega), ← byteAt_get b (i + 2) (by omega), ← byteAt_get b (i + 3) (by omega)] at hr
  exact ⟨congrArg (fun z => Ending.returned (.tuple #[.int .u64 z, .int .i64 0])) hr, rfl⟩
theorem get_any (b : ByteArray) (i : Nat) (h : i + 4 ≤ b.size) (hb : b.size ≤ 9223372036854775807) (w : World) :
    Calls Tryz.prog 39 #[.string b, .int .i64 i] w fun e w' => e = .returned (.int .u32 (rd4 b i)) ∧ w' = w := by
  have hlt := rd4_lt b i
  go_enter Tryz.func39, Tryz.ntmps39
  go_wp2_with (go_at_call 79; refine (unfix4 b i h hb _).mono ?_; rintro e w' ⟨rfl, rfl⟩)
  go_ret
  exact ⟨rfl, rfl⟩
end Go.Proofs.YtjjhphjbmllhhaaGreatDoor.Wk
