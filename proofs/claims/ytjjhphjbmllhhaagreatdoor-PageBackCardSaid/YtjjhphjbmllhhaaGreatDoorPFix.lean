/-
  Part of the proof of a statement of this seat: walks of its functions and the closed run; no condition but those written in each theorem.
-/
import Derived.Test.YtjjhphjbmllhhaaGreatDoorProg
import Derived.WalkKit
import Derived.Lib.Hide
import Derived.KernelRfl
import Derived.Test.YtjjhphjbmllhhaaGreatDoorV7
import Derived.Test.YtjjhphjbmllhhaaGreatDoorPKit
namespace Go.Proofs.YtjjhphjbmllhhaaGreatDoor.Wk
set_option maxRecDepth 100000
open Go.RowKit Go.VmK Go.NumPure
theorem make4 (w : World) : (Instr.makeSlice 30 (.int .i64 4) (.int .i64 4)).run Tryz.prog w = .ok (.slice (some ⟨w.heap.size, 0, none⟩) 4 4) (w.alloc (.cells #[.int .u8 0, .int .u8 0, .int .u8 0, .int .u8 0] 5)) := by kernel_rfl
theorem fix4 (v : Nat) (hv : v < 4294967296) (w : World) :
    Calls Tryz.prog 77 #[.int .u64 v, .int .i64 4] w fun e w' => e = .returned (.tuple #[.string (be4s v), .int .i64 0]) ∧ Grown w w' := by
  have h0 : ((v : Int) / 4294967296 != 0) = false := by
    have : (v : Int) / 4294967296 = 0 := by omega
    rw [this]; rfl
  have hcv : ∀ w1 : World, (convert 30 9 (.slice (some ⟨w.heap.size, 0, none⟩) 4 4)).run Tryz.prog (w.alloc (.cells #[.int .u8 (↑v / 16777216), .int .u8 (↑v / 65536 % 256), .int .u8 (↑v / 256 % 256), .int .u8 (↑v % 256)] 5)) = .ok (.string (be4s v)) (w.alloc (.cells #[.int .u8 (↑v / 16777216), .int .u8 (↑v / 65536 % 256), .int .u8 (↑v / 256 % 256), .int .u8 (↑v % 256)] 5)) := fun _ =>
    conv_bytes Tryz.underlying30 Tryz.underlying5 Tryz.underlying9 w.heap.size 0 4 (be4 v) (by
      intro j n hn
      have hj : j < 4 := (List.getElem?_eq_some_iff.1 hn).1
      obtain rfl | rfl | rfl | rfl : j = 0 ∨ j = 1 ∨ j = 2 ∨ j = 3 := by omega
      all_goals (simp [be4] at hn; subst hn; exact cell_new _ _ _ _ _ (by simp)))
  have hcv := hcv w
  go_enter Tryz.func77, Tryz.ntmps77
  have hmk := make4
  go_wp2
  clear hmk
  refine wp_loop_rounds 5 ?_
  rw [rounds_succ]
  go_wp2
  rw [rounds_succ]
  go_wp2
  rw [rounds_succ]
  go_wp2
  rw [rounds_succ]
  go_wp2
  rw [rounds_succ]
  go_wp2
  go_ret2
  exact ⟨rfl, (Grown.refl _).alloc _ _⟩
theorem four_any (v : Nat) (hv : v < 4294967296) (w : World) :
    Calls Tryz.prog 35 #[.int .u32 v] w fun e w' => e = .returned (.string (be4s v)) ∧ Stands w w' := by
  go_enter Tryz.func35, Tryz.ntmps35
  go_wp2_with (go_at_call 77; refine (fix4 v hv _).mono ?_; rintro e w' ⟨rfl, hg⟩)
  go_ret
  exact ⟨rfl, stands_of_grown hg⟩
end Go.Proofs.YtjjhphjbmllhhaaGreatDoor.Wk
