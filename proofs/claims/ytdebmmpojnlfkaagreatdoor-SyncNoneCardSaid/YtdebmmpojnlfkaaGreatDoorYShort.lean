/-
  Part of the proof of a statement of this seat: walks of its functions and the closed run; no condition but those written in each theorem.
-/
import Derived.Test.YtdebmmpojnlfkaaGreatDoorY1
namespace Go.Proofs.YtdebmmpojnlfkaaGreatDoor.Wk
open Go.RowKit
theorem room1 (l a : Int) (bk : Nat) (w : World) (cap : Nat) (h0 : w.cell? ⟨bk, 0, none⟩ = some (.int .i64 a)) :
  Calls Tryz.prog 13 #[.int .i64 l, .slice (some ⟨bk, 0, none⟩) 1 cap] w fun e w' => (∃ n, e = .returned (.int .i64 n)) ∧ w' = w :=
  room l 1 (fun _ => a) bk w (by decide) cap fun j hj => by
    match j, hj with
    | 0, _ => exact h0
theorem short0 (few rm : Int) (ao : Option Addr) (cap : Nat) (w : World) :
    Calls Tryz.prog 15 #[.int .i64 few, .int .i64 rm, .slice ao 0 cap] w fun e w' => IsBool e ∧ Grown w w' := by
  by_cases hf : few < 0
  · go_enter Tryz.func15, Tryz.ntmps15
    go_wp2
    all_goals (go_ret; exact ⟨isBool_mk _, Grown.refl _⟩)
  · go_enter Tryz.func15, Tryz.ntmps15
    go_wp2
    refine wp_loop_rounds 1 ?_
    rw [rounds_succ]
    go_wp2
    all_goals (go_ret; exact ⟨isBool_mk _, Grown.refl _⟩)
set_option maxHeartbeats 8000000 in
theorem short1 (few rm : Int) (bk off len cap : Nat) (fs : Nat → ByteArray) (w : World) (hbig : len ≤ 9223372036854775807)
    (hc : ∀ j, j < len → w.cell? ⟨bk, off + j, none⟩ = some (.string (fs j))) :
    Calls Tryz.prog 15 #[.int .i64 few, .int .i64 rm, .slice (some ⟨bk, off, none⟩) len cap] w fun e w' => IsBool e ∧ Grown w w' := by
  by_cases hf : few < len
  · go_enter Tryz.func15, Tryz.ntmps15
    go_wp2
    all_goals (go_ret; exact ⟨isBool_mk _, Grown.refl _⟩)
  · go_enter Tryz.func15, Tryz.ntmps15
    go_wp2
    go_loopw [1, 7] (fun r i w' => ∃ (m : Int) (k : Nat), k ≤ len ∧ r = .int .i64 m ∧ i = .int .i64 k ∧ Grown w w') (fun _ i _ => len - (intOf i).toNat)
    case atStart => exact ⟨rm, 0, Nat.zero_le _, rfl, rfl, Grown.refl _⟩
    case round =>
      obtain ⟨m, k, hk, rfl, rfl, hg⟩ := hrel
      by_cases hlt : k < len
      · have c1 : wr.cell? ⟨bk, off + k, none⟩ = some (.string (fs k)) := grown_cell hg (hc k hlt)
        have hR := room1 m (fs k).size wr.heap.size (wr.alloc (Obj.cells #[Value.int IntKind.i64 ↑(fs k).size] 3)) 1 (cell_new' _ _ _ _ _ rfl)
        go_wp2_with (go_at_call 13; refine hR.mono ?_; rintro e w' ⟨⟨n, rfl⟩, rfl⟩)
        · go_roundw
          case rel => exact ⟨_, k + 1, by omega, rfl, by go_num, hg.alloc _ _⟩
          case measure => simp only [intOf]; omega
        all_goals (go_ret; exact ⟨isBool_mk _, hg⟩)
      · go_wp2
        all_goals (go_ret; exact ⟨isBool_mk _, hg⟩)
end Go.Proofs.YtdebmmpojnlfkaaGreatDoor.Wk
