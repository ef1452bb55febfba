/-
  Part of the proof of a statement of this seat: walks of its functions and the closed run; no condition but those written in each theorem.
-/
import Derived.Test.YthcnhdiipbpdgaaGreatDoorY1
namespace Go.Proofs.YthcnhdiipbpdgaaGreatDoor.Wk
set_option maxRecDepth 100000
open Go.RowKit Go.VmK
theorem writes0 (ao : Option Addr) (cap : Nat) (w : World) :
    Calls Tryz.prog 4 #[.slice ao 0 cap] w fun e w' => IsBool e ∧ Grown w w' := by
  go_enter Tryz.func4, Tryz.ntmps4
  go_wp2
  refine wp_loop_rounds 1 ?_
  rw [rounds_succ]
  go_wp2
  all_goals (go_ret; exact ⟨isBool_mk _, Grown.refl _⟩)
set_option maxHeartbeats 8000000 in
theorem writes1 (bk off len cap : Nat) (fs ls : Nat → ByteArray) (w : World) (hbig : len ≤ 9223372036854775807)
    (hc : ∀ j, j < len → w.cell? ⟨bk, off + j * 3 + 0, none⟩ = some (.string (fs j))) (hd : ∀ j, j < len → w.cell? ⟨bk, off + j * 3 + 1, none⟩ = some (.string (ls j))) :
    Calls Tryz.prog 4 #[.slice (some ⟨bk, off, none⟩) len cap] w fun e w' => IsBool e ∧ Grown w w' := by
  go_enter Tryz.func4, Tryz.ntmps4
  go_wp2
  go_loopw [3, 4] (fun r i w' => ∃ (m : Int) (k : Nat), k ≤ 200 ∧ k ≤ len ∧ r = .int .i64 m ∧ i = .int .i64 k ∧ Grown w w') (fun _ i _ => len - (intOf i).toNat)
  case atStart => exact ⟨9000, 0, by omega, Nat.zero_le _, rfl, rfl, Grown.refl _⟩
  case round =>
    obtain ⟨m, k, hk0, hk, rfl, rfl, hg⟩ := hrel
    by_cases hlt : k < len
    · have c1 : wr.cell? ⟨bk, off + k * 3, none⟩ = some (.string (fs k)) := grown_cell hg (hc k hlt)
      have c2 : wr.cell? ⟨bk, off + k * 3 + 1, none⟩ = some (.string (ls k)) := grown_cell hg (hd k hlt)
      have hR := room2 m (fs k).size (ls k).size wr.heap.size (wr.alloc (Obj.cells #[Value.int IntKind.i64 ↑(fs k).size, Value.int IntKind.i64 ↑(ls k).size] 3)).drew 2 (cell_new _ _ _ _ _ rfl) (cell_new _ _ _ _ _ rfl)
      go_wp2
      · go_region_with (go_at_call 21; refine hR.mono ?_; rintro e w' ⟨⟨n, rfl⟩, rfl⟩)
        all_goals
          go_wp2
          go_roundw
          case rel => exact ⟨_, k + 1, by omega, by omega, rfl, by go_num, (hg.alloc _ _).drew⟩
          case measure => simp only [intOf]; omega
      all_goals (go_ret; exact ⟨isBool_mk _, hg⟩)
    · go_wp2
      all_goals (go_ret; exact ⟨isBool_mk _, hg⟩)
theorem writes_any {x : Value} {w : World} (h : Texts 3 0 1 w x) : Calls Tryz.prog 4 #[x] w fun e w' => IsBool e ∧ Stands w w' := by
  rcases h with ⟨ao, cap, rfl⟩ | ⟨bk, off, len, cap, fs, ls, rfl, h1, h2, h3⟩
  · exact (writes0 ao cap w).mono fun e w' ⟨h1, h2⟩ => ⟨h1, stands_of_grown h2⟩
  · exact (writes1 bk off len cap fs ls w h1 h2 h3).mono fun e w' ⟨h1, h2⟩ => ⟨h1, stands_of_grown h2⟩
end Go.Proofs.YthcnhdiipbpdgaaGreatDoor.Wk
