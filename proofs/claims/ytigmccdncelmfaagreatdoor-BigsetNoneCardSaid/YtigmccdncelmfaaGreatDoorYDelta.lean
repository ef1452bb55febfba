/-
  Part of the proof of a statement of this seat: walks of its functions and the closed run; no condition but those written in each theorem.
-/
import Derived.Test.YtigmccdncelmfaaGreatDoorY1
namespace Go.Proofs.YtigmccdncelmfaaGreatDoor.Wk
open Go.RowKit
def boxD (k : Int) (nm : ByteArray) (x : Value) (so go : Option Addr) (sl sc gl gc : Nat) : Array Value := #[.int .i64 k, .string nm, x, .slice so sl sc, .slice go gl gc]
theorem smallDelta0 (k : Int) (nm : ByteArray) (ao so go : Option Addr) (cap sl sc gl gc : Nat) (w : World) :
    Calls Tryz.prog 4 #[.agg #[.int .i64 k, .string nm, .slice ao 0 cap, .slice so sl sc, .slice go gl gc]] w fun e w' => IsBool e ∧ Grown w w' := by
  go_enter Tryz.func4, Tryz.ntmps4
  go_wp2
  refine wp_loop_rounds 1 ?_
  rw [rounds_succ]
  go_wp2
  all_goals (go_ret; exact ⟨isBool_mk _, (Grown.refl _).alloc _ _⟩)
set_option maxHeartbeats 8000000 in
theorem smallDelta1 (k : Int) (nm : ByteArray) (so go : Option Addr) (sl sc gl gc : Nat) (bk off len cap : Nat) (fs ls : Nat → ByteArray) (w : World) (hbig : len ≤ 9223372036854775807)
    (hc : ∀ j, j < len → w.cell? ⟨bk, off + j * 7 + 0, none⟩ = some (.string (fs j))) (hd : ∀ j, j < len → w.cell? ⟨bk, off + j * 7 + 6, none⟩ = some (.string (ls j))) :
    Calls Tryz.prog 4 #[.agg #[.int .i64 k, .string nm, .slice (some ⟨bk, off, none⟩) len cap, .slice so sl sc, .slice go gl gc]] w fun e w' => IsBool e ∧ VmK.Stands w w' := by
  have hB : VmK.Stands w (w.alloc (.cells #[.int .i64 k, .string nm, .slice (some ⟨bk, off, none⟩) len cap, .slice so sl sc, .slice go gl gc] 25)) := VmK.stands_of_grown ((Grown.refl _).alloc _ _)
  have b1 := cell_new' w #[.int .i64 k, .string nm, .slice (some ⟨bk, off, none⟩) len cap, .slice so sl sc, .slice go gl gc] 25 1 (.string nm) rfl
  have b2 := cell_new' w #[.int .i64 k, .string nm, .slice (some ⟨bk, off, none⟩) len cap, .slice so sl sc, .slice go gl gc] 25 2 (.slice (some ⟨bk, off, none⟩) len cap) rfl
  have b3 := cell_new' w #[.int .i64 k, .string nm, .slice (some ⟨bk, off, none⟩) len cap, .slice so sl sc, .slice go gl gc] 25 3 (.slice so sl sc) rfl
  have b4 := cell_new' w #[.int .i64 k, .string nm, .slice (some ⟨bk, off, none⟩) len cap, .slice so sl sc, .slice go gl gc] 25 4 (.slice go gl gc) rfl
  have hid := hide (And.intro b1 (And.intro b2 (And.intro b3 b4)))
  clear b1 b2 b3 b4
  go_enter Tryz.func4, Tryz.ntmps4
  go_wp2
  go_loopw [3, 4] (fun r i w' => ∃ (m : Int) (k : Nat), k ≤ 100 ∧ k ≤ len ∧ r = .int .i64 m ∧ i = .int .i64 k ∧ Grown _ w') (fun _ i _ => len - (intOf i).toNat)
  case atStart => exact ⟨9000, 0, by omega, Nat.zero_le _, rfl, rfl, Grown.refl _⟩
  case round =>
    obtain ⟨m, k, hk0, hk, rfl, rfl, hg⟩ := hrel
    obtain ⟨b1, b2, b3, b4⟩ := hid.out
    replace b1 := grown_cell hg b1
    replace b2 := grown_cell hg b2
    replace b3 := grown_cell hg b3
    replace b4 := grown_cell hg b4
    have hw := hB.trans (VmK.stands_of_grown hg)
    by_cases hlt : k < len
    · have c1 : wr.cell? ⟨bk, off + k * 7, none⟩ = some (.string (fs k)) := stands_cell hw (hc k hlt)
      have c2 : wr.cell? ⟨bk, off + k * 7 + 6, none⟩ = some (.string (ls k)) := stands_cell hw (hd k hlt)
      have hR := room2 m (fs k).size (ls k).size wr.heap.size (wr.alloc (Obj.cells #[Value.int IntKind.i64 ↑(fs k).size, Value.int IntKind.i64 ↑(ls k).size] 3)).drew 2 (cell_new _ _ _ _ _ rfl) (cell_new _ _ _ _ _ rfl)
      go_wp2
      · go_region_with (go_at_call 18; refine hR.mono ?_; rintro e w' ⟨⟨n, rfl⟩, rfl⟩)
        all_goals
          go_wp2
          go_roundw
          case rel => exact ⟨_, k + 1, by omega, by omega, rfl, by go_num, (hg.alloc _ _).drew⟩
          case measure => simp only [intOf]; omega
      all_goals (go_ret; exact ⟨isBool_mk _, hw⟩)
    · go_wp2
      all_goals (go_ret; exact ⟨isBool_mk _, hw⟩)
end Go.Proofs.YtigmccdncelmfaaGreatDoor.Wk
