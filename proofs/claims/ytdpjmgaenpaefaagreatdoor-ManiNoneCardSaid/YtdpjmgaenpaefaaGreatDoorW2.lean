/-
  Part of the proof of a statement of this seat: walks of its functions and the closed run; no condition but those written in each theorem.
-/
import Derived.Test.YtdpjmgaenpaefaaGreatDoorW1
import Derived.Test.YtdpjmgaenpaefaaGreatDoorR7c
import Derived.Deep.RegionWith
namespace Go.Proofs.YtdpjmgaenpaefaaGreatDoor.Wk
open Go.RowKit
theorem stands_cell {w w' : World} (hg : VmK.Stands w w') {b o : Nat} {v : Value} (h : w.cell? ⟨b, o, none⟩ = some v) : w'.cell? ⟨b, o, none⟩ = some v := by
  have hlt : b < w.heap.size := by
    cases hq : w.heap[b]? with
    | none => simp [World.cell?, hq] at h
    | some o => exact (Array.getElem?_eq_some_iff.1 hq).1
  unfold World.cell? at h ⊢
  rw [hg.blocks b hlt]
  exact h
theorem grown_cell {w w' : World} (hg : Grown w w') {b o : Nat} {v : Value} (h : w.cell? ⟨b, o, none⟩ = some v) : w'.cell? ⟨b, o, none⟩ = some v := stands_cell (VmK.stands_of_grown hg) h
theorem cell_new (w : World) (cs : Array Value) (t : TypeId) (j : Nat) (v : Value) (h : cs[j]? = some v) : (w.alloc (.cells cs t)).drew.cell? ⟨w.heap.size, j, none⟩ = some v := by
  have e : (w.alloc (.cells cs t)).drew.heap[w.heap.size]? = some (.cells cs t) := (MapKept.heap_alloc w _).1
  simp only [World.cell?, e]
  simpa using h
set_option maxHeartbeats 4000000 in
theorem small (bk off len cap : Nat) (fs ls : Nat → ByteArray) (w : World) (hbig : len ≤ 9223372036854775807)
  (hc : ∀ j, j < len → w.cell? ⟨bk, off + j * 5 + 3, none⟩ = some (.string (fs j))) (hd : ∀ j, j < len → w.cell? ⟨bk, off + j * 5 + 4, none⟩ = some (.string (ls j))) :
  Calls Tryz.prog 56 #[.slice (some ⟨bk, off, none⟩) len cap] w fun e w' => IsBool e ∧ Grown w w' := by
  go_enter Tryz.func56, Tryz.ntmps56
  go_wp2
  go_loopw [3, 4] (fun r i w' => ∃ (m : Int) (k : Nat), k ≤ 100 ∧ k ≤ len ∧ r = .int .i64 m ∧ i = .int .i64 k ∧ Grown w w') (fun _ i _ => len - (intOf i).toNat)
  case atStart => exact ⟨9000, 0, by omega, Nat.zero_le _, rfl, rfl, Grown.refl _⟩
  case round =>
    obtain ⟨m, k, hk0, hk, rfl, rfl, hg⟩ := hrel
    by_cases hlt : k < len
    · have c1 : wr.cell? ⟨bk, off + k * 5 + 3, none⟩ = some (.string (fs k)) := grown_cell hg (hc k hlt)
      have c2 : wr.cell? ⟨bk, off + k * 5 + 4, none⟩ = some (.string (ls k)) := grown_cell hg (hd k hlt)
      have hR := room2 m (fs k).size (ls k).size wr.heap.size (wr.alloc (Obj.cells #[Value.int IntKind.i64 ↑(fs k).size, Value.int IntKind.i64 ↑(ls k).size] 3)).drew 2 (cell_new _ _ _ _ _ rfl) (cell_new _ _ _ _ _ rfl)
      go_wp2
      · go_region_with (go_at_call 175; refine hR.mono ?_; rintro e w' ⟨⟨n, rfl⟩, rfl⟩)
        all_goals
          go_wp2
          go_roundw
          case rel => exact ⟨_, k + 1, by omega, by omega, rfl, by go_num, (hg.alloc _ _).drew⟩
          case measure => simp only [intOf]; omega
      all_goals (go_ret; exact ⟨isBool_mk _, hg⟩)
    · go_wp2
      all_goals (go_ret; exact ⟨isBool_mk _, hg⟩)
theorem small0 (ao : Option Addr) (cap : Nat) (w : World) :
  Calls Tryz.prog 56 #[.slice ao 0 cap] w fun e w' => IsBool e ∧ Grown w w' := by
  go_enter Tryz.func56, Tryz.ntmps56
  go_wp2
  refine wp_loop_rounds 1 ?_
  rw [rounds_succ]
  go_wp2
  go_ret
  exact ⟨isBool_mk _, Grown.refl _⟩
/-- what Light needs of the list of tables -/
def ListOk (w : World) (v : Value) : Prop := (∃ ao cap, v = .slice ao 0 cap) ∨ ∃ (bk off len cap : Nat) (fs ls : Nat → ByteArray), v = .slice (some ⟨bk, off, none⟩) len cap ∧ len ≤ 9223372036854775807 ∧
  (∀ j, j < len → w.cell? ⟨bk, off + j * 5 + 3, none⟩ = some (.string (fs j))) ∧ (∀ j, j < len → w.cell? ⟨bk, off + j * 5 + 4, none⟩ = some (.string (ls j)))
theorem small_any {w : World} {v : Value} (h : ListOk w v) : Calls Tryz.prog 56 #[v] w fun e w' => IsBool e ∧ Grown w w' := by
  rcases h with ⟨ao, cap, rfl⟩ | ⟨bk, off, len, cap, fs, ls, rfl, h1, h2, h3⟩
  · exact small0 ao cap w
  · exact small bk off len cap fs ls w h1 h2 h3
end Go.Proofs.YtdpjmgaenpaefaaGreatDoor.Wk
