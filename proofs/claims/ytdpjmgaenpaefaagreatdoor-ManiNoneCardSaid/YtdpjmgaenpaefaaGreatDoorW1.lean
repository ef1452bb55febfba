/-
  Part of the proof of a statement of this seat: walks of its functions and the closed run; no condition but those written in each theorem.
-/
import Derived.Test.YtdpjmgaenpaefaaGreatDoorProg
import Derived.WalkKit
namespace Go.Proofs.YtdpjmgaenpaefaaGreatDoor.Wk
open Go.RowKit
def IsBool (e : Ending) : Prop := ∃ n, e = .returned (.bool n)
theorem isBool_mk (n : Bool) : IsBool (.returned (.bool n)) := ⟨n, rfl⟩
theorem room (l : Int) (len : Nat) (zs : Nat → Int) (bk : Nat) (w : World) (hbig : len ≤ 1000000) (cap : Nat) (hc : ∀ j, j < len → w.cell? ⟨bk, j, none⟩ = some (.int .i64 (zs j))) :
  Calls Tryz.prog 175 #[.int .i64 l, .slice (some ⟨bk, 0, none⟩) len cap] w fun e w' => (∃ n, e = .returned (.int .i64 n)) ∧ w' = w := by
  go_enter Tryz.func175, Tryz.ntmps175
  go_wp2
  go_loop [0, 5] (fun r i => ∃ (m : Int) (k : Nat), k ≤ len ∧ r = .int .i64 m ∧ i = .int .i64 k) (fun _ i => len - (intOf i).toNat)
  case atStart => exact ⟨l, 0, Nat.zero_le _, rfl, rfl⟩
  case round =>
    obtain ⟨m, k, hk, rfl, rfl⟩ := hrel
    have hcell : k < len → w.cell? ⟨bk, k, none⟩ = some (.int .i64 (zs k)) := fun h => hc _ h
    go_wp2
    all_goals first
      | (go_ret; exact ⟨⟨_, rfl⟩, rfl⟩)
      | (go_round
         case rel => exact ⟨_, k + 1, by omega, rfl, by go_num⟩
         case measure => simp only [intOf]; omega)
theorem room2 (l a b : Int) (bk : Nat) (w : World) (cap : Nat) (h0 : w.cell? ⟨bk, 0, none⟩ = some (.int .i64 a)) (h1 : w.cell? ⟨bk, 1, none⟩ = some (.int .i64 b)) :
  Calls Tryz.prog 175 #[.int .i64 l, .slice (some ⟨bk, 0, none⟩) 2 cap] w fun e w' => (∃ n, e = .returned (.int .i64 n)) ∧ w' = w :=
  room l 2 (fun j => if j = 0 then a else b) bk w (by decide) cap fun j hj => by
    match j, hj with
    | 0, _ => exact h0
    | 1, _ => exact h1
end Go.Proofs.YtdpjmgaenpaefaaGreatDoor.Wk
