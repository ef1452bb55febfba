/-
  Part of the proof of a statement of this seat: walks of its functions and the closed run; no condition but those written in each theorem.
-/
import Derived.Test.YtoihgkjbollgjaaGreatDoorNS
namespace Go.Proofs.YtoihgkjbollgjaaGreatDoor.Wk
set_option maxRecDepth 100000
open Go.RowKit Go.VmK
theorem room (l : Int) (len : Nat) (zs : Nat → Int) (bk : Nat) (w : World) (hbig : len ≤ 1000000) (cap : Nat) (hc : ∀ j, j < len → w.cell? ⟨bk, j, none⟩ = some (.int .i64 (zs j))) :
  Calls Tryz.prog 22 #[.int .i64 l, .slice (some ⟨bk, 0, none⟩) len cap] w fun e w' => (∃ n, e = .returned (.int .i64 n)) ∧ w' = w := by
  go_enter Tryz.func22, Tryz.ntmps22
  go_wp2
  go_loop [0, 5] (fun r i => ∃ (m : Int) (k : Nat), k ≤ len ∧ r = .int .i64 m ∧ i = .int .i64 k) (fun _ i => len - (intOf i).toNat)
  case atStart => exact ⟨l, 0, Nat.zero_le _, rfl, rfl⟩
  case round =>
    obtain ⟨m, k, hk, rfl, rfl⟩ := hrel
    have hcell : k < len → w.cell? ⟨bk, k, none⟩ = some (.int .i64 (zs k)) := fun h => hc _ h
    go_wp2
    all_goals first
      | (go_ret; exact ⟨⟨_, rfl⟩, rfl⟩)
      | (go_round
         case rel => exact ⟨_, k + 1, by omega, rfl, by go_num⟩
         case measure => simp only [intOf]; omega)
theorem room2 (l a b : Int) (bk : Nat) (w : World) (cap : Nat) (h0 : w.cell? ⟨bk, 0, none⟩ = some (.int .i64 a)) (h1 : w.cell? ⟨bk, 1, none⟩ = some (.int .i64 b)) :
  Calls Tryz.prog 22 #[.int .i64 l, .slice (some ⟨bk, 0, none⟩) 2 cap] w fun e w' => (∃ n, e = .returned (.int .i64 n)) ∧ w' = w :=
  room l 2 (fun j => if j = 0 then a else b) bk w (by decide) cap fun j hj => by
    match j, hj with
    | 0, _ => exact h0
    | 1, _ => exact h1

theorem cell_laid_drew (w : World) (cs : Array Value) (t : TypeId) (j : Nat) (v : Value) (h : cs[j]? = some v) : (w.alloc (.cells cs t)).drew.cell? ⟨w.heap.size, j, none⟩ = some v := cell_laid w cs t j v h
def IsBool (e : Ending) : Prop := ∃ b, e = .returned (.bool b)
theorem isBool_mk (b : Bool) : IsBool (.returned (.bool b)) := ⟨b, rfl⟩
/-- texts that are handed in -/
def Txts (w : World) (to : Option Addr) (tl : Nat) (fs : Nat → ByteArray) : Prop := ∀ j, j < tl → ∃ bk off, to = some ⟨bk, off, none⟩ ∧ w.cell? ⟨bk, off + j, none⟩ = some (.string (fs j))
theorem Txts.stands {w w' : World} {to : Option Addr} {tl : Nat} {fs : Nat → ByteArray} (h : Txts w to tl fs) (g : Stands w w') : Txts w' to tl fs := fun j hj => by
  obtain ⟨bk, off, h1, h2⟩ := h j hj
  exact ⟨bk, off, h1, stands_cell g h2⟩
set_option maxHeartbeats 3200000 in
theorem light_any (bk off cap : Nat) (word : ByteArray) (no to : Option Addr) (nl nc tl tc : Nat) (fs : Nat → ByteArray) (ht63 : tl ≤ 9223372036854775807) (w : World) (ht : Txts w to tl fs)
    (h0 : w.cell? ⟨bk, off, none⟩ = some (.string word)) (h1 : w.cell? ⟨bk, off + 1, none⟩ = some (.slice no nl nc)) (h2 : w.cell? ⟨bk, off + 2, none⟩ = some (.slice to tl tc)) :
    Calls Tryz.prog 5 #[.slice (some ⟨bk, off, none⟩) 1 cap] w fun e w' => IsBool e ∧ Stands w w' := by
  replace ht := Lib.hid ht
  replace h0 := Lib.hid h0
  replace h1 := Lib.hid h1
  replace h2 := Lib.hid h2
  go_enter Tryz.func5, Tryz.ntmps5
  go_wp2
  go_loopw [3, 4] (fun s3 s4 wr => ∃ (m : Int) (k : Nat), k ≤ 1 ∧ s3 = .int .i64 m ∧ s4 = .int .i64 k ∧ Stands w wr) (fun _ i _ => 1 - (intOf i).toNat)
  case atStart => exact ⟨60000, 0, by omega, rfl, rfl, Stands.refl w⟩
  case round =>
    obtain ⟨m, k, hk, rfl, rfl, hS⟩ := hrel
    by_cases hk0 : k = 0
    · subst hk0
      have c0 := stands_cell hS h0.out
      have c1 := stands_cell hS h1.out
      have c2 := stands_cell hS h2.out
      replace hS := Lib.hid hS
      go_wp2_with fail
      all_goals first
        | (go_ret
           exact ⟨isBool_mk _, hS.out⟩)
        | skip
      go_region_with (go_at_call 22; first | (refine (room2 _ _ _ _ _ _ (cell_laid _ _ _ 0 _ rfl) (cell_laid _ _ _ 1 _ rfl)).mono ?_; rintro e w' ⟨⟨n, rfl⟩, rfl⟩) | (refine (room2 _ _ _ _ _ _ (cell_laid_drew _ _ _ 0 _ rfl) (cell_laid_drew _ _ _ 1 _ rfl)).mono ?_; rintro e w' ⟨⟨n, rfl⟩, rfl⟩))
      all_goals
        clear c0 c1 c2
        go_wp2
        go_loopw [3, 5] (fun s3 s5 wr2 => ∃ (m2 : Int) (k2 : Nat), k2 ≤ tl ∧ s3 = .int .i64 m2 ∧ s5 = .int .i64 k2 ∧ Stands w wr2) (fun _ i _ => tl - (intOf i).toNat)
        case atStart => exact ⟨n, 0, Nat.zero_le _, rfl, rfl, hS.out.trans ((stands_alloc _ _ _).trans (stands_drew _))⟩
        case round =>
          obtain ⟨m2, k2, hk2, rfl, rfl, hS2⟩ := hrel
          have c0 := stands_cell hS2 h0.out
          have c1 := stands_cell hS2 h1.out
          have c2 := stands_cell hS2 h2.out
          by_cases hlt : k2 < tl
          · obtain ⟨tb, toff, rfl, hc⟩ := ht.out k2 hlt
            have c3 := stands_cell hS2 hc
            replace hS2 := Lib.hid hS2
            clear hc
            go_wp2_with (go_at_call 22; refine (room2 _ _ _ _ _ _ (cell_laid _ _ _ 0 _ rfl) (cell_laid _ _ _ 1 _ rfl)).mono ?_; rintro e w' ⟨⟨n2, rfl⟩, rfl⟩)
            all_goals first
              | (go_roundw
                 case rel => exact ⟨_, k2 + 1, by omega, rfl, by go_num, hS2.out.trans (stands_alloc _ _ _)⟩
                 case measure => simp only [intOf]; omega)
              | (go_roundw
                 case rel => exact ⟨m2, 1, by omega, rfl, rfl, hS2.out⟩
                 case measure => simp only [intOf]; omega)
          · have hk3 : k2 = tl := by omega
            subst hk3
            go_wp2
            go_roundw
            case rel => exact ⟨m2, 1, by omega, rfl, rfl, hS2⟩
            case measure => simp only [intOf]; omega
    · have hk1 : k = 1 := by omega
      subst hk1
      go_wp2
      all_goals (go_ret; exact ⟨isBool_mk _, hS⟩)
end Go.Proofs.YtoihgkjbollgjaaGreatDoor.Wk
