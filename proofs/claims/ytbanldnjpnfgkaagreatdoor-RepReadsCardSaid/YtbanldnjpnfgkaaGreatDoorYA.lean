/-
  Part of the proof of a statement of this seat: walks of its functions and the closed run; no condition but those written in each theorem.
-/
import Derived.Test.YtbanldnjpnfgkaaGreatDoorProg
import Derived.WalkKit
import Derived.Deep.RegionWith
import Derived.SliceStrings
import Derived.Test.YtbanldnjpnfgkaaGreatDoorV7
namespace Go.Proofs.YtbanldnjpnfgkaaGreatDoor.Wk
open Go.RowKit
/-- a fact that the walk is not to see -/
def Hid (p : Prop) : Prop := p
theorem hide {p : Prop} (h : p) : Hid p := h
theorem Hid.out {p : Prop} (h : Hid p) : p := h
def IsBool (e : Ending) : Prop := ∃ n, e = .returned (.bool n)
theorem isBool_mk (n : Bool) : IsBool (.returned (.bool n)) := ⟨n, rfl⟩
theorem room (l : Int) (len : Nat) (zs : Nat → Int) (bk : Nat) (w : World) (hbig : len ≤ 1000000) (cap : Nat) (hc : ∀ j, j < len → w.cell? ⟨bk, j, none⟩ = some (.int .i64 (zs j))) :
  Calls Tryz.prog 55 #[.int .i64 l, .slice (some ⟨bk, 0, none⟩) len cap] w fun e w' => (∃ n, e = .returned (.int .i64 n)) ∧ w' = w := by
  go_enter Tryz.func55, Tryz.ntmps55
  go_wp2
  go_loop [0, 5] (fun r i => ∃ (m : Int) (k : Nat), k ≤ len ∧ r = .int .i64 m ∧ i = .int .i64 k) (fun _ i => len - (intOf i).toNat)
  case atStart => exact ⟨l, 0, Nat.zero_le _, rfl, rfl⟩
  case round =>
    obtain ⟨m, k, hk, rfl, rfl⟩ := hrel
    have hcell : k < len → w.cell? ⟨bk, k, none⟩ = some (.int .i64 (zs k)) := fun h => hc _ h
    go_wp2
    all_goals first
      | (go_ret; exact ⟨⟨_, rfl⟩, rfl⟩)
      | (go_round
         case rel => exact ⟨_, k + 1, by omega, rfl, by go_num⟩
         case measure => simp only [intOf]; omega)
theorem room2 (l a b : Int) (bk : Nat) (w : World) (cap : Nat) (h0 : w.cell? ⟨bk, 0, none⟩ = some (.int .i64 a)) (h1 : w.cell? ⟨bk, 1, none⟩ = some (.int .i64 b)) :
  Calls Tryz.prog 55 #[.int .i64 l, .slice (some ⟨bk, 0, none⟩) 2 cap] w fun e w' => (∃ n, e = .returned (.int .i64 n)) ∧ w' = w :=
  room l 2 (fun j => if j = 0 then a else b) bk w (by decide) cap fun j hj => by
    match j, hj with
    | 0, _ => exact h0
    | 1, _ => exact h1
theorem stands_cell {w w' : World} (hg : VmK.Stands w w') {b o : Nat} {v : Value} (h : w.cell? ⟨b, o, none⟩ = some v) : w'.cell? ⟨b, o, none⟩ = some v := by
  have hlt : b < w.heap.size := by
    cases hq : w.heap[b]? with
    | none => simp [World.cell?, hq] at h
    | some o => exact (Array.getElem?_eq_some_iff.1 hq).1
  unfold World.cell? at h ⊢
  rw [hg.blocks b hlt]
  exact h
theorem grown_cell {w w' : World} (hg : Grown w w') {b o : Nat} {v : Value} (h : w.cell? ⟨b, o, none⟩ = some v) : w'.cell? ⟨b, o, none⟩ = some v := stands_cell (VmK.stands_of_grown hg) h
theorem cell_new (w : World) (cs : Array Value) (t : TypeId) (j : Nat) (v : Value) (h : cs[j]? = some v) : (w.alloc (.cells cs t)).drew.cell? ⟨w.heap.size, j, none⟩ = some v := by
  have e : (w.alloc (.cells cs t)).drew.heap[w.heap.size]? = some (.cells cs t) := (MapKept.heap_alloc w _).1
  simp only [World.cell?, e]
  simpa using h
theorem _root_.Go.VmK.Stands.trans {a b c : World} (h : VmK.Stands a b) (g : VmK.Stands b c) : VmK.Stands a c :=
  ⟨g.os.trans h.os, g.output.trans h.output, Nat.le_trans h.size g.size, fun i hi => (g.blocks i (Nat.lt_of_lt_of_le hi h.size)).trans (h.blocks i hi)⟩
theorem cell_new' (w : World) (cs : Array Value) (t : TypeId) (j : Nat) (v : Value) (h : cs[j]? = some v) : (w.alloc (.cells cs t)).cell? ⟨w.heap.size, j, none⟩ = some v := cell_new w cs t j v h
/-- a slice of structs of that many cells, in which two texts lie -/
def Texts (sz a b : Nat) (w : World) (v : Value) : Prop := (∃ ao cap, v = .slice ao 0 cap) ∨ ∃ (bk off len cap : Nat) (fs ls : Nat → ByteArray), v = .slice (some ⟨bk, off, none⟩) len cap ∧ len ≤ 9223372036854775807 ∧
  (∀ j, j < len → w.cell? ⟨bk, off + j * sz + a, none⟩ = some (.string (fs j))) ∧ (∀ j, j < len → w.cell? ⟨bk, off + j * sz + b, none⟩ = some (.string (ls j)))
theorem Texts.stands {sz a b : Nat} {w w' : World} {x : Value} (h : Texts sz a b w x) (hg : VmK.Stands w w') : Texts sz a b w' x := by
  rcases h with h | ⟨bk, off, len, cap, fs, ls, rfl, h1, h2, h3⟩
  · exact .inl h
  · exact .inr ⟨bk, off, len, cap, fs, ls, rfl, h1, fun j hj => stands_cell hg (h2 j hj), fun j hj => stands_cell hg (h3 j hj)⟩
end Go.Proofs.YtbanldnjpnfgkaaGreatDoor.Wk
namespace Go.Proofs.YtbanldnjpnfgkaaGreatDoor.Wk
open Go.RowKit
def boxD (k : Int) (nm : ByteArray) (x : Value) (so go : Option Addr) (sl sc gl gc : Nat) : Array Value := #[.int .i64 k, .string nm, x, .slice so sl sc, .slice go gl gc]
theorem smallDelta0 (k : Int) (nm : ByteArray) (ao so go : Option Addr) (cap sl sc gl gc : Nat) (w : World) :
    Calls Tryz.prog 56 #[.agg #[.int .i64 k, .string nm, .slice ao 0 cap, .slice so sl sc, .slice go gl gc]] w fun e w' => IsBool e ∧ Grown w w' := by
  go_enter Tryz.func56, Tryz.ntmps56
  go_wp2
  refine wp_loop_rounds 1 ?_
  rw [rounds_succ]
  go_wp2
  all_goals (go_ret; exact ⟨isBool_mk _, (Grown.refl _).alloc _ _⟩)
set_option maxHeartbeats 8000000 in
theorem smallDelta1 (k : Int) (nm : ByteArray) (so go : Option Addr) (sl sc gl gc : Nat) (bk off len cap : Nat) (fs ls : Nat → ByteArray) (w : World) (hbig : len ≤ 9223372036854775807)
    (hc : ∀ j, j < len → w.cell? ⟨bk, off + j * 7 + 0, none⟩ = some (.string (fs j))) (hd : ∀ j, j < len → w.cell? ⟨bk, off + j * 7 + 6, none⟩ = some (.string (ls j))) :
    Calls Tryz.prog 56 #[.agg #[.int .i64 k, .string nm, .slice (some ⟨bk, off, none⟩) len cap, .slice so sl sc, .slice go gl gc]] w fun e w' => IsBool e ∧ VmK.Stands w w' := by
  have hB : VmK.Stands w (w.alloc (.cells #[.int .i64 k, .string nm, .slice (some ⟨bk, off, none⟩) len cap, .slice so sl sc, .slice go gl gc] 25)) := VmK.stands_of_grown ((Grown.refl _).alloc _ _)
  have b1 := cell_new' w #[.int .i64 k, .string nm, .slice (some ⟨bk, off, none⟩) len cap, .slice so sl sc, .slice go gl gc] 25 1 (.string nm) rfl
  have b2 := cell_new' w #[.int .i64 k, .string nm, .slice (some ⟨bk, off, none⟩) len cap, .slice so sl sc, .slice go gl gc] 25 2 (.slice (some ⟨bk, off, none⟩) len cap) rfl
  have b3 := cell_new' w #[.int .i64 k, .string nm, .slice (some ⟨bk, off, none⟩) len cap, .slice so sl sc, .slice go gl gc] 25 3 (.slice so sl sc) rfl
  have b4 := cell_new' w #[.int .i64 k, .string nm, .slice (some ⟨bk, off, none⟩) len cap, .slice so sl sc, .slice go gl gc] 25 4 (.slice go gl gc) rfl
  have hid := hide (And.intro b1 (And.intro b2 (And.intro b3 b4)))
  clear b1 b2 b3 b4
  go_enter Tryz.func56, Tryz.ntmps56
  go_wp2
  go_loopw [3, 4] (fun r i w' => ∃ (m : Int) (k : Nat), k ≤ 100 ∧ k ≤ len ∧ r = .int .i64 m ∧ i = .int .i64 k ∧ Grown _ w') (fun _ i _ => len - (intOf i).toNat)
  case atStart => exact ⟨9000, 0, by omega, Nat.zero_le _, rfl, rfl, Grown.refl _⟩
  case round =>
    obtain ⟨m, k, hk0, hk, rfl, rfl, hg⟩ := hrel
    obtain ⟨b1, b2, b3, b4⟩ := hid.out
    replace b1 := grown_cell hg b1
    replace b2 := grown_cell hg b2
    replace b3 := grown_cell hg b3
    replace b4 := grown_cell hg b4
    have hw := hB.trans (VmK.stands_of_grown hg)
    by_cases hlt : k < len
    · have c1 : wr.cell? ⟨bk, off + k * 7, none⟩ = some (.string (fs k)) := stands_cell hw (hc k hlt)
      have c2 : wr.cell? ⟨bk, off + k * 7 + 6, none⟩ = some (.string (ls k)) := stands_cell hw (hd k hlt)
      have hR := room2 m (fs k).size (ls k).size wr.heap.size (wr.alloc (Obj.cells #[Value.int IntKind.i64 ↑(fs k).size, Value.int IntKind.i64 ↑(ls k).size] 3)).drew 2 (cell_new _ _ _ _ _ rfl) (cell_new _ _ _ _ _ rfl)
      go_wp2
      · go_region_with (go_at_call 55; refine hR.mono ?_; rintro e w' ⟨⟨n, rfl⟩, rfl⟩)
        all_goals
          go_wp2
          go_roundw
          case rel => exact ⟨_, k + 1, by omega, by omega, rfl, by go_num, (hg.alloc _ _).drew⟩
          case measure => simp only [intOf]; omega
      all_goals (go_ret; exact ⟨isBool_mk _, hw⟩)
    · go_wp2
      all_goals (go_ret; exact ⟨isBool_mk _, hw⟩)
end Go.Proofs.YtbanldnjpnfgkaaGreatDoor.Wk
namespace Go.Proofs.YtbanldnjpnfgkaaGreatDoor.Wk
open Go.RowKit
theorem room1 (l a : Int) (bk : Nat) (w : World) (cap : Nat) (h0 : w.cell? ⟨bk, 0, none⟩ = some (.int .i64 a)) :
  Calls Tryz.prog 55 #[.int .i64 l, .slice (some ⟨bk, 0, none⟩) 1 cap] w fun e w' => (∃ n, e = .returned (.int .i64 n)) ∧ w' = w :=
  room l 1 (fun _ => a) bk w (by decide) cap fun j hj => by
    match j, hj with
    | 0, _ => exact h0
theorem short0 (few rm : Int) (ao : Option Addr) (cap : Nat) (w : World) :
    Calls Tryz.prog 57 #[.int .i64 few, .int .i64 rm, .slice ao 0 cap] w fun e w' => IsBool e ∧ Grown w w' := by
  by_cases hf : few < 0
  · go_enter Tryz.func57, Tryz.ntmps57
    go_wp2
    all_goals (go_ret; exact ⟨isBool_mk _, Grown.refl _⟩)
  · go_enter Tryz.func57, Tryz.ntmps57
    go_wp2
    refine wp_loop_rounds 1 ?_
    rw [rounds_succ]
    go_wp2
    all_goals (go_ret; exact ⟨isBool_mk _, Grown.refl _⟩)
set_option maxHeartbeats 8000000 in
theorem short1 (few rm : Int) (bk off len cap : Nat) (fs : Nat → ByteArray) (w : World) (hbig : len ≤ 9223372036854775807)
    (hc : ∀ j, j < len → w.cell? ⟨bk, off + j, none⟩ = some (.string (fs j))) :
    Calls Tryz.prog 57 #[.int .i64 few, .int .i64 rm, .slice (some ⟨bk, off, none⟩) len cap] w fun e w' => IsBool e ∧ Grown w w' := by
  by_cases hf : few < len
  · go_enter Tryz.func57, Tryz.ntmps57
    go_wp2
    all_goals (go_ret; exact ⟨isBool_mk _, Grown.refl _⟩)
  · go_enter Tryz.func57, Tryz.ntmps57
    go_wp2
    go_loopw [1, 7] (fun r i w' => ∃ (m : Int) (k : Nat), k ≤ len ∧ r = .int .i64 m ∧ i = .int .i64 k ∧ Grown w w') (fun _ i _ => len - (intOf i).toNat)
    case atStart => exact ⟨rm, 0, Nat.zero_le _, rfl, rfl, Grown.refl _⟩
    case round =>
      obtain ⟨m, k, hk, rfl, rfl, hg⟩ := hrel
      by_cases hlt : k < len
      · have c1 : wr.cell? ⟨bk, off + k, none⟩ = some (.string (fs k)) := grown_cell hg (hc k hlt)
        have hR := room1 m (fs k).size wr.heap.size (wr.alloc (Obj.cells #[Value.int IntKind.i64 ↑(fs k).size] 3)) 1 (cell_new' _ _ _ _ _ rfl)
        go_wp2_with (go_at_call 55; refine hR.mono ?_; rintro e w' ⟨⟨n, rfl⟩, rfl⟩)
        · go_roundw
          case rel => exact ⟨_, k + 1, by omega, rfl, by go_num, hg.alloc _ _⟩
          case measure => simp only [intOf]; omega
        all_goals (go_ret; exact ⟨isBool_mk _, hg⟩)
      · go_wp2
        all_goals (go_ret; exact ⟨isBool_mk _, hg⟩)
end Go.Proofs.YtbanldnjpnfgkaaGreatDoor.Wk
