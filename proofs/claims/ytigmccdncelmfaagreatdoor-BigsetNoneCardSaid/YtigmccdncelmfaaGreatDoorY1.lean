/-
  Part of the proof of a statement of this seat: walks of its functions and the closed run; no condition but those written in each theorem.
-/
import Derived.Test.YtigmccdncelmfaaGreatDoorProg
import Derived.WalkKit
import Derived.Deep.RegionWith
import Derived.SliceStrings
import Derived.Test.YtigmccdncelmfaaGreatDoorV7
namespace Go.Proofs.YtigmccdncelmfaaGreatDoor.Wk
open Go.RowKit
/-- a fact that the walk is not to see -/
def Hid (p : Prop) : Prop := p
theorem hide {p : Prop} (h : p) : Hid p := h
theorem Hid.out {p : Prop} (h : Hid p) : p := h
def IsBool (e : Ending) : Prop := ∃ n, e = .returned (.bool n)
theorem isBool_mk (n : Bool) : IsBool (.returned (.bool n)) := ⟨n, rfl⟩
theorem room (l : Int) (len : Nat) (zs : Nat → Int) (bk : Nat) (w : World) (hbig : len ≤ 1000000) (cap : Nat) (hc : ∀ j, j < len → w.cell? ⟨bk, j, none⟩ = some (.int .i64 (zs j))) :
  Calls Tryz.prog 18 #[.int .i64 l, .slice (some ⟨bk, 0, none⟩) len cap] w fun e w' => (∃ n, e = .returned (.int .i64 n)) ∧ w' = w := by
  go_enter Tryz.func18, Tryz.ntmps18
  go_wp2
  go_loop [0, 5] (fun r i => ∃ (m : Int) (k : Nat), k ≤ len ∧ r = .int .i64 m ∧ i = .int .i64 k) (fun _ i => len - (intOf i).toNat)
  case atStart => exact ⟨l, 0, Nat.zero_le _, rfl, rfl⟩
  case round =>
    obtain ⟨m, k, hk, rfl, rfl⟩ := hrel
    have hcell : k < len → w.cell? ⟨bk, k, none⟩ = some (.int .i64 (zs k)) := fun h => hc _ h
    go_wp2
    all_goals first
      | (go_ret; exact ⟨⟨_, rfl⟩, rfl⟩)
      | (go_round
         case rel => exact ⟨_, k + 1, by omega, rfl, by go_num⟩
         case measure => simp only [intOf]; omega)
theorem room2 (l a b : Int) (bk : Nat) (w : World) (cap : Nat) (h0 : w.cell? ⟨bk, 0, none⟩ = some (.int .i64 a)) (h1 : w.cell? ⟨bk, 1, none⟩ = some (.int .i64 b)) :
  Calls Tryz.prog 18 #[.int .i64 l, .slice (some ⟨bk, 0, none⟩) 2 cap] w fun e w' => (∃ n, e = .returned (.int .i64 n)) ∧ w' = w :=
  room l 2 (fun j => if j = 0 then a else b) bk w (by decide) cap fun j hj => by
    match j, hj with
    | 0, _ => exact h0
    | 1, _ => exact h1
theorem stands_cell {w w' : World} (hg : VmK.Stands w w') {b o : Nat} {v : Value} (h : w.cell? ⟨b, o, none⟩ = some v) : w'.cell? ⟨b, o, none⟩ = some v := by
  have hlt : b < w.heap.size := by
    cases hq : w.heap[b]? with
    | none => simp [World.cell?, hq] at h
    | some o => exact (Array.getElem?_eq_some_iff.1 hq).1
  unfold World.cell? at h ⊢
  rw [hg.blocks b hlt]
  exact h
theorem grown_cell {w w' : World} (hg : Grown w w') {b o : Nat} {v : Value} (h : w.cell? ⟨b, o, none⟩ = some v) : w'.cell? ⟨b, o, none⟩ = some v := stands_cell (VmK.stands_of_grown hg) h
theorem cell_new (w : World) (cs : Array Value) (t : TypeId) (j : Nat) (v : Value) (h : cs[j]? = some v) : (w.alloc (.cells cs t)).drew.cell? ⟨w.heap.size, j, none⟩ = some v := by
  have e : (w.alloc (.cells cs t)).drew.heap[w.heap.size]? = some (.cells cs t) := (MapKept.heap_alloc w _).1
  simp only [World.cell?, e]
  simpa using h
theorem _root_.Go.VmK.Stands.trans {a b c : World} (h : VmK.Stands a b) (g : VmK.Stands b c) : VmK.Stands a c :=
  ⟨g.os.trans h.os, g.output.trans h.output, Nat.le_trans h.size g.size, fun i hi => (g.blocks i (Nat.lt_of_lt_of_le hi h.size)).trans (h.blocks i hi)⟩
theorem cell_new' (w : World) (cs : Array Value) (t : TypeId) (j : Nat) (v : Value) (h : cs[j]? = some v) : (w.alloc (.cells cs t)).cell? ⟨w.heap.size, j, none⟩ = some v := cell_new w cs t j v h
/-- a slice of structs of that many cells, in which two texts lie -/
def Texts (sz a b : Nat) (w : World) (v : Value) : Prop := (∃ ao cap, v = .slice ao 0 cap) ∨ ∃ (bk off len cap : Nat) (fs ls : Nat → ByteArray), v = .slice (some ⟨bk, off, none⟩) len cap ∧ len ≤ 9223372036854775807 ∧
  (∀ j, j < len → w.cell? ⟨bk, off + j * sz + a, none⟩ = some (.string (fs j))) ∧ (∀ j, j < len → w.cell? ⟨bk, off + j * sz + b, none⟩ = some (.string (ls j)))
theorem Texts.stands {sz a b : Nat} {w w' : World} {x : Value} (h : Texts sz a b w x) (hg : VmK.Stands w w') : Texts sz a b w' x := by
  rcases h with h | ⟨bk, off, len, cap, fs, ls, rfl, h1, h2, h3⟩
  · exact .inl h
  · exact .inr ⟨bk, off, len, cap, fs, ls, rfl, h1, fun j hj => stands_cell hg (h2 j hj), fun j hj => stands_cell hg (h3 j hj)⟩
end Go.Proofs.YtigmccdncelmfaaGreatDoor.Wk
