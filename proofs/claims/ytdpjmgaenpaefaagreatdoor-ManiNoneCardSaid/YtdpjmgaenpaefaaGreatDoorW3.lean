/-
  Part of the proof of a statement of this seat: walks of its functions and the closed run; no condition but those written in each theorem.
-/
import Derived.Test.YtdpjmgaenpaefaaGreatDoorW2
namespace Go.Proofs.YtdpjmgaenpaefaaGreatDoor.Wk
open Go.RowKit
theorem _root_.Go.VmK.Stands.trans {a b c : World} (h : VmK.Stands a b) (g : VmK.Stands b c) : VmK.Stands a c :=
  ⟨g.os.trans h.os, g.output.trans h.output, Nat.le_trans h.size g.size, fun i hi => (g.blocks i (Nat.lt_of_lt_of_le hi h.size)).trans (h.blocks i hi)⟩
theorem cell_new' (w : World) (cs : Array Value) (t : TypeId) (j : Nat) (v : Value) (h : cs[j]? = some v) : (w.alloc (.cells cs t)).cell? ⟨w.heap.size, j, none⟩ = some v := cell_new w cs t j v h
theorem listOk_stands {w w' : World} {x : Value} (h : ListOk w x) (hg : VmK.Stands w w') : ListOk w' x := by
  rcases h with h | ⟨bk, off, len, cap, fs, ls, rfl, h1, h2, h3⟩
  · exact .inl h
  · exact .inr ⟨bk, off, len, cap, fs, ls, rfl, h1, fun j hj => stands_cell hg (h2 j hj), fun j hj => stands_cell hg (h3 j hj)⟩
theorem light (a b c : Int) (x : Value) (ao : Option Addr) (len cap : Nat) (w : World) (hx : ListOk w x) :
  Calls Tryz.prog 19 #[.agg #[.int .i64 a, .int .i64 b, .int .u64 c, x, .slice ao len cap]] w fun e w' => IsBool e ∧ VmK.Stands w w' := by
  have hs : Calls Tryz.prog 56 #[x] (w.alloc (Obj.cells #[Value.int IntKind.i64 a, Value.int IntKind.i64 b, Value.int IntKind.u64 c, x, Value.slice ao len cap] 37)) fun e w'' => (∃ n, e = .returned (.bool n)) ∧ Grown (w.alloc (Obj.cells #[Value.int IntKind.i64 a, Value.int IntKind.i64 b, Value.int IntKind.u64 c, x, Value.slice ao len cap] 37)) w'' := small_any (listOk_stands hx (VmK.stands_of_grown ((Grown.refl _).alloc _ _)))
  go_enter Tryz.func19, Tryz.ntmps19
  go_wp2_with (go_at_call 56; go_loud (refine hs.mono ?_); rintro e w1 ⟨⟨n, rfl⟩, hg⟩; go_loud (have hc4 := grown_cell hg (cell_new' w #[Value.int IntKind.i64 a, Value.int IntKind.i64 b, Value.int IntKind.u64 c, x, Value.slice ao len cap] 37 4 (.slice ao len cap) rfl)))
  all_goals (go_ret; exact ⟨isBool_mk _, (VmK.stands_of_grown ((Grown.refl w).alloc _ _)).trans (VmK.stands_of_grown hg)⟩)
end Go.Proofs.YtdpjmgaenpaefaaGreatDoor.Wk
