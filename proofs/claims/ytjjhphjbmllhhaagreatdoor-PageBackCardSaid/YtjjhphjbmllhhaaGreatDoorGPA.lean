/-
  Part of the proof of a statement of this seat: walks of its functions and the closed run; no condition but those written in each theorem.
-/
import Derived.Test.YtjjhphjbmllhhaaGreatDoorG0
import Derived.Test.YtjjhphjbmllhhaaGreatDoorV7
import Derived.Test.YtjjhphjbmllhhaaGreatDoorPPage
import Derived.Test.YtjjhphjbmllhhaaGreatDoorPCrc
import Derived.Test.YtjjhphjbmllhhaaGreatDoorPFix
import Derived.Test.YtjjhphjbmllhhaaGreatDoorPUnfix
import Derived.Test.YtjjhphjbmllhhaaGreatDoorPNum
import Derived.Test.YtjjhphjbmllhhaaGreatDoorPZig
import Derived.Test.YtjjhphjbmllhhaaGreatDoorPText
import Derived.Test.YtjjhphjbmllhhaaGreatDoorPClone
namespace Go.Proofs.YtjjhphjbmllhhaaGreatDoor.Wk
set_option maxRecDepth 100000
open Go.RowKit Go.VmK Go.NumPure
/-- the sizes that are let in -/
structure Small (n l h x : ByteArray) (m : Int) : Prop where
  n : n.size ≤ 300
  l : l.size ≤ 300
  h : h.size ≤ 300
  x : x.size ≤ 300
  lo : -9223372036854775808 ≤ m
  hi : m ≤ 9223372036854775807
theorem stands_below {w w' : World} (h : RowKit.Below w.heap.size w w') : Stands w w' := stands_of_below h
/-! the contracts, as the machine takes them -/
section
variable {w0 : World} {σ0 : Nat → Option Value}
theorem crc_row {a r : AV} {s : ByteArray} (ha : conc (env0 σ0) a = some (.string s)) (hr : conc (env0 σ0) r = some (.int .u32 (crc s.data.toList))) (hs : s.size ≤ 9223372036854775807) :
    ConOK Tryz.prog (Outer w0 σ0 fun b => b < w0.heap.size) 36 (.fn (rowFn [([a], r)])) := by
  refine rowFn_ok fun q hq => ?_
  obtain rfl : q = ([a], r) := by simpa using hq
  refine ⟨[.string s], _, by rw [concL, ha]; rfl, hr, fun w bk off cap _ hb hc => ?_⟩
  have := hc 0 _ rfl
  rw [Nat.add_zero] at this
  exact (crc_any s bk off cap w hs this).mono fun e w' ⟨h1, h2⟩ => by subst h2; exact ⟨h1, stands_of_grown (Grown.refl _)⟩
theorem var_row {a r : AV} {n : Nat} (ha : conc (env0 σ0) a = some (.int .u64 n)) (hr : conc (env0 σ0) r = some (.string (txt (vb n)))) (hn : n < 18446744073709551616) :
    ConOK Tryz.prog (Outer w0 σ0 fun b => b < w0.heap.size) 16 (.fn (rowFn [([a], r)])) := by
  refine rowFn_ok fun q hq => ?_
  obtain rfl : q = ([a], r) := by simpa using hq
  refine ⟨[.int .u64 n], _, by rw [concL, ha]; rfl, hr, fun w bk off cap _ hb hc => ?_⟩
  have := hc 0 _ rfl
  rw [Nat.add_zero] at this
  exact (var_any n hn bk off cap w hb this).mono fun e w' ⟨h1, h2⟩ => ⟨h1, stands_below h2⟩
end
end Go.Proofs.YtjjhphjbmllhhaaGreatDoor.Wk
