/-
  Part of the proof of a statement of this seat: walks of its functions and the closed run; no condition but those written in each theorem.
-/
import Derived.Test.YtanepmneapepkaaGreatDoorJR
namespace Go.Proofs.YtanepmneapepkaaGreatDoor.Wk
set_option maxRecDepth 100000
open Go.RowKit Go.VmK
theorem none_no (d : Nat) (fs : Addr) (w : World) (h0 : w.cell? ⟨d, 0, none⟩ = some (.pointer (some fs))) :
    Calls Tryz.prog 28 #[.pointer (some ⟨d, 0, none⟩)] w fun e w' => e = .returned (.bool false) ∧ w' = w := by
  go_enter Tryz.func28, Tryz.ntmps28
  go_wp2
  go_ret
  exact ⟨rfl, rfl⟩
theorem may_yes (d : Nat) (fs : Addr) (w : World) (h0 : w.cell? ⟨d, 0, none⟩ = some (.pointer (some fs))) (h9 : w.cell? ⟨d, 9, none⟩ = some (.bool true)) :
    Calls Tryz.prog 20 #[.pointer (some ⟨d, 0, none⟩)] w fun e w' => e = .returned (.int .i64 0) ∧ w' = w := by
  go_enter Tryz.func20, Tryz.ntmps20
  go_wp2_with (go_at_call 28; refine (none_no d fs _ h0).mono ?_; rintro e w' ⟨rfl, rfl⟩)
  go_ret
  exact ⟨rfl, rfl⟩
theorem write_bad (d : Nat) (fs : Addr) (sy : Bool) (bk off len cap : Nat) (ks vs : Nat → ByteArray) (ds : Nat → Bool) (at_ : Nat) (hat : at_ < len) (hlen : len ≤ 1000000) (hbad : 300 < (ks at_).size) (w : World)
    (hk : ∀ j, j < len → w.cell? ⟨bk, off + j * 3, none⟩ = some (.string (ks j))) (hv : ∀ j, j < len → w.cell? ⟨bk, off + j * 3 + 1, none⟩ = some (.string (vs j))) (hd : ∀ j, j < len → w.cell? ⟨bk, off + j * 3 + 2, none⟩ = some (.bool (ds j)))
    (h0 : w.cell? ⟨d, 0, none⟩ = some (.pointer (some fs))) (h7 : w.cell? ⟨d, 7, none⟩ = some (.int .u64 1)) (h9 : w.cell? ⟨d, 9, none⟩ = some (.bool true)) :
    Calls Tryz.prog 7 #[.pointer (some ⟨d, 0, none⟩), .bool sy, .slice (some ⟨bk, off, none⟩) len cap] w fun e w' => e = .returned (.int .i64 1) ∧ Stands w w' := by
  have hp := Lib.hid (putBatch_bad 2 bk off len cap ks vs ds at_ hat hlen hbad w hk hv hd)
  clear hk hv hd hat hlen hbad
  go_enter Tryz.func7, Tryz.ntmps7
  go_wp2_with (go_at_call 20; refine (may_yes d fs _ h0 h9).mono ?_; rintro e w' ⟨rfl, rfl⟩)
  refine hp.out.mono ?_
  rintro e w' ⟨rfl, hs⟩
  have hs := Lib.hid hs
  go_wp2
  go_ret
  exact ⟨rfl, hs.out⟩
end Go.Proofs.YtanepmneapepkaaGreatDoor.Wk
