/-
  Part of the proof of a statement of this seat: walks of its functions and the closed run; no condition but those written in each theorem.
-/
import Derived.Test.YtjjhphjbmllhhaaGreatDoorProg
import Derived.WalkKit
import Derived.Test.YtjjhphjbmllhhaaGreatDoorV7
import Derived.Test.YtjjhphjbmllhhaaGreatDoorPKit
import Derived.Test.YtjjhphjbmllhhaaGreatDoorPLay
namespace Go.Proofs.YtjjhphjbmllhhaaGreatDoor.Wk
set_option maxRecDepth 100000
open Go.RowKit Go.VmK Go.NumPure
theorem lite_any (s : ByteArray) (h : s.size ≤ 281474976710656) (w : World) : Calls Tryz.prog 40 #[.string s] w fun e w' => e = .returned (.string s) ∧ Stands w w' :=
  (Any.stringslite_Clone Tryz.lClone s w h).mono fun _ _ ⟨h1, h2⟩ => ⟨h1, h2.os, h2.output, h2.size, h2.block⟩
theorem clone_any (s : ByteArray) (h : s.size ≤ 281474976710656) (w : World) : Calls Tryz.prog 21 #[.string s] w fun e w' => e = .returned (.string s) ∧ Stands w w' := by
  go_enter Tryz.func21, Tryz.ntmps21
  go_wp2_with (go_at_call 40; refine (lite_any s h _).mono ?_; rintro e w' ⟨rfl, hw⟩)
  go_ret
  exact ⟨rfl, hw⟩
end Go.Proofs.YtjjhphjbmllhhaaGreatDoor.Wk
