/-
  Part of the proof of a statement of this seat: walks of its functions and the closed run; no condition but those written in each theorem.
-/
import Derived.Test.YtanepmneapepkaaGreatDoorJL
import Derived.Test.YtanepmneapepkaaGreatDoorJO2
namespace Go.Proofs.YtanepmneapepkaaGreatDoor.Wk
set_option maxRecDepth 100000
open Go.RowKit Go.VmK
set_option maxHeartbeats 3200000 in
theorem law_guard (halive : ∀ w : World, Calls Tryz.prog 4 #[] w fun e w' => e = .returned (.bool true) ∧ Stands w w')
    (ao : Option Addr) (len cap : Nat) (k v : ByteArray) (d : Bool) (at_ : Int) (h : (20 : Int) < len ∨ (300 : Int) < v.size ∨ at_ < 0 ∨ (len : Int) < at_) (W : World) :
    Calls Tryz.prog 3 #[.slice ao len cap, .agg #[.string k, .string v, .bool d], .int .i64 at_] W fun e w' => e = .returned (.bool true) ∧ Stands W w' := by
  have b1 := cell_laid W #[.string k, .string v, .bool d] 24 1 (.string v) rfl
  have st := Lib.hid (stands_alloc W #[.string k, .string v, .bool d] 24)
  by_cases h1 : (20 : Int) < len
  · clear h
    go_enter Tryz.func3, Tryz.ntmps3
    go_wp2_with (go_at_call 4; refine (halive _).mono ?_; rintro e w' ⟨rfl, hst⟩; have hst := Lib.hid hst)
    go_ret
    exact ⟨rfl, st.out.trans hst.out⟩
  · by_cases h2 : (300 : Int) < v.size
    · clear h
      go_enter Tryz.func3, Tryz.ntmps3
      go_wp2_with (go_at_call 4; refine (halive _).mono ?_; rintro e w' ⟨rfl, hst⟩; have hst := Lib.hid hst)
      go_ret
      exact ⟨rfl, st.out.trans hst.out⟩
    · by_cases h3 : at_ < 0
      · clear h
        go_enter Tryz.func3, Tryz.ntmps3
        go_wp2_with (go_at_call 4; refine (halive _).mono ?_; rintro e w' ⟨rfl, hst⟩; have hst := Lib.hid hst)
        go_ret
        exact ⟨rfl, st.out.trans hst.out⟩
      · have h4 : (len : Int) < at_ := by omega
        clear h
        go_enter Tryz.func3, Tryz.ntmps3
        go_wp2_with (go_at_call 4; refine (halive _).mono ?_; rintro e w' ⟨rfl, hst⟩; have hst := Lib.hid hst)
        go_ret
        exact ⟨rfl, st.out.trans hst.out⟩
theorem law_all (halive : ∀ w : World, Calls Tryz.prog 4 #[] w fun e w' => e = .returned (.bool true) ∧ Stands w w')
    (ao : Option Addr) (len cap : Nat) (ks vs : Nat → ByteArray) (ds : Nat → Bool) (k v : ByteArray) (d : Bool) (at_ : Int) (W : World) (hr : Rows3 W ao len ks vs ds) (hnil : ao = none → cap = 0) (hcap : len ≤ cap) (hmax : cap ≤ maxLen) :
    Calls Tryz.prog 3 #[.slice ao len cap, .agg #[.string k, .string v, .bool d], .int .i64 at_] W fun e w' => e = .returned (.bool true) ∧ Stands W w' := by
  by_cases h : (20 : Int) < len ∨ (300 : Int) < v.size ∨ at_ < 0 ∨ (len : Int) < at_
  · exact law_guard halive ao len cap k v d at_ h W
  · obtain ⟨n, rfl⟩ : ∃ n : Nat, at_ = n := ⟨at_.toNat, by omega⟩
    exact law_rest halive ao len cap ks vs ds k v d n (by omega) (by omega) (by omega) W hr hnil hcap hmax
end Go.Proofs.YtanepmneapepkaaGreatDoor.Wk
