/-
  Part of the proof of a statement of this seat: walks of its functions and the closed run; no condition but those written in each theorem.
-/
import Derived.Test.YtjjhphjbmllhhaaGreatDoorPLaw
namespace Go.Proofs.YtjjhphjbmllhhaaGreatDoor.Wk
set_option maxRecDepth 100000
open Go.RowKit Go.VmK Go.NumPure
theorem law_all (halive : ∀ w : World, Calls Tryz.prog 5 #[] w fun e w' => e = .returned (.bool true) ∧ Stands w w')
    (n l h x : ByteArray) (m : Int) (d : Bool) (hm : -9223372036854775808 ≤ m ∧ m ≤ 9223372036854775807) (a : Int) (ha : a ≤ 9223372036854775807) (b : Int) (w : World) :
    Calls Tryz.prog 3 #[.agg #[.string n, .string l, .string h, .string x, .int .i64 m, .bool d], .int .i64 a, .int .i64 b] w fun e w' => e = .returned (.bool true) ∧ Stands w w' := by
  cases hsm : (decide (n.size ≤ 300) && (decide (l.size ≤ 300) && (decide (h.size ≤ 300) && decide (x.size ≤ 300)))) with
  | false =>
    have hsm := Lib.hid hsm
    have L0 := Lib.hid (lies_new w n l h x m d)
    go_enter Tryz.func3, Tryz.ntmps3
    go_wp2_with fail
    refine (small_any n l h x m d _).mono ?_
    rw [hsm.out]
    rintro e w1 ⟨rfl, g1⟩
    have g1 := stands_of_grown g1
    go_wp2_with fail
    refine (halive _).mono ?_
    rintro e w2 ⟨rfl, g2⟩
    go_wp2_with fail
    go_ret
    exact ⟨rfl, stands_tr (stands_tr (stands_of_grown ((Grown.refl w).alloc _ _)) g1) g2⟩
  | true =>
    have hs : Small n l h x m := by
      simp at hsm
      exact ⟨hsm.1, hsm.2.1, hsm.2.2.1, hsm.2.2.2, hm.1, hm.2⟩
    by_cases h0 : a < 0
    · have hsm := Lib.hid hsm
      have L0 := Lib.hid (lies_new w n l h x m d)
      go_enter Tryz.func3, Tryz.ntmps3
      go_wp2_with fail
      refine (small_any n l h x m d _).mono ?_
      rw [hsm.out]
      rintro e w1 ⟨rfl, g1⟩
      have g1 := stands_of_grown g1
      go_wp2_with fail
      refine (halive _).mono ?_
      rintro e w2 ⟨rfl, g2⟩
      go_wp2_with fail
      go_ret
      exact ⟨rfl, stands_tr (stands_tr (stands_of_grown ((Grown.refl w).alloc _ _)) g1) g2⟩
    · obtain ⟨k, rfl⟩ : ∃ k : Nat, a = (k : Int) := ⟨a.toNat, by omega⟩
      exact law_main halive hs d k (by omega) b w
end Go.Proofs.YtjjhphjbmllhhaaGreatDoor.Wk
