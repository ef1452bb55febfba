/-
  Part of the proof of a statement of this seat: walks of its functions and the closed run; no condition but those written in each theorem.
-/
import Derived.Test.YtjjhphjbmllhhaaGreatDoorProg
import Derived.WalkKit
import Derived.Lib.Hide
import Derived.Test.YtjjhphjbmllhhaaGreatDoorV7
import Derived.Test.YtjjhphjbmllhhaaGreatDoorPPage
namespace Go.Proofs.YtjjhphjbmllhhaaGreatDoor.Wk
set_option maxRecDepth 100000
open Go.RowKit Go.VmK Go.NumPure
theorem ret_bool {a b : Bool} (h : a = b) : Ending.returned (.bool a) = .returned (.bool b) := by rw [h]
theorem name_any (n : ByteArray) (w : World) : Calls Tryz.prog 47 #[.string n] w fun e w' => e = .returned (.bool (decide (1 ≤ n.size) && decide (n.size ≤ 40))) ∧ w' = w := by
  by_cases h0 : 1 ≤ n.size
  · have hne : ¬ n.toList = [] := fun h => by have := (empty_size n).1 h; omega
    have hie : n.toList.isEmpty = false := by cases h : n.toList with | nil => exact absurd h hne | cons => rfl
    go_enter Tryz.func47, Tryz.ntmps47
    go_wp2
    go_ret
    refine ⟨ret_bool ?_, rfl⟩
    rw [Bool.eq_iff_iff]; simp; omega
  · have hne : n.toList = [] := (empty_size n).2 (by omega)
    go_enter Tryz.func47, Tryz.ntmps47
    go_wp2
    go_ret
    refine ⟨ret_bool ?_, rfl⟩
    rw [Bool.eq_iff_iff]; simp; omega
theorem small_any (n l h x : ByteArray) (m : Int) (d : Bool) (w : World) :
    Calls Tryz.prog 4 #[.agg #[.string n, .string l, .string h, .string x, .int .i64 m, .bool d]] w fun e w' => e = .returned (.bool (decide (n.size ≤ 300) && (decide (l.size ≤ 300) && (decide (h.size ≤ 300) && decide (x.size ≤ 300))))) ∧ Grown w w' := by
  go_enter Tryz.func4, Tryz.ntmps4
  go_wp2
  all_goals
    go_ret
    refine ⟨ret_bool ?_, (Grown.refl _).alloc _ _⟩
    rw [Bool.eq_iff_iff]; simp; omega
theorem right_any (n l h : ByteArray) (m : Int) (w : World) :
    Calls Tryz.prog 26 #[.string n, .string l, .string h, .int .i64 m] w fun e w' => e = .returned (.bool ((decide (1 ≤ n.size) && decide (n.size ≤ 40)) && (decide (l.size ≤ 60) && (decide (h.size ≤ 60) && (decide (1 ≤ m) && decide (m ≤ 50)))))) ∧ w' = w := by
  go_enter Tryz.func26, Tryz.ntmps26
  go_wp2_with (go_at_call 47; refine (name_any n _).mono ?_; rintro e w' ⟨rfl, rfl⟩)
  all_goals
    go_ret
    refine ⟨ret_bool ?_, rfl⟩
    rw [Bool.eq_iff_iff]; simp at *; omega
def validB (n l h x : ByteArray) (m : Int) : Bool := ((decide (1 ≤ n.size) && decide (n.size ≤ 40)) && (decide (l.size ≤ 60) && (decide (h.size ≤ 60) && (decide (1 ≤ m) && decide (m ≤ 50))))) && (decide (x.size ≤ 61) && !Op.bytesLess x.toList l.toList)
theorem valid_any (n l h x : ByteArray) (m : Int) (d : Bool) (w : World) :
    Calls Tryz.prog 8 #[.agg #[.string n, .string l, .string h, .string x, .int .i64 m, .bool d]] w fun e w' => e = .returned (.bool (validB n l h x m)) ∧ Grown w w' := by
  unfold validB
  cases hr : ((decide (1 ≤ n.size) && decide (n.size ≤ 40)) && (decide (l.size ≤ 60) && (decide (h.size ≤ 60) && (decide (1 ≤ m) && decide (m ≤ 50))))) with
  | false =>
    have hr := Lib.hid hr
    go_enter Tryz.func8, Tryz.ntmps8
    go_wp2_with (go_at_call 26; refine (right_any n l h m _).mono ?_; rw [hr.out]; rintro e w' ⟨rfl, rfl⟩)
    all_goals
      go_ret
      exact ⟨rfl, (Grown.refl _).alloc _ _⟩
  | true =>
    have hr := Lib.hid hr
    have hge : ∀ w1 : World, (Go.binOp .geq 9 (.string x) (.string l)).run Tryz.prog w1 = .ok (.bool (!Op.bytesLess x.toList l.toList)) w1 := fun w1 => by simp [Go.binOp, Op.stringOp]
    by_cases hx : x.size ≤ 61
    · go_enter Tryz.func8, Tryz.ntmps8
      go_wp2_with (go_at_call 26; refine (right_any n l h m _).mono ?_; rw [hr.out]; rintro e w' ⟨rfl, rfl⟩)
      go_ret
      refine ⟨ret_bool ?_, (Grown.refl _).alloc _ _⟩
      simp [hx]
    · go_enter Tryz.func8, Tryz.ntmps8
      go_wp2_with (go_at_call 26; refine (right_any n l h m _).mono ?_; rw [hr.out]; rintro e w' ⟨rfl, rfl⟩)
      go_ret
      refine ⟨ret_bool ?_, (Grown.refl _).alloc _ _⟩
      simp
end Go.Proofs.YtjjhphjbmllhhaaGreatDoor.Wk
