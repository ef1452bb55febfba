/-
  Part of the proof of a statement of this seat: walks of its functions and the closed run; no condition but those written in each theorem.
-/
import Derived.Test.YtoihgkjbollgjaaGreatDoorNR
namespace Go.Proofs.YtoihgkjbollgjaaGreatDoor.Wk
set_option maxRecDepth 100000
open Go.RowKit Go.VmK
theorem none_nil (w : World) : Calls Tryz.prog 24 #[.pointer none] w fun e w' => e = .returned (.bool true) ∧ w' = w := by
  go_enter Tryz.func24, Tryz.ntmps24
  go_wp2
  go_ret
  exact ⟨rfl, rfl⟩
theorem none_zero (r : Nat) (w : World) (h : w.cell? ⟨r, 3, none⟩ = some (.pointer none)) : Calls Tryz.prog 24 #[.pointer (some ⟨r, 0, none⟩)] w fun e w' => e = .returned (.bool true) ∧ w' = w := by
  go_enter Tryz.func24, Tryz.ntmps24
  go_wp2
  go_ret
  exact ⟨rfl, rfl⟩
/-- whole numbers that are handed in -/
def Ints (w : World) (no : Option Addr) (nl nc : Nat) (zs : Nat → Int) : Prop := nl ≤ nc ∧ nl ≤ 9223372036854775807 ∧ ∀ j, j < nl → ∃ bk off, no = some ⟨bk, off, none⟩ ∧ w.cell? ⟨bk, off + j, none⟩ = some (.int .i64 (zs j))
theorem Ints.stands {w w' : World} {no : Option Addr} {nl nc : Nat} {zs : Nat → Int} (h : Ints w no nl nc zs) (g : Stands w w') : Ints w' no nl nc zs := ⟨h.1, h.2.1, fun j hj => by
  obtain ⟨bk, off, h1, h2⟩ := h.2.2 j hj
  exact ⟨bk, off, h1, stands_cell g h2⟩⟩
theorem step_nil (word : ByteArray) (no to : Option Addr) (nl nc tl tc : Nat) (zs : Nat → Int) (ht63 : tl ≤ 9223372036854775807) (W : World) (hz : Ints W no nl nc zs) :
    Calls Tryz.prog 10 #[.pointer none, .agg #[.string word, .slice no nl nc, .slice to tl tc]] W fun e w' => e = .returned (.string ⟨#[]⟩) ∧ Stands W w' := by
  have b0 := cell_laid W #[.string word, .slice no nl nc, .slice to tl tc] 25 0 (.string word) rfl
  have b1 := cell_laid W #[.string word, .slice no nl nc, .slice to tl tc] 25 1 (.slice no nl nc) rfl
  have b2 := cell_laid W #[.string word, .slice no nl nc, .slice to tl tc] 25 2 (.slice to tl tc) rfl
  have st := Lib.hid (stands_alloc W #[.string word, .slice no nl nc, .slice to tl tc] 25)
  have hz1 := Lib.hid (hz.stands st.out)
  replace hz := Lib.hid hz
  go_enter Tryz.func10, Tryz.ntmps10
  go_wp2_with fail
  refine (right_any word no to nl nc tl tc zs hz1.out.1 hz1.out.2.1 ht63 _ hz1.out.2.2).mono ?_
  rintro e w1 ⟨⟨s, b, rfl⟩, st1⟩
  have S1 := Lib.hid (st.out.trans st1)
  clear st1 b0 b1 b2
  cases b with
  | false =>
    go_wp2
    go_ret
    exact ⟨rfl, S1.out⟩
  | true =>
    go_wp2_with (go_at_call 24; refine (none_nil _).mono ?_; rintro e w' ⟨rfl, rfl⟩)
    go_ret
    exact ⟨rfl, S1.out⟩
theorem step_zero (r : Nat) (word : ByteArray) (no to : Option Addr) (nl nc tl tc : Nat) (zs : Nat → Int) (ht63 : tl ≤ 9223372036854775807) (W : World) (hz : Ints W no nl nc zs) (hr : W.cell? ⟨r, 3, none⟩ = some (.pointer none)) :
    Calls Tryz.prog 10 #[.pointer (some ⟨r, 0, none⟩), .agg #[.string word, .slice no nl nc, .slice to tl tc]] W fun e w' => e = .returned (.string ⟨#[]⟩) ∧ Stands W w' := by
  have b0 := cell_laid W #[.string word, .slice no nl nc, .slice to tl tc] 25 0 (.string word) rfl
  have b1 := cell_laid W #[.string word, .slice no nl nc, .slice to tl tc] 25 1 (.slice no nl nc) rfl
  have b2 := cell_laid W #[.string word, .slice no nl nc, .slice to tl tc] 25 2 (.slice to tl tc) rfl
  have st := Lib.hid (stands_alloc W #[.string word, .slice no nl nc, .slice to tl tc] 25)
  have hz1 := Lib.hid (hz.stands st.out)
  have hr := Lib.hid (stands_cell st.out hr)
  replace hz := Lib.hid hz
  go_enter Tryz.func10, Tryz.ntmps10
  go_wp2_with fail
  refine (right_any word no to nl nc tl tc zs hz1.out.1 hz1.out.2.1 ht63 _ hz1.out.2.2).mono ?_
  rintro e w1 ⟨⟨s, b, rfl⟩, st1⟩
  have S1 := Lib.hid (st.out.trans st1)
  have hr1 := stands_cell st1 hr.out
  clear st1 b0 b1 b2
  cases b with
  | false =>
    go_wp2
    go_ret
    exact ⟨rfl, S1.out⟩
  | true =>
    go_wp2_with (go_at_call 24; refine (none_zero r _ hr1).mono ?_; rintro e w' ⟨rfl, rfl⟩)
    go_ret
    exact ⟨rfl, S1.out⟩
end Go.Proofs.YtoihgkjbollgjaaGreatDoor.Wk
