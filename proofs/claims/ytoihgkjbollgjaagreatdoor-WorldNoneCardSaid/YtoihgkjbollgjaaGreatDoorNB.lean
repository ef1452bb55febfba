/-
  Part of the proof of a statement of this seat: walks of its functions and the closed run; no condition but those written in each theorem.
-/
import Derived.Test.YtoihgkjbollgjaaGreatDoorNT
import Derived.Test.YtoihgkjbollgjaaGreatDoorNO
namespace Go.Proofs.YtoihgkjbollgjaaGreatDoor.Wk
set_option maxRecDepth 100000
open Go.RowKit Go.VmK Go.ChangeShapes Go.WideShapes
noncomputable def stepArg : List AV := [.symStr 0, .symC 1, .symC 2]
noncomputable def consN : List (FuncId × Con) := [(6, .yes []), (5, .fn (rowFlag stepArg 1)), (10, .fn (nilFn 3 stepArg (.str [])))]
theorem runLaw : saysYes (runF (ctx consN [5]) 100000 3 [.agg stepArg, .symInt .i64 3] (heap0 4)) = true := by kernel_rfl
theorem law_all (halive : ∀ w : World, Calls Tryz.prog 6 #[] w fun e w' => e = .returned (.bool true) ∧ Stands w w')
    (word : ByteArray) (no to : Option Addr) (nl nc tl tc : Nat) (zs : Nat → Int) (fs : Nat → ByteArray) (ht63 : tl ≤ 9223372036854775807) (n : Int) (W : World) (hz : Ints W no nl nc zs) (ht : Txts W to tl fs) :
    Calls Tryz.prog 3 #[.agg #[.string word, .slice no nl nc, .slice to tl tc], .int .i64 n] W fun e w' => e = .returned (.bool true) ∧ Stands W w' := by
  let σ0 : Nat → Option Value := fun i => [Value.string word, .slice no nl nc, .slice to tl tc, .int .i64 n][i]?
  have hσ : ∀ i, 4 ≤ i → σ0 i = none := fun i hi => by
    obtain ⟨j, rfl⟩ : ∃ j, i = j + 4 := ⟨i - 4, by omega⟩
    rfl
  have hx : concL (env0 σ0) stepArg = some [.string word, .slice no nl nc, .slice to tl tc] := rfl
  refine calls_yes (C := ctx consN [5]) (σ0 := σ0) (k := 4) (args := [.agg stepArg, .symInt .i64 3]) (ctx_ok [5] ?_) mixed (by rw [← runF_eq]; exact runLaw) hσ rfl
  intro q hq
  simp only [consN, List.mem_cons, List.mem_nil_iff, or_false] at hq
  rcases hq with rfl | rfl | rfl
  · exact yes_ok rfl fun w _ => halive w
  · exact rowFlag_ok hx fun w bk off cap hs hc => light_any bk off cap word no to nl nc tl tc fs ht63 w (ht.stands hs) (hc 0 _ rfl) (hc 1 _ rfl) (hc 2 _ rfl)
  · exact nilFn_ok hx rfl (fun w hs => step_nil word no to nl nc tl tc zs ht63 w (hz.stands hs)) (fun w r hs hr => step_zero r word no to nl nc tl tc zs ht63 w (hz.stands hs) hr)
end Go.Proofs.YtoihgkjbollgjaaGreatDoor.Wk
