/-
  Part of the proof of a statement of this seat: walks of its functions and the closed run; no condition but those written in each theorem.
-/
import Derived.Test.YtoihgkjbollgjaaGreatDoorWT0
import Derived.Test.YtoihgkjbollgjaaGreatDoorWT1
import Derived.Test.YtoihgkjbollgjaaGreatDoorWT2
import Derived.Test.YtoihgkjbollgjaaGreatDoorWM6
import Derived.Test.YtoihgkjbollgjaaGreatDoorWM7
import Derived.Test.YtoihgkjbollgjaaGreatDoorWM8
import Derived.Test.YtoihgkjbollgjaaGreatDoorWA
import Derived.Test.YtoihgkjbollgjaaGreatDoorV7
import Derived.ChangeMaps5
import Derived.Laws.BitsLemmas
namespace Go.Proofs.YtoihgkjbollgjaaGreatDoor.Wk
set_option maxRecDepth 100000
open Go.RowKit Go.VmK
open Go.ChangeShapes Go.WideShapes
variable {H : Type} {enc : TypeId × Value → H}
theorem walk {W : World} {base : Nat} {v0 v1 : Value} {d0 d1 : DataW H} {p0 p1 : List MemPlace} (hv0 : Value.okWide Tryz.prog W .any base 3 v0) (hv1 : Value.okWide Tryz.prog W .any base 3 v1)
    (h0 : DataW.Trod enc Tryz.prog W 0 (fun _ => true) true 3 v0 d0 p0) (h1 : DataW.Trod enc Tryz.prog W 0 (fun _ => true) true 3 v1 d1 p1) :
    Calls Tryz.prog 4 #[v0, v1] W fun e W' => e = .returned (.bool true) ∧ Stands W W' := by
  obtain ⟨x, rfl⟩ : ∃ x, v0 = .int .i64 x := by
    obtain ⟨x, h, _⟩ := Go.ChangeShapes.open_int Tryz.underlying3 hv0 h0
    exact ⟨x, h⟩
  obtain ⟨r, rfl, hr⟩ : ∃ r, v1 = .int .i64 r ∧ r ≤ 9223372036854775807 := by
    obtain ⟨r, h, _, _, hw⟩ := Go.ChangeShapes.open_int Tryz.underlying3 hv1 h1
    refine ⟨r, h, ?_⟩
    have := (Bool.and_eq_true_iff.1 hw).2
    exact of_decide_eq_true this
  let σ0 : Nat → Option Value := fun i => [Value.int .i64 x, .int .i64 r, .int .i64 (IntKind.i64.wrap (r - 0)), .int .i64 (IntKind.i64.wrap (r - 13))][i]?
  have hσ : ∀ i, 4 ≤ i → σ0 i = none := fun i hi => by
    obtain ⟨k, rfl⟩ : ∃ k, i = k + 4 := ⟨i - 4, by omega⟩
    rfl
  have consN_ok : ∀ p ∈ consN, ConOK Tryz.prog (Outer W σ0 fun b => b < W.heap.size) p.1 p.2 := by
    intro q hq
    simp only [consN, List.mem_cons, List.mem_nil_iff, or_false] at hq
    rcases hq with rfl | rfl
    · exact yes_ok rfl fun w _ => alive_yes w
    · exact sortOK
  by_cases hlo : r ≤ 0
  · by_cases hl : x < 1
    · have F : ∀ cons, ∀ f ∈ factsLoL, FactOK Tryz.prog (withFacts (ctx cons []) factsLoL σ0) f := by
        intro cons f hf
        simp only [factsLoL, List.mem_cons, List.mem_nil_iff, or_false] at hf
        rcases hf with rfl | rfl
        · exact fact_gtr_int rfl (decide_eq_false (by omega)).symm
        · exact fact_lss_int rfl (decide_eq_true (by omega)).symm
      exact calls_yes (withFacts_ok (ctx_ok [] consN_ok) rfl rfl (fun _ _ _ h => h.σ) (F _)) mixed (by rw [← runF_eq]; exact runLoL σ0) hσ rfl
    by_cases hh : 8 < x
    · have F : ∀ cons, ∀ f ∈ factsLoH, FactOK Tryz.prog (withFacts (ctx cons []) factsLoH σ0) f := by
        intro cons f hf
        simp only [factsLoH, List.mem_cons, List.mem_nil_iff, or_false] at hf
        rcases hf with rfl | rfl | rfl
        · exact fact_gtr_int rfl (decide_eq_false (by omega)).symm
        · exact fact_lss_int rfl (decide_eq_false (by omega)).symm
        · exact fact_gtr_int rfl (decide_eq_true (by omega)).symm
      exact calls_yes (withFacts_ok (ctx_ok [] consN_ok) rfl rfl (fun _ _ _ h => h.σ) (F _)) mixed (by rw [← runF_eq]; exact runLoH σ0) hσ rfl
    have F : ∀ cons, ∀ f ∈ factsLo, FactOK Tryz.prog (withFacts (ctx cons []) factsLo σ0) f := by
      intro cons f hf
      simp only [factsLo, List.mem_cons, List.mem_nil_iff, or_false] at hf
      subst hf
      exact fact_gtr_int rfl (decide_eq_false (by omega)).symm
    have hx : x = 1 ∨ x = 2 ∨ x = 3 ∨ x = 4 ∨ x = 5 ∨ x = 6 ∨ x = 7 ∨ x = 8 := by omega
    rcases hx with rfl | rfl | rfl | rfl | rfl | rfl | rfl | rfl
    · exact calls_yes (withFacts_ok (ctx_ok [] consN_ok) rfl rfl (fun _ _ _ h => h.σ) (F _)) mixed (by rw [← runF_eq]; exact runLo1 σ0) hσ rfl
    · exact calls_yes (withFacts_ok (ctx_ok [] consN_ok) rfl rfl (fun _ _ _ h => h.σ) (F _)) mixed (by rw [← runF_eq]; exact runLo2 σ0) hσ rfl
    · exact calls_yes (withFacts_ok (ctx_ok [] consN_ok) rfl rfl (fun _ _ _ h => h.σ) (F _)) mixed (by rw [← runF_eq]; exact runLo3 σ0) hσ rfl
    · exact calls_yes (withFacts_ok (ctx_ok [] consN_ok) rfl rfl (fun _ _ _ h => h.σ) (F _)) mixed (by rw [← runF_eq]; exact runLo4 σ0) hσ rfl
    · exact calls_yes (withFacts_ok (ctx_ok [] consN_ok) rfl rfl (fun _ _ _ h => h.σ) (F _)) mixed (by rw [← runF_eq]; exact runLo5 σ0) hσ rfl
    · refine calls_yes (withFacts_ok (ctx_ok [] ?_) rfl rfl (fun _ _ _ h => h.σ) (F consMLo6)) mixed (by rw [← runF_eq]; exact runLo6 σ0) hσ rfl
      intro q hq
      simp only [consMLo6, List.mem_cons, List.mem_nil_iff, or_false] at hq
      rcases hq with rfl | rfl | rfl
      · exact yes_ok rfl fun w _ => alive_yes w
      · exact sortOK
      · exact known_ok mixed fun r hr => by
          obtain rfl : r = callLo6 := by simpa using hr
          exact ⟨withFacts (ctx consN []) factsLo σ0, 100000, withFacts_ok (ctx_ok [] consN_ok) rfl rfl (fun _ _ _ h => h.σ) (F _), by rw [← runF_eq]; exact isOuts_eq (runNewLo6 σ0)⟩
    · refine calls_yes (withFacts_ok (ctx_ok [] ?_) rfl rfl (fun _ _ _ h => h.σ) (F consMLo7)) mixed (by rw [← runF_eq]; exact runLo7 σ0) hσ rfl
      intro q hq
      simp only [consMLo7, List.mem_cons, List.mem_nil_iff, or_false] at hq
      rcases hq with rfl | rfl | rfl
      · exact yes_ok rfl fun w _ => alive_yes w
      · exact sortOK
      · exact known_ok mixed fun r hr => by
          obtain rfl : r = callLo7 := by simpa using hr
          exact ⟨withFacts (ctx consN []) factsLo σ0, 100000, withFacts_ok (ctx_ok [] consN_ok) rfl rfl (fun _ _ _ h => h.σ) (F _), by rw [← runF_eq]; exact isOuts_eq (runNewLo7 σ0)⟩
    · refine calls_yes (withFacts_ok (ctx_ok [] ?_) rfl rfl (fun _ _ _ h => h.σ) (F consMLo8)) mixed (by rw [← runF_eq]; exact runLo8 σ0) hσ rfl
      intro q hq
      simp only [consMLo8, List.mem_cons, List.mem_nil_iff, or_false] at hq
      rcases hq with rfl | rfl | rfl
      · exact yes_ok rfl fun w _ => alive_yes w
      · exact sortOK
      · exact known_ok mixed fun r hr => by
          obtain rfl : r = callLo8 := by simpa using hr
          exact ⟨withFacts (ctx consN []) factsLo σ0, 100000, withFacts_ok (ctx_ok [] consN_ok) rfl rfl (fun _ _ _ h => h.σ) (F _), by rw [← runF_eq]; exact isOuts_eq (runNewLo8 σ0)⟩
  by_cases hmid : r < 200
  · have F : ∀ cons, ∀ f ∈ factsMid, FactOK Tryz.prog (withFacts (ctx cons []) factsMid σ0) f := by
      intro cons f hf
      simp only [factsMid, List.mem_cons, List.mem_nil_iff, or_false] at hf
      rcases hf with rfl | rfl
      · exact fact_gtr_int rfl (decide_eq_true (by omega)).symm
      · exact fact_lss_int rfl (decide_eq_true (by omega)).symm
    exact calls_yes (withFacts_ok (ctx_ok [] consN_ok) rfl rfl (fun _ _ _ h => h.σ) (F _)) mixed (by rw [← runF_eq]; exact runMid σ0) hσ rfl
  by_cases hl : x < 1
  · have F : ∀ cons, ∀ f ∈ factsHiL, FactOK Tryz.prog (withFacts (ctx cons []) factsHiL σ0) f := by
      intro cons f hf
      simp only [factsHiL, List.mem_cons, List.mem_nil_iff, or_false] at hf
      rcases hf with rfl | rfl | rfl | rfl | rfl | rfl | rfl
      · exact fact_gtr_int rfl (decide_eq_true (by omega)).symm
      · exact fact_lss_int rfl (decide_eq_false (by omega)).symm
      · exact fact_sub_int rfl rfl rfl
      · exact fact_sub_int rfl rfl rfl
      · exact fact_gtr_lit rfl (decide_eq_false (by rw [Go.IntKind.wrap_i64]; omega)).symm
      · exact fact_gtr_lit rfl (decide_eq_false (by rw [Go.IntKind.wrap_i64]; omega)).symm
      · exact fact_lss_int rfl (decide_eq_true (by omega)).symm
    exact calls_yes (withFacts_ok (ctx_ok [] consN_ok) rfl rfl (fun _ _ _ h => h.σ) (F _)) mixed (by rw [← runF_eq]; exact runHiL σ0) hσ rfl
  by_cases hh : 8 < x
  · have F : ∀ cons, ∀ f ∈ factsHiH, FactOK Tryz.prog (withFacts (ctx cons []) factsHiH σ0) f := by
      intro cons f hf
      simp only [factsHiH, List.mem_cons, List.mem_nil_iff, or_false] at hf
      rcases hf with rfl | rfl | rfl | rfl | rfl | rfl | rfl | rfl
      · exact fact_gtr_int rfl (decide_eq_true (by omega)).symm
      · exact fact_lss_int rfl (decide_eq_false (by omega)).symm
      · exact fact_sub_int rfl rfl rfl
      · exact fact_sub_int rfl rfl rfl
      · exact fact_gtr_lit rfl (decide_eq_false (by rw [Go.IntKind.wrap_i64]; omega)).symm
      · exact fact_gtr_lit rfl (decide_eq_false (by rw [Go.IntKind.wrap_i64]; omega)).symm
      · exact fact_lss_int rfl (decide_eq_false (by omega)).symm
      · exact fact_gtr_int rfl (decide_eq_true (by omega)).symm
    exact calls_yes (withFacts_ok (ctx_ok [] consN_ok) rfl rfl (fun _ _ _ h => h.σ) (F _)) mixed (by rw [← runF_eq]; exact runHiH σ0) hσ rfl
  have F : ∀ cons, ∀ f ∈ factsHi, FactOK Tryz.prog (withFacts (ctx cons []) factsHi σ0) f := by
    intro cons f hf
    simp only [factsHi, List.mem_cons, List.mem_nil_iff, or_false] at hf
    rcases hf with rfl | rfl | rfl | rfl | rfl | rfl
    · exact fact_gtr_int rfl (decide_eq_true (by omega)).symm
    · exact fact_lss_int rfl (decide_eq_false (by omega)).symm
    · exact fact_sub_int rfl rfl rfl
    · exact fact_sub_int rfl rfl rfl
    · exact fact_gtr_lit rfl (decide_eq_false (by rw [Go.IntKind.wrap_i64]; omega)).symm
    · exact fact_gtr_lit rfl (decide_eq_false (by rw [Go.IntKind.wrap_i64]; omega)).symm
  have hx : x = 1 ∨ x = 2 ∨ x = 3 ∨ x = 4 ∨ x = 5 ∨ x = 6 ∨ x = 7 ∨ x = 8 := by omega
  rcases hx with rfl | rfl | rfl | rfl | rfl | rfl | rfl | rfl
  · exact calls_yes (withFacts_ok (ctx_ok [] consN_ok) rfl rfl (fun _ _ _ h => h.σ) (F _)) mixed (by rw [← runF_eq]; exact runHi1 σ0) hσ rfl
  · exact calls_yes (withFacts_ok (ctx_ok [] consN_ok) rfl rfl (fun _ _ _ h => h.σ) (F _)) mixed (by rw [← runF_eq]; exact runHi2 σ0) hσ rfl
  · exact calls_yes (withFacts_ok (ctx_ok [] consN_ok) rfl rfl (fun _ _ _ h => h.σ) (F _)) mixed (by rw [← runF_eq]; exact runHi3 σ0) hσ rfl
  · exact calls_yes (withFacts_ok (ctx_ok [] consN_ok) rfl rfl (fun _ _ _ h => h.σ) (F _)) mixed (by rw [← runF_eq]; exact runHi4 σ0) hσ rfl
  · exact calls_yes (withFacts_ok (ctx_ok [] consN_ok) rfl rfl (fun _ _ _ h => h.σ) (F _)) mixed (by rw [← runF_eq]; exact runHi5 σ0) hσ rfl
  · refine calls_yes (withFacts_ok (ctx_ok [] ?_) rfl rfl (fun _ _ _ h => h.σ) (F consMHi6)) mixed (by rw [← runF_eq]; exact runHi6 σ0) hσ rfl
    intro q hq
    simp only [consMHi6, List.mem_cons, List.mem_nil_iff, or_false] at hq
    rcases hq with rfl | rfl | rfl
    · exact yes_ok rfl fun w _ => alive_yes w
    · exact sortOK
    · exact known_ok mixed fun r hr => by
        obtain rfl : r = callHi6 := by simpa using hr
        exact ⟨withFacts (ctx consN []) factsHi σ0, 100000, withFacts_ok (ctx_ok [] consN_ok) rfl rfl (fun _ _ _ h => h.σ) (F _), by rw [← runF_eq]; exact isOuts_eq (runNewHi6 σ0)⟩
  · refine calls_yes (withFacts_ok (ctx_ok [] ?_) rfl rfl (fun _ _ _ h => h.σ) (F consMHi7)) mixed (by rw [← runF_eq]; exact runHi7 σ0) hσ rfl
    intro q hq
    simp only [consMHi7, List.mem_cons, List.mem_nil_iff, or_false] at hq
    rcases hq with rfl | rfl | rfl
    · exact yes_ok rfl fun w _ => alive_yes w
    · exact sortOK
    · exact known_ok mixed fun r hr => by
        obtain rfl : r = callHi7 := by simpa using hr
        exact ⟨withFacts (ctx consN []) factsHi σ0, 100000, withFacts_ok (ctx_ok [] consN_ok) rfl rfl (fun _ _ _ h => h.σ) (F _), by rw [← runF_eq]; exact isOuts_eq (runNewHi7 σ0)⟩
  · refine calls_yes (withFacts_ok (ctx_ok [] ?_) rfl rfl (fun _ _ _ h => h.σ) (F consMHi8)) mixed (by rw [← runF_eq]; exact runHi8 σ0) hσ rfl
    intro q hq
    simp only [consMHi8, List.mem_cons, List.mem_nil_iff, or_false] at hq
    rcases hq with rfl | rfl | rfl
    · exact yes_ok rfl fun w _ => alive_yes w
    · exact sortOK
    · exact known_ok mixed fun r hr => by
        obtain rfl : r = callHi8 := by simpa using hr
        exact ⟨withFacts (ctx consN []) factsHi σ0, 100000, withFacts_ok (ctx_ok [] consN_ok) rfl rfl (fun _ _ _ h => h.σ) (F _), by rw [← runF_eq]; exact isOuts_eq (runNewHi8 σ0)⟩
end Go.Proofs.YtoihgkjbollgjaaGreatDoor.Wk
