/-
  Part of the proof of a statement of this seat: walks of its functions and the closed run; no condition but those written in each theorem.
-/
import Derived.Test.YtlfgcganjbmjfaaGreatDoorGA
import Derived.Test.YtlfgcganjbmjfaaGreatDoorHB
import Derived.Test.YtlfgcganjbmjfaaGreatDoorHK
import Derived.Test.YtlfgcganjbmjfaaGreatDoorYAt
import Derived.Test.YtlfgcganjbmjfaaGreatDoorV7
namespace Go.Proofs.YtlfgcganjbmjfaaGreatDoor.Wk
set_option maxRecDepth 100000
open Go.RowKit Go.VmK
open Go.ChangeShapes Go.WideShapes
variable {H : Type} {enc : TypeId × Value → H}
theorem cR : Tryz.prog.cellsOf 23 = 6 := by kernel_rfl
theorem walk {W : World} {base : Nat} {v0 : Value} {d0 : DataW H} {p0 : List MemPlace} (hv0 : Value.okWide Tryz.prog W .any base 23 v0)
    (h0 : DataW.Trod enc Tryz.prog W 0 (fun _ => true) true 23 v0 d0 p0) :
    Calls Tryz.prog 4 #[v0] W fun e W' => e = .returned (.bool true) ∧ Stands W W' := by
  obtain ⟨cs, rfl, hsz⟩ := agg_of Tryz.underlying23 hv0
  rw [cR] at hsz
  obtain ⟨l⟩ := cs
  match l, hsz with
  | [c0, c1, c2, c3, c4, c5], _ =>
    obtain ⟨fuel, ht⟩ := h0
    obtain ⟨zs, m, _, _, hl4, hzl, hg⟩ := DataW.trod_struct Tryz.underlying23 ht
    have zsome : ∀ i, i < 6 → ∃ y, zs[i]? = some y := fun i hi => ⟨_, List.getElem?_eq_getElem (by simp at hzl; omega)⟩
    obtain ⟨z0, g0⟩ := zsome 0 (by decide)
    have q0 := (hg 0 _ rfl).trans g0
    obtain ⟨z1, g1⟩ := zsome 1 (by decide)
    have q1 := (hg 1 _ rfl).trans g1
    obtain ⟨z2, g2⟩ := zsome 2 (by decide)
    have q2 := (hg 2 _ rfl).trans g2
    obtain ⟨z3, g3⟩ := zsome 3 (by decide)
    have q3 := (hg 3 _ rfl).trans g3
    obtain ⟨z4, g4⟩ := zsome 4 (by decide)
    have q4 := (hg 4 _ rfl).trans g4
    obtain ⟨z5, g5⟩ := zsome 5 (by decide)
    have q5 := (hg 5 _ rfl).trans g5
    simp only [Value.cells] at q0 q1 q2 q3 q4 q5
    obtain ⟨x0, r0⟩ := str_at Tryz.underlying9 q0
    cases r0
    obtain ⟨x1, r1⟩ := str_at Tryz.underlying9 q1
    cases r1
    obtain ⟨x2, r2⟩ := str_at Tryz.underlying9 q2
    cases r2
    obtain ⟨x3, r3⟩ := str_at Tryz.underlying9 q3
    cases r3
    obtain ⟨x4, r4⟩ := int_at Tryz.underlying3 q4
    cases r4
    obtain ⟨x5, r5⟩ := bool_at Tryz.underlying4 q5
    cases r5
    let σ0 : Nat → Option Value := fun i => [Value.string x0, .string x1, .string x2, .string x3, .int .i64 x4][i]?
    have hσ : ∀ i, 5 ≤ i → σ0 i = none := fun i hi => by
      obtain ⟨k, rfl⟩ : ∃ k, i = k + 5 := ⟨i - 5, by omega⟩
      rfl
    have consN_ok : ∀ p ∈ consN, ConOK Tryz.prog (Outer W σ0 fun b => b < W.heap.size) p.1 p.2 := by
      intro q hq
      simp only [consN, List.mem_cons, List.mem_nil_iff, or_false] at hq
      subst hq
      exact yes_ok rfl fun w _ => alive_yes w
    have consY_ok : x0.size ≤ 60 → x1.size ≤ 60 → x2.size ≤ 60 → ∀ p ∈ consY, ConOK Tryz.prog (Outer W σ0 fun b => b < W.heap.size) p.1 p.2 := by
      intro a0 a1 a2 q hq
      simp only [consY, List.mem_cons, List.mem_nil_iff, or_false] at hq
      rcases hq with rfl | rfl
      · exact yes_ok rfl fun w _ => alive_yes w
      · refine ans_ok fun r hr => ?_
        simp only [List.mem_cons, List.mem_nil_iff, or_false] at hr
        rcases hr with rfl | rfl | rfl
        · exact ⟨[.string x0], .string x0, rfl, rfl, fun w _ => clone x0 (by omega) w⟩
        · exact ⟨[.string x1], .string x1, rfl, rfl, fun w _ => clone x1 (by omega) w⟩
        · exact ⟨[.string x2], .string x2, rfl, rfl, fun w _ => clone x2 (by omega) w⟩
    have fin : ∀ {C : Ctx} {fs : List (BinOp × AV × AV × Bool)}, ProgOK Tryz.prog C (Outer W σ0 fun b => b < W.heap.size) → (∀ f ∈ fs, FactOK Tryz.prog (withFacts C fs σ0) f) →
        (∀ z : Bool, saysYes (runCall (withFacts C fs σ0) 100000 4 [.agg [.symStr 0, .symStr 1, .symStr 2, .symStr 3, .symInt .i64 4, .bool z]] (heap0 5)) = true) →
        Calls Tryz.prog 4 #[.agg #[.string x0, .string x1, .string x2, .string x3, .int .i64 x4, .bool x5]] W fun e W' => e = .returned (.bool true) ∧ Stands W W' :=
      fun hC hF hr => calls_yes (withFacts_ok hC (fun _ _ _ h => h.σ) hF) mixed (hr x5) hσ rfl
    by_cases h1 : 1 ≤ x0.size
    case neg =>
      have F : ∀ f ∈ factsN1, FactOK Tryz.prog (withFacts (ctx consN [5]) factsN1 σ0) f := by
        intro f hf
        simp only [factsN1, List.mem_cons, List.mem_nil_iff, or_false] at hf
        rcases hf with rfl | rfl
        · exact fact_geq_len rfl (by first | exact (decide_eq_true (by omega)).symm | exact (decide_eq_false (by omega)).symm)
        · exact fact_neq_empty rfl (by first | exact (decide_eq_true (by omega)).symm | exact (decide_eq_false (by omega)).symm)
      exact fin (ctx_ok [5] (consN_ok)) F (fun z => by cases z <;> (rw [← runF_eq]; first | exact runN1t σ0 | exact runN1f σ0))
    by_cases h2 : x0.size ≤ 40
    case neg =>
      have F : ∀ f ∈ factsN2, FactOK Tryz.prog (withFacts (ctx consN [5]) factsN2 σ0) f := by
        intro f hf
        simp only [factsN2, List.mem_cons, List.mem_nil_iff, or_false] at hf
        rcases hf with rfl | rfl | rfl
        · exact fact_geq_len rfl (by first | exact (decide_eq_true (by omega)).symm | exact (decide_eq_false (by omega)).symm)
        · exact fact_neq_empty rfl (by first | exact (decide_eq_true (by omega)).symm | exact (decide_eq_false (by omega)).symm)
        · exact fact_leq_len rfl (by first | exact (decide_eq_true (by omega)).symm | exact (decide_eq_false (by omega)).symm)
      exact fin (ctx_ok [5] (consN_ok)) F (fun z => by cases z <;> (rw [← runF_eq]; first | exact runN2t σ0 | exact runN2f σ0))
    by_cases h3 : x1.size ≤ 60
    case neg =>
      have F : ∀ f ∈ factsN3, FactOK Tryz.prog (withFacts (ctx consN [5]) factsN3 σ0) f := by
        intro f hf
        simp only [factsN3, List.mem_cons, List.mem_nil_iff, or_false] at hf
        rcases hf with rfl | rfl | rfl | rfl
        · exact fact_geq_len rfl (by first | exact (decide_eq_true (by omega)).symm | exact (decide_eq_false (by omega)).symm)
        · exact fact_neq_empty rfl (by first | exact (decide_eq_true (by omega)).symm | exact (decide_eq_false (by omega)).symm)
        · exact fact_leq_len rfl (by first | exact (decide_eq_true (by omega)).symm | exact (decide_eq_false (by omega)).symm)
        · exact fact_leq_len rfl (by first | exact (decide_eq_true (by omega)).symm | exact (decide_eq_false (by omega)).symm)
      exact fin (ctx_ok [5] (consN_ok)) F (fun z => by cases z <;> (rw [← runF_eq]; first | exact runN3t σ0 | exact runN3f σ0))
    by_cases h4 : x2.size ≤ 60
    case neg =>
      have F : ∀ f ∈ factsN4, FactOK Tryz.prog (withFacts (ctx consN [5]) factsN4 σ0) f := by
        intro f hf
        simp only [factsN4, List.mem_cons, List.mem_nil_iff, or_false] at hf
        rcases hf with rfl | rfl | rfl | rfl | rfl
        · exact fact_geq_len rfl (by first | exact (decide_eq_true (by omega)).symm | exact (decide_eq_false (by omega)).symm)
        · exact fact_neq_empty rfl (by first | exact (decide_eq_true (by omega)).symm | exact (decide_eq_false (by omega)).symm)
        · exact fact_leq_len rfl (by first | exact (decide_eq_true (by omega)).symm | exact (decide_eq_false (by omega)).symm)
        · exact fact_leq_len rfl (by first | exact (decide_eq_true (by omega)).symm | exact (decide_eq_false (by omega)).symm)
        · exact fact_leq_len rfl (by first | exact (decide_eq_true (by omega)).symm | exact (decide_eq_false (by omega)).symm)
      exact fin (ctx_ok [5] (consN_ok)) F (fun z => by cases z <;> (rw [← runF_eq]; first | exact runN4t σ0 | exact runN4f σ0))
    by_cases h5 : 1 ≤ x4
    case neg =>
      have F : ∀ f ∈ factsN5, FactOK Tryz.prog (withFacts (ctx consN [5]) factsN5 σ0) f := by
        intro f hf
        simp only [factsN5, List.mem_cons, List.mem_nil_iff, or_false] at hf
        rcases hf with rfl | rfl | rfl | rfl | rfl | rfl
        · exact fact_geq_len rfl (by first | exact (decide_eq_true (by omega)).symm | exact (decide_eq_false (by omega)).symm)
        · exact fact_neq_empty rfl (by first | exact (decide_eq_true (by omega)).symm | exact (decide_eq_false (by omega)).symm)
        · exact fact_leq_len rfl (by first | exact (decide_eq_true (by omega)).symm | exact (decide_eq_false (by omega)).symm)
        · exact fact_leq_len rfl (by first | exact (decide_eq_true (by omega)).symm | exact (decide_eq_false (by omega)).symm)
        · exact fact_leq_len rfl (by first | exact (decide_eq_true (by omega)).symm | exact (decide_eq_false (by omega)).symm)
        · exact fact_geq_int rfl (by first | exact (decide_eq_true (by omega)).symm | exact (decide_eq_false (by omega)).symm)
      exact fin (ctx_ok [5] (consN_ok)) F (fun z => by cases z <;> (rw [← runF_eq]; first | exact runN5t σ0 | exact runN5f σ0))
    by_cases h6 : x4 ≤ 50
    case neg =>
      have F : ∀ f ∈ factsN6, FactOK Tryz.prog (withFacts (ctx consN [5]) factsN6 σ0) f := by
        intro f hf
        simp only [factsN6, List.mem_cons, List.mem_nil_iff, or_false] at hf
        rcases hf with rfl | rfl | rfl | rfl | rfl | rfl | rfl
        · exact fact_geq_len rfl (by first | exact (decide_eq_true (by omega)).symm | exact (decide_eq_false (by omega)).symm)
        · exact fact_neq_empty rfl (by first | exact (decide_eq_true (by omega)).symm | exact (decide_eq_false (by omega)).symm)
        · exact fact_leq_len rfl (by first | exact (decide_eq_true (by omega)).symm | exact (decide_eq_false (by omega)).symm)
        · exact fact_leq_len rfl (by first | exact (decide_eq_true (by omega)).symm | exact (decide_eq_false (by omega)).symm)
        · exact fact_leq_len rfl (by first | exact (decide_eq_true (by omega)).symm | exact (decide_eq_false (by omega)).symm)
        · exact fact_geq_int rfl (by first | exact (decide_eq_true (by omega)).symm | exact (decide_eq_false (by omega)).symm)
        · exact fact_leq_int rfl (by first | exact (decide_eq_true (by omega)).symm | exact (decide_eq_false (by omega)).symm)
      exact fin (ctx_ok [5] (consN_ok)) F (fun z => by cases z <;> (rw [← runF_eq]; first | exact runN6t σ0 | exact runN6f σ0))
    by_cases h7 : x3.size ≤ 61
    case neg =>
      have F : ∀ f ∈ factsY0, FactOK Tryz.prog (withFacts (ctx consY [5]) factsY0 σ0) f := by
        intro f hf
        simp only [factsY0, List.mem_cons, List.mem_nil_iff, or_false] at hf
        rcases hf with rfl | rfl | rfl | rfl | rfl | rfl | rfl | rfl | rfl
        · exact fact_geq_len rfl (by first | exact (decide_eq_true (by omega)).symm | exact (decide_eq_false (by omega)).symm)
        · exact fact_neq_empty rfl (by first | exact (decide_eq_true (by omega)).symm | exact (decide_eq_false (by omega)).symm)
        · exact fact_leq_len rfl (by first | exact (decide_eq_true (by omega)).symm | exact (decide_eq_false (by omega)).symm)
        · exact fact_leq_len rfl (by first | exact (decide_eq_true (by omega)).symm | exact (decide_eq_false (by omega)).symm)
        · exact fact_leq_len rfl (by first | exact (decide_eq_true (by omega)).symm | exact (decide_eq_false (by omega)).symm)
        · exact fact_geq_int rfl (by first | exact (decide_eq_true (by omega)).symm | exact (decide_eq_false (by omega)).symm)
        · exact fact_leq_int rfl (by first | exact (decide_eq_true (by omega)).symm | exact (decide_eq_false (by omega)).symm)
        · exact fact_leq_len rfl (by first | exact (decide_eq_true (by omega)).symm | exact (decide_eq_false (by omega)).symm)
        · exact fact_neq_self rfl
      exact fin (ctx_ok [5] (consY_ok (by omega) (by omega) (by omega))) F (fun z => by cases z <;> (rw [← runF_eq]; first | exact runY0t σ0 | exact runY0f σ0))
    cases h8 : Op.bytesLess x3.toList x1.toList with
    | false =>
      have F : ∀ f ∈ factsY1, FactOK Tryz.prog (withFacts (ctx consY [5]) factsY1 σ0) f := by
        intro f hf
        simp only [factsY1, List.mem_cons, List.mem_nil_iff, or_false] at hf
        rcases hf with rfl | rfl | rfl | rfl | rfl | rfl | rfl | rfl | rfl | rfl
        · exact fact_geq_len rfl (by first | exact (decide_eq_true (by omega)).symm | exact (decide_eq_false (by omega)).symm)
        · exact fact_neq_empty rfl (by first | exact (decide_eq_true (by omega)).symm | exact (decide_eq_false (by omega)).symm)
        · exact fact_leq_len rfl (by first | exact (decide_eq_true (by omega)).symm | exact (decide_eq_false (by omega)).symm)
        · exact fact_leq_len rfl (by first | exact (decide_eq_true (by omega)).symm | exact (decide_eq_false (by omega)).symm)
        · exact fact_leq_len rfl (by first | exact (decide_eq_true (by omega)).symm | exact (decide_eq_false (by omega)).symm)
        · exact fact_geq_int rfl (by first | exact (decide_eq_true (by omega)).symm | exact (decide_eq_false (by omega)).symm)
        · exact fact_leq_int rfl (by first | exact (decide_eq_true (by omega)).symm | exact (decide_eq_false (by omega)).symm)
        · exact fact_leq_len rfl (by first | exact (decide_eq_true (by omega)).symm | exact (decide_eq_false (by omega)).symm)
        · exact fact_geq_txt rfl rfl (by rw [h8]; rfl)
        · exact fact_neq_self rfl
      exact fin (ctx_ok [5] (consY_ok (by omega) (by omega) (by omega))) F (fun z => by cases z <;> (rw [← runF_eq]; first | exact runY1t σ0 | exact runY1f σ0))
    | true =>
      have F : ∀ f ∈ factsY2, FactOK Tryz.prog (withFacts (ctx consY [5]) factsY2 σ0) f := by
        intro f hf
        simp only [factsY2, List.mem_cons, List.mem_nil_iff, or_false] at hf
        rcases hf with rfl | rfl | rfl | rfl | rfl | rfl | rfl | rfl | rfl | rfl
        · exact fact_geq_len rfl (by first | exact (decide_eq_true (by omega)).symm | exact (decide_eq_false (by omega)).symm)
        · exact fact_neq_empty rfl (by first | exact (decide_eq_true (by omega)).symm | exact (decide_eq_false (by omega)).symm)
        · exact fact_leq_len rfl (by first | exact (decide_eq_true (by omega)).symm | exact (decide_eq_false (by omega)).symm)
        · exact fact_leq_len rfl (by first | exact (decide_eq_true (by omega)).symm | exact (decide_eq_false (by omega)).symm)
        · exact fact_leq_len rfl (by first | exact (decide_eq_true (by omega)).symm | exact (decide_eq_false (by omega)).symm)
        · exact fact_geq_int rfl (by first | exact (decide_eq_true (by omega)).symm | exact (decide_eq_false (by omega)).symm)
        · exact fact_leq_int rfl (by first | exact (decide_eq_true (by omega)).symm | exact (decide_eq_false (by omega)).symm)
        · exact fact_leq_len rfl (by first | exact (decide_eq_true (by omega)).symm | exact (decide_eq_false (by omega)).symm)
        · exact fact_geq_txt rfl rfl (by rw [h8]; rfl)
        · exact fact_neq_self rfl
      exact fin (ctx_ok [5] (consY_ok (by omega) (by omega) (by omega))) F (fun z => by cases z <;> (rw [← runF_eq]; first | exact runY2t σ0 | exact runY2f σ0))
end Go.Proofs.YtlfgcganjbmjfaaGreatDoor.Wk
