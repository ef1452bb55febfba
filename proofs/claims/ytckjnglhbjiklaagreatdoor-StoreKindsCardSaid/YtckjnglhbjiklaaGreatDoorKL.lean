/-
  Part of the proof of a statement of this seat: walks of its functions and the closed run; no condition but those written in each theorem.
-/
import Derived.Test.YtckjnglhbjiklaaGreatDoorKRLt
import Derived.Test.YtckjnglhbjiklaaGreatDoorKRGt
import Derived.Test.YtckjnglhbjiklaaGreatDoorKREq
import Derived.Test.YtckjnglhbjiklaaGreatDoorV7
namespace Go.Proofs.YtckjnglhbjiklaaGreatDoor.Wk
set_option maxRecDepth 100000
open Go.RowKit Go.VmK Go.NumPure Go.Shelf
noncomputable def sg3 (name elem value : ByteArray) : Nat → Option Value := fun i => ([.string name, .string elem, .string value] : List Value)[i]?
noncomputable def consYes : List (FuncId × Con) := [(5, .yes [])]
noncomputable def factsG0 : List (BinOp × AV × AV × AV) := [(.lss, .symLen 0, .int .i64 1, .bool true)]
theorem runG0 (σ0 : Nat → Option Value) : saysYes (runF (withFacts (ctx consYes []) factsG0 σ0) 100000 4 [.symStr 0, .symStr 1, .symStr 2] (heap0 8)) = true := by kernel_rfl
theorem guard0 {name elem value : ByteArray} (h0 : name.size < 1) (w : World) : Calls Tryz.prog 4 #[.string name, .string elem, .string value] w fun e w' => e = .returned (.bool true) ∧ Stands w w' := by
  have K : ∀ p ∈ consYes, ConOK Tryz.prog (Outer w (sg3 name elem value) fun b => b < w.heap.size) p.1 p.2 := by
    intro p hp
    simp only [consYes, List.mem_cons, List.mem_nil_iff, or_false] at hp
    subst hp
    exact yes_ok rfl fun w _ => alive_yes w
  have F : ∀ f ∈ factsG0, FactOK Tryz.prog (withFacts (ctx consYes []) factsG0 (sg3 name elem value)) f := by
    unfold factsG0
    exact List.forall_mem_cons.2 ⟨fact_lss rfl rfl (by refine (decide_eq_true ?_).symm; simp only [Int.ofNat_eq_natCast]; omega), fun _ h => by cases h⟩
  exact calls_yes (withFacts_ok (ctx_ok [] K) rfl rfl (fun _ _ _ h => h.σ) F) mixed (by rw [← runF_eq]; exact runG0 _) (fun i hi => by
    obtain ⟨k, rfl⟩ : ∃ k, i = k + 3 := ⟨i - 3, by have : 8 ≤ i := hi; omega⟩
    rfl) (xs := [.string name, .string elem, .string value]) rfl
noncomputable def factsG1 : List (BinOp × AV × AV × AV) := [(.lss, .symLen 0, .int .i64 1, .bool false), (.gtr, .symLen 0, .int .i64 40, .bool true)]
theorem runG1 (σ0 : Nat → Option Value) : saysYes (runF (withFacts (ctx consYes []) factsG1 σ0) 100000 4 [.symStr 0, .symStr 1, .symStr 2] (heap0 8)) = true := by kernel_rfl
theorem guard1 {name elem value : ByteArray} (_h0 : ¬ name.size < 1) (h1 : 40 < name.size) (w : World) : Calls Tryz.prog 4 #[.string name, .string elem, .string value] w fun e w' => e = .returned (.bool true) ∧ Stands w w' := by
  have K : ∀ p ∈ consYes, ConOK Tryz.prog (Outer w (sg3 name elem value) fun b => b < w.heap.size) p.1 p.2 := by
    intro p hp
    simp only [consYes, List.mem_cons, List.mem_nil_iff, or_false] at hp
    subst hp
    exact yes_ok rfl fun w _ => alive_yes w
  have F : ∀ f ∈ factsG1, FactOK Tryz.prog (withFacts (ctx consYes []) factsG1 (sg3 name elem value)) f := by
    unfold factsG1
    exact List.forall_mem_cons.2 ⟨fact_lss rfl rfl (by refine (decide_eq_false ?_).symm; simp only [Int.ofNat_eq_natCast]; omega), List.forall_mem_cons.2 ⟨fact_gtr rfl rfl (by refine (decide_eq_true ?_).symm; simp only [Int.ofNat_eq_natCast]; omega), fun _ h => by cases h⟩⟩
  exact calls_yes (withFacts_ok (ctx_ok [] K) rfl rfl (fun _ _ _ h => h.σ) F) mixed (by rw [← runF_eq]; exact runG1 _) (fun i hi => by
    obtain ⟨k, rfl⟩ : ∃ k, i = k + 3 := ⟨i - 3, by have : 8 ≤ i := hi; omega⟩
    rfl) (xs := [.string name, .string elem, .string value]) rfl
noncomputable def factsG2 : List (BinOp × AV × AV × AV) := [(.lss, .symLen 0, .int .i64 1, .bool false), (.gtr, .symLen 0, .int .i64 40, .bool false), (.lss, .symLen 1, .int .i64 1, .bool true)]
theorem runG2 (σ0 : Nat → Option Value) : saysYes (runF (withFacts (ctx consYes []) factsG2 σ0) 100000 4 [.symStr 0, .symStr 1, .symStr 2] (heap0 8)) = true := by kernel_rfl
theorem guard2 {name elem value : ByteArray} (h0 : ¬ name.size < 1) (h1 : ¬ 40 < name.size) (h2 : elem.size < 1) (w : World) : Calls Tryz.prog 4 #[.string name, .string elem, .string value] w fun e w' => e = .returned (.bool true) ∧ Stands w w' := by
  have K : ∀ p ∈ consYes, ConOK Tryz.prog (Outer w (sg3 name elem value) fun b => b < w.heap.size) p.1 p.2 := by
    intro p hp
    simp only [consYes, List.mem_cons, List.mem_nil_iff, or_false] at hp
    subst hp
    exact yes_ok rfl fun w _ => alive_yes w
  have F : ∀ f ∈ factsG2, FactOK Tryz.prog (withFacts (ctx consYes []) factsG2 (sg3 name elem value)) f := by
    unfold factsG2
    exact List.forall_mem_cons.2 ⟨fact_lss rfl rfl (by refine (decide_eq_false ?_).symm; simp only [Int.ofNat_eq_natCast]; omega), List.forall_mem_cons.2 ⟨fact_gtr rfl rfl (by refine (decide_eq_false ?_).symm; simp only [Int.ofNat_eq_natCast]; omega), List.forall_mem_cons.2 ⟨fact_lss rfl rfl (by refine (decide_eq_true ?_).symm; simp only [Int.ofNat_eq_natCast]; omega), fun _ h => by cases h⟩⟩⟩
  exact calls_yes (withFacts_ok (ctx_ok [] K) rfl rfl (fun _ _ _ h => h.σ) F) mixed (by rw [← runF_eq]; exact runG2 _) (fun i hi => by
    obtain ⟨k, rfl⟩ : ∃ k, i = k + 3 := ⟨i - 3, by have : 8 ≤ i := hi; omega⟩
    rfl) (xs := [.string name, .string elem, .string value]) rfl
noncomputable def factsG3 : List (BinOp × AV × AV × AV) := [(.lss, .symLen 0, .int .i64 1, .bool false), (.gtr, .symLen 0, .int .i64 40, .bool false), (.lss, .symLen 1, .int .i64 1, .bool false), (.gtr, .symLen 1, .int .i64 60, .bool true)]
theorem runG3 (σ0 : Nat → Option Value) : saysYes (runF (withFacts (ctx consYes []) factsG3 σ0) 100000 4 [.symStr 0, .symStr 1, .symStr 2] (heap0 8)) = true := by kernel_rfl
theorem guard3 {name elem value : ByteArray} (h0 : ¬ name.size < 1) (h1 : ¬ 40 < name.size) (_h2 : ¬ elem.size < 1) (h3 : 60 < elem.size) (w : World) : Calls Tryz.prog 4 #[.string name, .string elem, .string value] w fun e w' => e = .returned (.bool true) ∧ Stands w w' := by
  have K : ∀ p ∈ consYes, ConOK Tryz.prog (Outer w (sg3 name elem value) fun b => b < w.heap.size) p.1 p.2 := by
    intro p hp
    simp only [consYes, List.mem_cons, List.mem_nil_iff, or_false] at hp
    subst hp
    exact yes_ok rfl fun w _ => alive_yes w
  have F : ∀ f ∈ factsG3, FactOK Tryz.prog (withFacts (ctx consYes []) factsG3 (sg3 name elem value)) f := by
    unfold factsG3
    exact List.forall_mem_cons.2 ⟨fact_lss rfl rfl (by refine (decide_eq_false ?_).symm; simp only [Int.ofNat_eq_natCast]; omega), List.forall_mem_cons.2 ⟨fact_gtr rfl rfl (by refine (decide_eq_false ?_).symm; simp only [Int.ofNat_eq_natCast]; omega), List.forall_mem_cons.2 ⟨fact_lss rfl rfl (by refine (decide_eq_false ?_).symm; simp only [Int.ofNat_eq_natCast]; omega), List.forall_mem_cons.2 ⟨fact_gtr rfl rfl (by refine (decide_eq_true ?_).symm; simp only [Int.ofNat_eq_natCast]; omega), fun _ h => by cases h⟩⟩⟩⟩
  exact calls_yes (withFacts_ok (ctx_ok [] K) rfl rfl (fun _ _ _ h => h.σ) F) mixed (by rw [← runF_eq]; exact runG3 _) (fun i hi => by
    obtain ⟨k, rfl⟩ : ∃ k, i = k + 3 := ⟨i - 3, by have : 8 ≤ i := hi; omega⟩
    rfl) (xs := [.string name, .string elem, .string value]) rfl
noncomputable def factsG4 : List (BinOp × AV × AV × AV) := [(.lss, .symLen 0, .int .i64 1, .bool false), (.gtr, .symLen 0, .int .i64 40, .bool false), (.lss, .symLen 1, .int .i64 1, .bool false), (.gtr, .symLen 1, .int .i64 60, .bool false), (.gtr, .symLen 2, .int .i64 300, .bool true)]
theorem runG4 (σ0 : Nat → Option Value) : saysYes (runF (withFacts (ctx consYes []) factsG4 σ0) 100000 4 [.symStr 0, .symStr 1, .symStr 2] (heap0 8)) = true := by kernel_rfl
theorem guard4 {name elem value : ByteArray} (h0 : ¬ name.size < 1) (h1 : ¬ 40 < name.size) (h2 : ¬ elem.size < 1) (h3 : ¬ 60 < elem.size) (h4 : 300 < value.size) (w : World) : Calls Tryz.prog 4 #[.string name, .string elem, .string value] w fun e w' => e = .returned (.bool true) ∧ Stands w w' := by
  have K : ∀ p ∈ consYes, ConOK Tryz.prog (Outer w (sg3 name elem value) fun b => b < w.heap.size) p.1 p.2 := by
    intro p hp
    simp only [consYes, List.mem_cons, List.mem_nil_iff, or_false] at hp
    subst hp
    exact yes_ok rfl fun w _ => alive_yes w
  have F : ∀ f ∈ factsG4, FactOK Tryz.prog (withFacts (ctx consYes []) factsG4 (sg3 name elem value)) f := by
    unfold factsG4
    exact List.forall_mem_cons.2 ⟨fact_lss rfl rfl (by refine (decide_eq_false ?_).symm; simp only [Int.ofNat_eq_natCast]; omega), List.forall_mem_cons.2 ⟨fact_gtr rfl rfl (by refine (decide_eq_false ?_).symm; simp only [Int.ofNat_eq_natCast]; omega), List.forall_mem_cons.2 ⟨fact_lss rfl rfl (by refine (decide_eq_false ?_).symm; simp only [Int.ofNat_eq_natCast]; omega), List.forall_mem_cons.2 ⟨fact_gtr rfl rfl (by refine (decide_eq_false ?_).symm; simp only [Int.ofNat_eq_natCast]; omega), List.forall_mem_cons.2 ⟨fact_gtr rfl rfl (by refine (decide_eq_true ?_).symm; simp only [Int.ofNat_eq_natCast]; omega), fun _ h => by cases h⟩⟩⟩⟩⟩
  exact calls_yes (withFacts_ok (ctx_ok [] K) rfl rfl (fun _ _ _ h => h.σ) F) mixed (by rw [← runF_eq]; exact runG4 _) (fun i hi => by
    obtain ⟨k, rfl⟩ : ∃ k, i = k + 3 := ⟨i - 3, by have : 8 ≤ i := hi; omega⟩
    rfl) (xs := [.string name, .string elem, .string value]) rfl
theorem law_all (name elem value : ByteArray) (w : World) {m : Int} (hm : w.cell? ⟨0, 0, none⟩ = some (.int .i64 m)) : Calls Tryz.prog 4 #[.string name, .string elem, .string value] w fun e w' => e = .returned (.bool true) ∧ Stands w w' := by
  by_cases h0 : name.size < 1
  · exact guard0 h0 w
  by_cases h1 : 40 < name.size
  · exact guard1 h0 h1 w
  by_cases h2 : elem.size < 1
  · exact guard2 h0 h1 h2 w
  by_cases h3 : 60 < elem.size
  · exact guard3 h0 h1 h2 h3 w
  by_cases h4 : 300 < value.size
  · exact guard4 h0 h1 h2 h3 h4 w
  have hs : Sm name elem value := ⟨by omega, by omega, by omega, by omega, by omega⟩
  by_cases hne : otr name = name
  · exact lawEq hs hne w hm
  cases ha : ltL name.data.toList (otr name).data.toList with
  | true => exact lawLt hs ha hne w hm
  | false =>
    cases hb : ltL (otr name).data.toList name.data.toList with
    | true => exact lawGt hs hb hne w hm
    | false =>
      exfalso
      have := ltL_tri ha hb
      exact hne ((txt_data (otr name)).symm.trans ((congrArg txt this.symm).trans (txt_data name)))
end Go.Proofs.YtckjnglhbjiklaaGreatDoor.Wk
