/-
  Part of the proof of a statement of this seat: walks of its functions and the closed run; no condition but those written in each theorem.
-/
import Derived.Test.YtckjnglhbjiklaaGreatDoorCRLtT
import Derived.Test.YtckjnglhbjiklaaGreatDoorCRLtF
import Derived.Test.YtckjnglhbjiklaaGreatDoorCRGtT
import Derived.Test.YtckjnglhbjiklaaGreatDoorCRGtF
import Derived.Test.YtckjnglhbjiklaaGreatDoorCREqT
import Derived.Test.YtckjnglhbjiklaaGreatDoorCREqF
import Derived.Test.YtckjnglhbjiklaaGreatDoorV7
import Derived.ChangeMaps5
import Derived.Shelf.Vars
namespace Go.Proofs.YtckjnglhbjiklaaGreatDoor.Wk
set_option maxRecDepth 100000
open Go.RowKit Go.VmK Go.NumPure Go.Shelf
noncomputable def sg3 (name elem other : ByteArray) : Nat → Option Value := fun i => ([.string name, .string elem, .string other] : List Value)[i]?
noncomputable def consYes : List (FuncId × Con) := [(5, .yes [])]
noncomputable def factsG0 : List (BinOp × AV × AV × AV) := [(.lss, .symLen 0, .int .i64 1, .bool true)]
theorem runG0T (σ0 : Nat → Option Value) : saysYes (runF (withFacts (ctx consYes []) factsG0 σ0) 100000 3 [.symStr 0, .symStr 1, .symStr 2, .bool true] (heap0 8)) = true := by kernel_rfl
theorem runG0F (σ0 : Nat → Option Value) : saysYes (runF (withFacts (ctx consYes []) factsG0 σ0) 100000 3 [.symStr 0, .symStr 1, .symStr 2, .bool false] (heap0 8)) = true := by kernel_rfl
theorem guard0 {name elem other : ByteArray} (h0 : name.size < 1) (later : Bool) (w : World) : Calls Tryz.prog 3 #[.string name, .string elem, .string other, .bool later] w fun e w' => e = .returned (.bool true) ∧ Stands w w' := by
  have K : ∀ p ∈ consYes, ConOK Tryz.prog (Outer w (sg3 name elem other) fun b => b < w.heap.size) p.1 p.2 := by
    intro p hp
    simp only [consYes, List.mem_cons, List.mem_nil_iff, or_false] at hp
    subst hp
    exact yes_ok rfl fun w _ => alive_yes w
  have F : ∀ f ∈ factsG0, FactOK Tryz.prog (withFacts (ctx consYes []) factsG0 (sg3 name elem other)) f := by
    unfold factsG0
    exact List.forall_mem_cons.2 ⟨fact_lss rfl rfl (by refine (decide_eq_true ?_).symm; simp only [Int.ofNat_eq_natCast]; omega), fun _ h => by cases h⟩
  have hσ : ∀ i, 8 ≤ i → sg3 name elem other i = none := fun i hi => by
    obtain ⟨k, rfl⟩ : ∃ k, i = k + 3 := ⟨i - 3, by omega⟩
    rfl
  cases later with
  | true => exact calls_yes (withFacts_ok (ctx_ok [] K) rfl rfl (fun _ _ _ h => h.σ) F) mixed (by rw [← runF_eq]; exact runG0T _) hσ (xs := [.string name, .string elem, .string other, .bool true]) rfl
  | false => exact calls_yes (withFacts_ok (ctx_ok [] K) rfl rfl (fun _ _ _ h => h.σ) F) mixed (by rw [← runF_eq]; exact runG0F _) hσ (xs := [.string name, .string elem, .string other, .bool false]) rfl
noncomputable def factsG1 : List (BinOp × AV × AV × AV) := [(.lss, .symLen 0, .int .i64 1, .bool false), (.gtr, .symLen 0, .int .i64 40, .bool true)]
theorem runG1T (σ0 : Nat → Option Value) : saysYes (runF (withFacts (ctx consYes []) factsG1 σ0) 100000 3 [.symStr 0, .symStr 1, .symStr 2, .bool true] (heap0 8)) = true := by kernel_rfl
theorem runG1F (σ0 : Nat → Option Value) : saysYes (runF (withFacts (ctx consYes []) factsG1 σ0) 100000 3 [.symStr 0, .symStr 1, .symStr 2, .bool false] (heap0 8)) = true := by kernel_rfl
theorem guard1 {name elem other : ByteArray} (_h0 : ¬ name.size < 1) (h1 : 40 < name.size) (later : Bool) (w : World) : Calls Tryz.prog 3 #[.string name, .string elem, .string other, .bool later] w fun e w' => e = .returned (.bool true) ∧ Stands w w' := by
  have K : ∀ p ∈ consYes, ConOK Tryz.prog (Outer w (sg3 name elem other) fun b => b < w.heap.size) p.1 p.2 := by
    intro p hp
    simp only [consYes, List.mem_cons, List.mem_nil_iff, or_false] at hp
    subst hp
    exact yes_ok rfl fun w _ => alive_yes w
  have F : ∀ f ∈ factsG1, FactOK Tryz.prog (withFacts (ctx consYes []) factsG1 (sg3 name elem other)) f := by
    unfold factsG1
    exact List.forall_mem_cons.2 ⟨fact_lss rfl rfl (by refine (decide_eq_false ?_).symm; simp only [Int.ofNat_eq_natCast]; omega), List.forall_mem_cons.2 ⟨fact_gtr rfl rfl (by refine (decide_eq_true ?_).symm; simp only [Int.ofNat_eq_natCast]; omega), fun _ h => by cases h⟩⟩
  have hσ : ∀ i, 8 ≤ i → sg3 name elem other i = none := fun i hi => by
    obtain ⟨k, rfl⟩ : ∃ k, i = k + 3 := ⟨i - 3, by omega⟩
    rfl
  cases later with
  | true => exact calls_yes (withFacts_ok (ctx_ok [] K) rfl rfl (fun _ _ _ h => h.σ) F) mixed (by rw [← runF_eq]; exact runG1T _) hσ (xs := [.string name, .string elem, .string other, .bool true]) rfl
  | false => exact calls_yes (withFacts_ok (ctx_ok [] K) rfl rfl (fun _ _ _ h => h.σ) F) mixed (by rw [← runF_eq]; exact runG1F _) hσ (xs := [.string name, .string elem, .string other, .bool false]) rfl
noncomputable def factsG2 : List (BinOp × AV × AV × AV) := [(.lss, .symLen 0, .int .i64 1, .bool false), (.gtr, .symLen 0, .int .i64 40, .bool false), (.lss, .symLen 1, .int .i64 1, .bool true)]
theorem runG2T (σ0 : Nat → Option Value) : saysYes (runF (withFacts (ctx consYes []) factsG2 σ0) 100000 3 [.symStr 0, .symStr 1, .symStr 2, .bool true] (heap0 8)) = true := by kernel_rfl
theorem runG2F (σ0 : Nat → Option Value) : saysYes (runF (withFacts (ctx consYes []) factsG2 σ0) 100000 3 [.symStr 0, .symStr 1, .symStr 2, .bool false] (heap0 8)) = true := by kernel_rfl
theorem guard2 {name elem other : ByteArray} (h0 : ¬ name.size < 1) (h1 : ¬ 40 < name.size) (h2 : elem.size < 1) (later : Bool) (w : World) : Calls Tryz.prog 3 #[.string name, .string elem, .string other, .bool later] w fun e w' => e = .returned (.bool true) ∧ Stands w w' := by
  have K : ∀ p ∈ consYes, ConOK Tryz.prog (Outer w (sg3 name elem other) fun b => b < w.heap.size) p.1 p.2 := by
    intro p hp
    simp only [consYes, List.mem_cons, List.mem_nil_iff, or_false] at hp
    subst hp
    exact yes_ok rfl fun w _ => alive_yes w
  have F : ∀ f ∈ factsG2, FactOK Tryz.prog (withFacts (ctx consYes []) factsG2 (sg3 name elem other)) f := by
    unfold factsG2
    exact List.forall_mem_cons.2 ⟨fact_lss rfl rfl (by refine (decide_eq_false ?_).symm; simp only [Int.ofNat_eq_natCast]; omega), List.forall_mem_cons.2 ⟨fact_gtr rfl rfl (by refine (decide_eq_false ?_).symm; simp only [Int.ofNat_eq_natCast]; omega), List.forall_mem_cons.2 ⟨fact_lss rfl rfl (by refine (decide_eq_true ?_).symm; simp only [Int.ofNat_eq_natCast]; omega), fun _ h => by cases h⟩⟩⟩
  have hσ : ∀ i, 8 ≤ i → sg3 name elem other i = none := fun i hi => by
    obtain ⟨k, rfl⟩ : ∃ k, i = k + 3 := ⟨i - 3, by omega⟩
    rfl
  cases later with
  | true => exact calls_yes (withFacts_ok (ctx_ok [] K) rfl rfl (fun _ _ _ h => h.σ) F) mixed (by rw [← runF_eq]; exact runG2T _) hσ (xs := [.string name, .string elem, .string other, .bool true]) rfl
  | false => exact calls_yes (withFacts_ok (ctx_ok [] K) rfl rfl (fun _ _ _ h => h.σ) F) mixed (by rw [← runF_eq]; exact runG2F _) hσ (xs := [.string name, .string elem, .string other, .bool false]) rfl
noncomputable def factsG3 : List (BinOp × AV × AV × AV) := [(.lss, .symLen 0, .int .i64 1, .bool false), (.gtr, .symLen 0, .int .i64 40, .bool false), (.lss, .symLen 1, .int .i64 1, .bool false), (.gtr, .symLen 1, .int .i64 60, .bool true)]
theorem runG3T (σ0 : Nat → Option Value) : saysYes (runF (withFacts (ctx consYes []) factsG3 σ0) 100000 3 [.symStr 0, .symStr 1, .symStr 2, .bool true] (heap0 8)) = true := by kernel_rfl
theorem runG3F (σ0 : Nat → Option Value) : saysYes (runF (withFacts (ctx consYes []) factsG3 σ0) 100000 3 [.symStr 0, .symStr 1, .symStr 2, .bool false] (heap0 8)) = true := by kernel_rfl
theorem guard3 {name elem other : ByteArray} (h0 : ¬ name.size < 1) (h1 : ¬ 40 < name.size) (_h2 : ¬ elem.size < 1) (h3 : 60 < elem.size) (later : Bool) (w : World) : Calls Tryz.prog 3 #[.string name, .string elem, .string other, .bool later] w fun e w' => e = .returned (.bool true) ∧ Stands w w' := by
  have K : ∀ p ∈ consYes, ConOK Tryz.prog (Outer w (sg3 name elem other) fun b => b < w.heap.size) p.1 p.2 := by
    intro p hp
    simp only [consYes, List.mem_cons, List.mem_nil_iff, or_false] at hp
    subst hp
    exact yes_ok rfl fun w _ => alive_yes w
  have F : ∀ f ∈ factsG3, FactOK Tryz.prog (withFacts (ctx consYes []) factsG3 (sg3 name elem other)) f := by
    unfold factsG3
    exact List.forall_mem_cons.2 ⟨fact_lss rfl rfl (by refine (decide_eq_false ?_).symm; simp only [Int.ofNat_eq_natCast]; omega), List.forall_mem_cons.2 ⟨fact_gtr rfl rfl (by refine (decide_eq_false ?_).symm; simp only [Int.ofNat_eq_natCast]; omega), List.forall_mem_cons.2 ⟨fact_lss rfl rfl (by refine (decide_eq_false ?_).symm; simp only [Int.ofNat_eq_natCast]; omega), List.forall_mem_cons.2 ⟨fact_gtr rfl rfl (by refine (decide_eq_true ?_).symm; simp only [Int.ofNat_eq_natCast]; omega), fun _ h => by cases h⟩⟩⟩⟩
  have hσ : ∀ i, 8 ≤ i → sg3 name elem other i = none := fun i hi => by
    obtain ⟨k, rfl⟩ : ∃ k, i = k + 3 := ⟨i - 3, by omega⟩
    rfl
  cases later with
  | true => exact calls_yes (withFacts_ok (ctx_ok [] K) rfl rfl (fun _ _ _ h => h.σ) F) mixed (by rw [← runF_eq]; exact runG3T _) hσ (xs := [.string name, .string elem, .string other, .bool true]) rfl
  | false => exact calls_yes (withFacts_ok (ctx_ok [] K) rfl rfl (fun _ _ _ h => h.σ) F) mixed (by rw [← runF_eq]; exact runG3F _) hσ (xs := [.string name, .string elem, .string other, .bool false]) rfl
noncomputable def factsG4 : List (BinOp × AV × AV × AV) := [(.lss, .symLen 0, .int .i64 1, .bool false), (.gtr, .symLen 0, .int .i64 40, .bool false), (.lss, .symLen 1, .int .i64 1, .bool false), (.gtr, .symLen 1, .int .i64 60, .bool false), (.lss, .symLen 2, .int .i64 1, .bool true)]
theorem runG4T (σ0 : Nat → Option Value) : saysYes (runF (withFacts (ctx consYes []) factsG4 σ0) 100000 3 [.symStr 0, .symStr 1, .symStr 2, .bool true] (heap0 8)) = true := by kernel_rfl
theorem runG4F (σ0 : Nat → Option Value) : saysYes (runF (withFacts (ctx consYes []) factsG4 σ0) 100000 3 [.symStr 0, .symStr 1, .symStr 2, .bool false] (heap0 8)) = true := by kernel_rfl
theorem guard4 {name elem other : ByteArray} (h0 : ¬ name.size < 1) (h1 : ¬ 40 < name.size) (h2 : ¬ elem.size < 1) (h3 : ¬ 60 < elem.size) (h4 : other.size < 1) (later : Bool) (w : World) : Calls Tryz.prog 3 #[.string name, .string elem, .string other, .bool later] w fun e w' => e = .returned (.bool true) ∧ Stands w w' := by
  have K : ∀ p ∈ consYes, ConOK Tryz.prog (Outer w (sg3 name elem other) fun b => b < w.heap.size) p.1 p.2 := by
    intro p hp
    simp only [consYes, List.mem_cons, List.mem_nil_iff, or_false] at hp
    subst hp
    exact yes_ok rfl fun w _ => alive_yes w
  have F : ∀ f ∈ factsG4, FactOK Tryz.prog (withFacts (ctx consYes []) factsG4 (sg3 name elem other)) f := by
    unfold factsG4
    exact List.forall_mem_cons.2 ⟨fact_lss rfl rfl (by refine (decide_eq_false ?_).symm; simp only [Int.ofNat_eq_natCast]; omega), List.forall_mem_cons.2 ⟨fact_gtr rfl rfl (by refine (decide_eq_false ?_).symm; simp only [Int.ofNat_eq_natCast]; omega), List.forall_mem_cons.2 ⟨fact_lss rfl rfl (by refine (decide_eq_false ?_).symm; simp only [Int.ofNat_eq_natCast]; omega), List.forall_mem_cons.2 ⟨fact_gtr rfl rfl (by refine (decide_eq_false ?_).symm; simp only [Int.ofNat_eq_natCast]; omega), List.forall_mem_cons.2 ⟨fact_lss rfl rfl (by refine (decide_eq_true ?_).symm; simp only [Int.ofNat_eq_natCast]; omega), fun _ h => by cases h⟩⟩⟩⟩⟩
  have hσ : ∀ i, 8 ≤ i → sg3 name elem other i = none := fun i hi => by
    obtain ⟨k, rfl⟩ : ∃ k, i = k + 3 := ⟨i - 3, by omega⟩
    rfl
  cases later with
  | true => exact calls_yes (withFacts_ok (ctx_ok [] K) rfl rfl (fun _ _ _ h => h.σ) F) mixed (by rw [← runF_eq]; exact runG4T _) hσ (xs := [.string name, .string elem, .string other, .bool true]) rfl
  | false => exact calls_yes (withFacts_ok (ctx_ok [] K) rfl rfl (fun _ _ _ h => h.σ) F) mixed (by rw [← runF_eq]; exact runG4F _) hσ (xs := [.string name, .string elem, .string other, .bool false]) rfl
noncomputable def factsG5 : List (BinOp × AV × AV × AV) := [(.lss, .symLen 0, .int .i64 1, .bool false), (.gtr, .symLen 0, .int .i64 40, .bool false), (.lss, .symLen 1, .int .i64 1, .bool false), (.gtr, .symLen 1, .int .i64 60, .bool false), (.lss, .symLen 2, .int .i64 1, .bool false), (.gtr, .symLen 2, .int .i64 60, .bool true)]
theorem runG5T (σ0 : Nat → Option Value) : saysYes (runF (withFacts (ctx consYes []) factsG5 σ0) 100000 3 [.symStr 0, .symStr 1, .symStr 2, .bool true] (heap0 8)) = true := by kernel_rfl
theorem runG5F (σ0 : Nat → Option Value) : saysYes (runF (withFacts (ctx consYes []) factsG5 σ0) 100000 3 [.symStr 0, .symStr 1, .symStr 2, .bool false] (heap0 8)) = true := by kernel_rfl
theorem guard5 {name elem other : ByteArray} (h0 : ¬ name.size < 1) (h1 : ¬ 40 < name.size) (h2 : ¬ elem.size < 1) (h3 : ¬ 60 < elem.size) (_h4 : ¬ other.size < 1) (h5 : 60 < other.size) (later : Bool) (w : World) : Calls Tryz.prog 3 #[.string name, .string elem, .string other, .bool later] w fun e w' => e = .returned (.bool true) ∧ Stands w w' := by
  have K : ∀ p ∈ consYes, ConOK Tryz.prog (Outer w (sg3 name elem other) fun b => b < w.heap.size) p.1 p.2 := by
    intro p hp
    simp only [consYes, List.mem_cons, List.mem_nil_iff, or_false] at hp
    subst hp
    exact yes_ok rfl fun w _ => alive_yes w
  have F : ∀ f ∈ factsG5, FactOK Tryz.prog (withFacts (ctx consYes []) factsG5 (sg3 name elem other)) f := by
    unfold factsG5
    exact List.forall_mem_cons.2 ⟨fact_lss rfl rfl (by refine (decide_eq_false ?_).symm; simp only [Int.ofNat_eq_natCast]; omega), List.forall_mem_cons.2 ⟨fact_gtr rfl rfl (by refine (decide_eq_false ?_).symm; simp only [Int.ofNat_eq_natCast]; omega), List.forall_mem_cons.2 ⟨fact_lss rfl rfl (by refine (decide_eq_false ?_).symm; simp only [Int.ofNat_eq_natCast]; omega), List.forall_mem_cons.2 ⟨fact_gtr rfl rfl (by refine (decide_eq_false ?_).symm; simp only [Int.ofNat_eq_natCast]; omega), List.forall_mem_cons.2 ⟨fact_lss rfl rfl (by refine (decide_eq_false ?_).symm; simp only [Int.ofNat_eq_natCast]; omega), List.forall_mem_cons.2 ⟨fact_gtr rfl rfl (by refine (decide_eq_true ?_).symm; simp only [Int.ofNat_eq_natCast]; omega), fun _ h => by cases h⟩⟩⟩⟩⟩⟩
  have hσ : ∀ i, 8 ≤ i → sg3 name elem other i = none := fun i hi => by
    obtain ⟨k, rfl⟩ : ∃ k, i = k + 3 := ⟨i - 3, by omega⟩
    rfl
  cases later with
  | true => exact calls_yes (withFacts_ok (ctx_ok [] K) rfl rfl (fun _ _ _ h => h.σ) F) mixed (by rw [← runF_eq]; exact runG5T _) hσ (xs := [.string name, .string elem, .string other, .bool true]) rfl
  | false => exact calls_yes (withFacts_ok (ctx_ok [] K) rfl rfl (fun _ _ _ h => h.σ) F) mixed (by rw [← runF_eq]; exact runG5F _) hσ (xs := [.string name, .string elem, .string other, .bool false]) rfl
theorem law_all (name elem other : ByteArray) (later : Bool) (w : World) {m : Int} (hm : w.cell? ⟨0, 0, none⟩ = some (.int .i64 m)) : Calls Tryz.prog 3 #[.string name, .string elem, .string other, .bool later] w fun e w' => e = .returned (.bool true) ∧ Stands w w' := by
  by_cases h0 : name.size < 1
  · exact guard0 h0 later w
  by_cases h1 : 40 < name.size
  · exact guard1 h0 h1 later w
  by_cases h2 : elem.size < 1
  · exact guard2 h0 h1 h2 later w
  by_cases h3 : 60 < elem.size
  · exact guard3 h0 h1 h2 h3 later w
  by_cases h4 : other.size < 1
  · exact guard4 h0 h1 h2 h3 h4 later w
  by_cases h5 : 60 < other.size
  · exact guard5 h0 h1 h2 h3 h4 h5 later w
  have hs : Sc name.data.toList elem.data.toList other.data.toList := by
    have e1 : name.data.toList.length = name.size := rfl
    have e2 : elem.data.toList.length = elem.size := rfl
    have e3 : other.data.toList.length = other.size := rfl
    exact ⟨by omega, by omega, by omega, by omega, by omega, by omega⟩
  cases ha : ltL elem.data.toList other.data.toList with
  | true =>
    cases later with
    | true => have := lawLtT hs ha w hm; simp only [txt_data] at this; exact this
    | false => have := lawLtF hs ha w hm; simp only [txt_data] at this; exact this
  | false =>
    cases hb : ltL other.data.toList elem.data.toList with
    | true =>
      cases later with
      | true => have := lawGtT hs hb w hm; simp only [txt_data] at this; exact this
      | false => have := lawGtF hs hb w hm; simp only [txt_data] at this; exact this
    | false =>
      have he := ltL_tri ha hb
      have he : elem = other := (txt_data elem).symm.trans ((congrArg txt he).trans (txt_data other))
      subst he
      cases later with
      | true => have := lawEqT hs w hm; simp only [txt_data] at this; exact this
      | false => have := lawEqF hs w hm; simp only [txt_data] at this; exact this
end Go.Proofs.YtckjnglhbjiklaaGreatDoor.Wk
namespace Go.Proofs.YtckjnglhbjiklaaGreatDoor.Wk
set_option maxRecDepth 100000
open Go.RowKit Go.VmK
open Go.ChangeShapes Go.WideShapes Go.Proofs
variable {H : Type} {enc : TypeId × Value → H}
theorem max_len {W : World} (h : W.ShapedOpen Tryz.prog) : ∃ m, W.cell? ⟨0, 0, none⟩ = some (.int .i64 m) :=
  cell_of_shapedOpen_int (zero := #[.int .i64 0]) (t := 3) h (of_decide_eq_true (by kernel_rfl)) (by kernel_rfl) rfl (by kernel_rfl) (by kernel_rfl) Tryz.underlying3
theorem walk {W : World} {base : Nat} {v0 v1 v2 v3 : Value} {d0 d1 d2 d3 : DataW H} {p0 p1 p2 p3 : List MemPlace} (hsh : W.ShapedOpen Tryz.prog) (hv0 : Value.okWide Tryz.prog W .any base 9 v0) (hv1 : Value.okWide Tryz.prog W .any base 9 v1) (hv2 : Value.okWide Tryz.prog W .any base 9 v2) (hv3 : Value.okWide Tryz.prog W .any base 4 v3)
    (h0 : DataW.Trod enc Tryz.prog W 0 (fun _ => true) true 9 v0 d0 p0) (h1 : DataW.Trod enc Tryz.prog W 0 (fun _ => true) true 9 v1 d1 p1) (h2 : DataW.Trod enc Tryz.prog W 0 (fun _ => true) true 9 v2 d2 p2) (h3 : DataW.Trod enc Tryz.prog W 0 (fun _ => true) true 4 v3 d3 p3) :
    Calls Tryz.prog 3 #[v0, v1, v2, v3] W fun e W' => e = .returned (.bool true) ∧ Stands W W' := by
  obtain ⟨x0, rfl, _⟩ := Go.ChangeMaps.open_string Tryz.underlying9 hv0 h0
  obtain ⟨x1, rfl, _⟩ := Go.ChangeMaps.open_string Tryz.underlying9 hv1 h1
  obtain ⟨x2, rfl, _⟩ := Go.ChangeMaps.open_string Tryz.underlying9 hv2 h2
  obtain ⟨x3, rfl, _⟩ := Go.RowKit.open_bool Tryz.underlying4 hv3 h3
  obtain ⟨m, hm⟩ := max_len hsh
  exact law_all x0 x1 x2 x3 W hm
end Go.Proofs.YtckjnglhbjiklaaGreatDoor.Wk
