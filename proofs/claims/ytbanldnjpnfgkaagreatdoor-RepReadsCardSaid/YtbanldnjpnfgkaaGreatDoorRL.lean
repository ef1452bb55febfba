/-
  Part of the proof of a statement of this seat: walks of its functions and the closed run; no condition but those written in each theorem.
-/
import Derived.Test.YtbanldnjpnfgkaaGreatDoorRX
import Derived.Test.YtbanldnjpnfgkaaGreatDoorV7
namespace Go.Proofs.YtbanldnjpnfgkaaGreatDoor.Wk
set_option maxRecDepth 100000
open Go.RowKit Go.VmK Go.NumPure Go.Shelf
theorem runM (σ0 : Nat → Option Value) : saysYes (runF (CM consM σ0) 100000 3 [.symStr 0, .symStr 1, .agg [.symC 82, .symC 83, .symC 84, .symC 85, .symC 86, .symC 87, .symC 88, .symC 89, .symC 90, .symC 91, .symC 92, .symC 93, .symC 94, .symC 95, .symC 96, .symC 97, .symC 98, .symC 99]] (heap0 1000)) = true := by kernel_rfl
theorem lawM {n k : List UInt8} {ls : Nat → Nat} {c : Nat → Value} {w : World} (hs : Sc n k) (hc : Cells ls c) (hw : Weighed w c) {m : Int} (hm : w.cell? ⟨0, 0, none⟩ = some (.int .i64 m)) : Calls Tryz.prog 3 #[.string (txt n), .string (txt k), .agg #[c 0, c 1, c 2, c 3, c 4, c 5, c 6, c 7, c 8, c 9, c 10, c 11, c 12, c 13, c 14, c 15, c 16, c 17]] w fun e w' => e = .returned (.bool true) ∧ Stands w w' := by
  refine calls_yes (progM hs hc (consM_ok hs hc hw hm)) mixed (by rw [← runF_eq]; exact runM _) (fun i hi => sg_none _ _ _ _ i (by have : 1000 ≤ i := hi; omega)) (xs := [.string (txt n), .string (txt k), .agg #[c 0, c 1, c 2, c 3, c 4, c 5, c 6, c 7, c 8, c 9, c 10, c 11, c 12, c 13, c 14, c 15, c 16, c 17]]) ?_
  have e := argM (n := n) (k := k) hc
  show (match some (Value.string (txt n)), (match some (Value.string (txt k)), (match (match concL (env0 (sg n k ls c)) [.symC 82, .symC 83, .symC 84, .symC 85, .symC 86, .symC 87, .symC 88, .symC 89, .symC 90, .symC 91, .symC 92, .symC 93, .symC 94, .symC 95, .symC 96, .symC 97, .symC 98, .symC 99] with | some x => some (Value.agg x.toArray) | none => none), some ([] : List Value) with | some x, some xs => some (x :: xs) | _, _ => none) with | some x, some xs => some (x :: xs) | _, _ => none) with | some x, some xs => some (x :: xs) | _, _ => none) = _
  rw [e]
end Go.Proofs.YtbanldnjpnfgkaaGreatDoor.Wk
namespace Go.Proofs.YtbanldnjpnfgkaaGreatDoor.Wk
set_option maxRecDepth 100000
open Go.RowKit Go.VmK Go.NumPure Go.Shelf
noncomputable def sgG (name elem : ByteArray) (c : Nat → Value) : Nat → Option Value := fun i => ([.string name, .string elem, c 0, c 1, c 2, c 3, c 4, c 5, c 6, c 7, c 8, c 9, c 10, c 11, c 12, c 13, c 14, c 15, c 16, c 17] : List Value)[i]?
noncomputable def consYes : List (FuncId × Con) := [(7, .yes [])]
theorem argG {name elem : ByteArray} {c : Nat → Value} (hc : ∀ j, j < 18 → (c j).oneCell' = true) : concL (env0 (sgG name elem c)) [.symC 2, .symC 3, .symC 4, .symC 5, .symC 6, .symC 7, .symC 8, .symC 9, .symC 10, .symC 11, .symC 12, .symC 13, .symC 14, .symC 15, .symC 16, .symC 17, .symC 18, .symC 19] = some [c 0, c 1, c 2, c 3, c 4, c 5, c 6, c 7, c 8, c 9, c 10, c 11, c 12, c 13, c 14, c 15, c 16, c 17] := by
  have h : ∀ j, j < 18 → (match some (c j) with | some v => if v.oneCell' = true then some v else none | none => none) = some (c j) := fun j hj => by simp only [hc j hj, if_true]
  have h0 : conc (env0 (sgG name elem c)) (.symC 2) = some (c 0) := h 0 (by decide)
  have h1 : conc (env0 (sgG name elem c)) (.symC 3) = some (c 1) := h 1 (by decide)
  have h2 : conc (env0 (sgG name elem c)) (.symC 4) = some (c 2) := h 2 (by decide)
  have h3 : conc (env0 (sgG name elem c)) (.symC 5) = some (c 3) := h 3 (by decide)
  have h4 : conc (env0 (sgG name elem c)) (.symC 6) = some (c 4) := h 4 (by decide)
  have h5 : conc (env0 (sgG name elem c)) (.symC 7) = some (c 5) := h 5 (by decide)
  have h6 : conc (env0 (sgG name elem c)) (.symC 8) = some (c 6) := h 6 (by decide)
  have h7 : conc (env0 (sgG name elem c)) (.symC 9) = some (c 7) := h 7 (by decide)
  have h8 : conc (env0 (sgG name elem c)) (.symC 10) = some (c 8) := h 8 (by decide)
  have h9 : conc (env0 (sgG name elem c)) (.symC 11) = some (c 9) := h 9 (by decide)
  have h10 : conc (env0 (sgG name elem c)) (.symC 12) = some (c 10) := h 10 (by decide)
  have h11 : conc (env0 (sgG name elem c)) (.symC 13) = some (c 11) := h 11 (by decide)
  have h12 : conc (env0 (sgG name elem c)) (.symC 14) = some (c 12) := h 12 (by decide)
  have h13 : conc (env0 (sgG name elem c)) (.symC 15) = some (c 13) := h 13 (by decide)
  have h14 : conc (env0 (sgG name elem c)) (.symC 16) = some (c 14) := h 14 (by decide)
  have h15 : conc (env0 (sgG name elem c)) (.symC 17) = some (c 15) := h 15 (by decide)
  have h16 : conc (env0 (sgG name elem c)) (.symC 18) = some (c 16) := h 16 (by decide)
  have h17 : conc (env0 (sgG name elem c)) (.symC 19) = some (c 17) := h 17 (by decide)
  exact concL_sym h0 <| concL_sym h1 <| concL_sym h2 <| concL_sym h3 <| concL_sym h4 <| concL_sym h5 <| concL_sym h6 <| concL_sym h7 <| concL_sym h8 <| concL_sym h9 <| concL_sym h10 <| concL_sym h11 <| concL_sym h12 <| concL_sym h13 <| concL_sym h14 <| concL_sym h15 <| concL_sym h16 <| concL_sym h17 rfl
noncomputable def factsG0 : List (BinOp × AV × AV × AV) := [(.geq, .symLen 0, .int .i64 1, .bool false)]
theorem runG0 (σ0 : Nat → Option Value) : saysYes (runF (withFacts (ctx consYes []) factsG0 σ0) 100000 3 [.symStr 0, .symStr 1, .agg [.symC 2, .symC 3, .symC 4, .symC 5, .symC 6, .symC 7, .symC 8, .symC 9, .symC 10, .symC 11, .symC 12, .symC 13, .symC 14, .symC 15, .symC 16, .symC 17, .symC 18, .symC 19]] (heap0 20)) = true := by kernel_rfl
theorem guard0 {name elem : ByteArray} {c : Nat → Value} (hc : ∀ j, j < 18 → (c j).oneCell' = true) (h0 : name.size < 1) (w : World) : Calls Tryz.prog 3 #[.string name, .string elem, .agg #[c 0, c 1, c 2, c 3, c 4, c 5, c 6, c 7, c 8, c 9, c 10, c 11, c 12, c 13, c 14, c 15, c 16, c 17]] w fun e w' => e = .returned (.bool true) ∧ Stands w w' := by
  have K : ∀ p ∈ consYes, ConOK Tryz.prog (Outer w (sgG name elem c) fun b => b < w.heap.size) p.1 p.2 := by
    intro p hp
    simp only [consYes, List.mem_cons, List.mem_nil_iff, or_false] at hp
    subst hp
    exact yes_ok rfl fun w _ => alive_yes w
  have F : ∀ f ∈ factsG0, FactOK Tryz.prog (withFacts (ctx consYes []) factsG0 (sgG name elem c)) f := by
    unfold factsG0
    exact ac (fact_geq rfl rfl (by refine (decide_eq_false ?_).symm; simp only [Int.ofNat_eq_natCast]; omega)) <| an
  have hσ : ∀ i, 20 ≤ i → sgG name elem c i = none := fun i hi => by
    obtain ⟨j, rfl⟩ : ∃ j, i = j + 20 := ⟨i - 20, by omega⟩
    rfl
  refine calls_yes (withFacts_ok (ctx_ok [] K) rfl rfl (fun _ _ _ h => h.σ) F) mixed (by rw [← runF_eq]; exact runG0 _) hσ (xs := [.string name, .string elem, .agg #[c 0, c 1, c 2, c 3, c 4, c 5, c 6, c 7, c 8, c 9, c 10, c 11, c 12, c 13, c 14, c 15, c 16, c 17]]) ?_
  have e := argG (name := name) (elem := elem) hc
  show (match some (Value.string name), (match some (Value.string elem), (match (match concL (env0 (sgG name elem c)) [.symC 2, .symC 3, .symC 4, .symC 5, .symC 6, .symC 7, .symC 8, .symC 9, .symC 10, .symC 11, .symC 12, .symC 13, .symC 14, .symC 15, .symC 16, .symC 17, .symC 18, .symC 19] with | some x => some (Value.agg x.toArray) | none => none), some ([] : List Value) with | some x, some xs => some (x :: xs) | _, _ => none) with | some x, some xs => some (x :: xs) | _, _ => none) with | some x, some xs => some (x :: xs) | _, _ => none) = _
  rw [e]
noncomputable def factsG1 : List (BinOp × AV × AV × AV) := [(.geq, .symLen 0, .int .i64 1, .bool true), (.leq, .symLen 0, .int .i64 40, .bool false)]
theorem runG1 (σ0 : Nat → Option Value) : saysYes (runF (withFacts (ctx consYes []) factsG1 σ0) 100000 3 [.symStr 0, .symStr 1, .agg [.symC 2, .symC 3, .symC 4, .symC 5, .symC 6, .symC 7, .symC 8, .symC 9, .symC 10, .symC 11, .symC 12, .symC 13, .symC 14, .symC 15, .symC 16, .symC 17, .symC 18, .symC 19]] (heap0 20)) = true := by kernel_rfl
theorem guard1 {name elem : ByteArray} {c : Nat → Value} (hc : ∀ j, j < 18 → (c j).oneCell' = true) (_h0 : ¬ name.size < 1) (h1 : 40 < name.size) (w : World) : Calls Tryz.prog 3 #[.string name, .string elem, .agg #[c 0, c 1, c 2, c 3, c 4, c 5, c 6, c 7, c 8, c 9, c 10, c 11, c 12, c 13, c 14, c 15, c 16, c 17]] w fun e w' => e = .returned (.bool true) ∧ Stands w w' := by
  have K : ∀ p ∈ consYes, ConOK Tryz.prog (Outer w (sgG name elem c) fun b => b < w.heap.size) p.1 p.2 := by
    intro p hp
    simp only [consYes, List.mem_cons, List.mem_nil_iff, or_false] at hp
    subst hp
    exact yes_ok rfl fun w _ => alive_yes w
  have F : ∀ f ∈ factsG1, FactOK Tryz.prog (withFacts (ctx consYes []) factsG1 (sgG name elem c)) f := by
    unfold factsG1
    exact ac (fact_geq rfl rfl (by refine (decide_eq_true ?_).symm; simp only [Int.ofNat_eq_natCast]; omega)) <| ac (fact_leq rfl rfl (by refine (decide_eq_false ?_).symm; simp only [Int.ofNat_eq_natCast]; omega)) <| an
  have hσ : ∀ i, 20 ≤ i → sgG name elem c i = none := fun i hi => by
    obtain ⟨j, rfl⟩ : ∃ j, i = j + 20 := ⟨i - 20, by omega⟩
    rfl
  refine calls_yes (withFacts_ok (ctx_ok [] K) rfl rfl (fun _ _ _ h => h.σ) F) mixed (by rw [← runF_eq]; exact runG1 _) hσ (xs := [.string name, .string elem, .agg #[c 0, c 1, c 2, c 3, c 4, c 5, c 6, c 7, c 8, c 9, c 10, c 11, c 12, c 13, c 14, c 15, c 16, c 17]]) ?_
  have e := argG (name := name) (elem := elem) hc
  show (match some (Value.string name), (match some (Value.string elem), (match (match concL (env0 (sgG name elem c)) [.symC 2, .symC 3, .symC 4, .symC 5, .symC 6, .symC 7, .symC 8, .symC 9, .symC 10, .symC 11, .symC 12, .symC 13, .symC 14, .symC 15, .symC 16, .symC 17, .symC 18, .symC 19] with | some x => some (Value.agg x.toArray) | none => none), some ([] : List Value) with | some x, some xs => some (x :: xs) | _, _ => none) with | some x, some xs => some (x :: xs) | _, _ => none) with | some x, some xs => some (x :: xs) | _, _ => none) = _
  rw [e]
noncomputable def factsG2 : List (BinOp × AV × AV × AV) := [(.geq, .symLen 0, .int .i64 1, .bool true), (.leq, .symLen 0, .int .i64 40, .bool true), (.geq, .symLen 1, .int .i64 1, .bool false)]
theorem runG2 (σ0 : Nat → Option Value) : saysYes (runF (withFacts (ctx consYes []) factsG2 σ0) 100000 3 [.symStr 0, .symStr 1, .agg [.symC 2, .symC 3, .symC 4, .symC 5, .symC 6, .symC 7, .symC 8, .symC 9, .symC 10, .symC 11, .symC 12, .symC 13, .symC 14, .symC 15, .symC 16, .symC 17, .symC 18, .symC 19]] (heap0 20)) = true := by kernel_rfl
theorem guard2 {name elem : ByteArray} {c : Nat → Value} (hc : ∀ j, j < 18 → (c j).oneCell' = true) (h0 : ¬ name.size < 1) (h1 : ¬ 40 < name.size) (h2 : elem.size < 1) (w : World) : Calls Tryz.prog 3 #[.string name, .string elem, .agg #[c 0, c 1, c 2, c 3, c 4, c 5, c 6, c 7, c 8, c 9, c 10, c 11, c 12, c 13, c 14, c 15, c 16, c 17]] w fun e w' => e = .returned (.bool true) ∧ Stands w w' := by
  have K : ∀ p ∈ consYes, ConOK Tryz.prog (Outer w (sgG name elem c) fun b => b < w.heap.size) p.1 p.2 := by
    intro p hp
    simp only [consYes, List.mem_cons, List.mem_nil_iff, or_false] at hp
    subst hp
    exact yes_ok rfl fun w _ => alive_yes w
  have F : ∀ f ∈ factsG2, FactOK Tryz.prog (withFacts (ctx consYes []) factsG2 (sgG name elem c)) f := by
    unfold factsG2
    exact ac (fact_geq rfl rfl (by refine (decide_eq_true ?_).symm; simp only [Int.ofNat_eq_natCast]; omega)) <| ac (fact_leq rfl rfl (by refine (decide_eq_true ?_).symm; simp only [Int.ofNat_eq_natCast]; omega)) <| ac (fact_geq rfl rfl (by refine (decide_eq_false ?_).symm; simp only [Int.ofNat_eq_natCast]; omega)) <| an
  have hσ : ∀ i, 20 ≤ i → sgG name elem c i = none := fun i hi => by
    obtain ⟨j, rfl⟩ : ∃ j, i = j + 20 := ⟨i - 20, by omega⟩
    rfl
  refine calls_yes (withFacts_ok (ctx_ok [] K) rfl rfl (fun _ _ _ h => h.σ) F) mixed (by rw [← runF_eq]; exact runG2 _) hσ (xs := [.string name, .string elem, .agg #[c 0, c 1, c 2, c 3, c 4, c 5, c 6, c 7, c 8, c 9, c 10, c 11, c 12, c 13, c 14, c 15, c 16, c 17]]) ?_
  have e := argG (name := name) (elem := elem) hc
  show (match some (Value.string name), (match some (Value.string elem), (match (match concL (env0 (sgG name elem c)) [.symC 2, .symC 3, .symC 4, .symC 5, .symC 6, .symC 7, .symC 8, .symC 9, .symC 10, .symC 11, .symC 12, .symC 13, .symC 14, .symC 15, .symC 16, .symC 17, .symC 18, .symC 19] with | some x => some (Value.agg x.toArray) | none => none), some ([] : List Value) with | some x, some xs => some (x :: xs) | _, _ => none) with | some x, some xs => some (x :: xs) | _, _ => none) with | some x, some xs => some (x :: xs) | _, _ => none) = _
  rw [e]
noncomputable def factsG3 : List (BinOp × AV × AV × AV) := [(.geq, .symLen 0, .int .i64 1, .bool true), (.leq, .symLen 0, .int .i64 40, .bool true), (.geq, .symLen 1, .int .i64 1, .bool true), (.leq, .symLen 1, .int .i64 60, .bool false)]
theorem runG3 (σ0 : Nat → Option Value) : saysYes (runF (withFacts (ctx consYes []) factsG3 σ0) 100000 3 [.symStr 0, .symStr 1, .agg [.symC 2, .symC 3, .symC 4, .symC 5, .symC 6, .symC 7, .symC 8, .symC 9, .symC 10, .symC 11, .symC 12, .symC 13, .symC 14, .symC 15, .symC 16, .symC 17, .symC 18, .symC 19]] (heap0 20)) = true := by kernel_rfl
theorem guard3 {name elem : ByteArray} {c : Nat → Value} (hc : ∀ j, j < 18 → (c j).oneCell' = true) (h0 : ¬ name.size < 1) (h1 : ¬ 40 < name.size) (_h2 : ¬ elem.size < 1) (h3 : 60 < elem.size) (w : World) : Calls Tryz.prog 3 #[.string name, .string elem, .agg #[c 0, c 1, c 2, c 3, c 4, c 5, c 6, c 7, c 8, c 9, c 10, c 11, c 12, c 13, c 14, c 15, c 16, c 17]] w fun e w' => e = .returned (.bool true) ∧ Stands w w' := by
  have K : ∀ p ∈ consYes, ConOK Tryz.prog (Outer w (sgG name elem c) fun b => b < w.heap.size) p.1 p.2 := by
    intro p hp
    simp only [consYes, List.mem_cons, List.mem_nil_iff, or_false] at hp
    subst hp
    exact yes_ok rfl fun w _ => alive_yes w
  have F : ∀ f ∈ factsG3, FactOK Tryz.prog (withFacts (ctx consYes []) factsG3 (sgG name elem c)) f := by
    unfold factsG3
    exact ac (fact_geq rfl rfl (by refine (decide_eq_true ?_).symm; simp only [Int.ofNat_eq_natCast]; omega)) <| ac (fact_leq rfl rfl (by refine (decide_eq_true ?_).symm; simp only [Int.ofNat_eq_natCast]; omega)) <| ac (fact_geq rfl rfl (by refine (decide_eq_true ?_).symm; simp only [Int.ofNat_eq_natCast]; omega)) <| ac (fact_leq rfl rfl (by refine (decide_eq_false ?_).symm; simp only [Int.ofNat_eq_natCast]; omega)) <| an
  have hσ : ∀ i, 20 ≤ i → sgG name elem c i = none := fun i hi => by
    obtain ⟨j, rfl⟩ : ∃ j, i = j + 20 := ⟨i - 20, by omega⟩
    rfl
  refine calls_yes (withFacts_ok (ctx_ok [] K) rfl rfl (fun _ _ _ h => h.σ) F) mixed (by rw [← runF_eq]; exact runG3 _) hσ (xs := [.string name, .string elem, .agg #[c 0, c 1, c 2, c 3, c 4, c 5, c 6, c 7, c 8, c 9, c 10, c 11, c 12, c 13, c 14, c 15, c 16, c 17]]) ?_
  have e := argG (name := name) (elem := elem) hc
  show (match some (Value.string name), (match some (Value.string elem), (match (match concL (env0 (sgG name elem c)) [.symC 2, .symC 3, .symC 4, .symC 5, .symC 6, .symC 7, .symC 8, .symC 9, .symC 10, .symC 11, .symC 12, .symC 13, .symC 14, .symC 15, .symC 16, .symC 17, .symC 18, .symC 19] with | some x => some (Value.agg x.toArray) | none => none), some ([] : List Value) with | some x, some xs => some (x :: xs) | _, _ => none) with | some x, some xs => some (x :: xs) | _, _ => none) with | some x, some xs => some (x :: xs) | _, _ => none) = _
  rw [e]
theorem law_all (name elem : ByteArray) {ls : Nat → Nat} {c : Nat → Value} (hc : Cells ls c) (w : World) (hw : Weighed w c) {m : Int} (hm : w.cell? ⟨0, 0, none⟩ = some (.int .i64 m)) : Calls Tryz.prog 3 #[.string name, .string elem, .agg #[c 0, c 1, c 2, c 3, c 4, c 5, c 6, c 7, c 8, c 9, c 10, c 11, c 12, c 13, c 14, c 15, c 16, c 17]] w fun e w' => e = .returned (.bool true) ∧ Stands w w' := by
  by_cases h0 : name.size < 1
  · exact guard0 hc.one h0 w
  by_cases h1 : 40 < name.size
  · exact guard1 hc.one h0 h1 w
  by_cases h2 : elem.size < 1
  · exact guard2 hc.one h0 h1 h2 w
  by_cases h3 : 60 < elem.size
  · exact guard3 hc.one h0 h1 h2 h3 w
  have hs : Sc name.data.toList elem.data.toList := by
    have e1 : name.data.toList.length = name.size := rfl
    have e2 : elem.data.toList.length = elem.size := rfl
    exact ⟨by omega, by omega, by omega, by omega⟩
  have := lawM (ls := ls) (c := c) hs hc hw hm
  simp only [txt_data] at this
  exact this
end Go.Proofs.YtbanldnjpnfgkaaGreatDoor.Wk
