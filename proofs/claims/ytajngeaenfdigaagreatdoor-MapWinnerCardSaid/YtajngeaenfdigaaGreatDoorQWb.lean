/-
  Part of the proof of a statement of this seat: walks of its functions and the closed run; no condition but those written in each theorem.
-/
import Derived.Test.YtajngeaenfdigaaGreatDoorK0
import Derived.Test.YtajngeaenfdigaaGreatDoorQWa
import Derived.Test.YtajngeaenfdigaaGreatDoorPA
import Derived.Test.YtajngeaenfdigaaGreatDoorPV
import Derived.Test.YtajngeaenfdigaaGreatDoorV7
import Derived.Lib.Hide
import Derived.Lib.Bytealg
import Derived.Lib.BytesEntry
/- Which of two items stands above the other: the program's closure and the reference's comparison, run with symbols. -/
namespace Go.Proofs.YtajngeaenfdigaaGreatDoor.Wk
set_option maxRecDepth 100000
open Go.RowKit Go.VmK Go.NumPure Go.MapWin Go.Shelf
/-- bytes.Compare -/
theorem cmp_rows (w : World) (b1 o1 c1 b2 o2 c2 : Nat) (x y : List Nat) (h1 : ∀ (j n : Nat), x[j]? = some n → w.cell? ⟨b1, o1 + j, none⟩ = some (.int .u8 (Int.ofNat n))) (h2 : ∀ (j n : Nat), y[j]? = some n → w.cell? ⟨b2, o2 + j, none⟩ = some (.int .u8 (Int.ofNat n))) :
    Calls Tryz.prog 17 #[.slice (some ⟨b1, o1, none⟩) x.length c1, .slice (some ⟨b2, o2, none⟩) y.length c2] w fun e w' => e = .returned (.int .i64 (Lib.compareBytes (x.map UInt8.ofNat) (y.map UInt8.ofNat))) ∧ Stands w w' := by
  have hr : (Extern.BytealgCompare.compare #[.slice (some ⟨b1, o1, none⟩) x.length c1, .slice (some ⟨b2, o2, none⟩) y.length c2]).run Tryz.prog w = .ok (.int .i64 (Lib.compareBytes (x.map UInt8.ofNat) (y.map UInt8.ofNat))) w := by
    change Sem.run Tryz.prog (do pure (goInt (Extern.BytealgCompare.cmp (← Extern.Bytes.bytesOf (.slice (some ⟨b1, o1, none⟩) x.length c1)) (← Extern.Bytes.bytesOf (.slice (some ⟨b2, o2, none⟩) y.length c2))))) w = _
    simp only [Sem.run_bind, bytesOf_row b1 o1 c1 x w h1, bytesOf_row b2 o2 c2 y w h2, Sem.run_pure, Result.andThen]
    rw [Lib.cmp_eq]
    rfl
  have hc : (callFunc 30 #[.slice (some ⟨b1, o1, none⟩) x.length c1, .slice (some ⟨b2, o2, none⟩) y.length c2]).run Tryz.prog w = .ok (.value (.int .i64 (Lib.compareBytes (x.map UInt8.ofNat) (y.map UInt8.ofNat)))) w := by
    rw [run_callFunc_extern Tryz.func30 (by kernel_rfl) (by kernel_rfl) (by kernel_rfl) (show Extern.find _ = some Extern.BytealgCompare.compare by kernel_rfl), hr]
    simp [Result.andThen]
  go_enter Tryz.func17, Tryz.ntmps17
  go_wp2
  go_ret
  exact ⟨rfl, st_refl _⟩
/-- how the actors stand -/
def actC (x y : It) : Int := Lib.compareBytes x.act y.act
theorem actC_pos (x y : It) : 0 < actC x y ↔ y.act < x.act := by
  unfold actC
  rw [← compare_eq, ltL_eq, ltL_eq, bytesLess_iff, bytesLess_iff]
  by_cases h : x.act < y.act
  · have : ¬ y.act < x.act := List.lt_asymm h
    simp [h, this]
  · by_cases g : y.act < x.act <;> simp [h, g]
noncomputable def sgW (x y : It) : Nat → Option Value := fun i => (x.cells ++ y.cells ++ [.int .i64 (actC x y)] : List Value)[i]?
theorem sgW_none (x y : It) (i : Nat) (h : 20 ≤ i) : sgW x y i = none := List.getElem?_eq_none (by simp [It.cells]; omega)
noncomputable def axW : AV := .agg [.symStr 0, .symInt .u8 1, .symInt .u8 2, .symInt .u8 3, .symInt .u8 4, .symInt .u64 5, .symStr 6]
noncomputable def ayW : AV := .agg [.symStr 7, .symInt .u8 8, .symInt .u8 9, .symInt .u8 10, .symInt .u8 11, .symInt .u64 12, .symStr 13]
noncomputable def consW : List (FuncId × Con) := [(17, .fn (rowsAre [.symInt .u8 1, .symInt .u8 2, .symInt .u8 3, .symInt .u8 4] [.symInt .u8 8, .symInt .u8 9, .symInt .u8 10, .symInt .u8 11] (.symInt .i64 14)))]
def It.bts (x : It) : List Nat := [x.p.toNat, x.q.toNat, x.r.toNat, x.s.toNat]
theorem bts_act (x : It) : (It.bts x).map UInt8.ofNat = x.act := by simp [It.bts, It.act]
theorem bts_val (x : It) (j n : Nat) (h : (It.bts x)[j]? = some n) : ([.int .u8 (x.p.toNat : Int), .int .u8 (x.q.toNat : Int), .int .u8 (x.r.toNat : Int), .int .u8 (x.s.toNat : Int)] : List Value)[j]? = some (.int .u8 (Int.ofNat n)) := by
  have e : ([.int .u8 (x.p.toNat : Int), .int .u8 (x.q.toNat : Int), .int .u8 (x.r.toNat : Int), .int .u8 (x.s.toNat : Int)] : List Value) = (It.bts x).map fun n => Value.int .u8 (Int.ofNat n) := rfl
  rw [e, List.getElem?_map, h]; rfl
theorem consW_ok (x y : It) (w0 : World) : ∀ p ∈ consW, ConOK Tryz.prog (Outer w0 (sgW x y) fun b => b < w0.heap.size) p.1 p.2 := by
  intro p hp
  simp only [consW, List.mem_cons, List.mem_nil_iff, or_false] at hp
  subst hp
  refine rowsAre_ok (xs := [.int .u8 (x.p.toNat : Int), .int .u8 (x.q.toNat : Int), .int .u8 (x.r.toNat : Int), .int .u8 (x.s.toNat : Int)]) (ys := [.int .u8 (y.p.toNat : Int), .int .u8 (y.q.toNat : Int), .int .u8 (y.r.toNat : Int), .int .u8 (y.s.toNat : Int)]) (z := .int .i64 (actC x y)) rfl rfl rfl fun w b1 o1 c1 b2 o2 c2 h1 h2 => ?_
  have := cmp_rows w b1 o1 c1 b2 o2 c2 (It.bts x) (It.bts y) (fun j n h => h1 j _ (bts_val x j n h)) (fun j n h => h2 j _ (bts_val y j n h))
  rw [bts_act, bts_act] at this
  exact this
theorem an {α : Type} {p : α → Prop} : ∀ f ∈ ([] : List α), p f := fun _ h => by cases h
theorem ac {α : Type} {p : α → Prop} {a : α} {l : List α} (h : p a) (g : ∀ f ∈ l, p f) : ∀ f ∈ a :: l, p f := List.forall_mem_cons.2 ⟨h, g⟩
noncomputable def factsLt : List (BinOp × AV × AV × AV) := [(.neq, .symInt .u64 5, .symInt .u64 5, .bool false), (.neq, .symInt .u64 12, .symInt .u64 12, .bool false), (.lss, .symInt .u64 5, .symInt .u64 12, .bool true)]
theorem runLt (σ0 : Nat → Option Value) : saysVal (.int .i64 (-1)) (runF (withFacts (ctx consW []) factsLt σ0) 1000 14 [axW, ayW] (heap0 20)) = true := by kernel_rfl
theorem clLt (x y : It) (h : x.n < y.n) (w : World) : Calls Tryz.prog 14 #[.agg x.cells.toArray, .agg y.cells.toArray] w fun e w' => e = .returned (.int .i64 (-1)) ∧ Stands w w' := by
  have F : ∀ f ∈ factsLt, FactOK Tryz.prog (withFacts (ctx consW []) factsLt (sgW x y)) f := by
    unfold factsLt
    exact ac (fact_neq rfl rfl (by simp)) <| ac (fact_neq rfl rfl (by simp)) <| ac (fact_lss rfl rfl (by refine (decide_eq_true ?_).symm; omega)) <| an
  exact calls_val (withFacts_ok (ctx_ok [] (consW_ok x y w)) rfl rfl (fun _ _ _ h => h.σ) F) mixed (by rw [← runF_eq]; exact runLt _) (sgW_none x y) (xs := [.agg x.cells.toArray, .agg y.cells.toArray]) rfl rfl
noncomputable def factsGt : List (BinOp × AV × AV × AV) := [(.neq, .symInt .u64 5, .symInt .u64 5, .bool false), (.neq, .symInt .u64 12, .symInt .u64 12, .bool false), (.lss, .symInt .u64 5, .symInt .u64 12, .bool false), (.gtr, .symInt .u64 5, .symInt .u64 12, .bool true)]
theorem runGt (σ0 : Nat → Option Value) : saysVal (.int .i64 1) (runF (withFacts (ctx consW []) factsGt σ0) 1000 14 [axW, ayW] (heap0 20)) = true := by kernel_rfl
theorem clGt (x y : It) (h : y.n < x.n) (w : World) : Calls Tryz.prog 14 #[.agg x.cells.toArray, .agg y.cells.toArray] w fun e w' => e = .returned (.int .i64 1) ∧ Stands w w' := by
  have F : ∀ f ∈ factsGt, FactOK Tryz.prog (withFacts (ctx consW []) factsGt (sgW x y)) f := by
    unfold factsGt
    exact ac (fact_neq rfl rfl (by simp)) <| ac (fact_neq rfl rfl (by simp)) <| ac (fact_lss rfl rfl (by refine (decide_eq_false ?_).symm; omega)) <| ac (fact_gtr rfl rfl (by refine (decide_eq_true ?_).symm; omega)) <| an
  exact calls_val (withFacts_ok (ctx_ok [] (consW_ok x y w)) rfl rfl (fun _ _ _ h => h.σ) F) mixed (by rw [← runF_eq]; exact runGt _) (sgW_none x y) (xs := [.agg x.cells.toArray, .agg y.cells.toArray]) rfl rfl
noncomputable def factsNe : List (BinOp × AV × AV × AV) := [(.neq, .symInt .u64 5, .symInt .u64 5, .bool false), (.neq, .symInt .u64 12, .symInt .u64 12, .bool false), (.lss, .symInt .u64 5, .symInt .u64 12, .bool false), (.gtr, .symInt .u64 5, .symInt .u64 12, .bool false), (.neq, .symInt .i64 14, .int .i64 0, .bool true)]
theorem runNe (σ0 : Nat → Option Value) : saysVal (.symInt .i64 14) (runF (withFacts (ctx consW []) factsNe σ0) 1000 14 [axW, ayW] (heap0 20)) = true := by kernel_rfl
theorem clNe (x y : It) (h : x.n = y.n) (hc : ¬ actC x y = 0) (w : World) : Calls Tryz.prog 14 #[.agg x.cells.toArray, .agg y.cells.toArray] w fun e w' => e = .returned (.int .i64 (actC x y)) ∧ Stands w w' := by
  have F : ∀ f ∈ factsNe, FactOK Tryz.prog (withFacts (ctx consW []) factsNe (sgW x y)) f := by
    unfold factsNe
    exact ac (fact_neq rfl rfl (by simp)) <| ac (fact_neq rfl rfl (by simp)) <| ac (fact_lss rfl rfl (by refine (decide_eq_false ?_).symm; omega)) <| ac (fact_gtr rfl rfl (by refine (decide_eq_false ?_).symm; omega)) <| ac (fact_neq rfl rfl (decide_eq_true hc).symm) <| an
  exact calls_val (withFacts_ok (ctx_ok [] (consW_ok x y w)) rfl rfl (fun _ _ _ h => h.σ) F) mixed (by rw [← runF_eq]; exact runNe _) (sgW_none x y) (xs := [.agg x.cells.toArray, .agg y.cells.toArray]) rfl rfl
noncomputable def factsEq : List (BinOp × AV × AV × AV) := [(.neq, .symInt .u64 5, .symInt .u64 5, .bool false), (.neq, .symInt .u64 12, .symInt .u64 12, .bool false), (.lss, .symInt .u64 5, .symInt .u64 12, .bool false), (.gtr, .symInt .u64 5, .symInt .u64 12, .bool false), (.neq, .symInt .i64 14, .int .i64 0, .bool false)]
theorem runEq (σ0 : Nat → Option Value) : saysVal (.int .i64 0) (runF (withFacts (ctx consW []) factsEq σ0) 1000 14 [axW, ayW] (heap0 20)) = true := by kernel_rfl
theorem clEq (x y : It) (h : x.n = y.n) (hc : actC x y = 0) (w : World) : Calls Tryz.prog 14 #[.agg x.cells.toArray, .agg y.cells.toArray] w fun e w' => e = .returned (.int .i64 0) ∧ Stands w w' := by
  have F : ∀ f ∈ factsEq, FactOK Tryz.prog (withFacts (ctx consW []) factsEq (sgW x y)) f := by
    unfold factsEq
    exact ac (fact_neq rfl rfl (by simp)) <| ac (fact_neq rfl rfl (by simp)) <| ac (fact_lss rfl rfl (by refine (decide_eq_false ?_).symm; omega)) <| ac (fact_gtr rfl rfl (by refine (decide_eq_false ?_).symm; omega)) <| ac (fact_neq rfl rfl (decide_eq_false (by simpa using hc)).symm) <| an
  exact calls_val (withFacts_ok (ctx_ok [] (consW_ok x y w)) rfl rfl (fun _ _ _ h => h.σ) F) mixed (by rw [← runF_eq]; exact runEq _) (sgW_none x y) (xs := [.agg x.cells.toArray, .agg y.cells.toArray]) rfl rfl
/-- the closure tells more than nothing where the first stands above the second -/
theorem cl_any (x y : It) : ∃ c : Int, (0 < c ↔ x.gt y) ∧ ∀ w : World, Calls Tryz.prog 14 #[.agg x.cells.toArray, .agg y.cells.toArray] w fun e w' => e = .returned (.int .i64 c) ∧ Stands w w' := by
  have hp := actC_pos x y
  by_cases h1 : x.n < y.n
  · exact ⟨-1, ⟨fun h => absurd h (by decide), fun h => by rcases h with h | ⟨h, _⟩ <;> omega⟩, clLt x y h1⟩
  · by_cases h2 : y.n < x.n
    · exact ⟨1, ⟨fun _ => .inl h2, fun _ => by decide⟩, clGt x y h2⟩
    · have e : x.n = y.n := by omega
      have g : x.gt y ↔ y.act < x.act := ⟨fun h => h.elim (fun h => absurd h h2) fun h => h.2, fun h => .inr ⟨e, h⟩⟩
      by_cases hc : actC x y = 0
      · exact ⟨0, by rw [g, ← hp, hc], clEq x y e hc⟩
      · exact ⟨actC x y, by rw [g, hp], clNe x y e hc⟩
/-! the reference's comparison of dots -/
def It.dot (x : It) : List Value := [.int .u8 (x.p.toNat : Int), .int .u8 (x.q.toNat : Int), .int .u8 (x.r.toNat : Int), .int .u8 (x.s.toNat : Int), .int .u64 (x.n : Int)]
noncomputable def sgD (x y : It) : Nat → Option Value := fun i => (It.dot x ++ It.dot y : List Value)[i]?
theorem sgD_none (x y : It) (i : Nat) (h : 20 ≤ i) : sgD x y i = none := List.getElem?_eq_none (by simp [It.dot]; omega)
noncomputable def dxW : AV := .agg [.symInt .u8 0, .symInt .u8 1, .symInt .u8 2, .symInt .u8 3, .symInt .u64 4]
noncomputable def dyW : AV := .agg [.symInt .u8 5, .symInt .u8 6, .symInt .u8 7, .symInt .u8 8, .symInt .u64 9]
noncomputable def consD : List (FuncId × Con) := []
theorem consD_ok (O : Env → Heap → World → Prop) : ∀ p ∈ consD, ConOK Tryz.prog O p.1 p.2 := fun p h => by cases h
noncomputable def factsD0Lt : List (BinOp × AV × AV × AV) := [(.lss, .symInt .u8 0, .symInt .u8 5, .bool true)]
theorem runD0Lt (σ0 : Nat → Option Value) : saysVal (.int .i64 (-1)) (runF (withFacts (ctx consD []) factsD0Lt σ0) 1000 18 [dxW, dyW] (heap0 20)) = true := by kernel_rfl
theorem rcD0Lt (x y : It) (h0 : x.p.toNat < y.p.toNat) (w : World) : Calls Tryz.prog 18 #[.agg (It.dot x).toArray, .agg (It.dot y).toArray] w fun e w' => e = .returned (.int .i64 (-1)) ∧ Stands w w' := by
  have F : ∀ f ∈ factsD0Lt, FactOK Tryz.prog (withFacts (ctx consD []) factsD0Lt (sgD x y)) f := by
    unfold factsD0Lt
    exact ac (fact_lss rfl rfl (by refine (decide_eq_true ?_).symm; omega)) <| an
  exact calls_val (withFacts_ok (ctx_ok [] (consD_ok _)) rfl rfl (fun _ _ _ h => h.σ) F) mixed (by rw [← runF_eq]; exact runD0Lt _) (sgD_none x y) (xs := [.agg (It.dot x).toArray, .agg (It.dot y).toArray]) rfl rfl
noncomputable def factsD0Gt : List (BinOp × AV × AV × AV) := [(.lss, .symInt .u8 0, .symInt .u8 5, .bool false), (.gtr, .symInt .u8 0, .symInt .u8 5, .bool true)]
theorem runD0Gt (σ0 : Nat → Option Value) : saysVal (.int .i64 (1)) (runF (withFacts (ctx consD []) factsD0Gt σ0) 1000 18 [dxW, dyW] (heap0 20)) = true := by kernel_rfl
theorem rcD0Gt (x y : It) (h0 : y.p.toNat < x.p.toNat) (w : World) : Calls Tryz.prog 18 #[.agg (It.dot x).toArray, .agg (It.dot y).toArray] w fun e w' => e = .returned (.int .i64 (1)) ∧ Stands w w' := by
  have F : ∀ f ∈ factsD0Gt, FactOK Tryz.prog (withFacts (ctx consD []) factsD0Gt (sgD x y)) f := by
    unfold factsD0Gt
    exact ac (fact_lss rfl rfl (by refine (decide_eq_false ?_).symm; omega)) <| ac (fact_gtr rfl rfl (by refine (decide_eq_true ?_).symm; omega)) <| an
  exact calls_val (withFacts_ok (ctx_ok [] (consD_ok _)) rfl rfl (fun _ _ _ h => h.σ) F) mixed (by rw [← runF_eq]; exact runD0Gt _) (sgD_none x y) (xs := [.agg (It.dot x).toArray, .agg (It.dot y).toArray]) rfl rfl
noncomputable def factsD1Lt : List (BinOp × AV × AV × AV) := [(.lss, .symInt .u8 0, .symInt .u8 5, .bool false), (.gtr, .symInt .u8 0, .symInt .u8 5, .bool false), (.lss, .symInt .u8 1, .symInt .u8 6, .bool true)]
theorem runD1Lt (σ0 : Nat → Option Value) : saysVal (.int .i64 (-1)) (runF (withFacts (ctx consD []) factsD1Lt σ0) 1000 18 [dxW, dyW] (heap0 20)) = true := by kernel_rfl
theorem rcD1Lt (x y : It) (h0 : x.p.toNat = y.p.toNat) (h1 : x.q.toNat < y.q.toNat) (w : World) : Calls Tryz.prog 18 #[.agg (It.dot x).toArray, .agg (It.dot y).toArray] w fun e w' => e = .returned (.int .i64 (-1)) ∧ Stands w w' := by
  have F : ∀ f ∈ factsD1Lt, FactOK Tryz.prog (withFacts (ctx consD []) factsD1Lt (sgD x y)) f := by
    unfold factsD1Lt
    exact ac (fact_lss rfl rfl (by refine (decide_eq_false ?_).symm; omega)) <| ac (fact_gtr rfl rfl (by refine (decide_eq_false ?_).symm; omega)) <| ac (fact_lss rfl rfl (by refine (decide_eq_true ?_).symm; omega)) <| an
  exact calls_val (withFacts_ok (ctx_ok [] (consD_ok _)) rfl rfl (fun _ _ _ h => h.σ) F) mixed (by rw [← runF_eq]; exact runD1Lt _) (sgD_none x y) (xs := [.agg (It.dot x).toArray, .agg (It.dot y).toArray]) rfl rfl
noncomputable def factsD1Gt : List (BinOp × AV × AV × AV) := [(.lss, .symInt .u8 0, .symInt .u8 5, .bool false), (.gtr, .symInt .u8 0, .symInt .u8 5, .bool false), (.lss, .symInt .u8 1, .symInt .u8 6, .bool false), (.gtr, .symInt .u8 1, .symInt .u8 6, .bool true)]
theorem runD1Gt (σ0 : Nat → Option Value) : saysVal (.int .i64 (1)) (runF (withFacts (ctx consD []) factsD1Gt σ0) 1000 18 [dxW, dyW] (heap0 20)) = true := by kernel_rfl
theorem rcD1Gt (x y : It) (h0 : x.p.toNat = y.p.toNat) (h1 : y.q.toNat < x.q.toNat) (w : World) : Calls Tryz.prog 18 #[.agg (It.dot x).toArray, .agg (It.dot y).toArray] w fun e w' => e = .returned (.int .i64 (1)) ∧ Stands w w' := by
  have F : ∀ f ∈ factsD1Gt, FactOK Tryz.prog (withFacts (ctx consD []) factsD1Gt (sgD x y)) f := by
    unfold factsD1Gt
    exact ac (fact_lss rfl rfl (by refine (decide_eq_false ?_).symm; omega)) <| ac (fact_gtr rfl rfl (by refine (decide_eq_false ?_).symm; omega)) <| ac (fact_lss rfl rfl (by refine (decide_eq_false ?_).symm; omega)) <| ac (fact_gtr rfl rfl (by refine (decide_eq_true ?_).symm; omega)) <| an
  exact calls_val (withFacts_ok (ctx_ok [] (consD_ok _)) rfl rfl (fun _ _ _ h => h.σ) F) mixed (by rw [← runF_eq]; exact runD1Gt _) (sgD_none x y) (xs := [.agg (It.dot x).toArray, .agg (It.dot y).toArray]) rfl rfl
noncomputable def factsD2Lt : List (BinOp × AV × AV × AV) := [(.lss, .symInt .u8 0, .symInt .u8 5, .bool false), (.gtr, .symInt .u8 0, .symInt .u8 5, .bool false), (.lss, .symInt .u8 1, .symInt .u8 6, .bool false), (.gtr, .symInt .u8 1, .symInt .u8 6, .bool false), (.lss, .symInt .u8 2, .symInt .u8 7, .bool true)]
theorem runD2Lt (σ0 : Nat → Option Value) : saysVal (.int .i64 (-1)) (runF (withFacts (ctx consD []) factsD2Lt σ0) 1000 18 [dxW, dyW] (heap0 20)) = true := by kernel_rfl
theorem rcD2Lt (x y : It) (h0 : x.p.toNat = y.p.toNat) (h1 : x.q.toNat = y.q.toNat) (h2 : x.r.toNat < y.r.toNat) (w : World) : Calls Tryz.prog 18 #[.agg (It.dot x).toArray, .agg (It.dot y).toArray] w fun e w' => e = .returned (.int .i64 (-1)) ∧ Stands w w' := by
  have F : ∀ f ∈ factsD2Lt, FactOK Tryz.prog (withFacts (ctx consD []) factsD2Lt (sgD x y)) f := by
    unfold factsD2Lt
    exact ac (fact_lss rfl rfl (by refine (decide_eq_false ?_).symm; omega)) <| ac (fact_gtr rfl rfl (by refine (decide_eq_false ?_).symm; omega)) <| ac (fact_lss rfl rfl (by refine (decide_eq_false ?_).symm; omega)) <| ac (fact_gtr rfl rfl (by refine (decide_eq_false ?_).symm; omega)) <| ac (fact_lss rfl rfl (by refine (decide_eq_true ?_).symm; omega)) <| an
  exact calls_val (withFacts_ok (ctx_ok [] (consD_ok _)) rfl rfl (fun _ _ _ h => h.σ) F) mixed (by rw [← runF_eq]; exact runD2Lt _) (sgD_none x y) (xs := [.agg (It.dot x).toArray, .agg (It.dot y).toArray]) rfl rfl
noncomputable def factsD2Gt : List (BinOp × AV × AV × AV) := [(.lss, .symInt .u8 0, .symInt .u8 5, .bool false), (.gtr, .symInt .u8 0, .symInt .u8 5, .bool false), (.lss, .symInt .u8 1, .symInt .u8 6, .bool false), (.gtr, .symInt .u8 1, .symInt .u8 6, .bool false), (.lss, .symInt .u8 2, .symInt .u8 7, .bool false), (.gtr, .symInt .u8 2, .symInt .u8 7, .bool true)]
theorem runD2Gt (σ0 : Nat → Option Value) : saysVal (.int .i64 (1)) (runF (withFacts (ctx consD []) factsD2Gt σ0) 1000 18 [dxW, dyW] (heap0 20)) = true := by kernel_rfl
theorem rcD2Gt (x y : It) (h0 : x.p.toNat = y.p.toNat) (h1 : x.q.toNat = y.q.toNat) (h2 : y.r.toNat < x.r.toNat) (w : World) : Calls Tryz.prog 18 #[.agg (It.dot x).toArray, .agg (It.dot y).toArray] w fun e w' => e = .returned (.int .i64 (1)) ∧ Stands w w' := by
  have F : ∀ f ∈ factsD2Gt, FactOK Tryz.prog (withFacts (ctx consD []) factsD2Gt (sgD x y)) f := by
    unfold factsD2Gt
    exact ac (fact_lss rfl rfl (by refine (decide_eq_false ?_).symm; omega)) <| ac (fact_gtr rfl rfl (by refine (decide_eq_false ?_).symm; omega)) <| ac (fact_lss rfl rfl (by refine (decide_eq_false ?_).symm; omega)) <| ac (fact_gtr rfl rfl (by refine (decide_eq_false ?_).symm; omega)) <| ac (fact_lss rfl rfl (by refine (decide_eq_false ?_).symm; omega)) <| ac (fact_gtr rfl rfl (by refine (decide_eq_true ?_).symm; omega)) <| an
  exact calls_val (withFacts_ok (ctx_ok [] (consD_ok _)) rfl rfl (fun _ _ _ h => h.σ) F) mixed (by rw [← runF_eq]; exact runD2Gt _) (sgD_none x y) (xs := [.agg (It.dot x).toArray, .agg (It.dot y).toArray]) rfl rfl
noncomputable def factsD3Lt : List (BinOp × AV × AV × AV) := [(.lss, .symInt .u8 0, .symInt .u8 5, .bool false), (.gtr, .symInt .u8 0, .symInt .u8 5, .bool false), (.lss, .symInt .u8 1, .symInt .u8 6, .bool false), (.gtr, .symInt .u8 1, .symInt .u8 6, .bool false), (.lss, .symInt .u8 2, .symInt .u8 7, .bool false), (.gtr, .symInt .u8 2, .symInt .u8 7, .bool false), (.lss, .symInt .u8 3, .symInt .u8 8, .bool true)]
theorem runD3Lt (σ0 : Nat → Option Value) : saysVal (.int .i64 (-1)) (runF (withFacts (ctx consD []) factsD3Lt σ0) 1000 18 [dxW, dyW] (heap0 20)) = true := by kernel_rfl
theorem rcD3Lt (x y : It) (h0 : x.p.toNat = y.p.toNat) (h1 : x.q.toNat = y.q.toNat) (h2 : x.r.toNat = y.r.toNat) (h3 : x.s.toNat < y.s.toNat) (w : World) : Calls Tryz.prog 18 #[.agg (It.dot x).toArray, .agg (It.dot y).toArray] w fun e w' => e = .returned (.int .i64 (-1)) ∧ Stands w w' := by
  have F : ∀ f ∈ factsD3Lt, FactOK Tryz.prog (withFacts (ctx consD []) factsD3Lt (sgD x y)) f := by
    unfold factsD3Lt
    exact ac (fact_lss rfl rfl (by refine (decide_eq_false ?_).symm; omega)) <| ac (fact_gtr rfl rfl (by refine (decide_eq_false ?_).symm; omega)) <| ac (fact_lss rfl rfl (by refine (decide_eq_false ?_).symm; omega)) <| ac (fact_gtr rfl rfl (by refine (decide_eq_false ?_).symm; omega)) <| ac (fact_lss rfl rfl (by refine (decide_eq_false ?_).symm; omega)) <| ac (fact_gtr rfl rfl (by refine (decide_eq_false ?_).symm; omega)) <| ac (fact_lss rfl rfl (by refine (decide_eq_true ?_).symm; omega)) <| an
  exact calls_val (withFacts_ok (ctx_ok [] (consD_ok _)) rfl rfl (fun _ _ _ h => h.σ) F) mixed (by rw [← runF_eq]; exact runD3Lt _) (sgD_none x y) (xs := [.agg (It.dot x).toArray, .agg (It.dot y).toArray]) rfl rfl
noncomputable def factsD3Gt : List (BinOp × AV × AV × AV) := [(.lss, .symInt .u8 0, .symInt .u8 5, .bool false), (.gtr, .symInt .u8 0, .symInt .u8 5, .bool false), (.lss, .symInt .u8 1, .symInt .u8 6, .bool false), (.gtr, .symInt .u8 1, .symInt .u8 6, .bool false), (.lss, .symInt .u8 2, .symInt .u8 7, .bool false), (.gtr, .symInt .u8 2, .symInt .u8 7, .bool false), (.lss, .symInt .u8 3, .symInt .u8 8, .bool false), (.gtr, .symInt .u8 3, .symInt .u8 8, .bool true)]
theorem runD3Gt (σ0 : Nat → Option Value) : saysVal (.int .i64 (1)) (runF (withFacts (ctx consD []) factsD3Gt σ0) 1000 18 [dxW, dyW] (heap0 20)) = true := by kernel_rfl
theorem rcD3Gt (x y : It) (h0 : x.p.toNat = y.p.toNat) (h1 : x.q.toNat = y.q.toNat) (h2 : x.r.toNat = y.r.toNat) (h3 : y.s.toNat < x.s.toNat) (w : World) : Calls Tryz.prog 18 #[.agg (It.dot x).toArray, .agg (It.dot y).toArray] w fun e w' => e = .returned (.int .i64 (1)) ∧ Stands w w' := by
  have F : ∀ f ∈ factsD3Gt, FactOK Tryz.prog (withFacts (ctx consD []) factsD3Gt (sgD x y)) f := by
    unfold factsD3Gt
    exact ac (fact_lss rfl rfl (by refine (decide_eq_false ?_).symm; omega)) <| ac (fact_gtr rfl rfl (by refine (decide_eq_false ?_).symm; omega)) <| ac (fact_lss rfl rfl (by refine (decide_eq_false ?_).symm; omega)) <| ac (fact_gtr rfl rfl (by refine (decide_eq_false ?_).symm; omega)) <| ac (fact_lss rfl rfl (by refine (decide_eq_false ?_).symm; omega)) <| ac (fact_gtr rfl rfl (by refine (decide_eq_false ?_).symm; omega)) <| ac (fact_lss rfl rfl (by refine (decide_eq_false ?_).symm; omega)) <| ac (fact_gtr rfl rfl (by refine (decide_eq_true ?_).symm; omega)) <| an
  exact calls_val (withFacts_ok (ctx_ok [] (consD_ok _)) rfl rfl (fun _ _ _ h => h.σ) F) mixed (by rw [← runF_eq]; exact runD3Gt _) (sgD_none x y) (xs := [.agg (It.dot x).toArray, .agg (It.dot y).toArray]) rfl rfl
noncomputable def factsD4Eq : List (BinOp × AV × AV × AV) := [(.lss, .symInt .u8 0, .symInt .u8 5, .bool false), (.gtr, .symInt .u8 0, .symInt .u8 5, .bool false), (.lss, .symInt .u8 1, .symInt .u8 6, .bool false), (.gtr, .symInt .u8 1, .symInt .u8 6, .bool false), (.lss, .symInt .u8 2, .symInt .u8 7, .bool false), (.gtr, .symInt .u8 2, .symInt .u8 7, .bool false), (.lss, .symInt .u8 3, .symInt .u8 8, .bool false), (.gtr, .symInt .u8 3, .symInt .u8 8, .bool false), (.lss, .symInt .u64 4, .symInt .u64 9, .bool false), (.gtr, .symInt .u64 4, .symInt .u64 9, .bool false)]
theorem runD4Eq (σ0 : Nat → Option Value) : saysVal (.int .i64 (0)) (runF (withFacts (ctx consD []) factsD4Eq σ0) 1000 18 [dxW, dyW] (heap0 20)) = true := by kernel_rfl
theorem rcD4Eq (x y : It) (h0 : x.p.toNat = y.p.toNat) (h1 : x.q.toNat = y.q.toNat) (h2 : x.r.toNat = y.r.toNat) (h3 : x.s.toNat = y.s.toNat) (h4 : x.n = y.n) (w : World) : Calls Tryz.prog 18 #[.agg (It.dot x).toArray, .agg (It.dot y).toArray] w fun e w' => e = .returned (.int .i64 (0)) ∧ Stands w w' := by
  have F : ∀ f ∈ factsD4Eq, FactOK Tryz.prog (withFacts (ctx consD []) factsD4Eq (sgD x y)) f := by
    unfold factsD4Eq
    exact ac (fact_lss rfl rfl (by refine (decide_eq_false ?_).symm; omega)) <| ac (fact_gtr rfl rfl (by refine (decide_eq_false ?_).symm; omega)) <| ac (fact_lss rfl rfl (by refine (decide_eq_false ?_).symm; omega)) <| ac (fact_gtr rfl rfl (by refine (decide_eq_false ?_).symm; omega)) <| ac (fact_lss rfl rfl (by refine (decide_eq_false ?_).symm; omega)) <| ac (fact_gtr rfl rfl (by refine (decide_eq_false ?_).symm; omega)) <| ac (fact_lss rfl rfl (by refine (decide_eq_false ?_).symm; omega)) <| ac (fact_gtr rfl rfl (by refine (decide_eq_false ?_).symm; omega)) <| ac (fact_lss rfl rfl (by refine (decide_eq_false ?_).symm; omega)) <| ac (fact_gtr rfl rfl (by refine (decide_eq_false ?_).symm; omega)) <| an
  exact calls_val (withFacts_ok (ctx_ok [] (consD_ok _)) rfl rfl (fun _ _ _ h => h.σ) F) mixed (by rw [← runF_eq]; exact runD4Eq _) (sgD_none x y) (xs := [.agg (It.dot x).toArray, .agg (It.dot y).toArray]) rfl rfl
theorem act_lt (x y : It) : y.act < x.act ↔ y.p.toNat < x.p.toNat ∨ (x.p.toNat = y.p.toNat ∧ (y.q.toNat < x.q.toNat ∨ (x.q.toNat = y.q.toNat ∧ (y.r.toNat < x.r.toNat ∨ (x.r.toNat = y.r.toNat ∧ y.s.toNat < x.s.toNat))))) := by
  have q : ∀ a b : UInt8, a = b ↔ b.toNat = a.toNat := fun a b => ⟨fun h => by rw [h], fun h => UInt8.toNat_inj.1 h.symm⟩
  simp only [It.act, List.cons_lt_cons_iff, UInt8.lt_iff_toNat_lt, q, List.not_lt_nil, and_false, or_false]
/-- the reference tells more than nothing where the first's actor stands above the second's -/
theorem rc_any (x y : It) (hn : x.n = y.n) : ∃ c : Int, (0 < c ↔ y.act < x.act) ∧ ∀ w : World, Calls Tryz.prog 18 #[.agg (It.dot x).toArray, .agg (It.dot y).toArray] w fun e w' => e = .returned (.int .i64 c) ∧ Stands w w' := by
  rw [act_lt]
  rcases Nat.lt_trichotomy x.p.toNat y.p.toNat with h0 | h0 | h0
  · exact ⟨-1, by omega, rcD0Lt x y h0⟩
  rotate_left
  · exact ⟨1, by omega, rcD0Gt x y h0⟩
  rcases Nat.lt_trichotomy x.q.toNat y.q.toNat with h1 | h1 | h1
  · exact ⟨-1, by omega, rcD1Lt x y h0 h1⟩
  rotate_left
  · exact ⟨1, by omega, rcD1Gt x y h0 h1⟩
  rcases Nat.lt_trichotomy x.r.toNat y.r.toNat with h2 | h2 | h2
  · exact ⟨-1, by omega, rcD2Lt x y h0 h1 h2⟩
  rotate_left
  · exact ⟨1, by omega, rcD2Gt x y h0 h1 h2⟩
  rcases Nat.lt_trichotomy x.s.toNat y.s.toNat with h3 | h3 | h3
  · exact ⟨-1, by omega, rcD3Lt x y h0 h1 h2 h3⟩
  rotate_left
  · exact ⟨1, by omega, rcD3Gt x y h0 h1 h2 h3⟩
  exact ⟨0, by omega, rcD4Eq x y h0 h1 h2 h3 hn⟩
end Go.Proofs.YtajngeaenfdigaaGreatDoor.Wk
