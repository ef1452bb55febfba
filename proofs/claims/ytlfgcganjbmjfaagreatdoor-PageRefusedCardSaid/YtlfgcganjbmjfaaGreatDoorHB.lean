/-
  Part of the proof of a statement of this seat: walks of its functions and the closed run; no condition but those written in each theorem.
-/
import Derived.Test.YtlfgcganjbmjfaaGreatDoorG0
namespace Go.Proofs.YtlfgcganjbmjfaaGreatDoor.Wk
set_option maxRecDepth 100000
open Go.RowKit Go.VmK
noncomputable def consN : List (FuncId × Con) := [(6, .yes [])]
noncomputable def consY : List (FuncId × Con) := [(6, .yes []), (15, .ans [([.symStr 0], .symStr 0), ([.symStr 1], .symStr 1), ([.symStr 2], .symStr 2)])]
noncomputable def factsY0 : List (BinOp × AV × AV × Bool) := [(.geq, .symLen 0, .int .i64 1, true), (.neq, .symStr 0, .str [], true), (.leq, .symLen 0, .int .i64 40, true), (.leq, .symLen 1, .int .i64 60, true), (.leq, .symLen 2, .int .i64 60, true), (.geq, .symInt .i64 4, .int .i64 1, true), (.leq, .symInt .i64 4, .int .i64 50, true), (.leq, .symLen 3, .int .i64 61, false), (.neq, .symStr 1, .symStr 1, false)]
theorem runY0t (σ0 : Nat → Option Value) : saysYes (runF (withFacts (ctx consY [5]) factsY0 σ0) 100000 4 [.agg [.symStr 0, .symStr 1, .symStr 2, .symStr 3, .symInt .i64 4, .bool true]] (heap0 5)) = true := by kernel_rfl
theorem runY0f (σ0 : Nat → Option Value) : saysYes (runF (withFacts (ctx consY [5]) factsY0 σ0) 100000 4 [.agg [.symStr 0, .symStr 1, .symStr 2, .symStr 3, .symInt .i64 4, .bool false]] (heap0 5)) = true := by kernel_rfl
noncomputable def factsY1 : List (BinOp × AV × AV × Bool) := [(.geq, .symLen 0, .int .i64 1, true), (.neq, .symStr 0, .str [], true), (.leq, .symLen 0, .int .i64 40, true), (.leq, .symLen 1, .int .i64 60, true), (.leq, .symLen 2, .int .i64 60, true), (.geq, .symInt .i64 4, .int .i64 1, true), (.leq, .symInt .i64 4, .int .i64 50, true), (.leq, .symLen 3, .int .i64 61, true), (.geq, .symStr 3, .symStr 1, true), (.neq, .symStr 1, .symStr 1, false)]
theorem runY1t (σ0 : Nat → Option Value) : saysYes (runF (withFacts (ctx consY [5]) factsY1 σ0) 100000 4 [.agg [.symStr 0, .symStr 1, .symStr 2, .symStr 3, .symInt .i64 4, .bool true]] (heap0 5)) = true := by kernel_rfl
theorem runY1f (σ0 : Nat → Option Value) : saysYes (runF (withFacts (ctx consY [5]) factsY1 σ0) 100000 4 [.agg [.symStr 0, .symStr 1, .symStr 2, .symStr 3, .symInt .i64 4, .bool false]] (heap0 5)) = true := by kernel_rfl
noncomputable def factsY2 : List (BinOp × AV × AV × Bool) := [(.geq, .symLen 0, .int .i64 1, true), (.neq, .symStr 0, .str [], true), (.leq, .symLen 0, .int .i64 40, true), (.leq, .symLen 1, .int .i64 60, true), (.leq, .symLen 2, .int .i64 60, true), (.geq, .symInt .i64 4, .int .i64 1, true), (.leq, .symInt .i64 4, .int .i64 50, true), (.leq, .symLen 3, .int .i64 61, true), (.geq, .symStr 3, .symStr 1, false), (.neq, .symStr 1, .symStr 1, false)]
theorem runY2t (σ0 : Nat → Option Value) : saysYes (runF (withFacts (ctx consY [5]) factsY2 σ0) 100000 4 [.agg [.symStr 0, .symStr 1, .symStr 2, .symStr 3, .symInt .i64 4, .bool true]] (heap0 5)) = true := by kernel_rfl
theorem runY2f (σ0 : Nat → Option Value) : saysYes (runF (withFacts (ctx consY [5]) factsY2 σ0) 100000 4 [.agg [.symStr 0, .symStr 1, .symStr 2, .symStr 3, .symInt .i64 4, .bool false]] (heap0 5)) = true := by kernel_rfl
noncomputable def factsN1 : List (BinOp × AV × AV × Bool) := [(.geq, .symLen 0, .int .i64 1, false), (.neq, .symStr 0, .str [], false)]
theorem runN1t (σ0 : Nat → Option Value) : saysYes (runF (withFacts (ctx consN [5]) factsN1 σ0) 100000 4 [.agg [.symStr 0, .symStr 1, .symStr 2, .symStr 3, .symInt .i64 4, .bool true]] (heap0 5)) = true := by kernel_rfl
theorem runN1f (σ0 : Nat → Option Value) : saysYes (runF (withFacts (ctx consN [5]) factsN1 σ0) 100000 4 [.agg [.symStr 0, .symStr 1, .symStr 2, .symStr 3, .symInt .i64 4, .bool false]] (heap0 5)) = true := by kernel_rfl
noncomputable def factsN2 : List (BinOp × AV × AV × Bool) := [(.geq, .symLen 0, .int .i64 1, true), (.neq, .symStr 0, .str [], true), (.leq, .symLen 0, .int .i64 40, false)]
theorem runN2t (σ0 : Nat → Option Value) : saysYes (runF (withFacts (ctx consN [5]) factsN2 σ0) 100000 4 [.agg [.symStr 0, .symStr 1, .symStr 2, .symStr 3, .symInt .i64 4, .bool true]] (heap0 5)) = true := by kernel_rfl
theorem runN2f (σ0 : Nat → Option Value) : saysYes (runF (withFacts (ctx consN [5]) factsN2 σ0) 100000 4 [.agg [.symStr 0, .symStr 1, .symStr 2, .symStr 3, .symInt .i64 4, .bool false]] (heap0 5)) = true := by kernel_rfl
noncomputable def factsN3 : List (BinOp × AV × AV × Bool) := [(.geq, .symLen 0, .int .i64 1, true), (.neq, .symStr 0, .str [], true), (.leq, .symLen 0, .int .i64 40, true), (.leq, .symLen 1, .int .i64 60, false)]
theorem runN3t (σ0 : Nat → Option Value) : saysYes (runF (withFacts (ctx consN [5]) factsN3 σ0) 100000 4 [.agg [.symStr 0, .symStr 1, .symStr 2, .symStr 3, .symInt .i64 4, .bool true]] (heap0 5)) = true := by kernel_rfl
theorem runN3f (σ0 : Nat → Option Value) : saysYes (runF (withFacts (ctx consN [5]) factsN3 σ0) 100000 4 [.agg [.symStr 0, .symStr 1, .symStr 2, .symStr 3, .symInt .i64 4, .bool false]] (heap0 5)) = true := by kernel_rfl
noncomputable def factsN4 : List (BinOp × AV × AV × Bool) := [(.geq, .symLen 0, .int .i64 1, true), (.neq, .symStr 0, .str [], true), (.leq, .symLen 0, .int .i64 40, true), (.leq, .symLen 1, .int .i64 60, true), (.leq, .symLen 2, .int .i64 60, false)]
theorem runN4t (σ0 : Nat → Option Value) : saysYes (runF (withFacts (ctx consN [5]) factsN4 σ0) 100000 4 [.agg [.symStr 0, .symStr 1, .symStr 2, .symStr 3, .symInt .i64 4, .bool true]] (heap0 5)) = true := by kernel_rfl
theorem runN4f (σ0 : Nat → Option Value) : saysYes (runF (withFacts (ctx consN [5]) factsN4 σ0) 100000 4 [.agg [.symStr 0, .symStr 1, .symStr 2, .symStr 3, .symInt .i64 4, .bool false]] (heap0 5)) = true := by kernel_rfl
noncomputable def factsN5 : List (BinOp × AV × AV × Bool) := [(.geq, .symLen 0, .int .i64 1, true), (.neq, .symStr 0, .str [], true), (.leq, .symLen 0, .int .i64 40, true), (.leq, .symLen 1, .int .i64 60, true), (.leq, .symLen 2, .int .i64 60, true), (.geq, .symInt .i64 4, .int .i64 1, false)]
theorem runN5t (σ0 : Nat → Option Value) : saysYes (runF (withFacts (ctx consN [5]) factsN5 σ0) 100000 4 [.agg [.symStr 0, .symStr 1, .symStr 2, .symStr 3, .symInt .i64 4, .bool true]] (heap0 5)) = true := by kernel_rfl
theorem runN5f (σ0 : Nat → Option Value) : saysYes (runF (withFacts (ctx consN [5]) factsN5 σ0) 100000 4 [.agg [.symStr 0, .symStr 1, .symStr 2, .symStr 3, .symInt .i64 4, .bool false]] (heap0 5)) = true := by kernel_rfl
noncomputable def factsN6 : List (BinOp × AV × AV × Bool) := [(.geq, .symLen 0, .int .i64 1, true), (.neq, .symStr 0, .str [], true), (.leq, .symLen 0, .int .i64 40, true), (.leq, .symLen 1, .int .i64 60, true), (.leq, .symLen 2, .int .i64 60, true), (.geq, .symInt .i64 4, .int .i64 1, true), (.leq, .symInt .i64 4, .int .i64 50, false)]
theorem runN6t (σ0 : Nat → Option Value) : saysYes (runF (withFacts (ctx consN [5]) factsN6 σ0) 100000 4 [.agg [.symStr 0, .symStr 1, .symStr 2, .symStr 3, .symInt .i64 4, .bool true]] (heap0 5)) = true := by kernel_rfl
theorem runN6f (σ0 : Nat → Option Value) : saysYes (runF (withFacts (ctx consN [5]) factsN6 σ0) 100000 4 [.agg [.symStr 0, .symStr 1, .symStr 2, .symStr 3, .symInt .i64 4, .bool false]] (heap0 5)) = true := by kernel_rfl
end Go.Proofs.YtlfgcganjbmjfaaGreatDoor.Wk
