/-
  Part of the proof of a statement of this seat: walks of its functions and the closed run; no condition but those written in each theorem.
-/
import Derived.Test.YtoihgkjbollgjaaGreatDoorWS
import Derived.Test.YtoihgkjbollgjaaGreatDoorV7
namespace Go.Proofs.YtoihgkjbollgjaaGreatDoor.Wk
set_option maxRecDepth 100000
open Go.RowKit Go.VmK
/-- the words of steps, but for one, and what stands behind each -/
def tbl : List (List UInt8 × List UInt8) := [([105, 110, 115, 101, 114, 116], [110, 116, 116]), ([112, 117, 116], [110, 116, 116, 116]), ([111, 118, 101, 114], [110, 116, 116, 116]), ([109, 101, 109, 98, 101, 114], [110, 116, 116]), ([103, 101, 116], [110, 116, 116]), ([114, 101, 109, 111, 118, 101], [110, 116, 116]), ([100, 101, 108, 101, 116, 101], [110, 116, 116]), ([112, 97, 103, 101], [110, 116, 116, 116, 110]), ([109, 111, 114, 101], [110]), ([100, 101, 108, 105, 118, 101, 114], [110]), ([100, 114, 111, 112], [110]), ([100, 111, 117, 98, 108, 101], [110]), ([109, 111, 118, 101], [110, 110]), ([115, 112, 111, 105, 108], [110, 110, 110]), ([99, 117, 116], [110, 110, 98]), ([99, 97, 108, 109], [110]), ([116, 105, 99, 107], [110]), ([98, 101, 103, 105, 110], [110, 110]), ([102, 108, 117, 115, 104], [110]), ([99, 111, 109, 112, 97, 99, 116], [110]), ([116, 114, 105, 109], [110]), ([102, 117, 115, 101], [110, 110]), ([98, 97, 100], [110, 110]), ([115, 116, 97, 114, 116], [110]), ([115, 97, 109, 101], [116]), ([108, 105, 115, 116], [110, 116])]
def crash : List UInt8 := [99, 114, 97, 115, 104]
noncomputable def consE : List (FuncId × Con) := []
theorem consE_ok {O : Env → Heap → World → Prop} : ∀ p ∈ consE, ConOK Tryz.prog O p.1 p.2 := fun _ h => by cases h
theorem lettersYes : tbl.all (fun p => saysVal (.tuple [.str p.2, .bool true]) (runF (ctx consE []) 100000 76 [.str p.1, .int .i64 (Int.ofNat p.2.length)] (heap0 0))) = true := by kernel_rfl
noncomputable def factsNo (p : List UInt8 × List UInt8) : List (BinOp × AV × AV × AV) := [(.eql, .symInt .i64 0, .int .i64 (Int.ofNat p.2.length), .bool false)]
theorem lettersNo (σ0 : Nat → Option Value) : tbl.all (fun p => saysVal (.tuple [.str p.2, .bool false]) (runF (withFacts (ctx consE []) (factsNo p) σ0) 100000 76 [.str p.1, .symInt .i64 0] (heap0 1))) = true := by kernel_rfl
noncomputable def factsLow : List (BinOp × AV × AV × AV) := [(.lss, .symInt .i64 0, .int .i64 2, .bool true)]
noncomputable def factsHigh : List (BinOp × AV × AV × AV) := [(.lss, .symInt .i64 0, .int .i64 2, .bool false), (.gtr, .symInt .i64 0, .int .i64 62, .bool true)]
theorem crashLow (σ0 : Nat → Option Value) : saysVal (.tuple [.str [], .bool false]) (runF (withFacts (ctx consE []) factsLow σ0) 100000 76 [.str crash, .symInt .i64 0] (heap0 1)) = true := by kernel_rfl
theorem crashHigh (σ0 : Nat → Option Value) : saysVal (.tuple [.str [], .bool false]) (runF (withFacts (ctx consE []) factsHigh σ0) 100000 76 [.str crash, .symInt .i64 0] (heap0 1)) = true := by kernel_rfl
noncomputable def factsOther : List (BinOp × AV × AV × AV) := (crash :: tbl.map (·.1)).map fun x => (.eql, .symStr 0, .str x, .bool false)
theorem lettersOther (σ0 : Nat → Option Value) : saysVal (.tuple [.str [], .bool false]) (runF (withFacts (ctx consE []) factsOther σ0) 100000 76 [.symStr 0, .symInt .i64 1] (heap0 2)) = true := by kernel_rfl
theorem countTbl : tbl.all (fun p => saysVal (.int .i64 (Int.ofNat (cntByte 116 p.2))) (runF (ctx consE []) 100000 77 [.str p.2, .str [116]] (heap0 0))) = true := by kernel_rfl
end Go.Proofs.YtoihgkjbollgjaaGreatDoor.Wk
