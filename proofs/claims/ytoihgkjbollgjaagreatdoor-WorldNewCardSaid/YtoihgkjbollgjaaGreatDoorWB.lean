/-
  Part of the proof of a statement of this seat: walks of its functions and the closed run; no condition but those written in each theorem.
-/
import Derived.Test.YtoihgkjbollgjaaGreatDoorWS
namespace Go.Proofs.YtoihgkjbollgjaaGreatDoor.Wk
set_option maxRecDepth 100000
open Go.RowKit Go.VmK
/-- the law's own runs: alive by contract -/
noncomputable def consN : List (FuncId × Con) := [(6, .yes []), (173, .sort)]
noncomputable def factsMid : List (BinOp × AV × AV × AV) := [(.gtr, .symInt .i64 1, .int .i64 0, .bool true), (.lss, .symInt .i64 1, .int .i64 200, .bool true)]
noncomputable def factsLoL : List (BinOp × AV × AV × AV) := [(.gtr, .symInt .i64 1, .int .i64 0, .bool false), (.lss, .symInt .i64 0, .int .i64 1, .bool true)]
noncomputable def factsLoH : List (BinOp × AV × AV × AV) := [(.gtr, .symInt .i64 1, .int .i64 0, .bool false), (.lss, .symInt .i64 0, .int .i64 1, .bool false), (.gtr, .symInt .i64 0, .int .i64 8, .bool true)]
noncomputable def factsHiL : List (BinOp × AV × AV × AV) := [(.gtr, .symInt .i64 1, .int .i64 0, .bool true), (.lss, .symInt .i64 1, .int .i64 200, .bool false), (.sub, .symInt .i64 1, .int .i64 0, .symInt .i64 2), (.sub, .symInt .i64 1, .int .i64 13, .symInt .i64 3), (.gtr, .int .i64 13, .symInt .i64 2, .bool false), (.gtr, .int .i64 9, .symInt .i64 3, .bool false), (.lss, .symInt .i64 0, .int .i64 1, .bool true)]
noncomputable def factsHiH : List (BinOp × AV × AV × AV) := [(.gtr, .symInt .i64 1, .int .i64 0, .bool true), (.lss, .symInt .i64 1, .int .i64 200, .bool false), (.sub, .symInt .i64 1, .int .i64 0, .symInt .i64 2), (.sub, .symInt .i64 1, .int .i64 13, .symInt .i64 3), (.gtr, .int .i64 13, .symInt .i64 2, .bool false), (.gtr, .int .i64 9, .symInt .i64 3, .bool false), (.lss, .symInt .i64 0, .int .i64 1, .bool false), (.gtr, .symInt .i64 0, .int .i64 8, .bool true)]
noncomputable def factsLo : List (BinOp × AV × AV × AV) := [(.gtr, .symInt .i64 1, .int .i64 0, .bool false)]
noncomputable def factsHi : List (BinOp × AV × AV × AV) := [(.gtr, .symInt .i64 1, .int .i64 0, .bool true), (.lss, .symInt .i64 1, .int .i64 200, .bool false), (.sub, .symInt .i64 1, .int .i64 0, .symInt .i64 2), (.sub, .symInt .i64 1, .int .i64 13, .symInt .i64 3), (.gtr, .int .i64 13, .symInt .i64 2, .bool false), (.gtr, .int .i64 9, .symInt .i64 3, .bool false)]
end Go.Proofs.YtoihgkjbollgjaaGreatDoor.Wk
