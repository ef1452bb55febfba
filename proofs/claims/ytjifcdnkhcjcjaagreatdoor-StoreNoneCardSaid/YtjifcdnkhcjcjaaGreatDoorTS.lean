/-
  Part of the proof of a statement of this seat: walks of its functions and the closed run; no condition but those written in each theorem.
-/
import Derived.Test.YtjifcdnkhcjcjaaGreatDoorT0
import Derived.Shelf.SortM.Plain
import Derived.Shelf.SlGeneric
import Derived.Ground.SlgmProg
/- slices.Sort of texts, laid at this program (written by the kit's lay-plain). -/
namespace Go.Proofs
open Go.Shelf
def Tryz.mSort_ren : Go.Shelf.Ren := ⟨fun | 6 => 230 | 8 => 309 | 9 => 308 | 19 => 372 | 20 => 373 | 21 => 363 | 22 => 364 | 23 => 365 | 24 => 366 | 25 => 367 | 26 => 368 | 27 => 369 | 28 => 370 | 29 => 371 | 36 => 431 | 31 => 432 | 32 => 433 | 37 => 434 | 38 => 435 | 39 => 436 | 41 => 482 | n => n, fun | 27 => 28 | 29 => 9 | 3 => 3 | 32 => 195 | 26 => 28 | 0 => 0 | 44 => 188 | 46 => 31 | 4 => 4 | 36 => 485 | 35 => 484 | 41 => 253 | 5 => 5 | 9 => 9 | 53 => 537 | 57 => 540 | 63 => 576 | 64 => 577 | n => n, fun | n => n⟩
theorem Tryz.mSort : Go.Proofs.SlLaysM.n6 Tryz.prog Tryz.mSort_ren := {
  mixed := by kernel_rfl
  f6 := ⟨Tryz.f230.name, by decide, Tryz.func230.trans (congrArg some (by kernel_rfl))⟩
  f8 := Tryz.func309.trans (congrArg some (by kernel_rfl))
  f9 := ⟨Tryz.f308.name, by decide, Tryz.func308.trans (congrArg some (by kernel_rfl))⟩
  f19 := Tryz.func372.trans (congrArg some (by kernel_rfl))
  f20 := Tryz.func373.trans (congrArg some (by kernel_rfl))
  f21 := ⟨Tryz.f363.name, by decide, Tryz.func363.trans (congrArg some (by kernel_rfl))⟩
  f22 := ⟨Tryz.f364.name, by decide, Tryz.func364.trans (congrArg some (by kernel_rfl))⟩
  f23 := ⟨Tryz.f365.name, by decide, Tryz.func365.trans (congrArg some (by kernel_rfl))⟩
  f24 := ⟨Tryz.f366.name, by decide, Tryz.func366.trans (congrArg some (by kernel_rfl))⟩
  f25 := ⟨Tryz.f367.name, by decide, Tryz.func367.trans (congrArg some (by kernel_rfl))⟩
  f26 := ⟨Tryz.f368.name, by decide, Tryz.func368.trans (congrArg some (by kernel_rfl))⟩
  f27 := ⟨Tryz.f369.name, by decide, Tryz.func369.trans (congrArg some (by kernel_rfl))⟩
  f28 := ⟨Tryz.f370.name, by decide, Tryz.func370.trans (congrArg some (by kernel_rfl))⟩
  f29 := ⟨Tryz.f371.name, by decide, Tryz.func371.trans (congrArg some (by kernel_rfl))⟩
  f31 := Tryz.func432.trans (congrArg some (by kernel_rfl))
  f32 := Tryz.func433.trans (congrArg some (by kernel_rfl))
  f36 := ⟨Tryz.f431.name, by decide, Tryz.func431.trans (congrArg some (by kernel_rfl))⟩
  f37 := ⟨Tryz.f434.name, by decide, Tryz.func434.trans (congrArg some (by kernel_rfl))⟩
  f38 := ⟨Tryz.f435.name, by decide, Tryz.func435.trans (congrArg some (by kernel_rfl))⟩
  f39 := ⟨Tryz.f436.name, by decide, Tryz.func436.trans (congrArg some (by kernel_rfl))⟩
  f41 := ⟨Tryz.f482.name, by decide, Tryz.func482.trans (congrArg some (by kernel_rfl))⟩
  t0 := Tryz.underlying0
  a0 := Tryz.isAgg0
  z0 := Tryz.sizeOf0
  v0 := Tryz.zeroValue0
  t3 := Tryz.underlying3
  a3 := Tryz.isAgg3
  z3 := Tryz.sizeOf3
  v3 := Tryz.zeroValue3
  t4 := Tryz.underlying4
  a4 := Tryz.isAgg4
  z4 := Tryz.sizeOf4
  v4 := Tryz.zeroValue4
  t5 := Tryz.underlying5
  a5 := Tryz.isAgg5
  z5 := Tryz.sizeOf5
  v5 := Tryz.zeroValue5
  t9 := Tryz.underlying9
  a9 := Tryz.isAgg9
  z9 := Tryz.sizeOf9
  v9 := Tryz.zeroValue9
  t26 := Tryz.underlying28
  a26 := Tryz.isAgg28
  z26 := Tryz.sizeOf28
  v26 := Tryz.zeroValue28
  t27 := Tryz.underlying28
  a27 := Tryz.isAgg28
  z27 := Tryz.sizeOf28
  v27 := Tryz.zeroValue28
  t29 := Tryz.underlying9
  a29 := Tryz.isAgg9
  z29 := Tryz.sizeOf9
  v29 := Tryz.zeroValue9
  t32 := Tryz.underlying195
  a32 := Tryz.isAgg195
  z32 := Tryz.sizeOf195
  v32 := Tryz.zeroValue195
  t35 := Tryz.underlying484
  a35 := Tryz.isAgg484
  z35 := Tryz.sizeOf484
  v35 := Tryz.zeroValue484
  t36 := Tryz.underlying485
  a36 := Tryz.isAgg485
  z36 := Tryz.sizeOf485
  v36 := Tryz.zeroValue485
  t41 := Tryz.underlying253
  a41 := Tryz.isAgg253
  z41 := Tryz.sizeOf253
  v41 := Tryz.zeroValue253
  t44 := Tryz.underlying188
  a44 := Tryz.isAgg188
  z44 := Tryz.sizeOf188
  v44 := Tryz.zeroValue188
  t46 := Tryz.underlying31
  a46 := Tryz.isAgg31
  z46 := Tryz.sizeOf31
  v46 := Tryz.zeroValue31
  t53 := Tryz.underlying537
  a53 := Tryz.isAgg537
  z53 := Tryz.sizeOf537
  v53 := Tryz.zeroValue537
  t57 := Tryz.underlying540
  a57 := Tryz.isAgg540
  z57 := Tryz.sizeOf540
  v57 := Tryz.zeroValue540
  t63 := Tryz.underlying576
  a63 := Tryz.isAgg576
  z63 := Tryz.sizeOf576
  v63 := Tryz.zeroValue576
  t64 := Tryz.underlying577
  a64 := Tryz.isAgg577
  z64 := Tryz.sizeOf577
  v64 := Tryz.zeroValue577 }
end Go.Proofs
namespace Go.Proofs.YtjifcdnkhcjcjaaGreatDoor.Wk
open Go.RowKit Go.VmK
theorem sortOK {O : Env → Heap → World → Prop} : ConOK Tryz.prog O 230 .sort := sort_ok fun blk off cap ss w h1 h2 h3 => AnyM.slices_Sort_string Tryz.mSort blk off cap ss w h1 h2 h3
end Go.Proofs.YtjifcdnkhcjcjaaGreatDoor.Wk
