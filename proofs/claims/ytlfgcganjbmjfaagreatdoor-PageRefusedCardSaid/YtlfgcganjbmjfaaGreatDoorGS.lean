/-
  Part of the proof of a statement of this seat: walks of its functions and the closed run; no condition but those written in each theorem.
-/
import Derived.Test.YtlfgcganjbmjfaaGreatDoorG0
import Derived.Shelf.SortM.Plain
import Derived.Shelf.SlGeneric
import Derived.Ground.SlgmProg
/- slices.Sort of texts, laid at this program (written by the kit's lay-plain). -/
namespace Go.Proofs
open Go.Shelf
def Tryz.mSort_ren : Go.Shelf.Ren := ⟨fun | 6 => 107 | 8 => 181 | 9 => 180 | 19 => 276 | 20 => 277 | 21 => 267 | 22 => 268 | 23 => 269 | 24 => 270 | 25 => 271 | 26 => 272 | 27 => 273 | 28 => 274 | 29 => 275 | 36 => 342 | 31 => 343 | 32 => 344 | 37 => 345 | 38 => 346 | 39 => 347 | 41 => 399 | n => n, fun | 27 => 26 | 29 => 9 | 3 => 3 | 32 => 268 | 26 => 26 | 0 => 0 | 44 => 270 | 46 => 49 | 4 => 4 | 36 => 373 | 35 => 372 | 41 => 236 | 5 => 5 | 9 => 9 | 53 => 442 | 57 => 445 | 63 => 491 | 64 => 492 | n => n, fun | n => n⟩
theorem Tryz.mSort : Go.Proofs.SlLaysM.n6 Tryz.prog Tryz.mSort_ren := {
  mixed := by kernel_rfl
  f6 := ⟨Tryz.f107.name, by decide, Tryz.func107.trans (congrArg some (by kernel_rfl))⟩
  f8 := Tryz.func181.trans (congrArg some (by kernel_rfl))
  f9 := ⟨Tryz.f180.name, by decide, Tryz.func180.trans (congrArg some (by kernel_rfl))⟩
  f19 := Tryz.func276.trans (congrArg some (by kernel_rfl))
  f20 := Tryz.func277.trans (congrArg some (by kernel_rfl))
  f21 := ⟨Tryz.f267.name, by decide, Tryz.func267.trans (congrArg some (by kernel_rfl))⟩
  f22 := ⟨Tryz.f268.name, by decide, Tryz.func268.trans (congrArg some (by kernel_rfl))⟩
  f23 := ⟨Tryz.f269.name, by decide, Tryz.func269.trans (congrArg some (by kernel_rfl))⟩
  f24 := ⟨Tryz.f270.name, by decide, Tryz.func270.trans (congrArg some (by kernel_rfl))⟩
  f25 := ⟨Tryz.f271.name, by decide, Tryz.func271.trans (congrArg some (by kernel_rfl))⟩
  f26 := ⟨Tryz.f272.name, by decide, Tryz.func272.trans (congrArg some (by kernel_rfl))⟩
  f27 := ⟨Tryz.f273.name, by decide, Tryz.func273.trans (congrArg some (by kernel_rfl))⟩
  f28 := ⟨Tryz.f274.name, by decide, Tryz.func274.trans (congrArg some (by kernel_rfl))⟩
  f29 := ⟨Tryz.f275.name, by decide, Tryz.func275.trans (congrArg some (by kernel_rfl))⟩
  f31 := Tryz.func343.trans (congrArg some (by kernel_rfl))
  f32 := Tryz.func344.trans (congrArg some (by kernel_rfl))
  f36 := ⟨Tryz.f342.name, by decide, Tryz.func342.trans (congrArg some (by kernel_rfl))⟩
  f37 := ⟨Tryz.f345.name, by decide, Tryz.func345.trans (congrArg some (by kernel_rfl))⟩
  f38 := ⟨Tryz.f346.name, by decide, Tryz.func346.trans (congrArg some (by kernel_rfl))⟩
  f39 := ⟨Tryz.f347.name, by decide, Tryz.func347.trans (congrArg some (by kernel_rfl))⟩
  f41 := ⟨Tryz.f399.name, by decide, Tryz.func399.trans (congrArg some (by kernel_rfl))⟩
  t0 := Tryz.underlying0
  a0 := Tryz.isAgg0
  z0 := Tryz.sizeOf0
  v0 := Tryz.zeroValue0
  t3 := Tryz.underlying3
  a3 := Tryz.isAgg3
  z3 := Tryz.sizeOf3
  v3 := Tryz.zeroValue3
  t4 := Tryz.underlying4
  a4 := Tryz.isAgg4
  z4 := Tryz.sizeOf4
  v4 := Tryz.zeroValue4
  t5 := Tryz.underlying5
  a5 := Tryz.isAgg5
  z5 := Tryz.sizeOf5
  v5 := Tryz.zeroValue5
  t9 := Tryz.underlying9
  a9 := Tryz.isAgg9
  z9 := Tryz.sizeOf9
  v9 := Tryz.zeroValue9
  t26 := Tryz.underlying26
  a26 := Tryz.isAgg26
  z26 := Tryz.sizeOf26
  v26 := Tryz.zeroValue26
  t27 := Tryz.underlying26
  a27 := Tryz.isAgg26
  z27 := Tryz.sizeOf26
  v27 := Tryz.zeroValue26
  t29 := Tryz.underlying9
  a29 := Tryz.isAgg9
  z29 := Tryz.sizeOf9
  v29 := Tryz.zeroValue9
  t32 := Tryz.underlying268
  a32 := Tryz.isAgg268
  z32 := Tryz.sizeOf268
  v32 := Tryz.zeroValue268
  t35 := Tryz.underlying372
  a35 := Tryz.isAgg372
  z35 := Tryz.sizeOf372
  v35 := Tryz.zeroValue372
  t36 := Tryz.underlying373
  a36 := Tryz.isAgg373
  z36 := Tryz.sizeOf373
  v36 := Tryz.zeroValue373
  t41 := Tryz.underlying236
  a41 := Tryz.isAgg236
  z41 := Tryz.sizeOf236
  v41 := Tryz.zeroValue236
  t44 := Tryz.underlying270
  a44 := Tryz.isAgg270
  z44 := Tryz.sizeOf270
  v44 := Tryz.zeroValue270
  t46 := Tryz.underlying49
  a46 := Tryz.isAgg49
  z46 := Tryz.sizeOf49
  v46 := Tryz.zeroValue49
  t53 := Tryz.underlying442
  a53 := Tryz.isAgg442
  z53 := Tryz.sizeOf442
  v53 := Tryz.zeroValue442
  t57 := Tryz.underlying445
  a57 := Tryz.isAgg445
  z57 := Tryz.sizeOf445
  v57 := Tryz.zeroValue445
  t63 := Tryz.underlying491
  a63 := Tryz.isAgg491
  z63 := Tryz.sizeOf491
  v63 := Tryz.zeroValue491
  t64 := Tryz.underlying492
  a64 := Tryz.isAgg492
  z64 := Tryz.sizeOf492
  v64 := Tryz.zeroValue492 }
end Go.Proofs
namespace Go.Proofs.YtlfgcganjbmjfaaGreatDoor.Wk
open Go.RowKit Go.VmK
theorem sortOK {O : Env → Heap → World → Prop} : ConOK Tryz.prog O 107 .sort := sort_ok fun blk off cap ss w h1 h2 h3 => AnyM.slices_Sort_string Tryz.mSort blk off cap ss w h1 h2 h3
end Go.Proofs.YtlfgcganjbmjfaaGreatDoor.Wk
