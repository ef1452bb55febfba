/-
  Part of the proof of a statement of this seat: walks of its functions and the closed run; no condition but those written in each theorem.
-/
import Derived.Test.YtajngeaenfdigaaGreatDoorK0
import Derived.Shelf.SortM.Plain
import Derived.Shelf.SlGeneric
import Derived.Ground.SlgmProg
/- slices.Sort of texts, laid at this program (written by the kit's lay-plain). -/
namespace Go.Proofs
open Go.Shelf
def Tryz.mSort_ren : Go.Shelf.Ren := ⟨fun | 6 => 115 | 8 => 195 | 9 => 194 | 19 => 279 | 20 => 280 | 21 => 270 | 22 => 271 | 23 => 272 | 24 => 273 | 25 => 274 | 26 => 275 | 27 => 276 | 28 => 277 | 29 => 278 | 36 => 341 | 31 => 342 | 32 => 343 | 37 => 344 | 38 => 345 | 39 => 346 | 41 => 403 | n => n, fun | 27 => 48 | 29 => 9 | 3 => 3 | 32 => 263 | 26 => 48 | 0 => 0 | 44 => 266 | 46 => 26 | 4 => 4 | 36 => 364 | 35 => 363 | 41 => 244 | 5 => 5 | 9 => 9 | 53 => 437 | 57 => 440 | 63 => 482 | 64 => 483 | n => n, fun | n => n⟩
theorem Tryz.mSort : Go.Proofs.SlLaysM.n6 Tryz.prog Tryz.mSort_ren := {
  mixed := by kernel_rfl
  f6 := ⟨Tryz.f115.name, by decide, Tryz.func115.trans (congrArg some (by kernel_rfl))⟩
  f8 := Tryz.func195.trans (congrArg some (by kernel_rfl))
  f9 := ⟨Tryz.f194.name, by decide, Tryz.func194.trans (congrArg some (by kernel_rfl))⟩
  f19 := Tryz.func279.trans (congrArg some (by kernel_rfl))
  f20 := Tryz.func280.trans (congrArg some (by kernel_rfl))
  f21 := ⟨Tryz.f270.name, by decide, Tryz.func270.trans (congrArg some (by kernel_rfl))⟩
  f22 := ⟨Tryz.f271.name, by decide, Tryz.func271.trans (congrArg some (by kernel_rfl))⟩
  f23 := ⟨Tryz.f272.name, by decide, Tryz.func272.trans (congrArg some (by kernel_rfl))⟩
  f24 := ⟨Tryz.f273.name, by decide, Tryz.func273.trans (congrArg some (by kernel_rfl))⟩
  f25 := ⟨Tryz.f274.name, by decide, Tryz.func274.trans (congrArg some (by kernel_rfl))⟩
  f26 := ⟨Tryz.f275.name, by decide, Tryz.func275.trans (congrArg some (by kernel_rfl))⟩
  f27 := ⟨Tryz.f276.name, by decide, Tryz.func276.trans (congrArg some (by kernel_rfl))⟩
  f28 := ⟨Tryz.f277.name, by decide, Tryz.func277.trans (congrArg some (by kernel_rfl))⟩
  f29 := ⟨Tryz.f278.name, by decide, Tryz.func278.trans (congrArg some (by kernel_rfl))⟩
  f31 := Tryz.func342.trans (congrArg some (by kernel_rfl))
  f32 := Tryz.func343.trans (congrArg some (by kernel_rfl))
  f36 := ⟨Tryz.f341.name, by decide, Tryz.func341.trans (congrArg some (by kernel_rfl))⟩
  f37 := ⟨Tryz.f344.name, by decide, Tryz.func344.trans (congrArg some (by kernel_rfl))⟩
  f38 := ⟨Tryz.f345.name, by decide, Tryz.func345.trans (congrArg some (by kernel_rfl))⟩
  f39 := ⟨Tryz.f346.name, by decide, Tryz.func346.trans (congrArg some (by kernel_rfl))⟩
  f41 := ⟨Tryz.f403.name, by decide, Tryz.func403.trans (congrArg some (by kernel_rfl))⟩
  t0 := Tryz.underlying0
  a0 := Tryz.isAgg0
  z0 := Tryz.sizeOf0
  v0 := Tryz.zeroValue0
  t3 := Tryz.underlying3
  a3 := Tryz.isAgg3
  z3 := Tryz.sizeOf3
  v3 := Tryz.zeroValue3
  t4 := Tryz.underlying4
  a4 := Tryz.isAgg4
  z4 := Tryz.sizeOf4
  v4 := Tryz.zeroValue4
  t5 := Tryz.underlying5
  a5 := Tryz.isAgg5
  z5 := Tryz.sizeOf5
  v5 := Tryz.zeroValue5
  t9 := Tryz.underlying9
  a9 := Tryz.isAgg9
  z9 := Tryz.sizeOf9
  v9 := Tryz.zeroValue9
  t26 := Tryz.underlying48
  a26 := Tryz.isAgg48
  z26 := Tryz.sizeOf48
  v26 := Tryz.zeroValue48
  t27 := Tryz.underlying48
  a27 := Tryz.isAgg48
  z27 := Tryz.sizeOf48
  v27 := Tryz.zeroValue48
  t29 := Tryz.underlying9
  a29 := Tryz.isAgg9
  z29 := Tryz.sizeOf9
  v29 := Tryz.zeroValue9
  t32 := Tryz.underlying263
  a32 := Tryz.isAgg263
  z32 := Tryz.sizeOf263
  v32 := Tryz.zeroValue263
  t35 := Tryz.underlying363
  a35 := Tryz.isAgg363
  z35 := Tryz.sizeOf363
  v35 := Tryz.zeroValue363
  t36 := Tryz.underlying364
  a36 := Tryz.isAgg364
  z36 := Tryz.sizeOf364
  v36 := Tryz.zeroValue364
  t41 := Tryz.underlying244
  a41 := Tryz.isAgg244
  z41 := Tryz.sizeOf244
  v41 := Tryz.zeroValue244
  t44 := Tryz.underlying266
  a44 := Tryz.isAgg266
  z44 := Tryz.sizeOf266
  v44 := Tryz.zeroValue266
  t46 := Tryz.underlying26
  a46 := Tryz.isAgg26
  z46 := Tryz.sizeOf26
  v46 := Tryz.zeroValue26
  t53 := Tryz.underlying437
  a53 := Tryz.isAgg437
  z53 := Tryz.sizeOf437
  v53 := Tryz.zeroValue437
  t57 := Tryz.underlying440
  a57 := Tryz.isAgg440
  z57 := Tryz.sizeOf440
  v57 := Tryz.zeroValue440
  t63 := Tryz.underlying482
  a63 := Tryz.isAgg482
  z63 := Tryz.sizeOf482
  v63 := Tryz.zeroValue482
  t64 := Tryz.underlying483
  a64 := Tryz.isAgg483
  z64 := Tryz.sizeOf483
  v64 := Tryz.zeroValue483 }
end Go.Proofs
namespace Go.Proofs.YtajngeaenfdigaaGreatDoor.Wk
open Go.RowKit Go.VmK
theorem sortOK {O : Env → Heap → World → Prop} : ConOK Tryz.prog O 115 .sort := sort_ok fun blk off cap ss w h1 h2 h3 => AnyM.slices_Sort_string Tryz.mSort blk off cap ss w h1 h2 h3
end Go.Proofs.YtajngeaenfdigaaGreatDoor.Wk
