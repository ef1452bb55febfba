/-
  Part of the proof of a statement of this seat: walks of its functions and the closed run; no condition but those written in each theorem.
-/
import Derived.Test.YtjjhphjbmllhhaaGreatDoorG0
import Derived.Shelf.SortM.Plain
import Derived.Shelf.SlGeneric
import Derived.Ground.SlgmProg
/- slices.Sort of texts, laid at this program (written by the kit's lay-plain). -/
namespace Go.Proofs
open Go.Shelf
def Tryz.mSort_ren : Go.Shelf.Ren := ⟨fun | 6 => 122 | 8 => 194 | 9 => 193 | 19 => 277 | 20 => 278 | 21 => 268 | 22 => 269 | 23 => 270 | 24 => 271 | 25 => 272 | 26 => 273 | 27 => 274 | 28 => 275 | 29 => 276 | 36 => 338 | 31 => 339 | 32 => 340 | 37 => 341 | 38 => 342 | 39 => 343 | 41 => 394 | n => n, fun | 27 => 47 | 29 => 9 | 3 => 3 | 32 => 90 | 26 => 47 | 0 => 0 | 44 => 79 | 46 => 53 | 4 => 4 | 36 => 372 | 35 => 371 | 41 => 243 | 5 => 5 | 9 => 9 | 53 => 437 | 57 => 440 | 63 => 479 | 64 => 480 | n => n, fun | n => n⟩
theorem Tryz.mSort : Go.Proofs.SlLaysM.n6 Tryz.prog Tryz.mSort_ren := {
  mixed := by kernel_rfl
  f6 := ⟨Tryz.f122.name, by decide, Tryz.func122.trans (congrArg some (by kernel_rfl))⟩
  f8 := Tryz.func194.trans (congrArg some (by kernel_rfl))
  f9 := ⟨Tryz.f193.name, by decide, Tryz.func193.trans (congrArg some (by kernel_rfl))⟩
  f19 := Tryz.func277.trans (congrArg some (by kernel_rfl))
  f20 := Tryz.func278.trans (congrArg some (by kernel_rfl))
  f21 := ⟨Tryz.f268.name, by decide, Tryz.func268.trans (congrArg some (by kernel_rfl))⟩
  f22 := ⟨Tryz.f269.name, by decide, Tryz.func269.trans (congrArg some (by kernel_rfl))⟩
  f23 := ⟨Tryz.f270.name, by decide, Tryz.func270.trans (congrArg some (by kernel_rfl))⟩
  f24 := ⟨Tryz.f271.name, by decide, Tryz.func271.trans (congrArg some (by kernel_rfl))⟩
  f25 := ⟨Tryz.f272.name, by decide, Tryz.func272.trans (congrArg some (by kernel_rfl))⟩
  f26 := ⟨Tryz.f273.name, by decide, Tryz.func273.trans (congrArg some (by kernel_rfl))⟩
  f27 := ⟨Tryz.f274.name, by decide, Tryz.func274.trans (congrArg some (by kernel_rfl))⟩
  f28 := ⟨Tryz.f275.name, by decide, Tryz.func275.trans (congrArg some (by kernel_rfl))⟩
  f29 := ⟨Tryz.f276.name, by decide, Tryz.func276.trans (congrArg some (by kernel_rfl))⟩
  f31 := Tryz.func339.trans (congrArg some (by kernel_rfl))
  f32 := Tryz.func340.trans (congrArg some (by kernel_rfl))
  f36 := ⟨Tryz.f338.name, by decide, Tryz.func338.trans (congrArg some (by kernel_rfl))⟩
  f37 := ⟨Tryz.f341.name, by decide, Tryz.func341.trans (congrArg some (by kernel_rfl))⟩
  f38 := ⟨Tryz.f342.name, by decide, Tryz.func342.trans (congrArg some (by kernel_rfl))⟩
  f39 := ⟨Tryz.f343.name, by decide, Tryz.func343.trans (congrArg some (by kernel_rfl))⟩
  f41 := ⟨Tryz.f394.name, by decide, Tryz.func394.trans (congrArg some (by kernel_rfl))⟩
  t0 := Tryz.underlying0
  a0 := Tryz.isAgg0
  z0 := Tryz.sizeOf0
  v0 := Tryz.zeroValue0
  t3 := Tryz.underlying3
  a3 := Tryz.isAgg3
  z3 := Tryz.sizeOf3
  v3 := Tryz.zeroValue3
  t4 := Tryz.underlying4
  a4 := Tryz.isAgg4
  z4 := Tryz.sizeOf4
  v4 := Tryz.zeroValue4
  t5 := Tryz.underlying5
  a5 := Tryz.isAgg5
  z5 := Tryz.sizeOf5
  v5 := Tryz.zeroValue5
  t9 := Tryz.underlying9
  a9 := Tryz.isAgg9
  z9 := Tryz.sizeOf9
  v9 := Tryz.zeroValue9
  t26 := Tryz.underlying47
  a26 := Tryz.isAgg47
  z26 := Tryz.sizeOf47
  v26 := Tryz.zeroValue47
  t27 := Tryz.underlying47
  a27 := Tryz.isAgg47
  z27 := Tryz.sizeOf47
  v27 := Tryz.zeroValue47
  t29 := Tryz.underlying9
  a29 := Tryz.isAgg9
  z29 := Tryz.sizeOf9
  v29 := Tryz.zeroValue9
  t32 := Tryz.underlying90
  a32 := Tryz.isAgg90
  z32 := Tryz.sizeOf90
  v32 := Tryz.zeroValue90
  t35 := Tryz.underlying371
  a35 := Tryz.isAgg371
  z35 := Tryz.sizeOf371
  v35 := Tryz.zeroValue371
  t36 := Tryz.underlying372
  a36 := Tryz.isAgg372
  z36 := Tryz.sizeOf372
  v36 := Tryz.zeroValue372
  t41 := Tryz.underlying243
  a41 := Tryz.isAgg243
  z41 := Tryz.sizeOf243
  v41 := Tryz.zeroValue243
  t44 := Tryz.underlying79
  a44 := Tryz.isAgg79
  z44 := Tryz.sizeOf79
  v44 := Tryz.zeroValue79
  t46 := Tryz.underlying53
  a46 := Tryz.isAgg53
  z46 := Tryz.sizeOf53
  v46 := Tryz.zeroValue53
  t53 := Tryz.underlying437
  a53 := Tryz.isAgg437
  z53 := Tryz.sizeOf437
  v53 := Tryz.zeroValue437
  t57 := Tryz.underlying440
  a57 := Tryz.isAgg440
  z57 := Tryz.sizeOf440
  v57 := Tryz.zeroValue440
  t63 := Tryz.underlying479
  a63 := Tryz.isAgg479
  z63 := Tryz.sizeOf479
  v63 := Tryz.zeroValue479
  t64 := Tryz.underlying480
  a64 := Tryz.isAgg480
  z64 := Tryz.sizeOf480
  v64 := Tryz.zeroValue480 }
end Go.Proofs
namespace Go.Proofs.YtjjhphjbmllhhaaGreatDoor.Wk
open Go.RowKit Go.VmK
theorem sortOK {O : Env → Heap → World → Prop} : ConOK Tryz.prog O 122 .sort := sort_ok fun blk off cap ss w h1 h2 h3 => AnyM.slices_Sort_string Tryz.mSort blk off cap ss w h1 h2 h3
end Go.Proofs.YtjjhphjbmllhhaaGreatDoor.Wk
