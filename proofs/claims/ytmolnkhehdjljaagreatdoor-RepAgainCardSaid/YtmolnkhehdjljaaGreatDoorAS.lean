/-
  Part of the proof of a statement of this seat: walks of its functions and the closed run; no condition but those written in each theorem.
-/
import Derived.Test.YtmolnkhehdjljaaGreatDoorA0
import Derived.Shelf.SortM.Plain
import Derived.Shelf.SlGeneric
import Derived.Ground.SlgmProg
/- slices.Sort of texts, laid at this program (written by the kit's lay-plain). -/
namespace Go.Proofs
open Go.Shelf
def Tryz.mSort_ren : Go.Shelf.Ren := ⟨fun | 6 => 246 | 8 => 102 | 9 => 329 | 19 => 179 | 20 => 180 | 21 => 384 | 22 => 385 | 23 => 386 | 24 => 387 | 25 => 388 | 26 => 389 | 27 => 390 | 28 => 391 | 29 => 392 | 36 => 449 | 31 => 259 | 32 => 260 | 37 => 450 | 38 => 451 | 39 => 452 | 41 => 488 | n => n, fun | 27 => 63 | 29 => 9 | 3 => 3 | 32 => 150 | 26 => 63 | 0 => 0 | 44 => 141 | 46 => 43 | 4 => 4 | 36 => 275 | 35 => 274 | 41 => 280 | 5 => 5 | 9 => 9 | 53 => 368 | 57 => 371 | 63 => 436 | 64 => 437 | n => n, fun | n => n⟩
theorem Tryz.mSort : Go.Proofs.SlLaysM.n6 Tryz.prog Tryz.mSort_ren := {
  mixed := by kernel_rfl
  f6 := ⟨Tryz.f246.name, by decide, Tryz.func246.trans (congrArg some (by kernel_rfl))⟩
  f8 := Tryz.func102.trans (congrArg some (by kernel_rfl))
  f9 := ⟨Tryz.f329.name, by decide, Tryz.func329.trans (congrArg some (by kernel_rfl))⟩
  f19 := Tryz.func179.trans (congrArg some (by kernel_rfl))
  f20 := Tryz.func180.trans (congrArg some (by kernel_rfl))
  f21 := ⟨Tryz.f384.name, by decide, Tryz.func384.trans (congrArg some (by kernel_rfl))⟩
  f22 := ⟨Tryz.f385.name, by decide, Tryz.func385.trans (congrArg some (by kernel_rfl))⟩
  f23 := ⟨Tryz.f386.name, by decide, Tryz.func386.trans (congrArg some (by kernel_rfl))⟩
  f24 := ⟨Tryz.f387.name, by decide, Tryz.func387.trans (congrArg some (by kernel_rfl))⟩
  f25 := ⟨Tryz.f388.name, by decide, Tryz.func388.trans (congrArg some (by kernel_rfl))⟩
  f26 := ⟨Tryz.f389.name, by decide, Tryz.func389.trans (congrArg some (by kernel_rfl))⟩
  f27 := ⟨Tryz.f390.name, by decide, Tryz.func390.trans (congrArg some (by kernel_rfl))⟩
  f28 := ⟨Tryz.f391.name, by decide, Tryz.func391.trans (congrArg some (by kernel_rfl))⟩
  f29 := ⟨Tryz.f392.name, by decide, Tryz.func392.trans (congrArg some (by kernel_rfl))⟩
  f31 := Tryz.func259.trans (congrArg some (by kernel_rfl))
  f32 := Tryz.func260.trans (congrArg some (by kernel_rfl))
  f36 := ⟨Tryz.f449.name, by decide, Tryz.func449.trans (congrArg some (by kernel_rfl))⟩
  f37 := ⟨Tryz.f450.name, by decide, Tryz.func450.trans (congrArg some (by kernel_rfl))⟩
  f38 := ⟨Tryz.f451.name, by decide, Tryz.func451.trans (congrArg some (by kernel_rfl))⟩
  f39 := ⟨Tryz.f452.name, by decide, Tryz.func452.trans (congrArg some (by kernel_rfl))⟩
  f41 := ⟨Tryz.f488.name, by decide, Tryz.func488.trans (congrArg some (by kernel_rfl))⟩
  t0 := Tryz.underlying0
  a0 := Tryz.isAgg0
  z0 := Tryz.sizeOf0
  v0 := Tryz.zeroValue0
  t3 := Tryz.underlying3
  a3 := Tryz.isAgg3
  z3 := Tryz.sizeOf3
  v3 := Tryz.zeroValue3
  t4 := Tryz.underlying4
  a4 := Tryz.isAgg4
  z4 := Tryz.sizeOf4
  v4 := Tryz.zeroValue4
  t5 := Tryz.underlying5
  a5 := Tryz.isAgg5
  z5 := Tryz.sizeOf5
  v5 := Tryz.zeroValue5
  t9 := Tryz.underlying9
  a9 := Tryz.isAgg9
  z9 := Tryz.sizeOf9
  v9 := Tryz.zeroValue9
  t26 := Tryz.underlying63
  a26 := Tryz.isAgg63
  z26 := Tryz.sizeOf63
  v26 := Tryz.zeroValue63
  t27 := Tryz.underlying63
  a27 := Tryz.isAgg63
  z27 := Tryz.sizeOf63
  v27 := Tryz.zeroValue63
  t29 := Tryz.underlying9
  a29 := Tryz.isAgg9
  z29 := Tryz.sizeOf9
  v29 := Tryz.zeroValue9
  t32 := Tryz.underlying150
  a32 := Tryz.isAgg150
  z32 := Tryz.sizeOf150
  v32 := Tryz.zeroValue150
  t35 := Tryz.underlying274
  a35 := Tryz.isAgg274
  z35 := Tryz.sizeOf274
  v35 := Tryz.zeroValue274
  t36 := Tryz.underlying275
  a36 := Tryz.isAgg275
  z36 := Tryz.sizeOf275
  v36 := Tryz.zeroValue275
  t41 := Tryz.underlying280
  a41 := Tryz.isAgg280
  z41 := Tryz.sizeOf280
  v41 := Tryz.zeroValue280
  t44 := Tryz.underlying141
  a44 := Tryz.isAgg141
  z44 := Tryz.sizeOf141
  v44 := Tryz.zeroValue141
  t46 := Tryz.underlying43
  a46 := Tryz.isAgg43
  z46 := Tryz.sizeOf43
  v46 := Tryz.zeroValue43
  t53 := Tryz.underlying368
  a53 := Tryz.isAgg368
  z53 := Tryz.sizeOf368
  v53 := Tryz.zeroValue368
  t57 := Tryz.underlying371
  a57 := Tryz.isAgg371
  z57 := Tryz.sizeOf371
  v57 := Tryz.zeroValue371
  t63 := Tryz.underlying436
  a63 := Tryz.isAgg436
  z63 := Tryz.sizeOf436
  v63 := Tryz.zeroValue436
  t64 := Tryz.underlying437
  a64 := Tryz.isAgg437
  z64 := Tryz.sizeOf437
  v64 := Tryz.zeroValue437 }
end Go.Proofs
namespace Go.Proofs.YtmolnkhehdjljaaGreatDoor.Wk
open Go.RowKit Go.VmK
theorem sortOK {O : Env → Heap → World → Prop} : ConOK Tryz.prog O 246 .sort := sort_ok fun blk off cap ss w h1 h2 h3 => AnyM.slices_Sort_string Tryz.mSort blk off cap ss w h1 h2 h3
end Go.Proofs.YtmolnkhehdjljaaGreatDoor.Wk
