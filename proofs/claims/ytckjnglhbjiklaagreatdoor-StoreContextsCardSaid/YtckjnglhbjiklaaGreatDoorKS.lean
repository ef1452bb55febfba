/-
  Part of the proof of a statement of this seat: walks of its functions and the closed run; no condition but those written in each theorem.
-/
import Derived.Test.YtckjnglhbjiklaaGreatDoorK0
import Derived.Shelf.SortM.Plain
import Derived.Shelf.SlGeneric
import Derived.Ground.SlgmProg
/- slices.Sort of texts, laid at this program (written by the kit's lay-plain). -/
namespace Go.Proofs
open Go.Shelf
def Tryz.mSort_ren : Go.Shelf.Ren := ⟨fun | 6 => 197 | 8 => 265 | 9 => 264 | 19 => 336 | 20 => 337 | 21 => 327 | 22 => 328 | 23 => 329 | 24 => 330 | 25 => 331 | 26 => 332 | 27 => 333 | 28 => 334 | 29 => 335 | 36 => 385 | 31 => 386 | 32 => 387 | 37 => 388 | 38 => 389 | 39 => 390 | 41 => 443 | n => n, fun | 27 => 30 | 29 => 9 | 3 => 3 | 32 => 229 | 26 => 30 | 0 => 0 | 44 => 222 | 46 => 33 | 4 => 4 | 36 => 447 | 35 => 446 | 41 => 197 | 5 => 5 | 9 => 9 | 53 => 498 | 57 => 501 | 63 => 546 | 64 => 547 | n => n, fun | n => n⟩
theorem Tryz.mSort : Go.Proofs.SlLaysM.n6 Tryz.prog Tryz.mSort_ren := {
  mixed := by kernel_rfl
  f6 := ⟨Tryz.f197.name, by decide, Tryz.func197.trans (congrArg some (by kernel_rfl))⟩
  f8 := Tryz.func265.trans (congrArg some (by kernel_rfl))
  f9 := ⟨Tryz.f264.name, by decide, Tryz.func264.trans (congrArg some (by kernel_rfl))⟩
  f19 := Tryz.func336.trans (congrArg some (by kernel_rfl))
  f20 := Tryz.func337.trans (congrArg some (by kernel_rfl))
  f21 := ⟨Tryz.f327.name, by decide, Tryz.func327.trans (congrArg some (by kernel_rfl))⟩
  f22 := ⟨Tryz.f328.name, by decide, Tryz.func328.trans (congrArg some (by kernel_rfl))⟩
  f23 := ⟨Tryz.f329.name, by decide, Tryz.func329.trans (congrArg some (by kernel_rfl))⟩
  f24 := ⟨Tryz.f330.name, by decide, Tryz.func330.trans (congrArg some (by kernel_rfl))⟩
  f25 := ⟨Tryz.f331.name, by decide, Tryz.func331.trans (congrArg some (by kernel_rfl))⟩
  f26 := ⟨Tryz.f332.name, by decide, Tryz.func332.trans (congrArg some (by kernel_rfl))⟩
  f27 := ⟨Tryz.f333.name, by decide, Tryz.func333.trans (congrArg some (by kernel_rfl))⟩
  f28 := ⟨Tryz.f334.name, by decide, Tryz.func334.trans (congrArg some (by kernel_rfl))⟩
  f29 := ⟨Tryz.f335.name, by decide, Tryz.func335.trans (congrArg some (by kernel_rfl))⟩
  f31 := Tryz.func386.trans (congrArg some (by kernel_rfl))
  f32 := Tryz.func387.trans (congrArg some (by kernel_rfl))
  f36 := ⟨Tryz.f385.name, by decide, Tryz.func385.trans (congrArg some (by kernel_rfl))⟩
  f37 := ⟨Tryz.f388.name, by decide, Tryz.func388.trans (congrArg some (by kernel_rfl))⟩
  f38 := ⟨Tryz.f389.name, by decide, Tryz.func389.trans (congrArg some (by kernel_rfl))⟩
  f39 := ⟨Tryz.f390.name, by decide, Tryz.func390.trans (congrArg some (by kernel_rfl))⟩
  f41 := ⟨Tryz.f443.name, by decide, Tryz.func443.trans (congrArg some (by kernel_rfl))⟩
  t0 := Tryz.underlying0
  a0 := Tryz.isAgg0
  z0 := Tryz.sizeOf0
  v0 := Tryz.zeroValue0
  t3 := Tryz.underlying3
  a3 := Tryz.isAgg3
  z3 := Tryz.sizeOf3
  v3 := Tryz.zeroValue3
  t4 := Tryz.underlying4
  a4 := Tryz.isAgg4
  z4 := Tryz.sizeOf4
  v4 := Tryz.zeroValue4
  t5 := Tryz.underlying5
  a5 := Tryz.isAgg5
  z5 := Tryz.sizeOf5
  v5 := Tryz.zeroValue5
  t9 := Tryz.underlying9
  a9 := Tryz.isAgg9
  z9 := Tryz.sizeOf9
  v9 := Tryz.zeroValue9
  t26 := Tryz.underlying30
  a26 := Tryz.isAgg30
  z26 := Tryz.sizeOf30
  v26 := Tryz.zeroValue30
  t27 := Tryz.underlying30
  a27 := Tryz.isAgg30
  z27 := Tryz.sizeOf30
  v27 := Tryz.zeroValue30
  t29 := Tryz.underlying9
  a29 := Tryz.isAgg9
  z29 := Tryz.sizeOf9
  v29 := Tryz.zeroValue9
  t32 := Tryz.underlying229
  a32 := Tryz.isAgg229
  z32 := Tryz.sizeOf229
  v32 := Tryz.zeroValue229
  t35 := Tryz.underlying446
  a35 := Tryz.isAgg446
  z35 := Tryz.sizeOf446
  v35 := Tryz.zeroValue446
  t36 := Tryz.underlying447
  a36 := Tryz.isAgg447
  z36 := Tryz.sizeOf447
  v36 := Tryz.zeroValue447
  t41 := Tryz.underlying197
  a41 := Tryz.isAgg197
  z41 := Tryz.sizeOf197
  v41 := Tryz.zeroValue197
  t44 := Tryz.underlying222
  a44 := Tryz.isAgg222
  z44 := Tryz.sizeOf222
  v44 := Tryz.zeroValue222
  t46 := Tryz.underlying33
  a46 := Tryz.isAgg33
  z46 := Tryz.sizeOf33
  v46 := Tryz.zeroValue33
  t53 := Tryz.underlying498
  a53 := Tryz.isAgg498
  z53 := Tryz.sizeOf498
  v53 := Tryz.zeroValue498
  t57 := Tryz.underlying501
  a57 := Tryz.isAgg501
  z57 := Tryz.sizeOf501
  v57 := Tryz.zeroValue501
  t63 := Tryz.underlying546
  a63 := Tryz.isAgg546
  z63 := Tryz.sizeOf546
  v63 := Tryz.zeroValue546
  t64 := Tryz.underlying547
  a64 := Tryz.isAgg547
  z64 := Tryz.sizeOf547
  v64 := Tryz.zeroValue547 }
end Go.Proofs
namespace Go.Proofs.YtckjnglhbjiklaaGreatDoor.Wk
open Go.RowKit Go.VmK
theorem sortOK {O : Env → Heap → World → Prop} : ConOK Tryz.prog O 197 .sort := sort_ok fun blk off cap ss w h1 h2 h3 => AnyM.slices_Sort_string Tryz.mSort blk off cap ss w h1 h2 h3
end Go.Proofs.YtckjnglhbjiklaaGreatDoor.Wk
