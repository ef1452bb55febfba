/-
  Part of the proof of a statement of this seat: walks of its functions and the closed run; no condition but those written in each theorem.
-/
import Derived.Test.YtoihgkjbollgjaaGreatDoorW0
import Derived.Shelf.SortM.Plain
import Derived.Shelf.SlGeneric
import Derived.Ground.SlgmProg
/- slices.Sort of texts, laid at this program (written by the kit's lay-plain). -/
namespace Go.Proofs
open Go.Shelf
def Tryz.mSort_ren : Go.Shelf.Ren := ⟨fun | 6 => 173 | 8 => 279 | 9 => 278 | 19 => 419 | 20 => 420 | 21 => 410 | 22 => 411 | 23 => 412 | 24 => 413 | 25 => 414 | 26 => 415 | 27 => 416 | 28 => 417 | 29 => 418 | 36 => 523 | 31 => 524 | 32 => 525 | 37 => 526 | 38 => 527 | 39 => 528 | 41 => 612 | n => n, fun | 27 => 23 | 29 => 9 | 3 => 3 | 32 => 309 | 26 => 23 | 0 => 0 | 44 => 300 | 46 => 141 | 4 => 4 | 36 => 525 | 35 => 524 | 41 => 512 | 5 => 5 | 9 => 9 | 53 => 619 | 57 => 622 | 63 => 699 | 64 => 700 | n => n, fun | n => n⟩
theorem Tryz.mSort : Go.Proofs.SlLaysM.n6 Tryz.prog Tryz.mSort_ren := {
  mixed := by kernel_rfl
  f6 := ⟨Tryz.f173.name, by decide, Tryz.func173.trans (congrArg some (by kernel_rfl))⟩
  f8 := Tryz.func279.trans (congrArg some (by kernel_rfl))
  f9 := ⟨Tryz.f278.name, by decide, Tryz.func278.trans (congrArg some (by kernel_rfl))⟩
  f19 := Tryz.func419.trans (congrArg some (by kernel_rfl))
  f20 := Tryz.func420.trans (congrArg some (by kernel_rfl))
  f21 := ⟨Tryz.f410.name, by decide, Tryz.func410.trans (congrArg some (by kernel_rfl))⟩
  f22 := ⟨Tryz.f411.name, by decide, Tryz.func411.trans (congrArg some (by kernel_rfl))⟩
  f23 := ⟨Tryz.f412.name, by decide, Tryz.func412.trans (congrArg some (by kernel_rfl))⟩
  f24 := ⟨Tryz.f413.name, by decide, Tryz.func413.trans (congrArg some (by kernel_rfl))⟩
  f25 := ⟨Tryz.f414.name, by decide, Tryz.func414.trans (congrArg some (by kernel_rfl))⟩
  f26 := ⟨Tryz.f415.name, by decide, Tryz.func415.trans (congrArg some (by kernel_rfl))⟩
  f27 := ⟨Tryz.f416.name, by decide, Tryz.func416.trans (congrArg some (by kernel_rfl))⟩
  f28 := ⟨Tryz.f417.name, by decide, Tryz.func417.trans (congrArg some (by kernel_rfl))⟩
  f29 := ⟨Tryz.f418.name, by decide, Tryz.func418.trans (congrArg some (by kernel_rfl))⟩
  f31 := Tryz.func524.trans (congrArg some (by kernel_rfl))
  f32 := Tryz.func525.trans (congrArg some (by kernel_rfl))
  f36 := ⟨Tryz.f523.name, by decide, Tryz.func523.trans (congrArg some (by kernel_rfl))⟩
  f37 := ⟨Tryz.f526.name, by decide, Tryz.func526.trans (congrArg some (by kernel_rfl))⟩
  f38 := ⟨Tryz.f527.name, by decide, Tryz.func527.trans (congrArg some (by kernel_rfl))⟩
  f39 := ⟨Tryz.f528.name, by decide, Tryz.func528.trans (congrArg some (by kernel_rfl))⟩
  f41 := ⟨Tryz.f612.name, by decide, Tryz.func612.trans (congrArg some (by kernel_rfl))⟩
  t0 := Tryz.underlying0
  a0 := Tryz.isAgg0
  z0 := Tryz.sizeOf0
  v0 := Tryz.zeroValue0
  t3 := Tryz.underlying3
  a3 := Tryz.isAgg3
  z3 := Tryz.sizeOf3
  v3 := Tryz.zeroValue3
  t4 := Tryz.underlying4
  a4 := Tryz.isAgg4
  z4 := Tryz.sizeOf4
  v4 := Tryz.zeroValue4
  t5 := Tryz.underlying5
  a5 := Tryz.isAgg5
  z5 := Tryz.sizeOf5
  v5 := Tryz.zeroValue5
  t9 := Tryz.underlying9
  a9 := Tryz.isAgg9
  z9 := Tryz.sizeOf9
  v9 := Tryz.zeroValue9
  t26 := Tryz.underlying23
  a26 := Tryz.isAgg23
  z26 := Tryz.sizeOf23
  v26 := Tryz.zeroValue23
  t27 := Tryz.underlying23
  a27 := Tryz.isAgg23
  z27 := Tryz.sizeOf23
  v27 := Tryz.zeroValue23
  t29 := Tryz.underlying9
  a29 := Tryz.isAgg9
  z29 := Tryz.sizeOf9
  v29 := Tryz.zeroValue9
  t32 := Tryz.underlying309
  a32 := Tryz.isAgg309
  z32 := Tryz.sizeOf309
  v32 := Tryz.zeroValue309
  t35 := Tryz.underlying524
  a35 := Tryz.isAgg524
  z35 := Tryz.sizeOf524
  v35 := Tryz.zeroValue524
  t36 := Tryz.underlying525
  a36 := Tryz.isAgg525
  z36 := Tryz.sizeOf525
  v36 := Tryz.zeroValue525
  t41 := Tryz.underlying512
  a41 := Tryz.isAgg512
  z41 := Tryz.sizeOf512
  v41 := Tryz.zeroValue512
  t44 := Tryz.underlying300
  a44 := Tryz.isAgg300
  z44 := Tryz.sizeOf300
  v44 := Tryz.zeroValue300
  t46 := Tryz.underlying141
  a46 := Tryz.isAgg141
  z46 := Tryz.sizeOf141
  v46 := Tryz.zeroValue141
  t53 := Tryz.underlying619
  a53 := Tryz.isAgg619
  z53 := Tryz.sizeOf619
  v53 := Tryz.zeroValue619
  t57 := Tryz.underlying622
  a57 := Tryz.isAgg622
  z57 := Tryz.sizeOf622
  v57 := Tryz.zeroValue622
  t63 := Tryz.underlying699
  a63 := Tryz.isAgg699
  z63 := Tryz.sizeOf699
  v63 := Tryz.zeroValue699
  t64 := Tryz.underlying700
  a64 := Tryz.isAgg700
  z64 := Tryz.sizeOf700
  v64 := Tryz.zeroValue700 }
end Go.Proofs
namespace Go.Proofs.YtoihgkjbollgjaaGreatDoor.Wk
open Go.RowKit Go.VmK
theorem sortOK {O : Env → Heap → World → Prop} : ConOK Tryz.prog O 173 .sort := sort_ok fun blk off cap ss w h1 h2 h3 => AnyM.slices_Sort_string Tryz.mSort blk off cap ss w h1 h2 h3
end Go.Proofs.YtoihgkjbollgjaaGreatDoor.Wk
