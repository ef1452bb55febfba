/-
  Part of the proof of a statement of this seat: walks of its functions and the closed run; no condition but those written in each theorem.
-/
import Derived.Test.YtbanldnjpnfgkaaGreatDoorK0
import Derived.Shelf.SortM.Plain
import Derived.Shelf.SlGeneric
import Derived.Ground.SlgmProg
/- slices.Sort of texts, laid at this program (written by the kit's lay-plain). -/
namespace Go.Proofs
open Go.Shelf
def Tryz.mSort_ren : Go.Shelf.Ren := ⟨fun | 6 => 329 | 8 => 383 | 9 => 418 | 19 => 454 | 20 => 455 | 21 => 474 | 22 => 475 | 23 => 476 | 24 => 477 | 25 => 478 | 26 => 479 | 27 => 480 | 28 => 481 | 29 => 482 | 36 => 525 | 31 => 495 | 32 => 496 | 37 => 526 | 38 => 527 | 39 => 528 | 41 => 552 | n => n, fun | 27 => 26 | 29 => 9 | 3 => 3 | 32 => 243 | 26 => 26 | 0 => 0 | 44 => 142 | 46 => 45 | 4 => 4 | 36 => 549 | 35 => 548 | 41 => 291 | 5 => 5 | 9 => 9 | 53 => 586 | 57 => 589 | 63 => 611 | 64 => 612 | n => n, fun | n => n⟩
theorem Tryz.mSort : Go.Proofs.SlLaysM.n6 Tryz.prog Tryz.mSort_ren := {
  mixed := by kernel_rfl
  f6 := ⟨Tryz.f329.name, by decide, Tryz.func329.trans (congrArg some (by kernel_rfl))⟩
  f8 := Tryz.func383.trans (congrArg some (by kernel_rfl))
  f9 := ⟨Tryz.f418.name, by decide, Tryz.func418.trans (congrArg some (by kernel_rfl))⟩
  f19 := Tryz.func454.trans (congrArg some (by kernel_rfl))
  f20 := Tryz.func455.trans (congrArg some (by kernel_rfl))
  f21 := ⟨Tryz.f474.name, by decide, Tryz.func474.trans (congrArg some (by kernel_rfl))⟩
  f22 := ⟨Tryz.f475.name, by decide, Tryz.func475.trans (congrArg some (by kernel_rfl))⟩
  f23 := ⟨Tryz.f476.name, by decide, Tryz.func476.trans (congrArg some (by kernel_rfl))⟩
  f24 := ⟨Tryz.f477.name, by decide, Tryz.func477.trans (congrArg some (by kernel_rfl))⟩
  f25 := ⟨Tryz.f478.name, by decide, Tryz.func478.trans (congrArg some (by kernel_rfl))⟩
  f26 := ⟨Tryz.f479.name, by decide, Tryz.func479.trans (congrArg some (by kernel_rfl))⟩
  f27 := ⟨Tryz.f480.name, by decide, Tryz.func480.trans (congrArg some (by kernel_rfl))⟩
  f28 := ⟨Tryz.f481.name, by decide, Tryz.func481.trans (congrArg some (by kernel_rfl))⟩
  f29 := ⟨Tryz.f482.name, by decide, Tryz.func482.trans (congrArg some (by kernel_rfl))⟩
  f31 := Tryz.func495.trans (congrArg some (by kernel_rfl))
  f32 := Tryz.func496.trans (congrArg some (by kernel_rfl))
  f36 := ⟨Tryz.f525.name, by decide, Tryz.func525.trans (congrArg some (by kernel_rfl))⟩
  f37 := ⟨Tryz.f526.name, by decide, Tryz.func526.trans (congrArg some (by kernel_rfl))⟩
  f38 := ⟨Tryz.f527.name, by decide, Tryz.func527.trans (congrArg some (by kernel_rfl))⟩
  f39 := ⟨Tryz.f528.name, by decide, Tryz.func528.trans (congrArg some (by kernel_rfl))⟩
  f41 := ⟨Tryz.f552.name, by decide, Tryz.func552.trans (congrArg some (by kernel_rfl))⟩
  t0 := Tryz.underlying0
  a0 := Tryz.isAgg0
  z0 := Tryz.sizeOf0
  v0 := Tryz.zeroValue0
  t3 := Tryz.underlying3
  a3 := Tryz.isAgg3
  z3 := Tryz.sizeOf3
  v3 := Tryz.zeroValue3
  t4 := Tryz.underlying4
  a4 := Tryz.isAgg4
  z4 := Tryz.sizeOf4
  v4 := Tryz.zeroValue4
  t5 := Tryz.underlying5
  a5 := Tryz.isAgg5
  z5 := Tryz.sizeOf5
  v5 := Tryz.zeroValue5
  t9 := Tryz.underlying9
  a9 := Tryz.isAgg9
  z9 := Tryz.sizeOf9
  v9 := Tryz.zeroValue9
  t26 := Tryz.underlying26
  a26 := Tryz.isAgg26
  z26 := Tryz.sizeOf26
  v26 := Tryz.zeroValue26
  t27 := Tryz.underlying26
  a27 := Tryz.isAgg26
  z27 := Tryz.sizeOf26
  v27 := Tryz.zeroValue26
  t29 := Tryz.underlying9
  a29 := Tryz.isAgg9
  z29 := Tryz.sizeOf9
  v29 := Tryz.zeroValue9
  t32 := Tryz.underlying243
  a32 := Tryz.isAgg243
  z32 := Tryz.sizeOf243
  v32 := Tryz.zeroValue243
  t35 := Tryz.underlying548
  a35 := Tryz.isAgg548
  z35 := Tryz.sizeOf548
  v35 := Tryz.zeroValue548
  t36 := Tryz.underlying549
  a36 := Tryz.isAgg549
  z36 := Tryz.sizeOf549
  v36 := Tryz.zeroValue549
  t41 := Tryz.underlying291
  a41 := Tryz.isAgg291
  z41 := Tryz.sizeOf291
  v41 := Tryz.zeroValue291
  t44 := Tryz.underlying142
  a44 := Tryz.isAgg142
  z44 := Tryz.sizeOf142
  v44 := Tryz.zeroValue142
  t46 := Tryz.underlying45
  a46 := Tryz.isAgg45
  z46 := Tryz.sizeOf45
  v46 := Tryz.zeroValue45
  t53 := Tryz.underlying586
  a53 := Tryz.isAgg586
  z53 := Tryz.sizeOf586
  v53 := Tryz.zeroValue586
  t57 := Tryz.underlying589
  a57 := Tryz.isAgg589
  z57 := Tryz.sizeOf589
  v57 := Tryz.zeroValue589
  t63 := Tryz.underlying611
  a63 := Tryz.isAgg611
  z63 := Tryz.sizeOf611
  v63 := Tryz.zeroValue611
  t64 := Tryz.underlying612
  a64 := Tryz.isAgg612
  z64 := Tryz.sizeOf612
  v64 := Tryz.zeroValue612 }
end Go.Proofs
namespace Go.Proofs.YtbanldnjpnfgkaaGreatDoor.Wk
open Go.RowKit Go.VmK
theorem sortOK {O : Env → Heap → World → Prop} : ConOK Tryz.prog O 329 .sort := sort_ok fun blk off cap ss w h1 h2 h3 => AnyM.slices_Sort_string Tryz.mSort blk off cap ss w h1 h2 h3
end Go.Proofs.YtbanldnjpnfgkaaGreatDoor.Wk
