/-
  Part of the proof of a statement of this seat: walks of its functions and the closed run; no condition but those written in each theorem.
-/
import Derived.Test.YtlfgcganjbmjfaaGreatDoorG0
import Derived.Shelf.Strconv.Clone
import Derived.WalkKit
import Derived.Ground.NamesProg
/- stringslite.Clone, laid at this program (written by the kit's lay-plain). -/
namespace Go.Proofs
open Go.Shelf
def Tryz.lClone_ren : Go.Shelf.Ren := ⟨fun | 316 => 27 | n => n, fun | 9 => 9 | 3 => 3 | 4 => 4 | 37 => 45 | 0 => 0 | 127 => 138 | 5 => 5 | n => n, fun | n => n⟩
theorem Tryz.lClone : Go.Proofs.LaysM.n316 Tryz.prog Tryz.lClone_ren := {
  mixed := by kernel_rfl
  f316 := Tryz.func27.trans (congrArg some (by kernel_rfl))
  t0 := Tryz.underlying0
  a0 := Tryz.isAgg0
  z0 := Tryz.sizeOf0
  v0 := Tryz.zeroValue0
  t3 := Tryz.underlying3
  a3 := Tryz.isAgg3
  z3 := Tryz.sizeOf3
  v3 := Tryz.zeroValue3
  t4 := Tryz.underlying4
  a4 := Tryz.isAgg4
  z4 := Tryz.sizeOf4
  v4 := Tryz.zeroValue4
  t9 := Tryz.underlying9
  a9 := Tryz.isAgg9
  z9 := Tryz.sizeOf9
  v9 := Tryz.zeroValue9
  t37 := Tryz.underlying45
  a37 := Tryz.isAgg45
  z37 := Tryz.sizeOf45
  v37 := Tryz.zeroValue45
  t127 := Tryz.underlying138
  a127 := Tryz.isAgg138
  z127 := Tryz.sizeOf138
  v127 := Tryz.zeroValue138
  t5 := Tryz.underlying5
  a5 := Tryz.isAgg5
  z5 := Tryz.sizeOf5
  v5 := Tryz.zeroValue5
  i0 := by kernel_rfl
  i3 := by kernel_rfl
  i4 := by kernel_rfl
  i5 := by kernel_rfl
  i9 := by kernel_rfl
  i37 := by kernel_rfl
  i127 := by kernel_rfl }
end Go.Proofs
namespace Go.Proofs.YtlfgcganjbmjfaaGreatDoor.Wk
set_option maxRecDepth 100000
open Go.RowKit Go.VmK
theorem lite (s : ByteArray) (h : s.size ≤ 281474976710656) (w : World) : Calls Tryz.prog 27 #[.string s] w fun e w' => e = .returned (.string s) ∧ Stands w w' :=
  (Any.stringslite_Clone Tryz.lClone s w h).mono fun _ _ ⟨h1, h2⟩ => ⟨h1, h2.os, h2.output, h2.size, h2.block⟩
theorem clone (s : ByteArray) (h : s.size ≤ 281474976710656) (w : World) : Calls Tryz.prog 15 #[.string s] w fun e w' => e = .returned (.string s) ∧ Stands w w' := by
  go_enter Tryz.func15, Tryz.ntmps15
  go_wp2_with (go_at_call 27; refine (lite s h _).mono ?_; rintro e w' ⟨rfl, hw⟩)
  go_ret
  exact ⟨rfl, hw⟩
end Go.Proofs.YtlfgcganjbmjfaaGreatDoor.Wk
