/-
  Part of the proof of a statement of this seat: walks of its functions and the closed run; no condition but those written in each theorem.
-/
import Derived.Test.YtjjhphjbmllhhaaGreatDoorProg
import Derived.WalkKit
import Derived.Lib.Hide
import Derived.KernelRfl
import Derived.Test.YtjjhphjbmllhhaaGreatDoorV7
import Derived.Test.YtjjhphjbmllhhaaGreatDoorPKit
namespace Go.Proofs.YtjjhphjbmllhhaaGreatDoor.Wk
set_option maxRecDepth 100000
open Go.RowKit Go.VmK Go.NumPure
theorem info8 : (Tryz.prog.info? 5).map (fun i => (i.zero, i.size, i.bytes)) = some (some (.int .u8 0), 1, 1) := by kernel_rfl
set_option maxHeartbeats 1600000 in
theorem var_any (v0 : Nat) (hv0 : v0 < 18446744073709551616) (bk off cap : Nat) (w : World) (_hbk : bk < w.heap.size) (hc : w.cell? ⟨bk, off, none⟩ = some (.int .u64 v0)) :
    Calls Tryz.prog 16 #[.slice (some ⟨bk, off, none⟩) 1 cap] w fun e w' => e = .returned (.string (bytesOf (vr v0))) ∧ Below w.heap.size w w' := by
  obtain ⟨i0, hi, hz0, hz1, hz2⟩ := info_parts info8
  go_enter Tryz.func16, Tryz.ntmps16
  go_wp2
  refine wp_loop_rounds 2 ?_
  rw [rounds_succ]
  go_wp2
  go_loopw [3, 5] (fun b v wr => ∃ (pre : List Nat) (n : Nat), v = .int .u64 n ∧ pre ++ vr n = vr v0 ∧ n < 18446744073709551616 ∧ wr.ownsRow w.heap.size 5 1 b pre.length (byteVals pre) ∧ Below w.heap.size w wr) (fun _ v _ => (intOf v).toNat)
  case atStart => exact ⟨[], v0, rfl, rfl, hv0, World.ownsRow_nil _ _ _ _, Below.refl _ _⟩
  case round =>
    obtain ⟨pre, n, rfl, hpre, hn, hown, hbl⟩ := hrel
    have hpl : pre.length ≤ 11 := by have := congrArg List.length hpre; have := vr_short hv0; simp at *; omega
    have hO := Lib.hid hpre
    clear hpre
    by_cases h128 : 128 ≤ n
    · have ho := Lib.hid (or128 n)
      have hrec := Lib.hid (vr_high h128)
      go_wp2_with (at_builtin; refine wpList_append_own _ rfl _ _ 30 rfl w.heap.size 5 i0 (.int .u8 0) 1 1 Tryz.underlying30 hi hz0 hz1 hz2 rfl (by decide) _ _ _ rfl (hown.alloc _) ⟨wr.heap.size, 0, none⟩ 1 1 [.int .u8 (bits .or .u8 ((n : Int) % 256) 128)] rfl rfl ?c1 ?c2 ?c3 ?c4 ?c5 ?_)
      case c1 =>
        intro j u hj
        match j, hj with
        | 0, hj => simp at hj; subst hj; simp [Addr.add]
      case c2 => intro u hu; simp at hu; subst hu; rfl
      case c3 => unfold maxLen; omega
      case c4 => omega
      case c5 => have := hbl.size; simp; omega
      intro v' w1 hown' hgrow _
      have hb1 : Below w.heap.size w w1 := (hbl.alloc hbl.size _).grown hgrow (by have := hbl.size; simp; omega) (fun j hj => by have := (hown.lt j hj).1; omega)
      clear hown hgrow hbl
      go_wp2
      go_roundw
      case rel =>
        refine ⟨pre ++ [n % 128 + 128], n / 128, by go_num, ?_, by omega, ?_, hb1⟩
        · rw [← hO.out, hrec.out]; simp
        · rw [ho.out] at hown'
          simpa [byteVals] using hown'
      case measure => simp only [intOf]; omega
    · go_wp2_with (at_builtin; refine wpList_append_own _ rfl _ _ 30 rfl w.heap.size 5 i0 (.int .u8 0) 1 1 Tryz.underlying30 hi hz0 hz1 hz2 rfl (by decide) _ _ _ rfl (hown.alloc _) ⟨wr.heap.size, 0, none⟩ 1 1 [.int .u8 (n : Int)] rfl rfl ?d1 ?d2 ?d3 ?d4 ?d5 ?_)
      case d1 =>
        intro j u hj
        match j, hj with
        | 0, hj => simp at hj; subst hj; simp [Addr.add]
      case d2 => intro u hu; simp at hu; subst hu; rfl
      case d3 => unfold maxLen; omega
      case d4 => omega
      case d5 => have := hbl.size; simp; omega
      intro v' w1 hown' hgrow _
      have hb1 : Below w.heap.size w w1 := (hbl.alloc hbl.size _).grown hgrow (by have := hbl.size; simp; omega) (fun j hj => by have := (hown.lt j hj).1; omega)
      have hrec := Lib.hid (vr_low (Nat.lt_of_not_le h128))
      clear hown hgrow hbl
      have hcv := conv_own (P := Tryz.prog) (w := w1) (l := pre ++ [n]) Tryz.underlying30 Tryz.underlying5 Tryz.underlying9 (by simpa [byteVals] using hown') (by simp)
      have hcv := Lib.hid hcv
      go_wp2
      rw [rounds_succ]
      replace hcv := hcv.out
      go_wp2
      go_ret
      have e : pre ++ [n] = vr v0 := by rw [← hO.out, hrec.out]
      exact ⟨congrArg (fun z => Ending.returned (.string (bytesOf z))) e, hb1⟩
end Go.Proofs.YtjjhphjbmllhhaaGreatDoor.Wk
