/-
  Part of the proof of a statement of this seat: walks of its functions and the closed run; no condition but those written in each theorem.
-/
import Derived.Test.YtanepmneapepkaaGreatDoorProg
import Derived.WalkKit
import Derived.Deep.RegionWith
import Derived.Lib.Hide
import Derived.KernelRfl
import Derived.Test.YtanepmneapepkaaGreatDoorJKit
namespace Go.Proofs.YtanepmneapepkaaGreatDoor.Wk
set_option maxRecDepth 100000
open Go.RowKit Go.VmK
/-- says whether a write may be: not where its key is too long -/
def RightEnd (k : ByteArray) (e : Ending) : Prop := ∃ b, e = .returned (.bool b) ∧ (300 < k.size → b = false)
theorem right_any (k v : ByteArray) (d : Bool) (w : World) :
    Calls Tryz.prog 52 #[.agg #[.string k, .string v, .bool d]] w fun e w' => RightEnd k e ∧ Stands w w' := by
  have b0 := cell_laid w #[.string k, .string v, .bool d] 24 0 (.string k) rfl
  have b1 := cell_laid w #[.string k, .string v, .bool d] 24 1 (.string v) rfl
  have b2 := cell_laid w #[.string k, .string v, .bool d] 24 2 (.bool d) rfl
  have st := Lib.hid (stands_alloc w #[.string k, .string v, .bool d] 24)
  cases d with
  | false =>
    go_enter Tryz.func52, Tryz.ntmps52
    go_wp2
    all_goals
      go_ret
      refine ⟨⟨_, rfl, fun h => ?_⟩, st.out⟩
      first
        | rfl
        | (exfalso; omega)
  | true =>
    go_enter Tryz.func52, Tryz.ntmps52
    go_wp2
    all_goals
      go_ret
      refine ⟨⟨_, rfl, fun h => ?_⟩, st.out⟩
      first
        | rfl
        | (exfalso; omega)
set_option maxHeartbeats 3200000 in
/-- a batch in which a key is too long -/
theorem putBatch_bad (n : Nat) (bk off len cap : Nat) (ks vs : Nat → ByteArray) (ds : Nat → Bool) (at_ : Nat) (hat : at_ < len) (hlen : len ≤ 1000000) (hbad : 300 < (ks at_).size) (w : World)
    (hk : ∀ j, j < len → w.cell? ⟨bk, off + j * 3, none⟩ = some (.string (ks j))) (hv : ∀ j, j < len → w.cell? ⟨bk, off + j * 3 + 1, none⟩ = some (.string (vs j))) (hd : ∀ j, j < len → w.cell? ⟨bk, off + j * 3 + 2, none⟩ = some (.bool (ds j))) :
    Calls Tryz.prog 21 #[.agg #[.int .u64 n, .slice (some ⟨bk, off, none⟩) len cap]] w fun e w' => e = .returned (.tuple #[.string ⟨#[]⟩, .int .i64 1]) ∧ Stands w w' := by
  have b0 := cell_laid w #[.int .u64 n, .slice (some ⟨bk, off, none⟩) len cap] 67 0 (.int .u64 n) rfl
  have b1 := cell_laid w #[.int .u64 n, .slice (some ⟨bk, off, none⟩) len cap] 67 1 (.slice (some ⟨bk, off, none⟩) len cap) rfl
  have st := Lib.hid (stands_alloc w #[.int .u64 n, .slice (some ⟨bk, off, none⟩) len cap] 67)
  have hk := Lib.hid hk
  have hv := Lib.hid hv
  have hd := Lib.hid hd
  have hn0 : ((len : Int) == 0) = false := by rw [beq_eq_false_iff_ne]; omega
  go_enter Tryz.func21, Tryz.ntmps21
  go_wp2
  go_loopw [2, 3, 5, 16] (fun _ _ _ i wr => ∃ k : Nat, k ≤ at_ ∧ i = .int .i64 k ∧ Stands w wr) (fun _ _ _ i _ => len - (intOf i).toNat)
  case atStart => exact ⟨0, Nat.zero_le _, rfl, st.out⟩
  case round =>
    obtain ⟨k, hka, rfl, hS⟩ := hrel
    have hlt : k < len := by omega
    have c0 : wr.cell? ⟨bk, off + k * 3, none⟩ = some (.string (ks k)) := stands_cell hS (hk.out k hlt)
    have c1 : wr.cell? ⟨bk, off + k * 3 + 1, none⟩ = some (.string (vs k)) := stands_cell hS (hv.out k hlt)
    have c2 : wr.cell? ⟨bk, off + k * 3 + 2, none⟩ = some (.bool (ds k)) := stands_cell hS (hd.out k hlt)
    have hS := Lib.hid hS
    go_wp2_with fail
    refine (right_any (ks k) (vs k) (ds k) _).mono ?_
    rintro e w2 ⟨⟨b, rfl, hb⟩, hst⟩
    have hS2 : Hid (Stands w w2) := Lib.hid (hS.out.trans ((stands_alloc wr _ _).trans hst))
    have hb := Lib.hid hb
    cases b with
    | false =>
      go_wp2
      go_ret2
      exact ⟨rfl, hS2.out⟩
    | true =>
      have hne : k ≠ at_ := fun e => by subst e; have := hb.out hbad; cases this
      go_wp2
      go_roundw
      case rel => exact ⟨k + 1, by omega, by go_num, hS2.out⟩
      case measure => simp only [intOf]; omega
end Go.Proofs.YtanepmneapepkaaGreatDoor.Wk
