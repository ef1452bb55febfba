/-
  Part of the proof of a statement of this seat: walks of its functions and the closed run; no condition but those written in each theorem.
-/
import Derived.Test.YtajngeaenfdigaaGreatDoorQWc
/- The reference's Winner. -/
namespace Go.Proofs.YtajngeaenfdigaaGreatDoor.Wk
set_option maxRecDepth 100000
open Go.RowKit Go.VmK Go.MapWin
theorem rwinner_none (ao : Option Addr) (cap : Nat) (w : World) : Calls Tryz.prog 7 #[.slice ao 0 cap] w fun e w' => e = .returned (.tuple #[.string ⟨#[]⟩, .bool false]) ∧ Stands w w' := by
  go_enter Tryz.func7, Tryz.ntmps7
  go_wp2
  refine wp_loop_rounds 1 ?_
  rw [rounds_succ]
  go_wp2
  go_ret2
  exact ⟨rfl, st_refl _⟩
/-- where the reference stands behind so many items -/
def At24 (f : Nat → It) (k : Nat) (a : Int) : Prop := (k = 0 ∧ a = -1) ∨ ∃ m : Nat, a = m ∧ Best f k m
set_option maxHeartbeats 8000000 in
theorem rwinner_any (f : Nat → It) (bk off len cap : Nat) (w : World) (h0 : 1 ≤ len) (hlen : len ≤ 60) (hl : Lie w bk off len f) (hd : ∀ i j, i < len → j < len → i ≠ j → ¬ (f i).same (f j)) :
    Calls Tryz.prog 7 #[.slice (some ⟨bk, off, none⟩) len cap] w fun e w' => ∃ m, Best f len m ∧ e = .returned (.tuple #[.string (f m).va, .bool true]) ∧ Stands w w' := by
  go_enter Tryz.func7, Tryz.ntmps7
  go_wp2
  go_loopw [4, 5] (fun a i wr => ∃ (k : Nat) (z : Int), k ≤ len ∧ i = .int .i64 k ∧ a = .int .i64 z ∧ At24 f k z ∧ Stands w wr) (fun _ i _ => len - (intOf i).toNat)
  case atStart => exact ⟨0, -1, Nat.zero_le _, rfl, rfl, .inl ⟨rfl, rfl⟩, st_refl _⟩
  case round =>
    obtain ⟨k, z, hk, rfl, rfl, hA, hS⟩ := hrel
    by_cases hlt : k < len
    · have hlt' : (k : Int) < len := by omega
      have hL := Lie.stands hl hS
      obtain ⟨b0, b1, b2, b3, b4, b5, b6⟩ := lie_by hL hlt
      rcases hA with ⟨rfl, rfl⟩ | ⟨m, rfl, hB⟩
      · replace hS := Lib.hid hS
        replace hL := Lib.hid hL
        go_wp2
        refine wp_region_qw mixed (by kernel_rfl) ?_
        repeat (refine QW.step (fun K hK => ?_); go_simp; refine hK _ ?_; clear hK K)
        refine QW.nil ?_
        intro _ hw'
        obtain ⟨pp, hw''⟩ := hw'
        subst hw''
        have hS' := Lib.hid (hS.out.trans' pp.st)
        go_wp2
        go_roundw
        case rel => exact ⟨1, 0, h0, by go_num, rfl, .inr ⟨0, rfl, best_one f⟩, hS'.out⟩
        case measure => simp only [intOf]; omega
      · obtain ⟨e0, e1, e2, e3, e4, e5, e6⟩ := lie_by hL (Nat.lt_trans hB.1 hlt)
        have hm0 : ¬ ((m : Int) < 0) := by omega
        have hml : (m : Int) < len := by have := hB.1; omega
        replace hS := Lib.hid hS
        replace hL := Lib.hid hL
        replace hB := Lib.hid hB
        rcases Nat.lt_trichotomy (f k).n (f m).n with hn | hn | hn
        · have hn1 : ¬ ((f m).n < (f k).n) := by omega
          have hn2 : (((f k).n : Int) == ((f m).n : Int)) = false := by rw [beq_eq_false_iff_ne]; omega
          go_wp2
          refine wp_region_qw mixed (by kernel_rfl) ?_
          repeat (refine QW.step (fun K hK => ?_); go_simp; refine hK _ ?_; clear hK K)
          refine QW.nil ?_
          intro _ hw'
          obtain ⟨pp, hw''⟩ := hw'
          subst hw''
          have hS' := Lib.hid (hS.out.trans' pp.st)
          go_wp2
          go_roundw
          case rel => exact ⟨k + 1, m, by omega, by go_num, rfl, .inr ⟨m, rfl, best_keep hB.out (hd _ _ hlt (Nat.lt_trans hB.out.1 hlt) (by have := hB.out.1; omega)) (fun h => by rcases h with h | ⟨h, _⟩ <;> omega)⟩, hS'.out⟩
          case measure => simp only [intOf]; omega
        · obtain ⟨c, hc, hcall⟩ := rc_any (f k) (f m) hn
          replace hc := Lib.hid hc
          replace hcall := Lib.hid hcall
          have hn1 : ¬ ((f m).n < (f k).n) := by omega
          have hn2 : (((f k).n : Int) == ((f m).n : Int)) = true := by rw [beq_iff_eq]; omega
          have hn0 := Lib.hid hn
          clear hn
          go_wp2
          refine wp_region_qw mixed (by kernel_rfl) ?_
          repeat (refine QW.step (fun K hK => ?_); go_simp; first | (refine hK _ ?_; clear hK K) | (apply Exists.intro; refine ⟨fun _ => ?_, hK _ ?_⟩; (refine Calls.by_stands (hcall.out _)); clear hK K))
          refine QW.nil ?_
          intro _ hw'
          obtain ⟨pp, hw''⟩ := hw'
          subst hw''
          have hS' := Lib.hid (hS.out.trans' pp.st)
          by_cases hpos : 0 < c
          · have hp1 : decide (c > 0) = true := decide_eq_true hpos
            go_wp2
            all_goals first
              | (exfalso; omega)
              | (go_roundw
                 case rel => exact ⟨k + 1, k, by omega, by go_num, rfl, .inr ⟨k, rfl, best_new hB.out (.inr ⟨hn0.out, hc.out.1 hpos⟩)⟩, hS'.out⟩
                 case measure => simp only [intOf]; omega)
          · have hp1 : decide (c > 0) = false := decide_eq_false hpos
            go_wp2
            all_goals first
              | (go_roundw
                 case rel => exact ⟨k + 1, m, by omega, by go_num, rfl, .inr ⟨m, rfl, best_keep hB.out (hd _ _ hlt (Nat.lt_trans hB.out.1 hlt) (by have := hB.out.1; omega)) (fun h => h.elim (fun h => by omega) fun h => hpos (hc.out.2 h.2))⟩, hS'.out⟩
                 case measure => simp only [intOf]; omega)
              | (exfalso; omega)
        · have hn1 : ((f m).n : Int) < (f k).n := by omega
          go_wp2
          refine wp_region_qw mixed (by kernel_rfl) ?_
          repeat (refine QW.step (fun K hK => ?_); go_simp; refine hK _ ?_; clear hK K)
          refine QW.nil ?_
          intro _ hw'
          obtain ⟨pp, hw''⟩ := hw'
          subst hw''
          have hS' := Lib.hid (hS.out.trans' pp.st)
          go_wp2
          go_roundw
          case rel => exact ⟨k + 1, k, by omega, by go_num, rfl, .inr ⟨k, rfl, best_new hB.out (.inl hn)⟩, hS'.out⟩
          case measure => simp only [intOf]; omega
    · obtain rfl : k = len := by omega
      rcases hA with ⟨rfl, rfl⟩ | ⟨m, rfl, hB⟩
      · omega
      · have hL := Lie.stands hl hS
        obtain ⟨e0, e1, e2, e3, e4, e5, e6⟩ := lie_at hL hB.1
        have hm0 : ¬ ((m : Int) < 0) := by omega
        have hml : (m : Int) < k := by have := hB.1; omega
        replace hS := Lib.hid hS
        replace hL := Lib.hid hL
        replace hB := Lib.hid hB
        go_wp2
        go_ret2
        exact ⟨m, hB.out, rfl, hS.out⟩
end Go.Proofs.YtajngeaenfdigaaGreatDoor.Wk
