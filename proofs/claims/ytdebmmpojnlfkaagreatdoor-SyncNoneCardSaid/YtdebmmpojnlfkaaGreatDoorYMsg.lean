/-
  Part of the proof of a statement of this seat: walks of its functions and the closed run; no condition but those written in each theorem.
-/
import Derived.Test.YtdebmmpojnlfkaaGreatDoorYDelta
import Derived.Test.YtdebmmpojnlfkaaGreatDoorYShort
namespace Go.Proofs.YtdebmmpojnlfkaaGreatDoor.Wk
open Go.RowKit
set_option maxHeartbeats 8000000 in
theorem smallMsg0 (k f t r dk ob : Int) (dn nm lo nx : ByteArray) (dn2 : Bool) (dp ns : Value) (so go so2 go2 : Option Addr) (sl sc gl gc sl2 sc2 gl2 gc2 : Nat) (ao : Option Addr) (cap : Nat) (w : World)
    (hDelta : ∀ w', VmK.Stands w w' → Calls Tryz.prog 14 #[.agg #[.int .i64 dk, .string dn, dp, .slice so sl sc, .slice go gl gc]] w' fun e w'' => (∃ n, e = .returned (.bool n)) ∧ VmK.Stands w' w'')
    (hShort : ∀ w', VmK.Stands w w' → Calls Tryz.prog 15 #[.int .i64 40, .int .i64 3000, ns] w' fun e w'' => (∃ n, e = .returned (.bool n)) ∧ VmK.Stands w' w'') :
    Calls Tryz.prog 4 #[.agg #[.int .i64 k, .int .i64 f, .int .i64 t, .int .i64 r, .int .i64 dk, .string dn, dp, .slice so sl sc, .slice go gl gc, .string nm, .string lo, .string nx, .bool dn2, .int .i64 ob, ns, .slice ao 0 cap, .slice so2 sl2 sc2, .slice go2 gl2 gc2]] w fun e w' => IsBool e ∧ VmK.Stands w w' := by
  have b4 := cell_new' w #[.int .i64 k, .int .i64 f, .int .i64 t, .int .i64 r, .int .i64 dk, .string dn, dp, .slice so sl sc, .slice go gl gc, .string nm, .string lo, .string nx, .bool dn2, .int .i64 ob, ns, .slice ao 0 cap, .slice so2 sl2 sc2, .slice go2 gl2 gc2] 28 4 (.int .i64 dk) rfl
  have b5 := cell_new' w #[.int .i64 k, .int .i64 f, .int .i64 t, .int .i64 r, .int .i64 dk, .string dn, dp, .slice so sl sc, .slice go gl gc, .string nm, .string lo, .string nx, .bool dn2, .int .i64 ob, ns, .slice ao 0 cap, .slice so2 sl2 sc2, .slice go2 gl2 gc2] 28 5 (.string dn) rfl
  have b6 := cell_new' w #[.int .i64 k, .int .i64 f, .int .i64 t, .int .i64 r, .int .i64 dk, .string dn, dp, .slice so sl sc, .slice go gl gc, .string nm, .string lo, .string nx, .bool dn2, .int .i64 ob, ns, .slice ao 0 cap, .slice so2 sl2 sc2, .slice go2 gl2 gc2] 28 6 (dp) rfl
  have b7 := cell_new' w #[.int .i64 k, .int .i64 f, .int .i64 t, .int .i64 r, .int .i64 dk, .string dn, dp, .slice so sl sc, .slice go gl gc, .string nm, .string lo, .string nx, .bool dn2, .int .i64 ob, ns, .slice ao 0 cap, .slice so2 sl2 sc2, .slice go2 gl2 gc2] 28 7 (.slice so sl sc) rfl
  have b8 := cell_new' w #[.int .i64 k, .int .i64 f, .int .i64 t, .int .i64 r, .int .i64 dk, .string dn, dp, .slice so sl sc, .slice go gl gc, .string nm, .string lo, .string nx, .bool dn2, .int .i64 ob, ns, .slice ao 0 cap, .slice so2 sl2 sc2, .slice go2 gl2 gc2] 28 8 (.slice go gl gc) rfl
  have b9 := cell_new' w #[.int .i64 k, .int .i64 f, .int .i64 t, .int .i64 r, .int .i64 dk, .string dn, dp, .slice so sl sc, .slice go gl gc, .string nm, .string lo, .string nx, .bool dn2, .int .i64 ob, ns, .slice ao 0 cap, .slice so2 sl2 sc2, .slice go2 gl2 gc2] 28 9 (.string nm) rfl
  have b10 := cell_new' w #[.int .i64 k, .int .i64 f, .int .i64 t, .int .i64 r, .int .i64 dk, .string dn, dp, .slice so sl sc, .slice go gl gc, .string nm, .string lo, .string nx, .bool dn2, .int .i64 ob, ns, .slice ao 0 cap, .slice so2 sl2 sc2, .slice go2 gl2 gc2] 28 10 (.string lo) rfl
  have b11 := cell_new' w #[.int .i64 k, .int .i64 f, .int .i64 t, .int .i64 r, .int .i64 dk, .string dn, dp, .slice so sl sc, .slice go gl gc, .string nm, .string lo, .string nx, .bool dn2, .int .i64 ob, ns, .slice ao 0 cap, .slice so2 sl2 sc2, .slice go2 gl2 gc2] 28 11 (.string nx) rfl
  have b14 := cell_new' w #[.int .i64 k, .int .i64 f, .int .i64 t, .int .i64 r, .int .i64 dk, .string dn, dp, .slice so sl sc, .slice go gl gc, .string nm, .string lo, .string nx, .bool dn2, .int .i64 ob, ns, .slice ao 0 cap, .slice so2 sl2 sc2, .slice go2 gl2 gc2] 28 14 (ns) rfl
  have b15 := cell_new' w #[.int .i64 k, .int .i64 f, .int .i64 t, .int .i64 r, .int .i64 dk, .string dn, dp, .slice so sl sc, .slice go gl gc, .string nm, .string lo, .string nx, .bool dn2, .int .i64 ob, ns, .slice ao 0 cap, .slice so2 sl2 sc2, .slice go2 gl2 gc2] 28 15 (.slice ao 0 cap) rfl
  have b16 := cell_new' w #[.int .i64 k, .int .i64 f, .int .i64 t, .int .i64 r, .int .i64 dk, .string dn, dp, .slice so sl sc, .slice go gl gc, .string nm, .string lo, .string nx, .bool dn2, .int .i64 ob, ns, .slice ao 0 cap, .slice so2 sl2 sc2, .slice go2 gl2 gc2] 28 16 (.slice so2 sl2 sc2) rfl
  have b17 := cell_new' w #[.int .i64 k, .int .i64 f, .int .i64 t, .int .i64 r, .int .i64 dk, .string dn, dp, .slice so sl sc, .slice go gl gc, .string nm, .string lo, .string nx, .bool dn2, .int .i64 ob, ns, .slice ao 0 cap, .slice so2 sl2 sc2, .slice go2 gl2 gc2] 28 17 (.slice go2 gl2 gc2) rfl
  have hw : VmK.Stands w (w.alloc (.cells #[.int .i64 k, .int .i64 f, .int .i64 t, .int .i64 r, .int .i64 dk, .string dn, dp, .slice so sl sc, .slice go gl gc, .string nm, .string lo, .string nx, .bool dn2, .int .i64 ob, ns, .slice ao 0 cap, .slice so2 sl2 sc2, .slice go2 gl2 gc2] 28)) := VmK.stands_of_grown ((Grown.refl _).alloc _ _)
  go_enter Tryz.func4, Tryz.ntmps4
  go_wp2
  refine wp_loop_rounds 1 ?_
  rw [rounds_succ]
  go_wp2_with (first | (go_at_call 14; refine (hDelta _ hw).mono ?_; rintro e w1 ⟨⟨n1, rfl⟩, st1⟩; have d9 := stands_cell st1 b9; have d10 := stands_cell st1 b10; have d11 := stands_cell st1 b11; have d14 := stands_cell st1 b14; have hw1 := hw.trans st1) | (go_at_call 15; refine (hShort _ hw1).mono ?_; rintro e w2 ⟨⟨n2, rfl⟩, st2⟩; have e9 := stands_cell st2 d9; have e10 := stands_cell st2 d10; have e11 := stands_cell st2 d11; have hw2 := hw1.trans st2))
  all_goals (go_ret; exact ⟨isBool_mk _, by first | exact hw2 | exact hw1 | exact hw⟩)
set_option maxHeartbeats 16000000 in
theorem smallMsg1 (k f t r dk ob : Int) (dn nm lo nx : ByteArray) (dn2 : Bool) (dp ns : Value) (so go so2 go2 : Option Addr) (sl sc gl gc sl2 sc2 gl2 gc2 : Nat) (bk off len cap : Nat) (fs ls : Nat → ByteArray) (w : World) (hbig : len ≤ 9223372036854775807)
    (hc : ∀ j, j < len → w.cell? ⟨bk, off + j * 7 + 0, none⟩ = some (.string (fs j))) (hd : ∀ j, j < len → w.cell? ⟨bk, off + j * 7 + 6, none⟩ = some (.string (ls j)))
    (hDelta : ∀ w', VmK.Stands w w' → Calls Tryz.prog 14 #[.agg #[.int .i64 dk, .string dn, dp, .slice so sl sc, .slice go gl gc]] w' fun e w'' => (∃ n, e = .returned (.bool n)) ∧ VmK.Stands w' w'')
    (hShort : ∀ w', VmK.Stands w w' → Calls Tryz.prog 15 #[.int .i64 40, .int .i64 3000, ns] w' fun e w'' => (∃ n, e = .returned (.bool n)) ∧ VmK.Stands w' w'') :
    Calls Tryz.prog 4 #[.agg #[.int .i64 k, .int .i64 f, .int .i64 t, .int .i64 r, .int .i64 dk, .string dn, dp, .slice so sl sc, .slice go gl gc, .string nm, .string lo, .string nx, .bool dn2, .int .i64 ob, ns, .slice (some ⟨bk, off, none⟩) len cap, .slice so2 sl2 sc2, .slice go2 gl2 gc2]] w fun e w' => IsBool e ∧ VmK.Stands w w' := by
  have b4 := cell_new' w #[.int .i64 k, .int .i64 f, .int .i64 t, .int .i64 r, .int .i64 dk, .string dn, dp, .slice so sl sc, .slice go gl gc, .string nm, .string lo, .string nx, .bool dn2, .int .i64 ob, ns, .slice (some ⟨bk, off, none⟩) len cap, .slice so2 sl2 sc2, .slice go2 gl2 gc2] 28 4 (.int .i64 dk) rfl
  have b5 := cell_new' w #[.int .i64 k, .int .i64 f, .int .i64 t, .int .i64 r, .int .i64 dk, .string dn, dp, .slice so sl sc, .slice go gl gc, .string nm, .string lo, .string nx, .bool dn2, .int .i64 ob, ns, .slice (some ⟨bk, off, none⟩) len cap, .slice so2 sl2 sc2, .slice go2 gl2 gc2] 28 5 (.string dn) rfl
  have b6 := cell_new' w #[.int .i64 k, .int .i64 f, .int .i64 t, .int .i64 r, .int .i64 dk, .string dn, dp, .slice so sl sc, .slice go gl gc, .string nm, .string lo, .string nx, .bool dn2, .int .i64 ob, ns, .slice (some ⟨bk, off, none⟩) len cap, .slice so2 sl2 sc2, .slice go2 gl2 gc2] 28 6 (dp) rfl
  have b7 := cell_new' w #[.int .i64 k, .int .i64 f, .int .i64 t, .int .i64 r, .int .i64 dk, .string dn, dp, .slice so sl sc, .slice go gl gc, .string nm, .string lo, .string nx, .bool dn2, .int .i64 ob, ns, .slice (some ⟨bk, off, none⟩) len cap, .slice so2 sl2 sc2, .slice go2 gl2 gc2] 28 7 (.slice so sl sc) rfl
  have b8 := cell_new' w #[.int .i64 k, .int .i64 f, .int .i64 t, .int .i64 r, .int .i64 dk, .string dn, dp, .slice so sl sc, .slice go gl gc, .string nm, .string lo, .string nx, .bool dn2, .int .i64 ob, ns, .slice (some ⟨bk, off, none⟩) len cap, .slice so2 sl2 sc2, .slice go2 gl2 gc2] 28 8 (.slice go gl gc) rfl
  have b9 := cell_new' w #[.int .i64 k, .int .i64 f, .int .i64 t, .int .i64 r, .int .i64 dk, .string dn, dp, .slice so sl sc, .slice go gl gc, .string nm, .string lo, .string nx, .bool dn2, .int .i64 ob, ns, .slice (some ⟨bk, off, none⟩) len cap, .slice so2 sl2 sc2, .slice go2 gl2 gc2] 28 9 (.string nm) rfl
  have b10 := cell_new' w #[.int .i64 k, .int .i64 f, .int .i64 t, .int .i64 r, .int .i64 dk, .string dn, dp, .slice so sl sc, .slice go gl gc, .string nm, .string lo, .string nx, .bool dn2, .int .i64 ob, ns, .slice (some ⟨bk, off, none⟩) len cap, .slice so2 sl2 sc2, .slice go2 gl2 gc2] 28 10 (.string lo) rfl
  have b11 := cell_new' w #[.int .i64 k, .int .i64 f, .int .i64 t, .int .i64 r, .int .i64 dk, .string dn, dp, .slice so sl sc, .slice go gl gc, .string nm, .string lo, .string nx, .bool dn2, .int .i64 ob, ns, .slice (some ⟨bk, off, none⟩) len cap, .slice so2 sl2 sc2, .slice go2 gl2 gc2] 28 11 (.string nx) rfl
  have b14 := cell_new' w #[.int .i64 k, .int .i64 f, .int .i64 t, .int .i64 r, .int .i64 dk, .string dn, dp, .slice so sl sc, .slice go gl gc, .string nm, .string lo, .string nx, .bool dn2, .int .i64 ob, ns, .slice (some ⟨bk, off, none⟩) len cap, .slice so2 sl2 sc2, .slice go2 gl2 gc2] 28 14 (ns) rfl
  have b15 := cell_new' w #[.int .i64 k, .int .i64 f, .int .i64 t, .int .i64 r, .int .i64 dk, .string dn, dp, .slice so sl sc, .slice go gl gc, .string nm, .string lo, .string nx, .bool dn2, .int .i64 ob, ns, .slice (some ⟨bk, off, none⟩) len cap, .slice so2 sl2 sc2, .slice go2 gl2 gc2] 28 15 (.slice (some ⟨bk, off, none⟩) len cap) rfl
  have b16 := cell_new' w #[.int .i64 k, .int .i64 f, .int .i64 t, .int .i64 r, .int .i64 dk, .string dn, dp, .slice so sl sc, .slice go gl gc, .string nm, .string lo, .string nx, .bool dn2, .int .i64 ob, ns, .slice (some ⟨bk, off, none⟩) len cap, .slice so2 sl2 sc2, .slice go2 gl2 gc2] 28 16 (.slice so2 sl2 sc2) rfl
  have b17 := cell_new' w #[.int .i64 k, .int .i64 f, .int .i64 t, .int .i64 r, .int .i64 dk, .string dn, dp, .slice so sl sc, .slice go gl gc, .string nm, .string lo, .string nx, .bool dn2, .int .i64 ob, ns, .slice (some ⟨bk, off, none⟩) len cap, .slice so2 sl2 sc2, .slice go2 gl2 gc2] 28 17 (.slice go2 gl2 gc2) rfl
  have hB : VmK.Stands w (w.alloc (.cells #[.int .i64 k, .int .i64 f, .int .i64 t, .int .i64 r, .int .i64 dk, .string dn, dp, .slice so sl sc, .slice go gl gc, .string nm, .string lo, .string nx, .bool dn2, .int .i64 ob, ns, .slice (some ⟨bk, off, none⟩) len cap, .slice so2 sl2 sc2, .slice go2 gl2 gc2] 28)) := VmK.stands_of_grown ((Grown.refl _).alloc _ _)
  have hid := hide (And.intro b4 (And.intro b5 (And.intro b6 (And.intro b7 (And.intro b8 (And.intro b9 (And.intro b10 (And.intro b11 (And.intro b14 (And.intro b15 (And.intro b16 b17)))))))))))
  clear b4 b5 b6 b7 b8 b9 b10 b11 b14 b15 b16 b17
  go_enter Tryz.func4, Tryz.ntmps4
  go_wp2
  go_loopw [3, 4] (fun r i w' => ∃ (m : Int) (k : Nat), k ≤ 100 ∧ k ≤ len ∧ r = .int .i64 m ∧ i = .int .i64 k ∧ Grown _ w') (fun _ i _ => len - (intOf i).toNat)
  case atStart => exact ⟨9000, 0, by omega, Nat.zero_le _, rfl, rfl, Grown.refl _⟩
  case round =>
    obtain ⟨m, k, hk0, hk, rfl, rfl, hg⟩ := hrel
    obtain ⟨b4, b5, b6, b7, b8, b9, b10, b11, b14, b15, b16, b17⟩ := hid.out
    replace b4 := grown_cell hg b4
    replace b5 := grown_cell hg b5
    replace b6 := grown_cell hg b6
    replace b7 := grown_cell hg b7
    replace b8 := grown_cell hg b8
    replace b9 := grown_cell hg b9
    replace b10 := grown_cell hg b10
    replace b11 := grown_cell hg b11
    replace b14 := grown_cell hg b14
    replace b15 := grown_cell hg b15
    replace b16 := grown_cell hg b16
    replace b17 := grown_cell hg b17
    have hw := hB.trans (VmK.stands_of_grown hg)
    by_cases hlt : k < len
    · have c1 : wr.cell? ⟨bk, off + k * 7, none⟩ = some (.string (fs k)) := stands_cell hw (hc k hlt)
      have c2 : wr.cell? ⟨bk, off + k * 7 + 6, none⟩ = some (.string (ls k)) := stands_cell hw (hd k hlt)
      have hR := room2 m (fs k).size (ls k).size wr.heap.size (wr.alloc (Obj.cells #[Value.int IntKind.i64 ↑(fs k).size, Value.int IntKind.i64 ↑(ls k).size] 3)).drew 2 (cell_new _ _ _ _ _ rfl) (cell_new _ _ _ _ _ rfl)
      go_wp2_with (first | (go_at_call 14; refine (hDelta _ hw).mono ?_; rintro e w1 ⟨⟨n1, rfl⟩, st1⟩; have d9 := stands_cell st1 b9; have d10 := stands_cell st1 b10; have d11 := stands_cell st1 b11; have d14 := stands_cell st1 b14; have hw1 := hw.trans st1) | (go_at_call 15; refine (hShort _ hw1).mono ?_; rintro e w2 ⟨⟨n2, rfl⟩, st2⟩; have e9 := stands_cell st2 d9; have e10 := stands_cell st2 d10; have e11 := stands_cell st2 d11; have hw2 := hw1.trans st2))
      · go_region_with (go_at_call 13; refine hR.mono ?_; rintro e w' ⟨⟨n, rfl⟩, rfl⟩)
        all_goals
          go_wp2
          go_roundw
          case rel => exact ⟨_, k + 1, by omega, by omega, rfl, by go_num, (hg.alloc _ _).drew⟩
          case measure => simp only [intOf]; omega
      all_goals (go_ret; exact ⟨isBool_mk _, by first | exact hw2 | exact hw1 | exact hw⟩)
    · go_wp2_with (first | (go_at_call 14; refine (hDelta _ hw).mono ?_; rintro e w1 ⟨⟨n1, rfl⟩, st1⟩; have d9 := stands_cell st1 b9; have d10 := stands_cell st1 b10; have d11 := stands_cell st1 b11; have d14 := stands_cell st1 b14; have hw1 := hw.trans st1) | (go_at_call 15; refine (hShort _ hw1).mono ?_; rintro e w2 ⟨⟨n2, rfl⟩, st2⟩; have e9 := stands_cell st2 d9; have e10 := stands_cell st2 d10; have e11 := stands_cell st2 d11; have hw2 := hw1.trans st2))
      all_goals (go_ret; exact ⟨isBool_mk _, by first | exact hw2 | exact hw1 | exact hw⟩)
end Go.Proofs.YtdebmmpojnlfkaaGreatDoor.Wk
