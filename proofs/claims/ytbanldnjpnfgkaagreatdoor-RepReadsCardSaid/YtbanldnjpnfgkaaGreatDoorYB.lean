/-
  Part of the proof of a statement of this seat: walks of its functions and the closed run; no condition but those written in each theorem.
-/
import Derived.Test.YtbanldnjpnfgkaaGreatDoorYA
namespace Go.Proofs.YtbanldnjpnfgkaaGreatDoor.Wk
open Go.RowKit
set_option maxHeartbeats 8000000 in
theorem smallMsg0 (k f t r dk ob : Int) (dn nm lo nx : ByteArray) (dn2 : Bool) (dp ns : Value) (so go so2 go2 : Option Addr) (sl sc gl gc sl2 sc2 gl2 gc2 : Nat) (ao : Option Addr) (cap : Nat) (w : World)
    (hDelta : ∀ w', VmK.Stands w w' → Calls Tryz.prog 56 #[.agg #[.int .i64 dk, .string dn, dp, .slice so sl sc, .slice go gl gc]] w' fun e w'' => (∃ n, e = .returned (.bool n)) ∧ VmK.Stands w' w'')
    (hShort : ∀ w', VmK.Stands w w' → Calls Tryz.prog 57 #[.int .i64 40, .int .i64 3000, ns] w' fun e w'' => (∃ n, e = .returned (.bool n)) ∧ VmK.Stands w' w'') :
    Calls Tryz.prog 20 #[.agg #[.int .i64 k, .int .i64 f, .int .i64 t, .int .i64 r, .int .i64 dk, .string dn, dp, .slice so sl sc, .slice go gl gc, .string nm, .string lo, .string nx, .bool dn2, .int .i64 ob, ns, .slice ao 0 cap, .slice so2 sl2 sc2, .slice go2 gl2 gc2]] w fun e w' => IsBool e ∧ VmK.Stands w w' := by
  have b4 := cell_new' w #[.int .i64 k, .int .i64 f, .int .i64 t, .int .i64 r, .int .i64 dk, .string dn, dp, .slice so sl sc, .slice go gl gc, .string nm, .string lo, .string nx, .bool dn2, .int .i64 ob, ns, .slice ao 0 cap, .slice so2 sl2 sc2, .slice go2 gl2 gc2] 28 4 (.int .i64 dk) rfl
  have b5 := cell_new' w #[.int .i64 k, .int .i64 f, .int .i64 t, .int .i64 r, .int .i64 dk, .string dn, dp, .slice so sl sc, .slice go gl gc, .string nm, .string lo, .string nx, .bool dn2, .int .i64 ob, ns, .slice ao 0 cap, .slice so2 sl2 sc2, .slice go2 gl2 gc2] 28 5 (.string dn) rfl
  have b6 := cell_new' w #[.int .i64 k, .int .i64 f, .int .i64 t, .int .i64 r, .int .i64 dk, .string dn, dp, .slice so sl sc, .slice go gl gc, .string nm, .string lo, .string nx, .bool dn2, .int .i64 ob, ns, .slice ao 0 cap, .slice so2 sl2 sc2, .slice go2 gl2 gc2] 28 6 (dp) rfl
  have b7 := cell_new' w #[.int .i64 k, .int .i64 f, .int .i64 t, .int .i64 r, .int .i64 dk, .string dn, dp, .slice so sl sc, .slice go gl gc, .string nm, .string lo, .string nx, .bool dn2, .int .i64 ob, ns, .slice ao 0 cap, .slice so2 sl2 sc2, .slice go2 gl2 gc2] 28 7 (.slice so sl sc) rfl
  have b8 := cell_new' w #[.int .i64 k, .int .i64 f, .int .i64 t, .int .i64 r, .int .i64 dk, .string dn, dp, .slice so sl sc, .slice go gl gc, .string nm, .string lo, .string nx, .bool dn2, .int .i64 ob, ns, .slice ao 0 cap, .slice so2 sl2 sc2, .slice go2 gl2 gc2] 28 8 (.slice go gl gc) rfl
  have b9 := cell_new' w #[.int .i64 k, .int .i64 f, .int .i64 t, .int .i64 r, .int .i64 dk, .string dn, dp, .slice so sl sc, .slice go gl gc, .string nm, .string lo, .string nx, .bool dn2, .int .i64 ob, ns, .slice ao 0 cap, .slice so2 sl2 sc2, .slice go2 gl2 gc2] 28 9 (.string nm) rfl
  have b10 := cell_new' w #[.int .i64 k, .int .i64 f, .int .i64 t, .int .i64 r, .int .i64 dk, .string dn, dp, .slice so sl sc, .slice go gl gc, .string nm, .string lo, .string nx, .bool dn2, .int .i64 ob, ns, .slice ao 0 cap, .slice so2 sl2 sc2, .slice go2 gl2 gc2] 28 10 (.string lo) rfl
  have b11 := cell_new' w #[.int .i64 k, .int .i64 f, .int .i64 t, .int .i64 r, .int .i64 dk, .string dn, dp, .slice so sl sc, .slice go gl gc, .string nm, .string lo, .string nx, .bool dn2, .int .i64 ob, ns, .slice ao 0 cap, .slice so2 sl2 sc2, .slice go2 gl2 gc2] 28 11 (.string nx) rfl
  have b14 := cell_new' w #[.int .i64 k, .int .i64 f, .int .i64 t, .int .i64 r, .int .i64 dk, .string dn, dp, .slice so sl sc, .slice go gl gc, .string nm, .string lo, .string nx, .bool dn2, .int .i64 ob, ns, .slice ao 0 cap, .slice so2 sl2 sc2, .slice go2 gl2 gc2] 28 14 (ns) rfl
  have b15 := cell_new' w #[.int .i64 k, .int .i64 f, .int .i64 t, .int .i64 r, .int .i64 dk, .string dn, dp, .slice so sl sc, .slice go gl gc, .string nm, .string lo, .string nx, .bool dn2, .int .i64 ob, ns, .slice ao 0 cap, .slice so2 sl2 sc2, .slice go2 gl2 gc2] 28 15 (.slice ao 0 cap) rfl
  have b16 := cell_new' w #[.int .i64 k, .int .i64 f, .int .i64 t, .int .i64 r, .int .i64 dk, .string dn, dp, .slice so sl sc, .slice go gl gc, .string nm, .string lo, .string nx, .bool dn2, .int .i64 ob, ns, .slice ao 0 cap, .slice so2 sl2 sc2, .slice go2 gl2 gc2] 28 16 (.slice so2 sl2 sc2) rfl
  have b17 := cell_new' w #[.int .i64 k, .int .i64 f, .int .i64 t, .int .i64 r, .int .i64 dk, .string dn, dp, .slice so sl sc, .slice go gl gc, .string nm, .string lo, .string nx, .bool dn2, .int .i64 ob, ns, .slice ao 0 cap, .slice so2 sl2 sc2, .slice go2 gl2 gc2] 28 17 (.slice go2 gl2 gc2) rfl
  have hw : VmK.Stands w (w.alloc (.cells #[.int .i64 k, .int .i64 f, .int .i64 t, .int .i64 r, .int .i64 dk, .string dn, dp, .slice so sl sc, .slice go gl gc, .string nm, .string lo, .string nx, .bool dn2, .int .i64 ob, ns, .slice ao 0 cap, .slice so2 sl2 sc2, .slice go2 gl2 gc2] 28)) := VmK.stands_of_grown ((Grown.refl _).alloc _ _)
  go_enter Tryz.func20, Tryz.ntmps20
  go_wp2
  refine wp_loop_rounds 1 ?_
  rw [rounds_succ]
  go_wp2_with (first | (go_at_call 56; refine (hDelta _ hw).mono ?_; rintro e w1 ⟨⟨n1, rfl⟩, st1⟩; have d9 := stands_cell st1 b9; have d10 := stands_cell st1 b10; have d11 := stands_cell st1 b11; have d14 := stands_cell st1 b14; have hw1 := hw.trans st1) | (go_at_call 57; refine (hShort _ hw1).mono ?_; rintro e w2 ⟨⟨n2, rfl⟩, st2⟩; have e9 := stands_cell st2 d9; have e10 := stands_cell st2 d10; have e11 := stands_cell st2 d11; have hw2 := hw1.trans st2))
  all_goals (go_ret; exact ⟨isBool_mk _, by first | exact hw2 | exact hw1 | exact hw⟩)
set_option maxHeartbeats 16000000 in
theorem smallMsg1 (k f t r dk ob : Int) (dn nm lo nx : ByteArray) (dn2 : Bool) (dp ns : Value) (so go so2 go2 : Option Addr) (sl sc gl gc sl2 sc2 gl2 gc2 : Nat) (bk off len cap : Nat) (fs ls : Nat → ByteArray) (w : World) (hbig : len ≤ 9223372036854775807)
    (hc : ∀ j, j < len → w.cell? ⟨bk, off + j * 7 + 0, none⟩ = some (.string (fs j))) (hd : ∀ j, j < len → w.cell? ⟨bk, off + j * 7 + 6, none⟩ = some (.string (ls j)))
    (hDelta : ∀ w', VmK.Stands w w' → Calls Tryz.prog 56 #[.agg #[.int .i64 dk, .string dn, dp, .slice so sl sc, .slice go gl gc]] w' fun e w'' => (∃ n, e = .returned (.bool n)) ∧ VmK.Stands w' w'')
    (hShort : ∀ w', VmK.Stands w w' → Calls Tryz.prog 57 #[.int .i64 40, .int .i64 3000, ns] w' fun e w'' => (∃ n, e = .returned (.bool n)) ∧ VmK.Stands w' w'') :
    Calls Tryz.prog 20 #[.agg #[.int .i64 k, .int .i64 f, .int .i64 t, .int .i64 r, .int .i64 dk, .string dn, dp, .slice so sl sc, .slice go gl gc, .string nm, .string lo, .string nx, .bool dn2, .int .i64 ob, ns, .slice (some ⟨bk, off, none⟩) len cap, .slice so2 sl2 sc2, .slice go2 gl2 gc2]] w fun e w' => IsBool e ∧ VmK.Stands w w' := by
  have b4 := cell_new' w #[.int .i64 k, .int .i64 f, .int .i64 t, .int .i64 r, .int .i64 dk, .string dn, dp, .slice so sl sc, .slice go gl gc, .string nm, .string lo, .string nx, .bool dn2, .int .i64 ob, ns, .slice (some ⟨bk, off, none⟩) len cap, .slice so2 sl2 sc2, .slice go2 gl2 gc2] 28 4 (.int .i64 dk) rfl
  have b5 := cell_new' w #[.int .i64 k, .int .i64 f, .int .i64 t, .int .i64 r, .int .i64 dk, .string dn, dp, .slice so sl sc, .slice go gl gc, .string nm, .string lo, .string nx, .bool dn2, .int .i64 ob, ns, .slice (some ⟨bk, off, none⟩) len cap, .slice so2 sl2 sc2, .slice go2 gl2 gc2] 28 5 (.string dn) rfl
  have b6 := cell_new' w #[.int .i64 k, .int .i64 f, .int .i64 t, .int .i64 r, .int .i64 dk, .string dn, dp, .slice so sl sc, .slice go gl gc, .string nm, .string lo, .string nx, .bool dn2, .int .i64 ob, ns, .slice (some ⟨bk, off, none⟩) len cap, .slice so2 sl2 sc2, .slice go2 gl2 gc2] 28 6 (dp) rfl
  have b7 := cell_new' w #[.int .i64 k, .int .i64 f, .int .i64 t, .int .i64 r, .int .i64 dk, .string dn, dp, .slice so sl sc, .slice go gl gc, .string nm, .string lo, .string nx, .bool dn2, .int .i64 ob, ns, .slice (some ⟨bk, off, none⟩) len cap, .slice so2 sl2 sc2, .slice go2 gl2 gc2] 28 7 (.slice so sl sc) rfl
  have b8 := cell_new' w #[.int .i64 k, .int .i64 f, .int .i64 t, .int .i64 r, .int .i64 dk, .string dn, dp, .slice so sl sc, .slice go gl gc, .string nm, .string lo, .string nx, .bool dn2, .int .i64 ob, ns, .slice (some ⟨bk, off, none⟩) len cap, .slice so2 sl2 sc2, .slice go2 gl2 gc2] 28 8 (.slice go gl gc) rfl
  have b9 := cell_new' w #[.int .i64 k, .int .i64 f, .int .i64 t, .int .i64 r, .int .i64 dk, .string dn, dp, .slice so sl sc, .slice go gl gc, .string nm, .string lo, .string nx, .bool dn2, .int .i64 ob, ns, .slice (some ⟨bk, off, none⟩) len cap, .slice so2 sl2 sc2, .slice go2 gl2 gc2] 28 9 (.string nm) rfl
  have b10 := cell_new' w #[.int .i64 k, .int .i64 f, .int .i64 t, .int .i64 r, .int .i64 dk, .string dn, dp, .slice so sl sc, .slice go gl gc, .string nm, .string lo, .string nx, .bool dn2, .int .i64 ob, ns, .slice (some ⟨bk, off, none⟩) len cap, .slice so2 sl2 sc2, .slice go2 gl2 gc2] 28 10 (.string lo) rfl
  have b11 := cell_new' w #[.int .i64 k, .int .i64 f, .int .i64 t, .int .i64 r, .int .i64 dk, .string dn, dp, .slice so sl sc, .slice go gl gc, .string nm, .string lo, .string nx, .bool dn2, .int .i64 ob, ns, .slice (some ⟨bk, off, none⟩) len cap, .slice so2 sl2 sc2, .slice go2 gl2 gc2] 28 11 (.string nx) rfl
  have b14 := cell_new' w #[.int .i64 k, .int .i64 f, .int .i64 t, .int .i64 r, .int .i64 dk, .string dn, dp, .slice so sl sc, .slice go gl gc, .string nm, .string lo, .string nx, .bool dn2, .int .i64 ob, ns, .slice (some ⟨bk, off, none⟩) len cap, .slice so2 sl2 sc2, .slice go2 gl2 gc2] 28 14 (ns) rfl
  have b15 := cell_new' w #[.int .i64 k, .int .i64 f, .int .i64 t, .int .i64 r, .int .i64 dk, .string dn, dp, .slice so sl sc, .slice go gl gc, .string nm, .string lo, .string nx, .bool dn2, .int .i64 ob, ns, .slice (some ⟨bk, off, none⟩) len cap, .slice so2 sl2 sc2, .slice go2 gl2 gc2] 28 15 (.slice (some ⟨bk, off, none⟩) len cap) rfl
  have b16 := cell_new' w #[.int .i64 k, .int .i64 f, .int .i64 t, .int .i64 r, .int .i64 dk, .string dn, dp, .slice so sl sc, .slice go gl gc, .string nm, .string lo, .string nx, .bool dn2, .int .i64 ob, ns, .slice (some ⟨bk, off, none⟩) len cap, .slice so2 sl2 sc2, .slice go2 gl2 gc2] 28 16 (.slice so2 sl2 sc2) rfl
  have b17 := cell_new' w #[.int .i64 k, .int .i64 f, .int .i64 t, .int .i64 r, .int .i64 dk, .string dn, dp, .slice so sl sc, .slice go gl gc, .string nm, .string lo, .string nx, .bool dn2, .int .i64 ob, ns, .slice (some ⟨bk, off, none⟩) len cap, .slice so2 sl2 sc2, .slice go2 gl2 gc2] 28 17 (.slice go2 gl2 gc2) rfl
  have hB : VmK.Stands w (w.alloc (.cells #[.int .i64 k, .int .i64 f, .int .i64 t, .int .i64 r, .int .i64 dk, .string dn, dp, .slice so sl sc, .slice go gl gc, .string nm, .string lo, .string nx, .bool dn2, .int .i64 ob, ns, .slice (some ⟨bk, off, none⟩) len cap, .slice so2 sl2 sc2, .slice go2 gl2 gc2] 28)) := VmK.stands_of_grown ((Grown.refl _).alloc _ _)
  have hid := hide (And.intro b4 (And.intro b5 (And.intro b6 (And.intro b7 (And.intro b8 (And.intro b9 (And.intro b10 (And.intro b11 (And.intro b14 (And.intro b15 (And.intro b16 b17)))))))))))
  clear b4 b5 b6 b7 b8 b9 b10 b11 b14 b15 b16 b17
  go_enter Tryz.func20, Tryz.ntmps20
  go_wp2
  go_loopw [3, 4] (fun r i w' => ∃ (m : Int) (k : Nat), k ≤ 100 ∧ k ≤ len ∧ r = .int .i64 m ∧ i = .int .i64 k ∧ Grown _ w') (fun _ i _ => len - (intOf i).toNat)
  case atStart => exact ⟨9000, 0, by omega, Nat.zero_le _, rfl, rfl, Grown.refl _⟩
  case round =>
    obtain ⟨m, k, hk0, hk, rfl, rfl, hg⟩ := hrel
    obtain ⟨b4, b5, b6, b7, b8, b9, b10, b11, b14, b15, b16, b17⟩ := hid.out
    replace b4 := grown_cell hg b4
    replace b5 := grown_cell hg b5
    replace b6 := grown_cell hg b6
    replace b7 := grown_cell hg b7
    replace b8 := grown_cell hg b8
    replace b9 := grown_cell hg b9
    replace b10 := grown_cell hg b10
    replace b11 := grown_cell hg b11
    replace b14 := grown_cell hg b14
    replace b15 := grown_cell hg b15
    replace b16 := grown_cell hg b16
    replace b17 := grown_cell hg b17
    have hw := hB.trans (VmK.stands_of_grown hg)
    by_cases hlt : k < len
    · have c1 : wr.cell? ⟨bk, off + k * 7, none⟩ = some (.string (fs k)) := stands_cell hw (hc k hlt)
      have c2 : wr.cell? ⟨bk, off + k * 7 + 6, none⟩ = some (.string (ls k)) := stands_cell hw (hd k hlt)
      have hR := room2 m (fs k).size (ls k).size wr.heap.size (wr.alloc (Obj.cells #[Value.int IntKind.i64 ↑(fs k).size, Value.int IntKind.i64 ↑(ls k).size] 3)).drew 2 (cell_new _ _ _ _ _ rfl) (cell_new _ _ _ _ _ rfl)
      go_wp2_with (first | (go_at_call 56; refine (hDelta _ hw).mono ?_; rintro e w1 ⟨⟨n1, rfl⟩, st1⟩; have d9 := stands_cell st1 b9; have d10 := stands_cell st1 b10; have d11 := stands_cell st1 b11; have d14 := stands_cell st1 b14; have hw1 := hw.trans st1) | (go_at_call 57; refine (hShort _ hw1).mono ?_; rintro e w2 ⟨⟨n2, rfl⟩, st2⟩; have e9 := stands_cell st2 d9; have e10 := stands_cell st2 d10; have e11 := stands_cell st2 d11; have hw2 := hw1.trans st2))
      · go_region_with (go_at_call 55; refine hR.mono ?_; rintro e w' ⟨⟨n, rfl⟩, rfl⟩)
        all_goals
          go_wp2
          go_roundw
          case rel => exact ⟨_, k + 1, by omega, by omega, rfl, by go_num, (hg.alloc _ _).drew⟩
          case measure => simp only [intOf]; omega
      all_goals (go_ret; exact ⟨isBool_mk _, by first | exact hw2 | exact hw1 | exact hw⟩)
    · go_wp2_with (first | (go_at_call 56; refine (hDelta _ hw).mono ?_; rintro e w1 ⟨⟨n1, rfl⟩, st1⟩; have d9 := stands_cell st1 b9; have d10 := stands_cell st1 b10; have d11 := stands_cell st1 b11; have d14 := stands_cell st1 b14; have hw1 := hw.trans st1) | (go_at_call 57; refine (hShort _ hw1).mono ?_; rintro e w2 ⟨⟨n2, rfl⟩, st2⟩; have e9 := stands_cell st2 d9; have e10 := stands_cell st2 d10; have e11 := stands_cell st2 d11; have hw2 := hw1.trans st2))
      all_goals (go_ret; exact ⟨isBool_mk _, by first | exact hw2 | exact hw1 | exact hw⟩)
end Go.Proofs.YtbanldnjpnfgkaaGreatDoor.Wk
namespace Go.Proofs.YtbanldnjpnfgkaaGreatDoor.Wk
set_option maxRecDepth 100000
open Go.RowKit Go.VmK Go.ChangeShapes Go.WideShapes
/-- a slice of texts -/
def Strs (w : World) (v : Value) : Prop := (∃ ao cap, v = .slice ao 0 cap) ∨ ∃ (bk off len cap : Nat) (fs : Nat → ByteArray), v = .slice (some ⟨bk, off, none⟩) len cap ∧ len ≤ 9223372036854775807 ∧ ∀ j, j < len → w.cell? ⟨bk, off + j, none⟩ = some (.string (fs j))
theorem Strs.stands {w w' : World} {x : Value} (h : Strs w x) (hg : Stands w w') : Strs w' x := by
  rcases h with h | ⟨bk, off, len, cap, fs, rfl, h1, h2⟩
  · exact .inl h
  · exact .inr ⟨bk, off, len, cap, fs, rfl, h1, fun j hj => stands_cell hg (h2 j hj)⟩
theorem delta_any {k : Int} {nm : ByteArray} {x : Value} {so go : Option Addr} {sl sc gl gc : Nat} {w : World} (h : Texts 7 0 6 w x) :
    Calls Tryz.prog 56 #[.agg #[.int .i64 k, .string nm, x, .slice so sl sc, .slice go gl gc]] w fun e w' => IsBool e ∧ Stands w w' := by
  rcases h with ⟨ao, cap, rfl⟩ | ⟨bk, off, len, cap, fs, ls, rfl, h1, h2, h3⟩
  · exact (smallDelta0 k nm ao so go cap sl sc gl gc w).mono fun e w' ⟨h1, h2⟩ => ⟨h1, stands_of_grown h2⟩
  · exact smallDelta1 k nm so go sl sc gl gc bk off len cap fs ls w h1 h2 h3
theorem short_any {few rm : Int} {x : Value} {w : World} (h : Strs w x) :
    Calls Tryz.prog 57 #[.int .i64 few, .int .i64 rm, x] w fun e w' => IsBool e ∧ Stands w w' := by
  rcases h with ⟨ao, cap, rfl⟩ | ⟨bk, off, len, cap, fs, rfl, h1, h2⟩
  · exact (short0 few rm ao cap w).mono fun e w' ⟨h1, h2⟩ => ⟨h1, stands_of_grown h2⟩
  · exact (short1 few rm bk off len cap fs w h1 h2).mono fun e w' ⟨h1, h2⟩ => ⟨h1, stands_of_grown h2⟩
theorem msg_any (k f t r dk ob : Int) (dn nm lo nx : ByteArray) (dn2 : Bool) (dp ns it : Value) (so go so2 go2 : Option Addr) (sl sc gl gc sl2 sc2 gl2 gc2 : Nat) (w : World) (hd : Texts 7 0 6 w dp) (hi : Texts 7 0 6 w it) (hn : Strs w ns) :
    Calls Tryz.prog 20 #[.agg #[.int .i64 k, .int .i64 f, .int .i64 t, .int .i64 r, .int .i64 dk, .string dn, dp, .slice so sl sc, .slice go gl gc, .string nm, .string lo, .string nx, .bool dn2, .int .i64 ob, ns, it, .slice so2 sl2 sc2, .slice go2 gl2 gc2]] w
      fun e w' => IsBool e ∧ Stands w w' := by
  rcases hi with ⟨ao, cap, rfl⟩ | ⟨bk, off, len, cap, fs, ls, rfl, h1, h2, h3⟩
  · exact smallMsg0 k f t r dk ob dn nm lo nx dn2 dp ns so go so2 go2 sl sc gl gc sl2 sc2 gl2 gc2 ao cap w (fun w' st => delta_any (hd.stands st)) (fun w' st => short_any (hn.stands st))
  · exact smallMsg1 k f t r dk ob dn nm lo nx dn2 dp ns so go so2 go2 sl sc gl gc sl2 sc2 gl2 gc2 bk off len cap fs ls w h1 h2 h3 (fun w' st => delta_any (hd.stands st)) (fun w' st => short_any (hn.stands st))
variable {H : Type} {enc : TypeId × Value → H} {W : World} {base : Nat} {spare : Nat → Bool} {held : Bool} {n : Nat}
theorem agg_of {P : Program} {t : TypeId} {fs : Array Field} {v : Value} (ht : P.underlying t = some (.struct fs)) (h : Value.okWide P W .any base t v) : ∃ cs, v = .agg cs ∧ cs.size = P.cellsOf t := by
  unfold Value.okWide at h
  rw [ht] at h
  obtain ⟨cs, h1, h2, _⟩ := h
  exact ⟨cs, h1, h2⟩
theorem int_at {P : Program} {t : TypeId} {k : IntKind} {cs : List Value} {x : DataW H × List MemPlace} (ht : P.underlying t = some (.int k)) (h : DataW.trod enc P W base spare held n t cs = some x) : ∃ m, cs = [.int k m] := by
  obtain ⟨m, h1, _⟩ := DataW.trod_int ht h; exact ⟨m, h1⟩
theorem str_at {P : Program} {t : TypeId} {cs : List Value} {x : DataW H × List MemPlace} (ht : P.underlying t = some .string) (h : DataW.trod enc P W base spare held n t cs = some x) : ∃ s, cs = [.string s] := by
  obtain ⟨m, h1, _⟩ := DataW.trod_string ht h; exact ⟨m, h1⟩
theorem bool_at {P : Program} {t : TypeId} {cs : List Value} {x : DataW H × List MemPlace} (ht : P.underlying t = some .bool) (h : DataW.trod enc P W base spare held n t cs = some x) : ∃ b, cs = [.bool b] := by
  obtain ⟨m, h1, _⟩ := DataW.trod_bool ht h; exact ⟨m, h1⟩
theorem slice_at {P : Program} {t e : TypeId} {cs : List Value} {x : DataW H × List MemPlace} (ht : P.underlying t = some (.slice e)) (h : DataW.trod enc P W base spare held n t cs = some x) : ∃ ao len cap, cs = [.slice ao len cap] := by
  rcases DataW.trod_slice ht h with ⟨h1, _⟩ | ⟨a, len, cap, _, _, _, _, h1, _⟩
  · exact ⟨_, _, _, h1⟩
  · exact ⟨_, _, _, h1⟩
theorem texts_at {P : Program} {t e st : TypeId} {fs : Array Field} {i j : Nat} {f g : Field} {sz : Nat} {cs : List Value} {x : DataW H × List MemPlace} (ht : P.underlying t = some (.slice e)) (he : P.underlying e = some (.struct fs)) (hs : P.underlying st = some .string) (hc : P.cellsOf st = 1)
    (hz : P.cellsOf e = sz) (hp : 0 < sz) (h1 : fs[i]? = some f) (h2 : fs[j]? = some g) (t1 : f.type = st) (t2 : g.type = st) (o1 : f.offset < sz) (o2 : g.offset < sz) (h : DataW.trod enc P W base spare held n t cs = some x) : ∃ v, cs = [v] ∧ Texts sz f.offset g.offset W v := by
  subst hz
  rcases open_rows ht he hp h with ⟨ao, cap, rfl⟩ | ⟨bk, off, len, cap, rfl, h4, h5⟩
  · exact ⟨_, rfl, .inl ⟨ao, cap, rfl⟩⟩
  · have a := h5 i f h1 (by rw [t1]; exact hs) (by rw [t1]; exact hc) o1
    have b := h5 j g h2 (by rw [t2]; exact hs) (by rw [t2]; exact hc) o2
    refine ⟨_, rfl, .inr ⟨bk, off, len, cap, fun j => if hj : j < len then (a j hj).choose else ByteArray.empty, fun j => if hj : j < len then (b j hj).choose else ByteArray.empty, rfl, by unfold maxLen at h4; omega, fun j hj => ?_, fun j hj => ?_⟩⟩
    · simp only [dif_pos hj]; exact (a j hj).choose_spec
    · simp only [dif_pos hj]; exact (b j hj).choose_spec
theorem strs_at {P : Program} {t e : TypeId} {cs : List Value} {x : DataW H × List MemPlace} (ht : P.underlying t = some (.slice e)) (he : P.underlying e = some .string) (hc : P.cellsOf e = 1) (h : DataW.trod enc P W base spare held n t cs = some x) : ∃ v, cs = [v] ∧ Strs W v := by
  rcases open_strings ht he hc h with ⟨rfl, _⟩ | ⟨a, len, cap, ss, rfl, hb, hl, hm, hlen, _, hcell, _⟩
  · exact ⟨_, rfl, .inl ⟨none, 0, rfl⟩⟩
  · refine ⟨_, rfl, ?_⟩
    by_cases h0 : len = 0
    · subst h0; exact .inl ⟨_, _, rfl⟩
    · have hle : len ≤ ss.length := by rw [hlen]; split <;> omega
      have hspot : a.spot = none := by
        have h1 := hcell 0 (by omega)
        have hz : a.add 0 = a := by simp [Addr.add]
        rw [hz] at h1
        cases hq : a.spot with
        | none => rfl
        | some s =>
          have : W.cell? a = none := by
            unfold World.cell?
            split <;> simp [hq]
          rw [this] at h1
          cases h1
      obtain ⟨bk, off, sp⟩ := a
      cases hspot
      refine .inr ⟨bk, off, len, cap, fun i => ss.getD i ByteArray.empty, rfl, by unfold maxLen at hm; omega, fun j hj => ?_⟩
      have h1 := hcell j (by omega)
      have hadd : (⟨bk, off, none⟩ : Addr).add j = ⟨bk, off + j, none⟩ := by
        unfold Addr.add
        split <;> simp_all
      rw [hadd] at h1
      exact h1
end Go.Proofs.YtbanldnjpnfgkaaGreatDoor.Wk
