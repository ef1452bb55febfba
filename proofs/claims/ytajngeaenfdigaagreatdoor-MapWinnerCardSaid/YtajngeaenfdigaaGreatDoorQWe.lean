/-
  Part of the proof of a statement of this seat: walks of its functions and the closed run; no condition but those written in each theorem.
-/
import Derived.Test.YtajngeaenfdigaaGreatDoorQWd
import Derived.DeepKeys
import Derived.Laws.StructEq
import Derived.Test.YtajngeaenfdigaaGreatDoorQWa
import Derived.Test.YtajngeaenfdigaaGreatDoorJK
import Derived.Laws.AppendOwn
import Derived.Deep.AppendLies
/- == of dots. -/
namespace Go.Proofs.YtajngeaenfdigaaGreatDoor.Wk
set_option maxRecDepth 100000
open Go.RowKit Go.VmK Go.MapWin
theorem dot_type : Tryz.prog.keyTypeAt 5 28 = true := by kernel_rfl
theorem lit8 (d : Nat) (a : UInt8) : Tryz.prog.keyLits (d + 1) 5 [.int .u8 (a.toNat : Int)] = some [.int .u8 (a.toNat : Int)] := by
  have hp : (Lit.int .u8 (a.toNat : Int)).wf = true := by
    have := a.toNat_lt
    simp [Lit.wf, IntKind.min, IntKind.max, IntKind.signed, IntKind.bits]; omega
  unfold Program.keyLits
  rw [Tryz.underlying5]
  simp [hp]
theorem lit64 (d n : Nat) (h : n < 18446744073709551616) : Tryz.prog.keyLits (d + 1) 26 [.int .u64 (n : Int)] = some [.int .u64 (n : Int)] := by
  have hp : (Lit.int .u64 (n : Int)).wf = true := by simp [Lit.wf, IntKind.min, IntKind.max, IntKind.signed, IntKind.bits]; omega
  unfold Program.keyLits
  rw [Tryz.underlying26]
  simp [hp]
theorem lit_act (d : Nat) (p q r s : UInt8) : Tryz.prog.keyLits (d + 2) 25 [.int .u8 (p.toNat : Int), .int .u8 (q.toNat : Int), .int .u8 (r.toNat : Int), .int .u8 (s.toNat : Int)] = some [.int .u8 (p.toNat : Int), .int .u8 (q.toNat : Int), .int .u8 (r.toNat : Int), .int .u8 (s.toNat : Int)] := by
  have c1 : Tryz.prog.cellsOf 5 = 1 := by kernel_rfl
  have c4 : Tryz.prog.cellsOf 25 = 4 := by kernel_rfl
  have r4 : List.range 4 = [0, 1, 2, 3] := rfl
  unfold Program.keyLits
  rw [Tryz.underlying25]
  simp [c1, c4, r4, lit8]
theorem dot_lits (x : It) (hn : x.n < 18446744073709551616) : Tryz.prog.keyLits 10 28 (It.dot x) = some [.int .u8 (x.p.toNat : Int), .int .u8 (x.q.toNat : Int), .int .u8 (x.r.toNat : Int), .int .u8 (x.s.toNat : Int), .int .u64 (x.n : Int)] := by
  have c4 : Tryz.prog.cellsOf 25 = 4 := by kernel_rfl
  have c5 : Tryz.prog.cellsOf 28 = 5 := by kernel_rfl
  have c1 : Tryz.prog.cellsOf 26 = 1 := by kernel_rfl
  unfold Program.keyLits
  rw [Tryz.underlying28]
  simp [c1, c4, c5, It.dot, lit_act 7, lit64 8 _ hn]
theorem dot_formed (x : It) : (Value.agg (It.dot x).toArray).formed Tryz.prog 28 = true := by kernel_rfl
theorem same_iff (x y : It) : x.same y ↔ ([.int .u8 (x.p.toNat : Int), .int .u8 (x.q.toNat : Int), .int .u8 (x.r.toNat : Int), .int .u8 (x.s.toNat : Int), .int .u64 (x.n : Int)] : List Lit) = [.int .u8 (y.p.toNat : Int), .int .u8 (y.q.toNat : Int), .int .u8 (y.r.toNat : Int), .int .u8 (y.s.toNat : Int), .int .u64 (y.n : Int)] := by
  have q : ∀ a b : UInt8, a = b ↔ a.toNat = b.toNat := fun a b => ⟨fun h => by rw [h], UInt8.toNat_inj.1⟩
  simp only [It.same, It.act, List.cons.injEq, Lit.int.injEq, true_and, and_true, q]
  omega
/-- == of two dots -/
theorem eq_dots (x y : It) (hx : x.n < 18446744073709551616) (hy : y.n < 18446744073709551616) (w : World) : ∃ r : Bool, (r = true ↔ x.same y) ∧ (Go.binOp .eql 28 (.agg (It.dot x).toArray) (.agg (It.dot y).toArray)).run Tryz.prog w = .ok (.bool r) w := by
  obtain ⟨r, h1, h2⟩ := run_equalIn_deep (P := Tryz.prog) 9995 5 28 dot_type w 10 10 (.agg (It.dot x).toArray) (.agg (It.dot y).toArray) _ _ (dot_formed x) (dot_formed y) (dot_lits x hx) (dot_lits y hy)
  refine ⟨r, by rw [h2, same_iff], ?_⟩
  rw [run_eql_struct, h1]
  rfl
theorem eq_dots' (x y : It) (hx : x.n < 18446744073709551616) (hy : y.n < 18446744073709551616) (b : Bool) (h : b = true ↔ x.same y) (w : World) : (Go.binOp .eql 28 (.agg (It.dot x).toArray) (.agg (It.dot y).toArray)).run Tryz.prog w = .ok (.bool b) w := by
  obtain ⟨r, h1, h2⟩ := eq_dots x y hx hy w
  rw [h2]
  have : r = b := by cases r <;> cases b <;> simp_all
  rw [this]
end Go.Proofs.YtajngeaenfdigaaGreatDoor.Wk
/- MapWinner walked. -/
namespace Go.Proofs.YtajngeaenfdigaaGreatDoor.Wk
set_option maxRecDepth 100000
open Go.RowKit Go.VmK Go.MapWin
theorem infoI : ∃ i, Tryz.prog.info? 30 = some i ∧ i.zero = some (.agg zItem) ∧ i.size = 7 ∧ i.bytes = 48 := by
  have h : (Tryz.prog.info? 30).map (fun i => (i.zero, i.size, i.bytes)) = some (some (.agg zItem), 7, 48) := by kernel_rfl
  obtain ⟨i, hi, h⟩ := Option.map_eq_some_iff.1 h
  simp only [Prod.mk.injEq] at h
  exact ⟨i, hi, h.1, h.2.1, h.2.2⟩
/-- the row turned round: its first so many items -/
def backs (f : Nat → It) (len : Nat) : Nat → List Value
  | 0 => []
  | c + 1 => backs f len c ++ (f (len - 1 - c)).cells
theorem backs_len (f : Nat → It) (len : Nat) : ∀ c, (backs f len c).length = c * 7
  | 0 => rfl
  | c + 1 => by rw [backs, List.length_append, backs_len f len c]; simp [It.cells]; omega
theorem backs_at (f : Nat → It) (len : Nat) : ∀ (c j : Nat), j < c → ∀ (i : Nat) v, (f (len - 1 - j)).cells[i]? = some v → (backs f len c)[j * 7 + i]? = some v
  | c + 1, j, hj, i, v, hv => by
    have hi : i < 7 := by
      have := (List.getElem?_eq_some_iff.1 hv).1
      simpa [It.cells] using this
    rw [backs]
    by_cases e : j < c
    · rw [List.getElem?_append_left (by rw [backs_len]; omega)]
      exact backs_at f len c j e i v hv
    · obtain rfl : j = c := by omega
      rw [List.getElem?_append_right (by rw [backs_len]; omega), backs_len]
      have : j * 7 + i - j * 7 = i := by omega
      rw [this]
      exact hv
def HAlive : Prop := ∀ w : World, Calls Tryz.prog 5 #[] w fun e w' => e = .returned (.bool true) ∧ Stands w w'
theorem law_long (halive : HAlive) (ao : Option Addr) (len cap : Nat) (h : (60 : Int) < len) (W : World) :
    Calls Tryz.prog 3 #[.slice ao len cap] W fun e w' => e = .returned (.bool true) ∧ Stands W w' := by
  have halive := Lib.hid halive
  go_enter Tryz.func3, Tryz.ntmps3
  go_wp2_with (go_at_call 5; refine (halive.out _).mono ?_; rintro e w' ⟨rfl, hst⟩; replace hst := Lib.hid hst)
  go_ret
  exact ⟨rfl, hst.out⟩
theorem law_zero (halive : HAlive) (ao : Option Addr) (cap : Nat) (W : World) :
    Calls Tryz.prog 3 #[.slice ao 0 cap] W fun e w' => e = .returned (.bool true) ∧ Stands W w' := by
  have halive := Lib.hid halive
  go_enter Tryz.func3, Tryz.ntmps3
  go_wp2
  refine wp_loop_rounds 1 ?_
  rw [rounds_succ]
  go_wp2
  refine wp_loop_rounds 1 ?_
  rw [rounds_succ]
  go_wp2_with fail
  refine (winner_none _ _ _).mono ?_
  rintro e w1 ⟨rfl, s1⟩
  replace s1 := Lib.hid s1
  go_wp2_with fail
  refine (winner_none _ _ _).mono ?_
  rintro e w2 ⟨rfl, s2⟩
  replace s2 := Lib.hid s2
  go_wp2_with fail
  refine (rwinner_none _ _ _).mono ?_
  rintro e w3 ⟨rfl, s3⟩
  replace s3 := Lib.hid s3
  go_wp2_with fail
  refine (halive.out _).mono ?_
  rintro e w4 ⟨rfl, s4⟩
  replace s4 := Lib.hid s4
  go_wp2
  go_ret
  exact ⟨rfl, ((s1.out.trans s2.out).trans s3.out).trans s4.out⟩
/-- no two of the first so many have one dot -/
def Apart (f : Nat → It) (a : Nat) : Prop := ∀ i j, i < a → j < a → i ≠ j → ¬ (f i).same (f j)
theorem apart_step {f : Nat → It} {a : Nat} (h : Apart f a) (g : ∀ b, b < a → ¬ (f b).same (f a)) : Apart f (a + 1) := by
  intro i j hi hj hij
  by_cases e : i = a
  · subst e; exact It.nsame (g j (by omega))
  · by_cases e' : j = a
    · subst e'; exact g i (by omega)
    · exact h i j (by omega) (by omega) hij
set_option maxHeartbeats 8000000 in
theorem law_some (halive : HAlive) (f : Nat → It) (hbig : ∀ j, (f j).n < 18446744073709551616) (bk off len cap : Nat) (h0 : 1 ≤ len) (h60 : ¬ (60 : Int) < len) (W : World) (hl : Lie W bk off len f) :
    Calls Tryz.prog 3 #[.slice (some ⟨bk, off, none⟩) len cap] W fun e w' => e = .returned (.bool true) ∧ Stands W w' := by
  replace halive := Lib.hid halive
  replace hl := Lib.hid hl
  replace hbig := Lib.hid hbig
  go_enter Tryz.func3, Tryz.ntmps3
  go_wp2
  go_loopw [3] (fun i wr => ∃ a : Nat, a ≤ len ∧ i = .int .i64 a ∧ Apart f a ∧ Stands W wr) (fun i _ => len - (intOf i).toNat)
  case atStart => exact ⟨0, Nat.zero_le _, rfl, fun i j hi => absurd hi (Nat.not_lt_zero _), Stands.refl _⟩
  case round =>
    obtain ⟨a, ha, rfl, hA, hS⟩ := hrel
    replace hA := Lib.hid hA
    replace hS := Lib.hid hS
    by_cases hlt : a < len
    · have hlt' : (a : Int) < len := by omega
      go_wp2
      go_loopw [4] (fun k wr' => ∃ b : Nat, b ≤ a ∧ k = .int .i64 b ∧ (∀ j, j < b → ¬ (f j).same (f a)) ∧ Stands W wr') (fun k _ => a - (intOf k).toNat)
      case atStart => exact ⟨0, Nat.zero_le _, rfl, fun j hj => absurd hj (Nat.not_lt_zero _), hS.out⟩
      case round =>
        obtain ⟨b, hb, rfl, hB, hS2⟩ := hrel
        replace hB := Lib.hid hB
        by_cases hbl : b < a
        · have hbl' : (b : Int) < a := by omega
          have hbl2 : (b : Int) < len := by omega
          obtain ⟨b0, b1, b2, b3, b4, b5, b6⟩ := lie_by (Lie.stands hl.out hS2) (k := b) (by omega)
          obtain ⟨e0, e1, e2, e3, e4, e5, e6⟩ := lie_by (Lie.stands hl.out hS2) (k := a) (by omega)
          replace hS2 := Lib.hid hS2
          by_cases hsame : (f b).same (f a)
          · have heq := eq_dots' (f b) (f a) (hbig.out _) (hbig.out _) true ⟨fun _ => hsame, fun _ => rfl⟩
            clear hsame
            simp only [It.dot] at heq
            go_wp2
            refine wp_region_qw mixed (by kernel_rfl) ?_
            repeat (refine QW.step (fun K hK => ?_); go_simp; refine hK _ ?_; clear hK K)
            refine QW.nil ?_
            intro _ hw'
            obtain ⟨pp, hw''⟩ := hw'
            subst hw''
            have hS' := Lib.hid (hS2.out.trans pp.st)
            clear heq
            go_wp2_with fail
            refine (halive.out _).mono ?_
            rintro e w1 ⟨rfl, s1⟩
            replace s1 := Lib.hid s1
            go_wp2
            go_ret
            exact ⟨rfl, hS'.out.trans s1.out⟩
          · have heq := eq_dots' (f b) (f a) (hbig.out _) (hbig.out _) false ⟨fun h => (by cases h), fun h => absurd h hsame⟩
            replace hsame := Lib.hid hsame
            simp only [It.dot] at heq
            go_wp2
            refine wp_region_qw mixed (by kernel_rfl) ?_
            repeat (refine QW.step (fun K hK => ?_); go_simp; refine hK _ ?_; clear hK K)
            refine QW.nil ?_
            intro _ hw'
            obtain ⟨pp, hw''⟩ := hw'
            subst hw''
            have hS' := Lib.hid (hS2.out.trans pp.st)
            clear heq
            go_wp2
            go_roundw
            case rel =>
              refine ⟨b + 1, by omega, by go_num, fun j hj => ?_, hS'.out⟩
              by_cases e : j = b
              · subst e; exact hsame.out
              · exact hB.out j (by omega)
            case measure => simp only [intOf]; omega
        · obtain rfl : b = a := by omega
          replace hS2 := Lib.hid hS2
          go_wp2
          go_roundw
          case rel => exact ⟨b + 1, by omega, by go_num, apart_step hA.out hB.out, hS2.out⟩
          case measure => simp only [intOf]; omega
    · obtain rfl : a = len := by omega
      obtain ⟨i0, hi0, hz0, hs0, hy0⟩ := infoI
      replace hi0 := Lib.hid hi0
      replace hz0 := Lib.hid hz0
      replace hs0 := Lib.hid hs0
      replace hy0 := Lib.hid hy0
      go_wp2
      go_loopw [5, 6] (fun b i wr => ∃ q : Nat, q ≤ a ∧ i = .int .i64 ((q : Int) - 1) ∧ wr.ownsRow W.heap.size 30 7 b (a - q) (backs f a (a - q)) ∧ Stands W wr) (fun _ i _ => (intOf i + 1).toNat)
      case atStart => exact ⟨a, Nat.le_refl _, rfl, by rw [Nat.sub_self]; exact World.ownsRow_nil _ _ _ _, hS.out⟩
      case round =>
        obtain ⟨q, hq, rfl, hown, hS3⟩ := hrel
        cases q with
        | zero =>
          obtain ⟨g, gc, rfl, hg1, hg2⟩ := hown.form (by omega)
          have hLb : Lie wr g 0 a fun j => f (a - 1 - j) := fun j hj i v hv => by
            have hi : i < 7 := by
              have := (List.getElem?_eq_some_iff.1 hv).1
              simpa [It.cells] using this
            have e : a - 0 = a := by omega
            rw [e] at hown
            rw [Nat.zero_add]
            exact (hown.cellAt (j * 7 + i) (by omega)).trans (backs_at f a a j hj i v hv)
          replace hown := Lib.hid hown
          replace hLb := Lib.hid hLb
          replace hS3 := Lib.hid hS3
          have h60' : a ≤ 60 := by omega
          go_wp2_with fail
          refine (winner_any f bk off a cap _ h0 h60' (Lie.stands hl.out hS3.out) hA.out).mono ?_
          rintro e w1 ⟨m, hB1, rfl, s1⟩
          replace s1 := Lib.hid s1
          replace hB1 := Lib.hid hB1
          go_wp2_with fail
          refine (winner_any (fun j => f (a - 1 - j)) g 0 (a - 0) gc _ (by omega) (by omega) (Lie.stands hLb.out s1.out) ?_).mono ?_
          · intro i j hi hj hij
            exact hA.out _ _ (by omega) (by omega) (by omega)
          rintro e w2 ⟨n, hB2, rfl, s2⟩
          have hmn : f (a - 1 - n) = f m := best_back hB1.out hB2
          rw [hmn]
          replace s2 := Lib.hid s2
          go_wp2_with fail
          refine (rwinner_any f bk off a cap _ h0 h60' (Lie.stands hl.out ((hS3.out.trans s1.out).trans s2.out)) hA.out).mono ?_
          rintro e w3 ⟨m', hB3, rfl, s3⟩
          obtain rfl := best_uniq hB1.out hB3
          replace s3 := Lib.hid s3
          have h00 : 0 < a := by omega
          go_wp2_with fail
          refine (halive.out _).mono ?_
          rintro e w4 ⟨rfl, s4⟩
          replace s4 := Lib.hid s4
          go_wp2
          go_ret
          exact ⟨rfl, (((hS3.out.trans s1.out).trans s2.out).trans s3.out).trans s4.out⟩
        | succ q =>
          have eq1 : ((q + 1 : Nat) : Int) - 1 = (q : Int) := by omega
          rw [eq1]
          have hqa : (q : Int) < a := by omega
          obtain ⟨b0, b1, b2, b3, b4, b5, b6⟩ := lie_at (Lie.stands hl.out hS3) (k := q) (by omega)
          replace hown := Lib.hid hown
          replace hS3 := Lib.hid hS3
          go_wp2_with (at_builtin; refine wpList_append_own _ rfl _ _ 22 rfl W.heap.size 30 i0 (.agg zItem) 7 48 Tryz.underlying22 hi0.out hz0.out hs0.out hy0.out rfl (by decide) _ _ _ rfl (hown.out.alloc _) ⟨wr.heap.size, 0, none⟩ 1 1 (f q).cells rfl rfl ?c1 ?c2 ?c3 ?c4 ?c5 ?_)
          case c1 =>
            intro j u hj
            rw [addr_add, Nat.zero_add]
            exact cell_laid _ _ _ _ _ (by simpa [It.cells] using hj)
          case c2 =>
            intro u hu
            simp only [It.cells, List.mem_cons, List.mem_nil_iff, or_false] at hu
            rcases hu with rfl | rfl | rfl | rfl | rfl | rfl | rfl <;> rfl
          case c3 => unfold maxLen; omega
          case c4 => omega
          case c5 => exact Nat.le_trans hS3.out.size (by simp)
          intro v' w1 hown' hgrow _
          have hS4 : Stands W w1 := stands_of_owned (hS3.out.trans (stands_alloc _ _ _)) (hown.out.alloc _) hgrow
          replace hown' := Lib.hid hown'
          replace hS4 := Lib.hid hS4
          clear hgrow b0 b1 b2 b3 b4 b5 b6
          go_wp2
          go_roundw
          case rel =>
            refine ⟨q, by omega, by go_num, ?_, hS4.out⟩
            have e1 : a - q = a - (q + 1) + 1 := by omega
            have e2 : a - 1 - (a - (q + 1)) = q := by omega
            rw [e1, backs, e2]
            exact hown'.out
          case measure => simp only [intOf]; omega
end Go.Proofs.YtajngeaenfdigaaGreatDoor.Wk
