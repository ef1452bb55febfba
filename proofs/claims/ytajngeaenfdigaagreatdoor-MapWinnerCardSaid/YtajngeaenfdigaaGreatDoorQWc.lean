/-
  Part of the proof of a statement of this seat: walks of its functions and the closed run; no condition but those written in each theorem.
-/
import Derived.Test.YtajngeaenfdigaaGreatDoorQWb
import Derived.Test.YtajngeaenfdigaaGreatDoorQWa
import Derived.WalkKit
import Derived.KernelRfl
import Derived.Laws.Rows
/- slices.MaxFunc of items. -/
namespace Go.Proofs.YtajngeaenfdigaaGreatDoor.Wk
set_option maxRecDepth 100000
open Go.RowKit Go.VmK Go.MapWin
theorem lie_at {w : World} {bk off len : Nat} {f : Nat → It} (h : Lie w bk off len f) {k : Nat} (hk : k < len) :
    w.cell? ⟨bk, off + k * 7, none⟩ = some (.string (f k).el) ∧ w.cell? ⟨bk, off + k * 7 + 1, none⟩ = some (.int .u8 ((f k).p.toNat : Int)) ∧ w.cell? ⟨bk, off + k * 7 + 2, none⟩ = some (.int .u8 ((f k).q.toNat : Int)) ∧ w.cell? ⟨bk, off + k * 7 + 3, none⟩ = some (.int .u8 ((f k).r.toNat : Int)) ∧ w.cell? ⟨bk, off + k * 7 + 4, none⟩ = some (.int .u8 ((f k).s.toNat : Int)) ∧ w.cell? ⟨bk, off + k * 7 + 5, none⟩ = some (.int .u64 ((f k).n : Int)) ∧ w.cell? ⟨bk, off + k * 7 + 6, none⟩ = some (.string (f k).va) :=
  ⟨h k hk 0 _ rfl, h k hk 1 _ rfl, h k hk 2 _ rfl, h k hk 3 _ rfl, h k hk 4 _ rfl, h k hk 5 _ rfl, h k hk 6 _ rfl⟩
theorem Lie.stands {w w' : World} {bk off len : Nat} {f : Nat → It} (h : Lie w bk off len f) (g : Stands w w') : Lie w' bk off len f := fun j hj i v hv => by
  have := h j hj i v hv
  have hlt : bk < w.heap.size := by
    cases hq : w.heap[bk]? with
    | none => simp [World.cell?, hq] at this
    | some o => exact (Array.getElem?_eq_some_iff.1 hq).1
  unfold World.cell? at this ⊢
  rw [g.blocks bk hlt]
  exact this
theorem stands_alloc1 (w : World) (o : Obj) : Stands w (w.alloc o) := ⟨rfl, rfl, by simp, fun b hb => RowKit.Below.heap_alloc _ _ _ hb⟩
theorem lie_alloc {w : World} {bk off len : Nat} {f : Nat → It} (h : Lie w bk off len f) {k : Nat} (hk : k < len) :
    (∀ o, (w.alloc o).cell? ⟨bk, off + k * 7, none⟩ = some (.string (f k).el)) ∧ (∀ o, (w.alloc o).cell? ⟨bk, off + k * 7 + 1, none⟩ = some (.int .u8 ((f k).p.toNat : Int))) ∧ (∀ o, (w.alloc o).cell? ⟨bk, off + k * 7 + 2, none⟩ = some (.int .u8 ((f k).q.toNat : Int))) ∧ (∀ o, (w.alloc o).cell? ⟨bk, off + k * 7 + 3, none⟩ = some (.int .u8 ((f k).r.toNat : Int))) ∧ (∀ o, (w.alloc o).cell? ⟨bk, off + k * 7 + 4, none⟩ = some (.int .u8 ((f k).s.toNat : Int))) ∧ (∀ o, (w.alloc o).cell? ⟨bk, off + k * 7 + 5, none⟩ = some (.int .u64 ((f k).n : Int))) ∧ (∀ o, (w.alloc o).cell? ⟨bk, off + k * 7 + 6, none⟩ = some (.string (f k).va)) := by
  have g : ∀ o, Lie (w.alloc o) bk off len f := fun o => Lie.stands h (stands_alloc1 w o)
  exact ⟨fun o => (lie_at (g o) hk).1, fun o => (lie_at (g o) hk).2.1, fun o => (lie_at (g o) hk).2.2.1, fun o => (lie_at (g o) hk).2.2.2.1, fun o => (lie_at (g o) hk).2.2.2.2.1, fun o => (lie_at (g o) hk).2.2.2.2.2.1, fun o => (lie_at (g o) hk).2.2.2.2.2.2⟩
theorem lie_by {w : World} {bk off len : Nat} {f : Nat → It} (h : Lie w bk off len f) {k : Nat} (hk : k < len) :
    (∀ p : StBy w, p.u.cell? ⟨bk, off + k * 7, none⟩ = some (.string (f k).el)) ∧ (∀ p : StBy w, p.u.cell? ⟨bk, off + k * 7 + 1, none⟩ = some (.int .u8 ((f k).p.toNat : Int))) ∧ (∀ p : StBy w, p.u.cell? ⟨bk, off + k * 7 + 2, none⟩ = some (.int .u8 ((f k).q.toNat : Int))) ∧ (∀ p : StBy w, p.u.cell? ⟨bk, off + k * 7 + 3, none⟩ = some (.int .u8 ((f k).r.toNat : Int))) ∧ (∀ p : StBy w, p.u.cell? ⟨bk, off + k * 7 + 4, none⟩ = some (.int .u8 ((f k).s.toNat : Int))) ∧ (∀ p : StBy w, p.u.cell? ⟨bk, off + k * 7 + 5, none⟩ = some (.int .u64 ((f k).n : Int))) ∧ (∀ p : StBy w, p.u.cell? ⟨bk, off + k * 7 + 6, none⟩ = some (.string (f k).va)) := by
  have g : ∀ p : StBy w, Lie p.u bk off len f := fun p => Lie.stands h p.st
  exact ⟨fun o => (lie_at (g o) hk).1, fun o => (lie_at (g o) hk).2.1, fun o => (lie_at (g o) hk).2.2.1, fun o => (lie_at (g o) hk).2.2.2.1, fun o => (lie_at (g o) hk).2.2.2.2.1, fun o => (lie_at (g o) hk).2.2.2.2.2.1, fun o => (lie_at (g o) hk).2.2.2.2.2.2⟩
theorem item_by {w : World} {b t : Nat} {x : It} (h : w.heap[b]? = some (.cells x.cells.toArray t)) :
    (∀ p : StBy w, p.u.cell? ⟨b, 0, none⟩ = some (.string x.el)) ∧ (∀ p : StBy w, p.u.cell? ⟨b, 1, none⟩ = some (.int .u8 (x.p.toNat : Int))) ∧ (∀ p : StBy w, p.u.cell? ⟨b, 2, none⟩ = some (.int .u8 (x.q.toNat : Int))) ∧ (∀ p : StBy w, p.u.cell? ⟨b, 3, none⟩ = some (.int .u8 (x.r.toNat : Int))) ∧ (∀ p : StBy w, p.u.cell? ⟨b, 4, none⟩ = some (.int .u8 (x.s.toNat : Int))) ∧ (∀ p : StBy w, p.u.cell? ⟨b, 5, none⟩ = some (.int .u64 (x.n : Int))) ∧ (∀ p : StBy w, p.u.cell? ⟨b, 6, none⟩ = some (.string x.va)) := by
  have g : ∀ i, w.cell? ⟨b, i, none⟩ = x.cells.toArray[i]? := fun i => by simp [World.cell?, h]
  exact ⟨fun p => p.cell ((g 0).trans rfl), fun p => p.cell ((g 1).trans rfl), fun p => p.cell ((g 2).trans rfl), fun p => p.cell ((g 3).trans rfl), fun p => p.cell ((g 4).trans rfl), fun p => p.cell ((g 5).trans rfl), fun p => p.cell ((g 6).trans rfl)⟩
theorem _root_.Go.VmK.Stands.trans' {a b c : World} (h : Stands a b) (g : Stands b c) : Stands a c :=
  ⟨g.os.trans h.os, g.output.trans h.output, Nat.le_trans h.size g.size, fun i hi => (g.blocks i (Nat.lt_of_lt_of_le hi h.size)).trans (h.blocks i hi)⟩
theorem heap_new (w : World) (o : Obj) : (w.alloc o).heap[w.heap.size]? = some o := (MapKept.heap_alloc w o).1
theorem frozen_no {w : World} {b : Nat} {cs : Array Value} {t : Nat} (h : w.heap[b]? = some (.cells cs t)) (i : Nat) : w.frozen? ⟨b, i, none⟩ = false := by
  unfold World.frozen?
  rw [h]
  simp
theorem set_at {u : World} {b i t : Nat} {cs : Array Value} {v : Value} (h : u.heap[b]? = some (.cells cs t)) : (u.setCell ⟨b, i, none⟩ v).heap[b]? = some (.cells (cs.setIfInBounds i v) t) := by
  unfold World.setCell
  rw [Array.getElem?_modify, if_pos rfl, h]
  rfl
def put7 (u : World) (b : Nat) (x : It) : World := ((((((u.setCell ⟨b, 0, none⟩ (.string x.el)).setCell ⟨b, 1, none⟩ (.int .u8 (x.p.toNat : Int))).setCell ⟨b, 2, none⟩ (.int .u8 (x.q.toNat : Int))).setCell ⟨b, 3, none⟩ (.int .u8 (x.r.toNat : Int))).setCell ⟨b, 4, none⟩ (.int .u8 (x.s.toNat : Int))).setCell ⟨b, 5, none⟩ (.int .u64 (x.n : Int))).setCell ⟨b, 6, none⟩ (.string x.va)
/-- worlds that part at one block alone -/
structure OffAt (b : Nat) (u u' : World) : Prop where
  os : u'.os = u.os
  output : u'.output = u.output
  size : u'.heap.size = u.heap.size
  blocks : ∀ j, j ≠ b → u'.heap[j]? = u.heap[j]?
theorem OffAt.set (u : World) (b i : Nat) (v : Value) : OffAt b u (u.setCell ⟨b, i, none⟩ v) :=
  ⟨rfl, rfl, by simp [World.setCell], fun j hj => by
    unfold World.setCell
    rw [Array.getElem?_modify, if_neg (Ne.symm hj)]⟩
theorem OffAt.trans {b : Nat} {u v w : World} (h : OffAt b u v) (g : OffAt b v w) : OffAt b u w :=
  ⟨g.os.trans h.os, g.output.trans h.output, g.size.trans h.size, fun j hj => (g.blocks j hj).trans (h.blocks j hj)⟩
theorem stands_above {w u u' : World} {b : Nat} (h : Stands w u) (hb : w.heap.size ≤ b) (g : OffAt b u u') : Stands w u' :=
  ⟨g.os.trans h.os, g.output.trans h.output, by rw [g.size]; exact h.size, fun j hj => (g.blocks j (by omega)).trans (h.blocks j hj)⟩
theorem put7_any {u : World} {b t : Nat} {y x : It} (h : u.heap[b]? = some (.cells y.cells.toArray t)) : (put7 u b x).heap[b]? = some (.cells x.cells.toArray t) ∧ (∀ j, j ≠ b → (put7 u b x).heap[j]? = u.heap[j]?) ∧ OffAt b u (put7 u b x) := by
  have o : OffAt b u (put7 u b x) := (OffAt.set _ _ _ _).trans <| (OffAt.set _ _ _ _).trans <| (OffAt.set _ _ _ _).trans <| (OffAt.set _ _ _ _).trans <| (OffAt.set _ _ _ _).trans <| (OffAt.set _ _ _ _).trans <| OffAt.set _ _ _ _
  refine ⟨?_, o.blocks, o⟩
  have := set_at (i := 6) (v := .string x.va) <| set_at (i := 5) (v := .int .u64 (x.n : Int)) <| set_at (i := 4) (v := .int .u8 (x.s.toNat : Int)) <| set_at (i := 3) (v := .int .u8 (x.r.toNat : Int)) <| set_at (i := 2) (v := .int .u8 (x.q.toNat : Int)) <| set_at (i := 1) (v := .int .u8 (x.p.toNat : Int)) <| set_at (i := 0) (v := .string x.el) h
  unfold put7
  rw [this]
  simp [It.cells]
theorem item_at {w : World} {b t : Nat} {x : It} (h : w.heap[b]? = some (.cells x.cells.toArray t)) :
    (w.cell? ⟨b, 0, none⟩ = some (.string x.el)) ∧ (w.cell? ⟨b, 1, none⟩ = some (.int .u8 (x.p.toNat : Int))) ∧ (w.cell? ⟨b, 2, none⟩ = some (.int .u8 (x.q.toNat : Int))) ∧ (w.cell? ⟨b, 3, none⟩ = some (.int .u8 (x.r.toNat : Int))) ∧ (w.cell? ⟨b, 4, none⟩ = some (.int .u8 (x.s.toNat : Int))) ∧ (w.cell? ⟨b, 5, none⟩ = some (.int .u64 (x.n : Int))) ∧ (w.cell? ⟨b, 6, none⟩ = some (.string x.va)) := by
  have g : ∀ i, w.cell? ⟨b, i, none⟩ = x.cells.toArray[i]? := fun i => by simp [World.cell?, h]
  exact ⟨(g 0).trans rfl, (g 1).trans rfl, (g 2).trans rfl, (g 3).trans rfl, (g 4).trans rfl, (g 5).trans rfl, (g 6).trans rfl⟩
def z0It : It := ⟨⟨#[]⟩, 0, 0, 0, 0, 0, ⟨#[]⟩⟩
def zItem : Array Value := #[.string ⟨#[]⟩, .int .u8 0, .int .u8 0, .int .u8 0, .int .u8 0, .int .u64 0, .string ⟨#[]⟩]
set_option maxHeartbeats 1600000 in
theorem max_any (f : Nat → It) (bk off len cap : Nat) (w : World) (h0 : 1 ≤ len) (hlen : len ≤ 60) (hl : Lie w bk off len f) (hd : ∀ i j, i < len → j < len → i ≠ j → ¬ (f i).same (f j)) :
    Calls Tryz.prog 13 #[.slice (some ⟨bk, off, none⟩) len cap, .func (.func 14) #[] #[]] w fun e w' => ∃ m, Best f len m ∧ e = .returned (.agg (f m).cells.toArray) ∧ Stands w w' := by
  have h00 : ¬ ((len : Int) < 1) := by omega
  obtain ⟨a0, a1, a2, a3, a4, a5, a6⟩ : _ ∧ _ ∧ _ ∧ _ ∧ _ ∧ _ ∧ _ := lie_alloc hl (k := 0) (by omega)
  go_enter Tryz.func13, Tryz.ntmps13
  simp only [Nat.zero_mul, Nat.add_zero] at a0 a1 a2 a3 a4 a5 a6
  go_wp2
  go_loopw [6] (fun i wr => ∃ k m : Nat, 1 ≤ k ∧ k ≤ len ∧ i = .int .i64 k ∧ Best f k m ∧ Stands w wr ∧ wr.heap[w.heap.size]? = some (.cells zItem 30) ∧ wr.heap[w.heap.size + 1]? = some (.cells (f m).cells.toArray 30)) (fun i _ => len - (intOf i).toNat)
  case atStart =>
    refine ⟨1, 0, Nat.le_refl _, h0, rfl, best_one f, ?_, ?_, ?_⟩
    · exact (stands_alloc1 _ _).trans' (stands_alloc1 _ _)
    · rw [RowKit.Below.heap_alloc _ _ _ (by simp)]
      exact heap_new _ _
    · have := heap_new (w.alloc (.cells zItem 30)) (.cells (f 0).cells.toArray 30)
      have e : (w.alloc (.cells zItem 30)).heap.size = w.heap.size + 1 := by simp
      rw [e] at this
      exact this
  case round =>
    obtain ⟨k, m, hk1, hk, rfl, hB, hS, z4, z5⟩ := hrel
    obtain ⟨c, hc, hcall⟩ := cl_any (f k) (f m)
    have hlz : ∀ i, i < 7 → wr.frozen? ⟨w.heap.size + 1, i, none⟩ = false := fun i _ => frozen_no z5 i
    by_cases hlt : k < len
    · have hL := Lie.stands hl hS
      have hlt' : (k : Int) < len := by omega
      obtain ⟨b0, b1, b2, b3, b4, b5, b6⟩ := lie_by hL hlt
      obtain ⟨e0, e1, e2, e3, e4, e5, e6⟩ := item_by z5
      replace hS := Lib.hid hS
      replace hL := Lib.hid hL
      replace z4 := Lib.hid z4
      replace z5 := Lib.hid z5
      replace hc := Lib.hid hc
      replace hB := Lib.hid hB
      replace hcall := Lib.hid hcall
      go_wp2
      refine wp_region_stands mixed (by kernel_rfl) ?_
      repeat (quiet_step (refine Calls.by_stands (hcall.out _)))
      refine wpQuiet_nil ?_
      intro _ hw'
      obtain ⟨pp, hw''⟩ := hw'
      subst hw''
      have z4' := (pp.st.blocks _ (by have := lt_of_get z4.out; exact this)).trans z4.out
      have z5' := (pp.st.blocks _ (by have := lt_of_get z5.out; exact this)).trans z5.out
      have hS' := Lib.hid (hS.out.trans' pp.st)
      have hz := frozen_no z5'
      replace z4' := Lib.hid z4'
      replace z5' := Lib.hid z5'
      by_cases hpos : 0 < c
      · go_wp2
        obtain ⟨q1, q2, q3⟩ := put7_any (x := f k) z5'.out
        unfold put7 at q1 q2 q3
        go_roundw
        case rel => exact ⟨k + 1, k, by omega, by omega, by go_num, best_new hB.out (hc.out.1 hpos), stands_above hS'.out (by omega) q3, (q2 _ (by omega)).trans z4'.out, q1⟩
        case measure => simp only [intOf]; omega
      · go_wp2
        go_roundw
        case rel => exact ⟨k + 1, m, by omega, by omega, by go_num, best_keep hB.out (hd _ _ hlt (Nat.lt_trans hB.out.1 hlt) (by have := hB.out.1; omega)) (fun h => hpos (hc.out.2 h)), hS'.out, z4'.out, z5'.out⟩
        case measure => simp only [intOf]; omega
    · obtain rfl : k = len := by omega
      have hS0 := Lib.hid hS
      replace hB := Lib.hid hB
      have hz := frozen_no z4
      obtain ⟨e0, e1, e2, e3, e4, e5, e6⟩ := item_at z5
      obtain ⟨g0, g1, g2, g3, g4, g5, g6⟩ := item_at (x := z0It) z4
      replace z4 := Lib.hid z4
      go_wp2
      obtain ⟨q1, q2, q3⟩ := put7_any (y := z0It) (x := f m) z4.out
      have st := stands_above hS0.out (Nat.le_refl _) q3
      unfold put7 at q1 st
      (try simp only [Exit.inBlock, Exit.then])
      refine bodyPost_ret (results_cell_row rfl _ _ w.heap.size 30 (f m).cells.toArray _ _ rfl q1 Tryz.underlying30 rfl (by kernel_rfl)) rfl ?_
      exact ⟨m, hB.out, rfl, st⟩
end Go.Proofs.YtajngeaenfdigaaGreatDoor.Wk
/- omap.Winner. -/
namespace Go.Proofs.YtajngeaenfdigaaGreatDoor.Wk
set_option maxRecDepth 100000
open Go.RowKit Go.VmK Go.MapWin
theorem cells_arr (x : It) : x.cells.toArray = #[.string x.el, .int .u8 (x.p.toNat : Int), .int .u8 (x.q.toNat : Int), .int .u8 (x.r.toNat : Int), .int .u8 (x.s.toNat : Int), .int .u64 (x.n : Int), .string x.va] := rfl
theorem winner_none (ao : Option Addr) (cap : Nat) (w : World) : Calls Tryz.prog 6 #[.slice ao 0 cap] w fun e w' => e = .returned (.tuple #[.string ⟨#[]⟩, .bool false]) ∧ Stands w w' := by
  go_enter Tryz.func6, Tryz.ntmps6
  go_wp2
  go_ret2
  exact ⟨rfl, st_refl _⟩
set_option maxHeartbeats 1600000 in
theorem winner_any (f : Nat → It) (bk off len cap : Nat) (w : World) (h0 : 1 ≤ len) (hlen : len ≤ 60) (hl : Lie w bk off len f) (hd : ∀ i j, i < len → j < len → i ≠ j → ¬ (f i).same (f j)) :
    Calls Tryz.prog 6 #[.slice (some ⟨bk, off, none⟩) len cap] w fun e w' => ∃ m, Best f len m ∧ e = .returned (.tuple #[.string (f m).va, .bool true]) ∧ Stands w w' := by
  have h00 : ((len : Int) == 0) = false := by rw [beq_eq_false_iff_ne]; omega
  have hM := Lib.hid (max_any f bk off len cap w h0 hlen hl hd)
  clear hl hd
  go_enter Tryz.func6, Tryz.ntmps6
  go_wp2_with fail
  refine hM.out.mono ?_
  rintro e w' ⟨m, hB, he, hS⟩
  rw [cells_arr] at he
  subst he
  replace hB := Lib.hid hB
  replace hS := Lib.hid hS
  go_wp2
  go_ret2
  exact ⟨m, hB.out, rfl, hS.out.trans' (stands_alloc1 _ _)⟩
end Go.Proofs.YtajngeaenfdigaaGreatDoor.Wk
