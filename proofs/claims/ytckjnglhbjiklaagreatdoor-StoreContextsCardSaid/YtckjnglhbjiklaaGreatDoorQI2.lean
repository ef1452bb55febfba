/-
  Part of the proof of a statement of this seat: walks of its functions and the closed run; no condition but those written in each theorem.
-/
import Derived.Test.YtckjnglhbjiklaaGreatDoorProg
import Derived.WalkKit
import Derived.Lib.Hide
import Derived.KernelRfl
import Derived.Test.YtckjnglhbjiklaaGreatDoorV7
import Derived.Test.YtckjnglhbjiklaaGreatDoorPV
import Derived.Test.YtckjnglhbjiklaaGreatDoorQT
import Derived.Lib.SmallJoins
import Derived.Deep.RegionHeld
import Derived.Test.YtckjnglhbjiklaaGreatDoorQB
/- A strings.Builder that is written: what is neither its own block nor its buffer's row stays. -/
namespace Go.Proofs.YtckjnglhbjiklaaGreatDoor.Wk
set_option maxRecDepth 100000
open Go.RowKit Go.VmK Go.NumPure Go.Shelf
/-- blocks that are neither the builder's nor its row's -/
def Clear (b k : Nat) (w : World) : Prop := k < w.heap.size ∧ k ≠ b ∧ ∀ p v, w.heap[b]? = some (.cells #[p, v] 251 (0, 0)) → v.ownBlock ≠ some k
theorem copy_any (B b : Nat) (bs : List Value) (w : World) (h : Lib.IsBuilder 251 5 B b bs w) :
    Calls Tryz.prog 216 #[.pointer (some ⟨b, 0, none⟩)] w fun e w' => e = .returned (.tuple #[]) ∧ Lib.BuilderAt 251 5 B b (.pointer (some ⟨b, 0, none⟩)) bs w' ∧ (w' = w ∨ w' = w.setCell ⟨b, 0, none⟩ (.pointer (some ⟨b, 0, none⟩))) := by
  rcases h with h | h
  · refine (Any.Builder_copyCheck_fresh (ρ := Tryz.lB166_ren) { Tryz.lB166 with } extra166.toX72 b w h.cell0 h.shape h.frozen0).mono ?_
    rintro e w' ⟨rfl, rfl⟩
    exact ⟨rfl, h.used _, .inr rfl⟩
  · refine (Any.Builder_copyCheck_used (ρ := Tryz.lB166_ren) { Tryz.lB166 with } extra166.toX72 b w h.cell0).mono ?_
    rintro e w' ⟨rfl, rfl⟩
    exact ⟨rfl, h, .inl rfl⟩
theorem same_row {B b : Nat} {bs : List Value} {w w1 : World} {q q' v : Value} (hh : Lib.IsBuilder 251 5 B b bs w) (hw1 : w1 = w ∨ w1 = w.setCell ⟨b, 0, none⟩ q) (hbk : w1.heap[b]? = some (.cells #[q', v] 251 (0, 0))) :
    ∃ p, w.heap[b]? = some (.cells #[p, v] 251 (0, 0)) := by
  have key : ∀ p v', w.heap[b]? = some (.cells #[p, v'] 251 (0, 0)) → ∃ p, w.heap[b]? = some (.cells #[p, v] 251 (0, 0)) := by
    intro p v' hb'
    rcases hw1 with rfl | rfl
    · exact ⟨_, hbk⟩
    · rw [Go.Joins.block_setCell hb'] at hbk
      simp at hbk
      exact ⟨p, by rw [hb', hbk.2]⟩
  rcases hh with ⟨_, v', hb', _⟩ | ⟨_, v', hb', _⟩
  · exact key _ _ hb'
  · exact key _ _ hb'
set_option maxHeartbeats 2000000 in
theorem write_strong (B b : Nat) (bs : List Value) (s : ByteArray) (w : World) (h : Lib.IsBuilder 251 5 B b bs w) (hlen : bs.length + s.size ≤ 140737488355328) (hBw : B ≤ w.heap.size) :
    Calls Tryz.prog 146 #[.pointer (some ⟨b, 0, none⟩), .string s] w fun e w' => e = .returned (.tuple #[.int .i64 s.size, .nilIface]) ∧ Lib.IsBuilder 251 5 B b (bs ++ Lib.strCells s) w' ∧ Below B w w' ∧ ∀ k, Clear b k w → w'.heap[k]? = w.heap[k]? := by
  have hh := h
  go_enter Tryz.func146, Tryz.ntmps146
  go_wp2_with (go_at_call 216; refine (copy_any B b bs _ h).mono ?_)
  rintro e w1 ⟨rfl, h1, hw1⟩
  have hold : ∀ k, k ≠ b → w1.heap[k]? = w.heap[k]? := by
    intro k hk
    rcases hw1 with rfl | rfl
    · rfl
    · exact RowKit.Below.heap_setCell w ⟨b, 0, none⟩ _ k hk
  have hsz1 : w1.heap.size = w.heap.size := by
    rcases hw1 with rfl | rfl
    · rfl
    · simp
  have hbl1 : Below B w w1 := by
    rcases hw1 with rfl | rfl
    · exact RowKit.Below.refl _ _
    · exact (RowKit.Below.refl B w).setCell (p := ⟨b, 0, none⟩) h1.1 _
  obtain ⟨hB, v, hbk, hown, hne⟩ := h1
  have hv := same_row hh hw1 hbk
  have c0 : w1.cell? ⟨b, 0, none⟩ = some (.pointer (some ⟨b, 0, none⟩)) := by rw [Lib.cell_of_heap hbk]; rfl
  have c1 : w1.cell? ⟨b, 1, none⟩ = some v := by rw [Lib.cell_of_heap hbk]; rfl
  obtain ⟨i0, hi, hz0, hz1, hz2⟩ := info_parts extra166.infoByte
  replace hv := Lib.hid hv
  replace hw1 := Lib.hid hw1
  replace hold := Lib.hid hold
  go_wp2_with (at_builtin; refine Lib.wpList_append_own_string _ rfl _ _ 249 9 rfl B 5 i0 Tryz.underlying249 Tryz.underlying9 hi hz0 hz1 hz2 _ _ _ rfl hown s rfl ?c3 ?c4 ?c5 ?_)
  case c3 => unfold maxLen; omega
  case c4 => omega
  case c5 => omega
  intro v' w2 hown' hgrow _
  have hlt : b < w1.heap.size := by
    rcases Nat.lt_or_ge b w1.heap.size with h' | h'
    · exact h'
    · simp [Array.getElem?_eq_none h'] at hbk
  have hb2 : w2.heap[b]? = some (.cells #[.pointer (some ⟨b, 0, none⟩), v] 251 (0, 0)) := by
    rw [hgrow.block b hlt (fun e => hne e.symm)]
    exact hbk
  have d0 : w2.cell? ⟨b, 0, none⟩ = some (.pointer (some ⟨b, 0, none⟩)) := by rw [Lib.cell_of_heap hb2]; rfl
  have d1 : w2.cell? ⟨b, 1, none⟩ = some v := by rw [Lib.cell_of_heap hb2]; rfl
  have f1 : w2.frozen? ⟨b, 1, none⟩ = false := Lib.frozen_of_heap hb2 1
  obtain ⟨ao, n', cap, rfl⟩ : ∃ ao n' cap, v' = .slice ao n' cap := by
    rcases hown'.2 with ⟨hv, _⟩ | ⟨g, cap, cur, hv, _⟩
    · exact ⟨_, _, _, hv⟩
    · exact ⟨_, _, _, hv⟩
  go_wp2
  go_ret2
  refine ⟨rfl, .inr ?_, ?_, fun k ⟨hk1, hk2, hk3⟩ => ?_⟩
  · exact Lib.BuilderAt.put (T := 251) (e := 5) hB hb2 (bs' := bs ++ Lib.strCells s) (by simpa [Lib.strCells_length] using hown') (by decide)
  · exact (hbl1.grown hgrow (by omega) (fun k hk => (hown.lt k hk).1)).setCell (p := ⟨b, 1, none⟩) hB _
  · obtain ⟨p, hp⟩ := hv.out
    rw [RowKit.Below.heap_setCell _ ⟨b, 1, none⟩ _ k hk2, hgrow.block k (by omega) (fun e => hk3 p v hp e.symm), hold.out k hk2]
end Go.Proofs.YtckjnglhbjiklaaGreatDoor.Wk
/- delta.putItems of one item. -/
namespace Go.Proofs.YtckjnglhbjiklaaGreatDoor.Wk
set_option maxRecDepth 100000
open Go.RowKit Go.VmK Go.NumPure Go.Shelf
theorem st_alloc {A W : World} {o : Obj} (h : Stands A W) : Stands A (W.alloc o) := ⟨h.os, h.output, by have := h.size; simp; omega, fun j hj => (RowKit.Below.heap_alloc W o j (Nat.lt_of_lt_of_le hj h.size)).trans (h.blocks j hj)⟩
theorem st_drew {A W : World} (h : Stands A W) : Stands A W.drew := ⟨h.os, h.output, h.size, h.blocks⟩
theorem st_step {A W W' : World} (k : Stands W W') (h : Stands A W) : Stands A W' := ⟨k.os.trans h.os, k.output.trans h.output, Nat.le_trans h.size k.size, fun j hj => (k.blocks j (Nat.lt_of_lt_of_le hj h.size)).trans (h.blocks j hj)⟩
theorem st_refl (A : World) : Stands A A := ⟨rfl, rfl, Nat.le_refl _, fun _ _ => rfl⟩
theorem cell_newAt {W : World} {c : Array Value} {t : TypeId} {n j : Nat} {v : Value} (hn : n = W.heap.size) (h : c[j]? = some v) : (W.alloc (.cells c t)).cell? ⟨n, j, none⟩ = some v := by subst hn; exact cell_new W c t j v h
theorem cell_al {W : World} {o : Obj} {b i : Nat} {v : Value} (h : W.cell? ⟨b, i, none⟩ = some v) : (W.alloc o).cell? ⟨b, i, none⟩ = some v := cell_alloc h
theorem cell_dr {W : World} {b i : Nat} {v : Value} (h : W.cell? ⟨b, i, none⟩ = some v) : W.drew.cell? ⟨b, i, none⟩ = some v := h
theorem cell_st {W W' : World} {b i : Nat} {v : Value} (k : Stands W W') (h : W.cell? ⟨b, i, none⟩ = some v) : W'.cell? ⟨b, i, none⟩ = some v := by
  rw [← h]
  simp only [World.cell?, k.blocks b (World.block_lt_of_cell? _ _ h)]
theorem cell_new1 {W : World} {x : Value} {t : TypeId} {n : Nat} (hn : n = W.heap.size) : (W.alloc (.cells #[x] t)).cell? ⟨n, 0, none⟩ = some x := cell_newAt hn rfl
/-- num.Text of one text -/
theorem text1_any (s : ByteArray) (bk cap : Nat) (w : World) (hs : s.size ≤ 1000) (hc : w.cell? ⟨bk, 0, none⟩ = some (.string s)) :
    Calls Tryz.prog 149 #[.slice (some ⟨bk, 0, none⟩) 1 cap] w fun e w' => e = .returned (.string (txt (tx [s]))) ∧ Stands w w' := by
  refine (text_any [s] bk 0 cap w (World.block_lt_of_cell? _ _ hc) (by simp) ?_ (by intro x hx; simp at hx; subst hx; omega) (by intro j x hj; match j, hj with | 0, hj => (simp at hj; subst hj; exact hc))).mono fun e w' ⟨h1, h2⟩ => ⟨h1, stands_of_below h2⟩
  have := vr_short (n := s.size) (by omega); have e3 : s.data.toList.length = s.size := rfl; simp [tx, vb]; omega
/-- seven cells of a block -/
abbrev Cells7 (X : Nat) (e : ByteArray) (a0 a1 a2 a3 n : Int) (v : ByteArray) (w : World) : Prop :=
  w.cell? ⟨X, 0, none⟩ = some (.string e) ∧ w.cell? ⟨X, 1, none⟩ = some (.int .u8 a0) ∧ w.cell? ⟨X, 2, none⟩ = some (.int .u8 a1) ∧ w.cell? ⟨X, 3, none⟩ = some (.int .u8 a2) ∧ w.cell? ⟨X, 4, none⟩ = some (.int .u8 a3) ∧ w.cell? ⟨X, 5, none⟩ = some (.int .u64 n) ∧ w.cell? ⟨X, 6, none⟩ = some (.string v)
theorem Cells7.of {X : Nat} {e v : ByteArray} {a0 a1 a2 a3 n : Int} {w w' : World} (h : Cells7 X e a0 a1 a2 a3 n v w) (hb : w'.heap[X]? = w.heap[X]?) : Cells7 X e a0 a1 a2 a3 n v w' := by
  have : ∀ i, w'.cell? ⟨X, i, none⟩ = w.cell? ⟨X, i, none⟩ := fun i => by simp only [World.cell?, hb]
  obtain ⟨h0, h1, h2, h3, h4, h5, h6⟩ := h
  exact ⟨(this _).trans h0, (this _).trans h1, (this _).trans h2, (this _).trans h3, (this _).trans h4, (this _).trans h5, (this _).trans h6⟩
/-- one item, laid -/
def itm (e d v : ByteArray) : List UInt8 := vb 1 ++ (tx [e] ++ d.data.toList ++ tx [v])
set_option maxHeartbeats 6400000 in
theorem items_any (e v d : ByteArray) (a0 a1 a2 a3 n : Int) (bk off cap : Nat) (w : World) (hbk : bk < w.heap.size) (he : e.size ≤ 1000) (hv : v.size ≤ 1000) (hd : d.size ≤ 100)
    (hdot : ∀ w1, Calls Tryz.prog 364 #[.agg #[.int .u8 a0, .int .u8 a1, .int .u8 a2, .int .u8 a3, .int .u64 n]] w1 fun r w' => r = .returned (.string d) ∧ Stands w1 w')
    (hc0 : w.cell? ⟨bk, off, none⟩ = some (.string e)) (hc1 : w.cell? ⟨bk, off + 1, none⟩ = some (.int .u8 a0)) (hc2 : w.cell? ⟨bk, off + 2, none⟩ = some (.int .u8 a1)) (hc3 : w.cell? ⟨bk, off + 3, none⟩ = some (.int .u8 a2))
    (hc4 : w.cell? ⟨bk, off + 4, none⟩ = some (.int .u8 a3)) (hc5 : w.cell? ⟨bk, off + 5, none⟩ = some (.int .u64 n)) (hc6 : w.cell? ⟨bk, off + 6, none⟩ = some (.string v)) :
    Calls Tryz.prog 300 #[.slice (some ⟨bk, off, none⟩) 1 cap] w fun r w' => r = .returned (.string (txt (itm e d v))) ∧ Stands w w' := by
  replace hdot := Lib.hid hdot
  have hB0 : Lib.IsBuilder 251 5 w.heap.size w.heap.size (Lib.byteCells []) (w.alloc (.cells #[.pointer none, .slice none 0 0] 251)) := by
    refine .inl ⟨Nat.le_refl _, .slice none 0 0, ?_, World.ownsRow_nil _ _ _ _, by simp [Value.ownBlock]⟩
    simp [World.alloc, -World.alloc_eq]
  replace hB0 := Lib.hid (builder_stays hB0 (w' := (w.alloc (.cells #[.pointer none, .slice none 0 0] 251)).alloc (.cells #[.int .u64 1] 33)) (fun j hj => RowKit.Below.heap_alloc _ _ _ hj))
  have hbA : Below w.heap.size w ((w.alloc (.cells #[.pointer none, .slice none 0 0] 251)).alloc (.cells #[.int .u64 1] 33)) := ((RowKit.Below.refl _ _).alloc (Nat.le_refl _) _).alloc (by simp) _
  go_enter Tryz.func300, Tryz.ntmps300
  go_wp2_with fail
  refine (var_any 1 (by omega) (w.heap.size + 1) 0 1 _ (by simp) (by first | (simp; done) | simpa using cell_new (w.alloc (.cells #[.pointer none, .slice none 0 0] 251)) #[.int .u64 1] 33 0 _ rfl)).mono ?_
  rintro r w1 ⟨rfl, hv1⟩
  rw [bytesOf_vr]
  have hB1 := Lib.hid (builder_stays hB0.out (w' := w1) hv1.block)
  have hb1 := hbA.trans (hv1.mono (by simp; omega))
  have h11 : (vb 1).length ≤ 11 := by have := vr_short (n := 1) (by omega); simpa [vb] using this
  have hs1 : w.heap.size + 2 ≤ w1.heap.size := by have := hv1.size; simpa using this
  clear hB0 hbA
  go_wp2_with fail
  refine (builder_write w.heap.size w.heap.size _ (txt (vb 1)) w1 hB1.out (by rw [byteCells_len, txt_size]; simp; omega) (by omega)).mono ?_
  rintro r w2 ⟨rfl, hB2, hb2⟩
  rw [strCells_txt, ← byteCells_append, List.nil_append] at hB2
  replace hB2 := Lib.hid hB2
  have hs2 : w.heap.size < w2.heap.size := by have := hb2.size; omega
  replace hb2 := hb1.trans hb2
  clear hB1 hb1 hv1
  replace hc0 := (hb2.cell (by exact hbk)).trans hc0
  replace hc1 := (hb2.cell (by exact hbk)).trans hc1
  replace hc2 := (hb2.cell (by exact hbk)).trans hc2
  replace hc3 := (hb2.cell (by exact hbk)).trans hc3
  replace hc4 := (hb2.cell (by exact hbk)).trans hc4
  replace hc5 := (hb2.cell (by exact hbk)).trans hc5
  replace hc6 := (hb2.cell (by exact hbk)).trans hc6
  go_wp2
  refine wp_loop_rounds 2 ?_
  rw [rounds_succ]
  go_wp2_with fail
  have hX : Cells7 w2.heap.size e a0 a1 a2 a3 n v (w2.alloc (.cells #[.string e, .int .u8 a0, .int .u8 a1, .int .u8 a2, .int .u8 a3, .int .u64 n, .string v] 160)) := by
    refine ⟨?_, ?_, ?_, ?_, ?_, ?_, ?_⟩ <;> exact cell_new _ _ _ _ _ rfl
  have hBX := Lib.hid (builder_stays hB2.out (w' := w2.alloc (.cells #[.string e, .int .u8 a0, .int .u8 a1, .int .u8 a2, .int .u8 a3, .int .u64 n, .string v] 160)) (fun j hj => RowKit.Below.heap_alloc _ _ _ hj))
  have hS : ∀ W', Stands (w2.alloc (.cells #[.string e, .int .u8 a0, .int .u8 a1, .int .u8 a2, .int .u8 a3, .int .u64 n, .string v] 160)) W' → Cells7 w2.heap.size e a0 a1 a2 a3 n v W' := fun W' h => hX.of (h.blocks _ (by simp))
  have hBs : ∀ W', Stands (w2.alloc (.cells #[.string e, .int .u8 a0, .int .u8 a1, .int .u8 a2, .int .u8 a3, .int .u64 n, .string v] 160)) W' → Lib.IsBuilder 251 5 w.heap.size w.heap.size (Lib.byteCells (vb 1)) W' := fun W' h => builder_stays hBX.out h.blocks
  have hcl : ∀ W', Stands (w2.alloc (.cells #[.string e, .int .u8 a0, .int .u8 a1, .int .u8 a2, .int .u8 a3, .int .u64 n, .string v] 160)) W' → Clear w.heap.size w2.heap.size W' := by
    intro W' h
    refine ⟨by have := h.size; simp at this; omega, by omega, fun p u hp hu => ?_⟩
    have e2 : W'.heap[w.heap.size]? = w2.heap[w.heap.size]? := (h.blocks _ (by simp; omega)).trans (RowKit.Below.heap_alloc _ _ _ hs2)
    rw [e2] at hp
    rcases hB2.out with ⟨_, u', hb', hown, _⟩ | ⟨_, u', hb', hown, _⟩
    all_goals
      rw [hb'] at hp
      simp at hp
      obtain ⟨_, rfl⟩ := hp
      have := (hown.lt _ hu).2
      omega
  have hl1 : (tx [e]).length ≤ 1020 := by have := vr_short (n := e.size) (by omega); have e3 : e.data.toList.length = e.size := rfl; simp [tx, vb]; omega
  have hl2 : (tx [v]).length ≤ 1020 := by have := vr_short (n := v.size) (by omega); have e3 : v.data.toList.length = v.size := rfl; simp [tx, vb]; omega
  have hz1 : (txt (tx [e])).size ≤ 1020 := hl1
  have hz2 : (txt (tx [v])).size ≤ 1020 := hl2
  have hz3 : (txt (tx [e]) ++ d).size ≤ 1120 := by rw [ByteArray.size_append]; omega
  have hsz : ∀ W', Stands (w2.alloc (.cells #[.string e, .int .u8 a0, .int .u8 a1, .int .u8 a2, .int .u8 a3, .int .u64 n, .string v] 160)) W' → w.heap.size ≤ W'.heap.size := by
    intro W' h; have := h.size; simp at this; omega
  have hWS : ∀ W', Stands (w2.alloc (.cells #[.string e, .int .u8 a0, .int .u8 a1, .int .u8 a2, .int .u8 a3, .int .u64 n, .string v] 160)) W' → Calls Tryz.prog 146 #[.pointer (some ⟨w.heap.size, 0, none⟩), .string (txt (tx [e]) ++ d ++ txt (tx [v]))] W' fun r w9 => r = .returned (.tuple #[.int .i64 (txt (tx [e]) ++ d ++ txt (tx [v])).size, .nilIface]) ∧ Lib.IsBuilder 251 5 w.heap.size w.heap.size (Lib.byteCells (itm e d v)) w9 ∧ Stands w w9 ∧ w.heap.size < w9.heap.size ∧ Cells7 w2.heap.size e a0 a1 a2 a3 n v w9 := by
    intro W' h
    have hlw : (Lib.byteCells (vb 1)).length + (txt (tx [e]) ++ d ++ txt (tx [v])).size ≤ 140737488355328 := by rw [byteCells_len, ByteArray.size_append]; omega
    refine (write_strong w.heap.size w.heap.size (Lib.byteCells (vb 1)) (txt (tx [e]) ++ d ++ txt (tx [v])) _ (hBs _ h) hlw (hsz _ h)).mono ?_
    rintro r w9 ⟨rfl, hB9, hb9, hk9⟩
    have e1 : txt (tx [e]) ++ d ++ txt (tx [v]) = txt (tx [e] ++ d.data.toList ++ tx [v]) := by apply ByteArray.ext; simp [txt]
    rw [e1, strCells_txt, ← byteCells_append] at hB9
    have h1 : Below w.heap.size w (w2.alloc (.cells #[.string e, .int .u8 a0, .int .u8 a1, .int .u8 a2, .int .u8 a3, .int .u64 n, .string v] 160)) := hb2.alloc (by omega) _
    have hst : Stands w w9 := ⟨hb9.os.trans (h.os.trans h1.os), hb9.output.trans (h.output.trans h1.output), Nat.le_trans h1.size (Nat.le_trans h.size hb9.size), fun j hj => (hb9.block j hj).trans ((h.blocks j (Nat.lt_of_lt_of_le hj h1.size)).trans (h1.block j hj))⟩
    exact ⟨rfl, hB9, hst, by have := hb9.size; have := h.size; simp at this; omega, (hS _ h).of (hk9 _ (hcl _ h))⟩
  have hS0 := hS _ (st_refl _)
  replace hS := Lib.hid hS
  replace hWS := Lib.hid hWS
  clear hX hBX hB2 hBs hcl hsz hc0 hc1 hc2 hc3 hc4 hc5 hc6
  generalize w2.alloc (.cells #[.string e, .int .u8 a0, .int .u8 a1, .int .u8 a2, .int .u8 a3, .int .u64 n, .string v] 160) = wb at hS hWS hS0 ⊢
  go_region_held (fun w' => w'.cell? ⟨w2.heap.size, 0, none⟩ = some (.string e) ∧ w'.cell? ⟨w2.heap.size, 1, none⟩ = some (.int .u8 a0) ∧ w'.cell? ⟨w2.heap.size, 2, none⟩ = some (.int .u8 a1) ∧ w'.cell? ⟨w2.heap.size, 3, none⟩ = some (.int .u8 a2) ∧ w'.cell? ⟨w2.heap.size, 4, none⟩ = some (.int .u8 a3) ∧ w'.cell? ⟨w2.heap.size, 5, none⟩ = some (.int .u64 n) ∧ w'.cell? ⟨w2.heap.size, 6, none⟩ = some (.string v))
    (first
      | (with_reducible exact hS0)
      | (with_reducible refine hS.out _ ?_; (repeat (with_reducible first | exact st_refl _ | refine st_alloc ?_ | refine st_drew ?_ | (apply st_step; assumption))); done)
      | (with_reducible exact hS9))
    (first
      | (go_at_call 149
         have _hx := hq5
         refine (text1_any v _ 1 _ ?hz ?hc).mono ?_
         case hc => ((repeat (first | ((with_reducible refine cell_new1 ?_); simp; done) | (with_reducible refine cell_al ?_) | (with_reducible refine cell_dr ?_) | (with_reducible (apply cell_st; assumption)))); done)
         case hz => omega
         rintro r w6 ⟨rfl, hq6⟩)
      | (go_at_call 149
         refine (text1_any e _ 1 _ ?hz ?hc).mono ?_
         case hc => ((repeat (first | ((with_reducible refine cell_new1 ?_); simp; done) | (with_reducible refine cell_al ?_) | (with_reducible refine cell_dr ?_) | (with_reducible (apply cell_st; assumption)))); done)
         case hz => omega
         rintro r w4 ⟨rfl, hq4⟩)
      | (go_at_call 364
         refine (hdot.out _).mono ?_
         rintro r w5 ⟨rfl, hq5⟩)
      | (go_at_call 146
         refine (hWS.out _ ?hst).mono ?_
         case hst => ((repeat (with_reducible first | exact st_refl _ | refine st_alloc ?_ | refine st_drew ?_ | (apply st_step; assumption))); done)
         rintro r w9 ⟨rfl, hB9, hst9, hsz9, hS9⟩))
  all_goals
    have hli : (itm e d v).length ≤ 3000 := by
      have e3 : d.data.toList.length = d.size := rfl
      simp only [itm, List.length_append]; omega
    replace hB9 := Lib.hid hB9
    clear hS9
    go_wp2
    rw [rounds_succ]
    go_wp2_with fail
    refine (builder_string w.heap.size w.heap.size (itm e d v) w9 hB9.out (by omega)).mono ?_
    rintro r w10 ⟨rfl, hv10⟩
    go_wp2
    go_ret
    exact ⟨rfl, hst9.upto hv10⟩
end Go.Proofs.YtckjnglhbjiklaaGreatDoor.Wk
namespace Go.Proofs.YtckjnglhbjiklaaGreatDoor.Wk
set_option maxRecDepth 100000
open Go.RowKit Go.VmK Go.NumPure
set_option maxHeartbeats 3200000 in
theorem var3_small (a b c : Nat) (ha : a < 128) (hb : b < 128) (hcc : c < 128) (bk off cap : Nat) (w : World) (hbk : bk < w.heap.size) (hc : w.cell? ⟨bk, off, none⟩ = some (.int .u64 a)) (hd : w.cell? ⟨bk, off + 1, none⟩ = some (.int .u64 b)) (he : w.cell? ⟨bk, off + 2, none⟩ = some (.int .u64 c)) :
    Calls Tryz.prog 147 #[.slice (some ⟨bk, off, none⟩) 3 cap] w fun e w' => e = .returned (.string (bytesOf [a, b, c])) ∧ Below w.heap.size w w' := by
  obtain ⟨i0, hi, hz0, hz1, hz2⟩ := info_parts info8
  go_enter Tryz.func147, Tryz.ntmps147
  go_wp2
  refine wp_loop_rounds 4 ?_
  rw [rounds_succ]
  go_wp2
  refine wp_loop_rounds 1 ?_
  rw [rounds_succ]
  go_wp2_with (at_builtin; refine wpList_append_own _ rfl _ _ 249 rfl w.heap.size 5 i0 (.int .u8 0) 1 1 Tryz.underlying249 hi hz0 hz1 hz2 rfl (by decide) _ _ _ rfl ((World.ownsRow_nil w w.heap.size 5 1).alloc _) ⟨w.heap.size, 0, none⟩ 1 1 [.int .u8 (a : Int)] rfl rfl ?d1 ?d2 ?d3 ?d4 ?d5 ?_)
  case d1 =>
    intro j u hj
    match j, hj with
    | 0, hj => simp at hj; subst hj; simp [Addr.add]
  case d2 => intro u hu; simp at hu; subst hu; rfl
  case d3 => unfold maxLen; simp
  case d4 => simp
  case d5 => have := (Below.refl w.heap.size w).size; first | (simp; done) | (simp; omega)
  intro vA wA hownA hgrow _
  have hbA : Below w.heap.size w wA := ((Below.refl w.heap.size w).alloc (Below.refl w.heap.size w).size _).grown hgrow (by have := (Below.refl w.heap.size w).size; (first | (simp; done) | (simp; omega))) (fun j hj => by have := ((World.ownsRow_nil w w.heap.size 5 1).lt j hj).1; omega)
  clear hgrow
  replace hownA : wA.ownsRow w.heap.size 5 1 vA 1 (byteVals [a]) := by simpa [byteVals] using hownA
  replace hd := (hbA.cell hbk).trans hd
  go_wp2
  rw [rounds_succ]
  go_wp2_with fail
  refine wp_loop_rounds 1 ?_
  rw [rounds_succ]
  go_wp2_with (at_builtin; refine wpList_append_own _ rfl _ _ 249 rfl w.heap.size 5 i0 (.int .u8 0) 1 1 Tryz.underlying249 hi hz0 hz1 hz2 rfl (by decide) _ _ _ rfl (hownA.alloc _) ⟨wA.heap.size, 0, none⟩ 1 1 [.int .u8 (b : Int)] rfl rfl ?d1 ?d2 ?d3 ?d4 ?d5 ?_)
  case d1 =>
    intro j u hj
    match j, hj with
    | 0, hj => simp at hj; subst hj; simp [Addr.add]
  case d2 => intro u hu; simp at hu; subst hu; rfl
  case d3 => unfold maxLen; simp
  case d4 => simp
  case d5 => have := hbA.size; first | (simp; done) | (simp; omega)
  intro vB wB hownB hgrow _
  have hbB : Below w.heap.size w wB := (hbA.alloc hbA.size _).grown hgrow (by have := hbA.size; (first | (simp; done) | (simp; omega))) (fun j hj => by have := (hownA.lt j hj).1; omega)
  clear hgrow
  replace hownB : wB.ownsRow w.heap.size 5 1 vB 2 (byteVals [a, b]) := by simpa [byteVals] using hownB
  replace he := (hbB.cell hbk).trans he
  go_wp2
  rw [rounds_succ]
  go_wp2_with fail
  refine wp_loop_rounds 1 ?_
  rw [rounds_succ]
  go_wp2_with (at_builtin; refine wpList_append_own _ rfl _ _ 249 rfl w.heap.size 5 i0 (.int .u8 0) 1 1 Tryz.underlying249 hi hz0 hz1 hz2 rfl (by decide) _ _ _ rfl (hownB.alloc _) ⟨wB.heap.size, 0, none⟩ 1 1 [.int .u8 (c : Int)] rfl rfl ?d1 ?d2 ?d3 ?d4 ?d5 ?_)
  case d1 =>
    intro j u hj
    match j, hj with
    | 0, hj => simp at hj; subst hj; simp [Addr.add]
  case d2 => intro u hu; simp at hu; subst hu; rfl
  case d3 => unfold maxLen; simp
  case d4 => simp
  case d5 => have := hbB.size; first | (simp; done) | (simp; omega)
  intro vC wC hownC hgrow _
  have hbC : Below w.heap.size w wC := (hbB.alloc hbB.size _).grown hgrow (by have := hbB.size; (first | (simp; done) | (simp; omega))) (fun j hj => by have := (hownB.lt j hj).1; omega)
  clear hgrow
  replace hownC : wC.ownsRow w.heap.size 5 1 vC 3 (byteVals [a, b, c]) := by simpa [byteVals] using hownC
  have hcv := conv_own (P := Tryz.prog) (w := wC) (l := [a, b, c]) Tryz.underlying249 Tryz.underlying5 Tryz.underlying9 hownC (by simp)
  have hcv := Lib.hid hcv
  go_wp2
  rw [rounds_succ]
  replace hcv := hcv.out
  go_wp2
  go_ret
  exact ⟨rfl, hbC⟩
end Go.Proofs.YtckjnglhbjiklaaGreatDoor.Wk
