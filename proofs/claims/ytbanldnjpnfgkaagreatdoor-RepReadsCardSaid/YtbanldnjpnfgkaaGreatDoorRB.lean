/-
  Part of the proof of a statement of this seat: walks of its functions and the closed run; no condition but those written in each theorem.
-/
import Derived.Test.YtbanldnjpnfgkaaGreatDoorProg
import Derived.WalkKit
import Derived.Lib.Hide
import Derived.Lib.AppendStr
import Derived.Maps.AppendAt
import Derived.KernelRfl
import Derived.Test.YtbanldnjpnfgkaaGreatDoorV7
import Derived.Test.YtbanldnjpnfgkaaGreatDoorPA
import Derived.Test.YtbanldnjpnfgkaaGreatDoorPV
import Derived.Test.YtbanldnjpnfgkaaGreatDoorQB
import Derived.Test.YtbanldnjpnfgkaaGreatDoorRA
import Derived.Lib.ConvBytes
import Derived.Laws.IdiomStrings
import Derived.Deep.RegionHeldLaw
import Derived.Deep.DeepCutAuto
/- A row of bytes of the call's own that grows by texts, while a call between may write what the caller knows. -/
namespace Go.Proofs.YtbanldnjpnfgkaaGreatDoor.Wk
set_option maxRecDepth 100000
open Go.RowKit Go.VmK Go.NumPure
theorem st_alloc {A W : World} {o : Obj} (h : Stands A W) : Stands A (W.alloc o) := ⟨h.os, h.output, by have := h.size; simp; omega, fun j hj => (RowKit.Below.heap_alloc W o j (Nat.lt_of_lt_of_le hj h.size)).trans (h.blocks j hj)⟩
theorem st_drew {A W : World} (h : Stands A W) : Stands A W.drew := ⟨h.os, h.output, h.size, h.blocks⟩
theorem st_step {A W W' : World} (k : Stands W W') (h : Stands A W) : Stands A W' := ⟨k.os.trans h.os, k.output.trans h.output, Nat.le_trans h.size k.size, fun j hj => (k.blocks j (Nat.lt_of_lt_of_le hj h.size)).trans (h.blocks j hj)⟩
theorem cell_newAt {W : World} {c : Array Value} {t : TypeId} {n j : Nat} {v : Value} (hn : n = W.heap.size) (h : c[j]? = some v) : (W.alloc (.cells c t)).cell? ⟨n, j, none⟩ = some v := by subst hn; exact cell_new W c t j v h
theorem cell_al {W : World} {o : Obj} {b i : Nat} {v : Value} (h : W.cell? ⟨b, i, none⟩ = some v) : (W.alloc o).cell? ⟨b, i, none⟩ = some v := cell_alloc h
theorem cell_dr {W : World} {b i : Nat} {v : Value} (h : W.cell? ⟨b, i, none⟩ = some v) : W.drew.cell? ⟨b, i, none⟩ = some v := h
theorem cell_new1 {W : World} {x : Value} {t : TypeId} {n : Nat} (hn : n = W.heap.size) : (W.alloc (.cells #[x] t)).cell? ⟨n, 0, none⟩ = some x := cell_newAt hn rfl
/-- the row's block is past X, and of the blocks that stood in w1 those between X and L alone are other -/
structure Mid (X L : Nat) (w1 : World) (v : Value) (l : List UInt8) (w : World) : Prop where
  own : w.ownsRow (X + 1) 5 1 v l.length (bv l)
  os : w.os = w1.os
  output : w.output = w1.output
  size : w1.heap.size ≤ w.heap.size
  blocks : ∀ b, b < w1.heap.size → ¬ (X < b ∧ b < L) → w.heap[b]? = w1.heap[b]?
  lies : ∀ g, v.ownBlock = some g → (X < g ∧ g < L) ∨ w1.heap.size ≤ g
  lt : X < w1.heap.size
theorem Mid.first {X : Nat} {w1 : World} (h : w1.heap.size = X + 1) (x : UInt8) : Mid X (X + 1) w1 (.slice (some ⟨w1.heap.size, 0, none⟩) 1 1) [x] (w1.alloc (.cells #[.int .u8 x.toNat] 5)) := by
  have hs : Stands w1 (w1.alloc (.cells #[.int .u8 x.toNat] 5)) := st_alloc (st_refl w1)
  refine ⟨⟨rfl, .inr ⟨w1.heap.size, 1, #[.int .u8 x.toNat], rfl, by omega, heap_alloc_new w1 _, Nat.le_refl _, by decide, rfl, rfl⟩⟩, hs.os, hs.output, hs.size, fun b hb _ => hs.blocks b hb, fun g hg => ?_, by omega⟩
  simp only [Value.ownBlock, Option.some.injEq] at hg
  exact .inr (by omega)
theorem Mid.stand {X L : Nat} {w1 w w' : World} {v : Value} {l : List UInt8} (m : Mid X L w1 v l w) (h : Stands w w') : Mid X L w1 v l w' :=
  ⟨owns_stands m.own h, h.os.trans m.os, h.output.trans m.output, Nat.le_trans m.size h.size, fun b hb hn => (h.blocks b (Nat.lt_of_lt_of_le hb m.size)).trans (m.blocks b hb hn), m.lies, m.lt⟩
theorem Mid.grow {X L : Nat} {w1 w w' : World} {v v' : Value} {l t : List UInt8} (m : Mid X L w1 v l w) (ho : w'.ownsRow (X + 1) 5 1 v' (l.length + t.length) (bv l ++ bv t)) (hg : w.grownBy w' v.ownBlock) (hb : v'.ownBlock = v.ownBlock ∨ v'.ownBlock = some w.heap.size) : Mid X L w1 v' (l ++ t) w' := by
  refine ⟨by rw [List.length_append, ← bv_append]; exact ho, hg.os.trans m.os, hg.output.trans m.output, Nat.le_trans m.size hg.size, fun b hbb hn => ?_, fun g hg' => ?_, m.lt⟩
  · refine (hg.block b (Nat.lt_of_lt_of_le hbb m.size) ?_).trans (m.blocks b hbb hn)
    intro e
    rcases m.lies b e.symm with h | h
    · exact hn h
    · omega
  · rcases hb with h | h
    · exact m.lies g (h ▸ hg')
    · rw [h] at hg'
      obtain rfl := Option.some.inj hg'
      exact .inr m.size
/-- a call between that leaves the row and what was made for it -/
theorem Mid.over {X : Nat} {w1 w w' : World} {v : Value} {l : List UInt8} (m : Mid X (X + 1) w1 v l w) (hX : w1.heap.size = X + 1) (hs : w.heap.size ≤ w'.heap.size) (hk : ∀ b, X ≤ b → b < w.heap.size → w'.heap[b]? = w.heap[b]?) : Mid X w.heap.size w' v l w' := by
  have hl : ∀ g, v.ownBlock = some g → X < g ∧ g < w.heap.size := by
    intro g hg
    rcases m.own.2 with ⟨rfl, _⟩ | ⟨g', cap, cur, rfl, h1, h2, _⟩
    · simp [Value.ownBlock] at hg
    · simp only [Value.ownBlock, Option.some.injEq] at hg
      subst hg
      exact ⟨by omega, (Array.getElem?_eq_some_iff.1 h2).1⟩
  refine ⟨⟨m.own.1, ?_⟩, rfl, rfl, Nat.le_refl _, fun _ _ _ => rfl, fun g hg => .inl (hl g hg), by have := m.size; omega⟩
  rcases m.own.2 with h | ⟨g', cap, cur, rfl, h1, h2, h3⟩
  · exact .inl h
  · obtain ⟨h4, h5⟩ := hl g' rfl
    exact .inr ⟨g', cap, cur, rfl, h1, (hk g' (by omega) h5).trans h2, h3⟩
theorem app_str {w : World} {base n : Nat} {v : Value} {xs : List Value} (t : TypeId) (hown : w.ownsRow base 5 1 v n xs) (hn : 0 < n) (s : ByteArray) (h63 : n + s.size ≤ 1000000000) (hbase : base ≤ w.heap.size) :
    ∃ v' w', (Builtin.append_ #[85, 9] t #[v, .string s]).run Tryz.prog w = .ok v' w' ∧ w'.ownsRow base 5 1 v' (n + s.size) (xs ++ Lib.strCells s) ∧ w.grownBy w' v.ownBlock ∧ (v'.ownBlock = v.ownBlock ∨ v'.ownBlock = some w.heap.size) := by
  obtain ⟨i0, hi, hz0, hz1, hz2⟩ := info_parts info8
  obtain ⟨v', w', hr, h2, h3, h4⟩ := Lib.run_append_own_string (P := Tryz.prog) w base 85 9 t 5 i0 Tryz.underlying85 Tryz.underlying9 hi hz0 hz1 hz2 v n xs hown s (by unfold maxLen; omega) (by omega) hbase
  refine ⟨v', w', hr, h2, h3, ?_⟩
  rcases hown.2 with ⟨_, h0⟩ | ⟨g, cap, cur, rfl, hb, hg, hnc, hcm, hcs, htake⟩
  · omega
  · by_cases hroom : n + s.size ≤ cap
    · have e := Lib.run_append_room_string (P := Tryz.prog) w 85 9 t 5 i0 Tryz.underlying85 Tryz.underlying9 hi hz1 g n cap cur hg s hroom (by omega)
      rw [hr] at e
      injection e with e1 e2
      subst e1
      exact .inl rfl
    · have hxl : xs.length = n * i0.size := by rw [hz1]; exact hown.1
      have holds : ∀ j u, xs[j]? = some u → w.cell? ((⟨g, 0, none⟩ : Addr).add j) = some u := hown.cells (g := g) rfl
      have e := Lib.run_append_grow_string (P := Tryz.prog) w 85 9 t 5 i0 (.int .u8 0) Tryz.underlying85 Tryz.underlying9 hi hz0 ⟨g, 0, none⟩ n cap xs hxl holds s (by omega) (by omega) (by rw [hz2]; exact growslice_fits (by omega) (by omega))
      rw [hr] at e
      injection e with e1 e2
      subst e1
      exact .inr rfl
theorem Mid.len {X L : Nat} {w1 w : World} {v : Value} {l : List UInt8} (m : Mid X L w1 v l w) (hl : l ≠ []) : 0 < l.length := by
  cases l with
  | nil => exact absurd rfl hl
  | cons a b => simp
/-- an append of a text: the operation, in a world that has grown out of one that stood there -/
theorem Mid.wp_str {X L : Nat} {w1 wb : World} {v : Value} {l : List UInt8} (m : Mid X L w1 v l wb) (hl : l ≠ []) {o : Oper} {a : Act} {K : Act → World → Prop} {Q : Exit → Act → World → Prop} (sl x : Operand) (ho : o.op = .call { callee := .builtin .append, args := #[sl, x], argTypes := #[85, 9] })
    (hs : a.eval sl = v) (t : List UInt8) (hx : a.eval x = .string (txt t)) (hlen : l.length + t.length ≤ 1000000000) {W : World} (hst : Stands wb W) (h : ∀ v' w', Mid X L w1 v' (l ++ t) w' → K (a.put o.dst v') w') : Oper.wp Tryz.prog o a W K Q := by
  have m := m.stand hst
  obtain ⟨v', w', hr, h2, h3, h4⟩ := app_str o.type m.own (m.len hl) (txt t) (by rw [txt_size]; exact hlen) (by have := m.size; have := m.lt; omega)
  rw [bv_str, txt_list, txt_size] at h2
  unfold Oper.wp execOp
  simp only [ho, resolve, invoke, builtin, Sem.run_bind, Sem.run_pure, Result.andThen_ok, List.map_toArray, List.map_cons, List.map_nil, hs, hx, hr]
  exact h _ _ (m.grow h2 h3 h4)
/-- .. as a step of a region that draws -/
theorem Mid.step_str {X L : Nat} {w1 wb : World} {v : Value} {l : List UInt8} (m : Mid X L w1 v l wb) (hl : l ≠ []) {ops : Array Oper} {o : Oper} {a : Act} {K : Act → World → Prop} {Q : Exit → Act → World → Prop} {E : Prop} (hgd : o.guard = none) (sl x : Operand) (ho : o.op = .call { callee := .builtin .append, args := #[sl, x], argTypes := #[85, 9] })
    (dst : Nat) (hdst : o.dst = some dst) (hs : a.eval sl = v) (t : List UInt8) (hx : a.eval x = .string (txt t)) (hlen : l.length + t.length ≤ 1000000000) {W : World} (hst : Stands wb W) (h : ∀ v' w', Mid X L w1 v' (l ++ t) w' → K (a.put (some dst) v') w') : if Region.wanted o (yielded ops a.tmps) = true then Oper.wp Tryz.prog o a W K Q else E := by
  have hw : Region.wanted o (yielded ops a.tmps) = true := by simp [Region.wanted, hgd]
  rw [if_pos hw]
  refine m.wp_str hl sl x ho hs t hx hlen hst ?_
  rw [hdst]
  exact h
/-- .. as an operation of a plain region -/
theorem Mid.list_str {X L : Nat} {w1 wb : World} {v : Value} {l : List UInt8} (m : Mid X L w1 v l wb) (hl : l ≠ []) {ops : Array Oper} {rest : List Oper} {o : Oper} {a : Act} {Q : Exit → Act → World → Prop} (hgd : o.guard = none) (sl x : Operand) (ho : o.op = .call { callee := .builtin .append, args := #[sl, x], argTypes := #[85, 9] })
    (hs : a.eval sl = v) (t : List UInt8) (hx : a.eval x = .string (txt t)) (hlen : l.length + t.length ≤ 1000000000) {W : World} (hst : Stands wb W) (h : ∀ v' w', Mid X L w1 v' (l ++ t) w' → wpList Tryz.prog ops Q rest (a.put o.dst v') w') : wpList Tryz.prog ops Q (o :: rest) a W :=
  wpList_plain hgd fun _ hK => m.wp_str hl sl x ho hs t hx hlen hst fun v' w' h' => hK _ _ (h v' w' h')
/-- an append of a row of bytes -/
theorem Mid.list_row {X L : Nat} {w1 wb : World} {v : Value} {l : List UInt8} (m : Mid X L w1 v l wb) (_hl : l ≠ []) {ops : Array Oper} {rest : List Oper} {o : Oper} {a : Act} {Q : Exit → Act → World → Prop} (hgd : o.guard = none) (sl x : Operand) (ho : o.op = .call { callee := .builtin .append, args := #[sl, x], argTypes := #[85, 85] })
    (hs : a.eval sl = v) (b c : Nat) (t : UInt8) (hx : a.eval x = .slice (some ⟨b, 0, none⟩) 1 c) (hlen : l.length ≤ 1000000000) {W : World} (hst : Stands wb W) (hc : W.cell? ⟨b, 0, none⟩ = some (.int .u8 t.toNat)) (h : ∀ v' w', Mid X L w1 v' (l ++ [t]) w' → wpList Tryz.prog ops Q rest (a.put o.dst v') w') : wpList Tryz.prog ops Q (o :: rest) a W := by
  have m := m.stand hst
  obtain ⟨i0, hi, hz0, hz1, hz2⟩ := info_parts info8
  refine wpList_plain hgd fun _ hK => ?_
  obtain ⟨v', w', hr, h2, h3, _, h4⟩ := run_append_own_at (P := Tryz.prog) W (X + 1) 85 o.type 5 i0 (.int .u8 0) 1 1 Tryz.underlying85 hi hz0 hz1 hz2 rfl (by decide) v l.length (bv l) m.own ⟨b, 0, none⟩ 1 c (bv [t]) rfl (by
    intro j u hj
    match j, hj with
    | 0, hj =>
      obtain rfl := Option.some.inj hj
      exact hc) (by intro u hu; obtain rfl := List.mem_singleton.1 hu; rfl) (by unfold maxLen; omega) (by omega) (by have := m.size; have := m.lt; omega)
  unfold Oper.wp execOp
  simp only [ho, resolve, invoke, builtin, Sem.run_bind, Sem.run_pure, Result.andThen_ok, List.map_toArray, List.map_cons, List.map_nil, hs, hx, hr]
  exact hK _ _ (h _ _ (m.grow h2 h3 h4))
end Go.Proofs.YtbanldnjpnfgkaaGreatDoor.Wk
/- A row of bytes whose frozen mark lies past its end: it grows as another does. -/
namespace Go.Proofs.YtbanldnjpnfgkaaGreatDoor.Wk
set_option maxRecDepth 100000
open Go.RowKit Go.VmK Go.NumPure
/-- cells are laid, one behind the other, where nothing is frozen -/
theorem lay_far (g o : Nat) (t : TypeId) (fz : Nat × Nat) : ∀ (vs : List Value) (i : Nat) (cur : Array Value) (w : World), w.heap[g]? = some (.cells cur t fz) → (∀ j, o + i ≤ j → j < o + i + vs.length → ¬ (fz.1 ≤ j ∧ j < fz.2)) → o + i + vs.length ≤ cur.size → (∀ v ∈ vs, v.oneCell' = true) →
    ∃ (w' : World) (cur' : Array Value), (storeCells ⟨g, o, none⟩ vs i).run Tryz.prog w = .ok () w' ∧ w'.heap[g]? = some (.cells cur' t fz) ∧ cur'.size = cur.size ∧ cur'.toList.take (o + i + vs.length) = cur.toList.take (o + i) ++ vs ∧ w.grownBy w' (some g)
  | [], i, cur, w, hg, _, _, _ => ⟨w, cur, by simp only [storeCells]; rfl, hg, rfl, by simp, ⟨rfl, rfl, rfl, Nat.le_refl _, fun _ _ _ => rfl⟩⟩
  | v :: rest, i, cur, w, hg, hfz, hl, h1 => by
    have hi : o + i < cur.size := by simp at hl; omega
    have hadd : (⟨g, o, none⟩ : Addr).add i = ⟨g, o + i, none⟩ := by unfold Addr.add; split <;> simp_all
    have hcell : w.cell? ⟨g, o + i, none⟩ = some cur[o + i] := by rw [cell_of_row w g (o + i) cur t fz hg]; simp [hi]
    have hfro : w.frozen? ⟨g, o + i, none⟩ = false := by
      have := hfz (o + i) (Nat.le_refl _) (by simp)
      obtain ⟨lo, hi'⟩ := fz
      simp only [World.frozen?, hg, Bool.and_eq_false_iff, decide_eq_false_iff_not]
      simp only at this
      omega
    have hst : (store ((⟨g, o, none⟩ : Addr).add i) v).run Tryz.prog w = .ok () (w.setCell ⟨g, o + i, none⟩ v) := by
      rw [hadd, run_store Tryz.prog w _ v _ (h1 v (by simp)), hcell]
      simp [hfro]
    have hg1 : (w.setCell ⟨g, o + i, none⟩ v).heap[g]? = some (.cells (cur.setIfInBounds (o + i) v) t fz) := by
      simp [World.setCell, Array.getElem?_modify, hg]
    obtain ⟨w', cur', r1, r2, r3, r4, r5⟩ := lay_far g o t fz rest (i + 1) (cur.setIfInBounds (o + i) v) _ hg1 (fun j h2 h3 => hfz j (by omega) (by simp at h3 ⊢; omega)) (by simp at hl ⊢; omega) (fun x hx => h1 x (by simp [hx]))
    refine ⟨w', cur', by simp only [storeCells, Sem.run_bind, hst, Result.andThen_ok, r1], r2, by rw [r3]; simp, ?_, ?_⟩
    · have e : o + i + (v :: rest).length = o + (i + 1) + rest.length := by simp; omega
      rw [e, r4, Array.toList_setIfInBounds]
      have : (cur.toList.set (o + i) v).take (o + (i + 1)) = cur.toList.take (o + i) ++ [v] := by
        rw [List.take_set, show o + (i + 1) = (o + i) + 1 from by omega, List.take_succ_eq_append_getElem (by simpa using hi)]
        rw [List.set_append_right _ _ (by simp; omega)]
        simp [Nat.min_eq_left (Nat.le_of_lt hi)]
      rw [this, List.append_assoc]
      rfl
    · refine ⟨r5.os, r5.tape, r5.output, ?_, fun k hk hn => (r5.block k (by simpa [World.setCell] using hk) hn).trans ?_⟩
      · have := r5.size
        simpa [World.setCell] using this
      · exact RowKit.Below.heap_setCell _ _ _ _ (fun e => hn (by simp at e; simp [e]))
theorem cell_made {w : World} {g : Nat} {cur : Array Value} {fz : Nat × Nat} {l : List UInt8} (hg : w.heap[g]? = some (.cells cur 5 fz)) (ht : cur.toList.take l.length = bv l) (j : Nat) (x : UInt8) (hx : l[j]? = some x) : w.cell? ⟨g, j, none⟩ = some (.int .u8 x.toNat) := by
  rw [cell_of_row w g j cur 5 fz hg]
  have hj : j < l.length := (List.getElem?_eq_some_iff.1 hx).1
  have h : (cur.toList.take l.length)[j]? = (bv l)[j]? := by rw [ht]
  rw [List.getElem?_take, if_pos hj] at h
  rw [← Array.getElem?_toList, h]
  simp [bv, hx]
theorem text_made {w : World} {g cap : Nat} {cur : Array Value} {fz : Nat × Nat} {l : List UInt8} (hg : w.heap[g]? = some (.cells cur 5 fz)) (ht : cur.toList.take l.length = bv l) : (convert 85 9 (.slice (some ⟨g, 0, none⟩) l.length cap)).run Tryz.prog w = .ok (.string (txt l)) w := by
  have h := conv_bytes (P := Tryz.prog) (w := w) Tryz.underlying85 Tryz.underlying5 Tryz.underlying9 g 0 cap (l.map UInt8.toNat) (by
    intro j m hj
    rw [List.getElem?_map] at hj
    cases hx : l[j]? with
    | none => rw [hx] at hj; cases hj
    | some x =>
      rw [hx] at hj
      obtain rfl := Option.some.inj hj
      rw [Nat.zero_add]
      exact cell_made hg ht j x hx)
  rw [bytesOf_nat, List.length_map] at h
  exact h
/-- a row of bytes of the call's own, of which nothing that is read or laid is frozen -/
structure Made (w0 : World) (v : Value) (l : List UInt8) (w : World) : Prop where
  row : ∃ (g cap : Nat) (cur : Array Value) (fz : Nat × Nat), v = .slice (some ⟨g, 0, none⟩) l.length cap ∧ w0.heap.size ≤ g ∧ w.heap[g]? = some (.cells cur 5 fz) ∧ (fz.2 = 0 ∨ cap ≤ fz.1) ∧ l.length ≤ cap ∧ cap ≤ maxLen ∧ cur.size = cap ∧ cur.toList.take l.length = bv l
  st : Stands w0 w
theorem bv_one' (l : List UInt8) : ∀ v ∈ bv l, v.oneCell' = true := by
  intro v hv
  simp only [bv, List.mem_map] at hv
  obtain ⟨x, _, rfl⟩ := hv
  rfl
theorem Made.stand {w0 w w' : World} {v : Value} {l : List UInt8} (m : Made w0 v l w) (h : Stands w w') : Made w0 v l w' := by
  obtain ⟨⟨g, cap, cur, fz, rfl, hb, hg, rest⟩, hst⟩ := m
  exact ⟨⟨g, cap, cur, fz, rfl, hb, (h.blocks g (Array.getElem?_eq_some_iff.1 hg).1).trans hg, rest⟩, st_step h hst⟩
theorem Made.laid {w0 w w' : World} {g cap : Nat} {cur cur' : Array Value} {fz : Nat × Nat} {l t : List UInt8} (hb : w0.heap.size ≤ g) (hst : Stands w0 w) (hfz : fz.2 = 0 ∨ cap ≤ fz.1) (hroom : l.length + t.length ≤ cap) (hcm : cap ≤ maxLen) (hcs : cur.size = cap) (ht : cur.toList.take l.length = bv l)
    (r2 : w'.heap[g]? = some (.cells cur' 5 fz)) (r3 : cur'.size = cur.size) (r4 : cur'.toList.take (l.length + 0 + (bv t).length) = cur.toList.take (l.length + 0) ++ bv t) (r5 : w.grownBy w' (some g)) : Made w0 (.slice (some ⟨g, 0, none⟩) (l.length + t.length) cap) (l ++ t) w' := by
  refine ⟨⟨g, cap, cur', fz, by rw [List.length_append], hb, r2, hfz, by rw [List.length_append]; exact hroom, hcm, r3.trans hcs, ?_⟩, ⟨r5.os.trans hst.os, r5.output.trans hst.output, Nat.le_trans hst.size r5.size, fun k hk => (r5.block k (Nat.lt_of_lt_of_le hk hst.size) (fun e => ?_)).trans (hst.blocks k hk)⟩⟩
  · rw [List.length_append, ← bv_append, ← ht]
    simpa [bv_len] using r4
  · simp at e; omega
theorem Made.new {w0 w : World} {cap : Nat} {l : List UInt8} (hst : Stands w0 w) (hge : l.length ≤ cap) (hcm : cap ≤ maxLen) (z : Array Value) (hz : (bv l).length + z.size = cap) : Made w0 (.slice (some ⟨w.heap.size, 0, none⟩) l.length cap) l (w.drew.alloc (.cells ((bv l).toArray ++ z) 5)) := by
  refine ⟨⟨w.heap.size, cap, _, (0, 0), rfl, hst.size, heap_alloc_new w.drew _, .inl rfl, hge, hcm, by simpa using hz, ?_⟩, st_alloc (st_drew hst)⟩
  rw [Array.toList_append, List.take_append_of_le_length (by simp [bv_len])]
  rw [List.take_of_length_le (by simp [bv_len])]
theorem made_str {w0 w : World} {v : Value} {l : List UInt8} (m : Made w0 v l w) (ty : TypeId) (t : List UInt8) (hlen : l.length + t.length ≤ 1000000000) :
    ∃ v' w', (Builtin.append_ #[85, 9] ty #[v, .string (txt t)]).run Tryz.prog w = .ok v' w' ∧ Made w0 v' (l ++ t) w' := by
  obtain ⟨i0, hi, hz0, hz1, hz2⟩ := info_parts info8
  obtain ⟨⟨g, cap, cur, fz, rfl, hb, hg, hfz, hn, hcm, hcs, ht⟩, hst⟩ := m
  have hsz : (txt t).size = t.length := txt_size t
  by_cases hroom : l.length + t.length ≤ cap
  · have hf := Lib.run_firstCells_string (P := Tryz.prog) w 1 (txt t)
    rw [bv_str, txt_list] at hf
    obtain ⟨w', cur', r1, r2, r3, r4, r5⟩ := lay_far g l.length 5 fz (bv t) 0 cur w hg (by rw [bv_len]; intro j h2 h3; omega) (by rw [bv_len, hcs]; omega) (bv_one' t)
    refine ⟨_, w', ?_, Made.laid hb hst hfz hroom hcm hcs ht r2 r3 r4 r5⟩
    rw [hsz] at hf
    simp [Builtin.append_, run_underlying Tryz.underlying85, run_underlying Tryz.underlying9, sizeOf, typeInfo, hi, hz1, Builtin.lenOf, hsz, hroom, hf, Addr.add_lit, r1]
  · have holds : ∀ j u, (bv l)[j]? = some u → w.cell? ((⟨g, 0, none⟩ : Addr).add j) = some u := by
      intro j u hj
      have hadd : (⟨g, 0, none⟩ : Addr).add j = ⟨g, j, none⟩ := by unfold Addr.add; split <;> simp_all
      rw [hadd, cell_of_row w g j cur 5 fz hg]
      rw [← ht, List.getElem?_take] at hj
      split at hj
      · simpa using hj
      · cases hj
    have hr := Lib.run_append_grow_string (P := Tryz.prog) w 85 9 ty 5 i0 (.int .u8 0) Tryz.underlying85 Tryz.underlying9 hi hz0 ⟨g, 0, none⟩ l.length cap (bv l) (by rw [hz1, bv_len, Nat.mul_one]) holds (txt t) (by omega) (by omega) (by rw [hz2]; exact growslice_fits (by omega) (by omega))
    have hge := grownCap_ge w (l.length + (txt t).size) cap 5
    have hcm2 := grownCap_le_maxLen w (l.length + (txt t).size) cap 5 (by unfold maxLen; omega)
    refine ⟨_, _, hr, ?_⟩
    rw [bv_str, txt_list] at *
    have e : (bv l).toArray ++ (bv t).toArray = (bv (l ++ t)).toArray := by rw [← bv_append]; simp
    rw [e]
    have hll : l.length + (txt t).size = (l ++ t).length := by rw [hsz, List.length_append]
    rw [hll] at hge hcm2 ⊢
    have hz1' : (Value.int IntKind.u8 0).cells.size = 1 := rfl
    exact Made.new hst hge hcm2 _ (by rw [size_zeroCells, hz1', bv_len]; omega)
theorem made_row {w0 w : World} {v : Value} {l : List UInt8} (m : Made w0 v l w) (ty : TypeId) (t : List UInt8) (hlen : l.length + t.length ≤ 1000000000) (ad : Addr) (c : Nat) (hnews : ∀ j u, (bv t)[j]? = some u → w.cell? (ad.add j) = some u) :
    ∃ v' w', (Builtin.append_ #[85, 85] ty #[v, .slice (some ad) t.length c]).run Tryz.prog w = .ok v' w' ∧ Made w0 v' (l ++ t) w' := by
  obtain ⟨i0, hi, hz0, hz1, hz2⟩ := info_parts info8
  obtain ⟨⟨g, cap, cur, fz, rfl, hb, hg, hfz, hn, hcm, hcs, ht⟩, hst⟩ := m
  by_cases hroom : l.length + t.length ≤ cap
  · have hf := run_firstCells_some (P := Tryz.prog) w 1 t.length ad t.length c (bv t) (by rw [bv_len, Nat.mul_one]) hnews
    obtain ⟨w', cur', r1, r2, r3, r4, r5⟩ := lay_far g l.length 5 fz (bv t) 0 cur w hg (by rw [bv_len]; intro j h2 h3; omega) (by rw [bv_len, hcs]; omega) (bv_one' t)
    refine ⟨_, w', ?_, Made.laid hb hst hfz hroom hcm hcs ht r2 r3 r4 r5⟩
    simp [Builtin.append_, run_underlying Tryz.underlying85, sizeOf, typeInfo, hi, hz1, Builtin.lenOf, hroom, hf, Addr.add_lit, r1]
  · have holds : ∀ j u, (bv l)[j]? = some u → w.cell? ((⟨g, 0, none⟩ : Addr).add j) = some u := by
      intro j u hj
      have hadd : (⟨g, 0, none⟩ : Addr).add j = ⟨g, j, none⟩ := by unfold Addr.add; split <;> simp_all
      rw [hadd, cell_of_row w g j cur 5 fz hg]
      rw [← ht, List.getElem?_take] at hj
      split at hj
      · simpa using hj
      · cases hj
    have hr := run_append_grow (P := Tryz.prog) w 85 ty 5 i0 (.int .u8 0) Tryz.underlying85 hi hz0 ⟨g, 0, none⟩ l.length cap (bv l) (by rw [hz1, bv_len, Nat.mul_one]) holds ad t.length c (bv t) (by rw [hz1, bv_len, Nat.mul_one]) hnews (by omega) (by omega) (by rw [hz2]; exact growslice_fits (by omega) (by omega))
    have hge := grownCap_ge w (l.length + t.length) cap 5
    have hcm2 := grownCap_le_maxLen w (l.length + t.length) cap 5 (by unfold maxLen; omega)
    refine ⟨_, _, hr, ?_⟩
    have e : (bv l).toArray ++ (bv t).toArray = (bv (l ++ t)).toArray := by rw [← bv_append]; simp
    rw [e]
    have hll : l.length + t.length = (l ++ t).length := by rw [List.length_append]
    rw [hll] at hge hcm2 ⊢
    have hz1' : (Value.int IntKind.u8 0).cells.size = 1 := rfl
    exact Made.new hst hge hcm2 _ (by rw [size_zeroCells, hz1', bv_len]; omega)
/-- an append of a text, a step of a region that draws -/
theorem Made.step_str {w0 wb : World} {v : Value} {l : List UInt8} (m : Made w0 v l wb) {ops : Array Oper} {o : Oper} {a : Act} {K : Act → World → Prop} {Q : Exit → Act → World → Prop} {E : Prop} (hgd : o.guard = none) (sl x : Operand) (ho : o.op = .call { callee := .builtin .append, args := #[sl, x], argTypes := #[85, 9] })
    (dst : Nat) (hdst : o.dst = some dst) (hs : a.eval sl = v) (t : List UInt8) (hx : a.eval x = .string (txt t)) (hlen : l.length + t.length ≤ 1000000000) {W : World} (hst : Stands wb W) (h : ∀ v' w', Made w0 v' (l ++ t) w' → K (a.put (some dst) v') w') : if Region.wanted o (yielded ops a.tmps) = true then Oper.wp Tryz.prog o a W K Q else E := by
  have hw : Region.wanted o (yielded ops a.tmps) = true := by simp [Region.wanted, hgd]
  rw [if_pos hw]
  obtain ⟨v', w', hr, h2⟩ := made_str (m.stand hst) o.type t hlen
  unfold Oper.wp execOp
  simp only [ho, resolve, invoke, builtin, Sem.run_bind, Sem.run_pure, Result.andThen_ok, List.map_toArray, List.map_cons, List.map_nil, hs, hx, hr]
  show K (a.put o.dst v') w'
  rw [hdst]
  exact h _ _ h2
/-- an append of four bytes, a step of a region that draws -/
theorem Made.step_row {w0 wb : World} {v : Value} {l : List UInt8} (m : Made w0 v l wb) {ops : Array Oper} {o : Oper} {a : Act} {K : Act → World → Prop} {Q : Exit → Act → World → Prop} {E : Prop} (hgd : o.guard = none) (sl x : Operand) (ho : o.op = .call { callee := .builtin .append, args := #[sl, x], argTypes := #[85, 85] })
    (dst : Nat) (hdst : o.dst = some dst) (hs : a.eval sl = v) (b c : Nat) (t : List UInt8) (n : Nat) (hn : t.length = n) (hx : a.eval x = .slice (some ⟨b, 0, none⟩) n c) (hlen : l.length + t.length ≤ 1000000000) {W : World} (hst : Stands wb W) (hc : ∀ (j : Nat) (u : UInt8), t[j]? = some u → W.cell? ⟨b, j, none⟩ = some (.int .u8 u.toNat)) (h : ∀ v' w', Made w0 v' (l ++ t) w' → K (a.put (some dst) v') w') : if Region.wanted o (yielded ops a.tmps) = true then Oper.wp Tryz.prog o a W K Q else E := by
  have hw : Region.wanted o (yielded ops a.tmps) = true := by simp [Region.wanted, hgd]
  rw [if_pos hw]
  subst hn
  obtain ⟨v', w', hr, h2⟩ := made_row (m.stand hst) o.type t hlen ⟨b, 0, none⟩ c (by
    intro j u hj
    have hadd : (⟨b, 0, none⟩ : Addr).add j = ⟨b, j, none⟩ := by unfold Addr.add; split <;> simp_all
    rw [hadd]
    simp only [bv, List.getElem?_map] at hj
    cases ht : t[j]? with
    | none => rw [ht] at hj; cases hj
    | some y =>
      rw [ht] at hj
      obtain rfl := Option.some.inj hj
      exact hc j y ht)
  unfold Oper.wp execOp
  simp only [ho, resolve, invoke, builtin, Sem.run_bind, Sem.run_pure, Result.andThen_ok, List.map_toArray, List.map_cons, List.map_nil, hs, hx, hr]
  show K (a.put o.dst v') w'
  rw [hdst]
  exact h _ _ h2
/-- .. as a text -/
theorem Made.text {w0 w : World} {v : Value} {l : List UInt8} (m : Made w0 v l w) : (convert 85 9 v).run Tryz.prog w = .ok (.string (txt l)) w := by
  obtain ⟨⟨g, cap, cur, fz, rfl, hb, hg, hfz, hn, hcm, hcs, ht⟩, hst⟩ := m
  exact text_made hg ht
end Go.Proofs.YtbanldnjpnfgkaaGreatDoor.Wk
/- The reference's clocks, put: of none, of one span. -/
namespace Go.Proofs.YtbanldnjpnfgkaaGreatDoor.Wk
set_option maxRecDepth 100000
open Go.RowKit Go.VmK Go.NumPure
/-- a text made a row of bytes: the row, and what is past it -/
theorem conv_made (w : World) (S : ByteArray) (hS : S.size ≤ 1000) : ∃ (cap : Nat) (cur : Array Value) (v : World), S.size ≤ cap ∧ cap ≤ maxLen ∧ (convert 9 85 (.string S)).run Tryz.prog w = .ok (.slice (some ⟨w.heap.size, 0, none⟩) S.size cap) v ∧ Stands w v ∧ v.heap.size = w.heap.size + 1 ∧
    v.heap[w.heap.size]? = some (.cells cur 5 (cap, cap + 1)) ∧ cur.size = cap ∧ cur.toList.take S.size = bv S.data.toList := by
  have hge := grownCap_ge w S.size 0 5
  have e : S.data.size = S.size := rfl
  have hsz : (Lib.bytesCells w 5 S).size = grownCap w S.size 0 5 := by
    simp [Lib.bytesCells]; omega
  refine ⟨grownCap w S.size 0 5, Lib.bytesCells w 5 S, Lib.bytesWorld w 5 S, hge, grownCap_le_maxLen w S.size 0 5 (by unfold maxLen; omega), Lib.run_convert_string_bytes (P := Tryz.prog) w 9 85 5 S Tryz.underlying9 Tryz.underlying85 Tryz.underlying5, ⟨rfl, rfl, by rw [Lib.bytesWorld_size]; omega, fun i hi => Lib.bytesWorld_at_old w _ S i hi⟩, Lib.bytesWorld_size w _ S, ?_, hsz, ?_⟩
  · rw [Lib.bytesWorld_at_new, hsz]
  · unfold Lib.bytesCells
    rw [Array.toList_append, List.take_append_of_le_length (by simp [e])]
    rw [List.take_of_length_le (by simp [e]), Array.toList_map]
    rfl
theorem rput_nil (w : World) : Calls Tryz.prog 38 #[.slice none 0 0] w fun e w' => e = .returned (.string (txt [0])) ∧ Stands w w' := by
  go_enter Tryz.func38, Tryz.ntmps38
  have hw8 : IntKind.u64.wrap 0 = 0 := by decide
  go_wp2_with fail
  refine (rvar_low 0 (by decide) _).mono ?_
  rintro e w1 ⟨rfl, h1⟩
  have s1 := stands_of_below h1
  obtain ⟨cap, cur, w2, hc1, hc2, hcv, s2, hsz, hb, hcs, htk⟩ := conv_made w1 (bytesOf [0]) (by decide)
  have hcb := text_made (l := [0]) (cap := cap) hb htk
  have hz : (bytesOf [0]).size = 1 := rfl
  rw [hz] at hcv
  replace hcb : (convert 85 9 (.slice (some ⟨w1.heap.size, 0, none⟩) 1 cap)).run Tryz.prog w2 = .ok (.string (txt [0])) w2 := hcb
  go_wp2_with fail
  refine wp_loop_rounds 2 ?_
  rw [rounds_succ]
  go_wp2
  go_ret
  exact ⟨rfl, st_step s2 s1⟩
theorem rvars2 (bk cap : Nat) (w : World) (h0 : w.cell? ⟨bk, 0, none⟩ = some (.int .u64 1)) (h1 : w.cell? ⟨bk, 1, none⟩ = some (.int .u64 0)) :
    Calls Tryz.prog 31 #[.slice (some ⟨bk, 0, none⟩) 2 cap] w fun e w' => e = .returned (.string (txt [1, 0])) ∧ Stands w w' :=
  rvars_low [1, 0] (by decide) (by decide) (by decide) bk 0 cap w fun j v hj => by
    match j, hj with
    | 0, hj => obtain rfl := Option.some.inj hj; exact h0
    | 1, hj => obtain rfl := Option.some.inj hj; exact h1
set_option maxHeartbeats 6400000 in
theorem rput_row (bk off cap : Nat) (w : World) (h : ∀ (j : Nat) (v : Value), [Value.int .u8 0, .int .u8 0, .int .u8 0, .int .u8 2, .int .u64 1, .int .u64 1][j]? = some v → w.cell? ⟨bk, off + j, none⟩ = some v) : Calls Tryz.prog 38 #[.slice (some ⟨bk, off, none⟩) 1 cap] w fun e w' => e = .returned (.string (txt [1, 0, 0, 0, 2, 1, 0])) ∧ Stands w w' := by
  have hS : Hid (∀ w' : World, Stands w w' → (fun w' => w'.cell? ⟨bk, off, none⟩ = some (.int .u8 0) ∧ w'.cell? ⟨bk, off + 1, none⟩ = some (.int .u8 0) ∧ w'.cell? ⟨bk, off + 2, none⟩ = some (.int .u8 0) ∧ w'.cell? ⟨bk, off + 3, none⟩ = some (.int .u8 2) ∧ w'.cell? ⟨bk, off + 4, none⟩ = some (.int .u64 1) ∧ w'.cell? ⟨bk, off + 5, none⟩ = some (.int .u64 1)) w') := Lib.hid (fun w' hs => ⟨cell_st hs (h 0 _ rfl), cell_st hs (h 1 _ rfl), cell_st hs (h 2 _ rfl), cell_st hs (h 3 _ rfl), cell_st hs (h 4 _ rfl), cell_st hs (h 5 _ rfl)⟩)
  clear h
  have hw8 : IntKind.u64.wrap 1 = 1 := by decide
  have hw9 : IntKind.u64.wrap 0 = 0 := by decide
  go_enter Tryz.func38, Tryz.ntmps38
  go_wp2_with fail
  refine (rvar_low 1 (by decide) _).mono ?_
  rintro e w1 ⟨rfl, h1⟩
  have s1 := stands_of_below h1
  obtain ⟨cap1, cur, w2, hc1, hc2, hcv, s2, hsz, hb, hcs, htk⟩ := conv_made w1 (bytesOf [1]) (by decide)
  have hz : (bytesOf [1]).size = 1 := rfl
  rw [hz] at hcv
  have hM : Hid (Made w (.slice (some ⟨w1.heap.size, 0, none⟩) 1 cap1) [1] w2) := Lib.hid ⟨⟨w1.heap.size, cap1, cur, _, rfl, s1.size, hb, .inr (Nat.le_refl _), hc1, hc2, hcs, htk⟩, st_step s2 s1⟩
  clear h1 s1 hc1 hc2 s2 hsz hb hcs htk
  go_wp2_with fail
  refine wp_loop_rounds 2 ?_
  rw [rounds_succ]
  clear hcv
  go_upto_region 5 with fail
  go_cut [3] (fun v wx => Made w v [1, 0, 0, 0, 2] wx)
  case first =>
    go_region_held_law (fun w' => w'.cell? ⟨bk, off, none⟩ = some (.int .u8 0) ∧ w'.cell? ⟨bk, off + 1, none⟩ = some (.int .u8 0) ∧ w'.cell? ⟨bk, off + 2, none⟩ = some (.int .u8 0) ∧ w'.cell? ⟨bk, off + 3, none⟩ = some (.int .u8 2) ∧ w'.cell? ⟨bk, off + 4, none⟩ = some (.int .u64 1) ∧ w'.cell? ⟨bk, off + 5, none⟩ = some (.int .u64 1))
      (first
        | (with_reducible exact hS.out _ hm9.st)
        | (with_reducible refine hS.out _ ?_; (repeat (with_reducible first | exact st_refl _ | exact hM.out.st | refine st_alloc ?_ | refine st_drew ?_ | (apply st_step; assumption))); done))
      (first
        | (refine Made.step_row hM.out (by rfl) _ _ (by rfl) _ (by rfl) (by rfl) _ _ [0, 0, 0, 2] 4 (by rfl) (by rfl) (by decide) (by ((repeat (with_reducible first | exact st_refl _ | refine st_alloc ?_ | refine st_drew ?_ | (apply st_step; assumption))); done)) (by
              intro j u hj
              match j, hj with
              | 0, hj => obtain rfl := Option.some.inj hj; exact cell_newAt (by simp) rfl
              | 1, hj => obtain rfl := Option.some.inj hj; exact cell_newAt (by simp) rfl
              | 2, hj => obtain rfl := Option.some.inj hj; exact cell_newAt (by simp) rfl
              | 3, hj => obtain rfl := Option.some.inj hj; exact cell_newAt (by simp) rfl) (fun v9 w9 hm9 => ?_)
           simp only [Act.put, List.setIfInBounds_toArray, List.set_cons_zero, List.set_cons_succ])
        | (fail "none"))
    all_goals (go_wp2_with fail; go_meet; exact hm9)
  case rest =>
    replace hcut := Lib.hid hcut
    clear hM
    have hM := hcut
    clear hcut
    go_upto_region 6 with fail
    · go_region_held_law (fun w' => w'.cell? ⟨bk, off, none⟩ = some (.int .u8 0) ∧ w'.cell? ⟨bk, off + 1, none⟩ = some (.int .u8 0) ∧ w'.cell? ⟨bk, off + 2, none⟩ = some (.int .u8 0) ∧ w'.cell? ⟨bk, off + 3, none⟩ = some (.int .u8 2) ∧ w'.cell? ⟨bk, off + 4, none⟩ = some (.int .u64 1) ∧ w'.cell? ⟨bk, off + 5, none⟩ = some (.int .u64 1))
        (first
          | (with_reducible exact hS.out _ hm9.st)
          | (with_reducible refine hS.out _ ?_; (repeat (with_reducible first | exact st_refl _ | exact hM.out.st | refine st_alloc ?_ | refine st_drew ?_ | (apply st_step; assumption))); done))
        (first
          | (refine Made.step_str hM.out rfl _ _ rfl _ rfl rfl [1, 0] rfl (by decide) (by ((repeat (with_reducible first | exact st_refl _ | refine st_alloc ?_ | refine st_drew ?_ | (apply st_step; assumption))); done)) (fun v9 w9 hm9 => ?_)
             simp only [Act.put, List.setIfInBounds_toArray, List.set_cons_zero, List.set_cons_succ])
          | (go_at_call 31
             refine (rvars2 _ 2 _ (by ((repeat (first | ((with_reducible refine cell_newAt ?_ rfl); simp; done) | (with_reducible refine cell_al ?_) | (with_reducible refine cell_dr ?_) | (with_reducible (apply cell_st; assumption)))); done)) (by ((repeat (first | ((with_reducible refine cell_newAt ?_ rfl); simp; done) | (with_reducible refine cell_al ?_) | (with_reducible refine cell_dr ?_) | (with_reducible (apply cell_st; assumption)))); done))).mono ?_
             rintro r w7 ⟨rfl, hq7⟩))
      have hT := hm9.text
      have hst := Lib.hid hm9.st
      clear hm9
      go_wp2_with fail
      rw [rounds_succ]
      go_wp2
      go_ret
      exact ⟨rfl, hst.out⟩
end Go.Proofs.YtbanldnjpnfgkaaGreatDoor.Wk
