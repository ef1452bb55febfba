/-
  Part of the proof of a statement of this seat: walks of its functions and the closed run; no condition but those written in each theorem.
-/
import Derived.Test.YtajngeaenfdigaaGreatDoorV7
import Derived.Test.YtajngeaenfdigaaGreatDoorJK
import Derived.Deep.QuietTactic
import Derived.Shelf.RegionOpenPlain
/- Items: which one wins. -/
namespace Go.MapWin
open Go
structure It where
  el : ByteArray
  p : UInt8
  q : UInt8
  r : UInt8
  s : UInt8
  n : Nat
  va : ByteArray
instance : Inhabited It := ⟨⟨ByteArray.empty, 0, 0, 0, 0, 0, ByteArray.empty⟩⟩
def It.act (x : It) : List UInt8 := [x.p, x.q, x.r, x.s]
def It.cells (x : It) : List Value := [.string x.el, .int .u8 (x.p.toNat : Int), .int .u8 (x.q.toNat : Int), .int .u8 (x.r.toNat : Int), .int .u8 (x.s.toNat : Int), .int .u64 (x.n : Int), .string x.va]
/-- the first stands above the second -/
def It.gt (x y : It) : Prop := y.n < x.n ∨ (x.n = y.n ∧ y.act < x.act)
def It.same (x y : It) : Prop := x.n = y.n ∧ x.act = y.act
theorem It.gt_trans {x y z : It} (h : x.gt y) (g : y.gt z) : x.gt z := by
  rcases h with h | ⟨h1, h2⟩ <;> rcases g with g | ⟨g1, g2⟩
  · exact .inl (by omega)
  · exact .inl (by omega)
  · exact .inl (by omega)
  · exact .inr ⟨by omega, List.lt_trans g2 h2⟩
theorem It.gt_asymm {x y : It} (h : x.gt y) (g : y.gt x) : False := by
  rcases h with h | ⟨h1, h2⟩ <;> rcases g with g | ⟨g1, g2⟩
  · omega
  · omega
  · omega
  · exact List.lt_asymm h2 g2
theorem It.gt_total {x y : It} (h : ¬ x.same y) (g : ¬ x.gt y) : y.gt x := by
  by_cases h1 : x.n < y.n
  · exact .inl h1
  · by_cases h2 : y.n < x.n
    · exact absurd (.inl h2) g
    · have e : x.n = y.n := by omega
      refine .inr ⟨e.symm, ?_⟩
      by_cases h3 : x.act < y.act
      · exact h3
      · by_cases h4 : y.act < x.act
        · exact absurd (.inr ⟨e, h4⟩) g
        · exact absurd ⟨e, List.le_antisymm (List.not_lt.1 h4) (List.not_lt.1 h3)⟩ h
/-- this one stands above all others of the first so many -/
def Best (f : Nat → It) (k m : Nat) : Prop := m < k ∧ ∀ j, j < k → j ≠ m → (f m).gt (f j)
theorem best_one (f : Nat → It) : Best f 1 0 := ⟨by omega, fun j h g => by omega⟩
theorem best_keep {f : Nat → It} {k m : Nat} (h : Best f k m) (hd : ¬ (f k).same (f m)) (hg : ¬ (f k).gt (f m)) : Best f (k + 1) m := by
  refine ⟨by have := h.1; omega, fun j hj hm => ?_⟩
  by_cases e : j = k
  · subst e; exact It.gt_total hd hg
  · exact h.2 j (by omega) hm
theorem best_new {f : Nat → It} {k m : Nat} (h : Best f k m) (hg : (f k).gt (f m)) : Best f (k + 1) k := by
  refine ⟨by omega, fun j hj hm => ?_⟩
  by_cases e : j = m
  · subst e; exact hg
  · exact It.gt_trans hg (h.2 j (by omega) e)
theorem best_uniq {f : Nat → It} {k m n : Nat} (h : Best f k m) (g : Best f k n) : m = n := by
  by_cases e : m = n
  · exact e
  · exact (It.gt_asymm (h.2 n g.1 fun x => e x.symm) (g.2 m h.1 e)).elim
theorem best_back {f : Nat → It} {k m n : Nat} (h : Best f k m) (g : Best (fun j => f (k - 1 - j)) k n) : f (k - 1 - n) = f m := by
  have g' : Best f k (k - 1 - n) := by
    refine ⟨by have := g.1; omega, fun j hj hm => ?_⟩
    have := g.2 (k - 1 - j) (by omega) (by have := g.1; omega)
    have e : k - 1 - (k - 1 - j) = j := by omega
    simpa [e] using this
  rw [best_uniq h g']
theorem It.nsame {x y : It} (h : ¬ x.same y) : ¬ y.same x := fun ⟨a, b⟩ => h ⟨a.symm, b.symm⟩
end Go.MapWin
/- A slice of items that is handed in: its cells. -/
namespace Go.MapWin
open Go Go.RowKit Go.ChangeShapes Go.WideShapes Go.VmK
variable {H : Type} {enc : TypeId × Value → H} {P : Program}
/-- the items lie there, one behind the other -/
def Lie (w : World) (bk off len : Nat) (f : Nat → It) : Prop := ∀ j, j < len → ∀ (i : Nat) v, (f j).cells[i]? = some v → w.cell? ⟨bk, off + j * 7 + i, none⟩ = some v
theorem one_at {l : List Value} {n : Nat} {v : Value} (h : (l.drop n).take 1 = [v]) : l[n]? = some v := by
  have := congrArg (·[0]?) h
  simpa using this
theorem open_items {w : World} {base : Nat} {spare : Nat → Bool} {held : Bool} {t e dt at_ ut nt st : TypeId} {fs gs : Array Field} {fuel : Nat} {cs : List Value} {x : DataW H × List MemPlace} (ht : P.underlying t = some (.slice e)) (he : P.underlying e = some (.struct fs)) (hc : P.cellsOf e = 7)
    (hst : P.underlying st = some .string) (hcs : P.cellsOf st = 1) (hd : P.underlying dt = some (.struct gs)) (hcd : P.cellsOf dt = 5) (ha : P.underlying at_ = some (.array 4 ut)) (hca : P.cellsOf at_ = 4) (hu : P.underlying ut = some (.int .u8)) (hcu : P.cellsOf ut = 1) (hn : P.underlying nt = some (.int .u64)) (hcn : P.cellsOf nt = 1)
    {f0 f1 f2 g0 g1 : Field} (hf0 : fs[0]? = some f0) (hf1 : fs[1]? = some f1) (hf2 : fs[2]? = some f2) (hg0 : gs[0]? = some g0) (hg1 : gs[1]? = some g1) (t0 : f0.type = st) (t1 : f1.type = dt) (t2 : f2.type = st) (o0 : f0.offset = 0) (o1 : f1.offset = 1) (o2 : f2.offset = 6) (u0 : g0.type = at_) (u1 : g1.type = nt) (p0 : g0.offset = 0) (p1 : g1.offset = 4)
    (h : DataW.trod enc P w base spare held fuel t cs = some x) :
    ∃ (ao : Option Addr) (len cap : Nat) (f : Nat → It), cs = [.slice ao len cap] ∧ len ≤ maxLen ∧ (∀ j, (f j).n < 18446744073709551616) ∧ (len = 0 ∨ ∃ bk off, ao = some ⟨bk, off, none⟩ ∧ Lie w bk off len f) := by
  rcases DataW.trod_slice ht h with ⟨rfl, _⟩ | ⟨a, len, cap, elems, rest, n, _, rfl, rfl, hb, hl, hm, hlen, hel, hsp, hns⟩
  · exact ⟨none, 0, 0, fun _ => default, rfl, by simp [maxLen], fun _ => by show (0 : Nat) < _; omega, .inl rfl⟩
  · have key : ∀ j, j < len → ∃ cs' y, w.cells? base (a.add (j * 7)) 7 = some cs' ∧ DataW.trod enc P w base spare held n e cs' = some y := by
      intro j hj
      have h1 := hel j hj
      rw [List.getElem?_eq_getElem (by omega), Option.bind_eq_some_iff] at h1
      obtain ⟨cs', h2, h3⟩ := h1
      rw [hc] at h2
      exact ⟨cs', _, h2, h3⟩
    by_cases hz : len = 0
    · exact ⟨some a, len, cap, fun _ => default, rfl, by omega, fun _ => by show (0 : Nat) < _; omega, .inl hz⟩
    · have hspot : a.spot = none := by
        obtain ⟨cs0, y0, q1, _⟩ := key 0 (by omega)
        obtain ⟨_, q3, q4⟩ := World.cells?_some q1
        have h5 := q4 0 (by omega)
        have hz : (a.add (0 * 7)).add 0 = a := by simp [Addr.add]
        rw [hz] at h5
        cases hq : a.spot with
        | none => rfl
        | some s =>
          have : w.cell? a = none := by
            unfold World.cell?
            split <;> simp [hq]
          rw [this, List.getElem?_eq_getElem (by omega)] at h5
          cases h5
      obtain ⟨bk, off, sp⟩ := a
      cases hspot
      have cell : ∀ j, j < len → ∃ it : It, it.n < 18446744073709551616 ∧ ∀ (i : Nat) v, it.cells[i]? = some v → w.cell? ⟨bk, off + j * 7 + i, none⟩ = some v := by
        intro j hj
        obtain ⟨cs', y, g1', g2⟩ := key j hj
        obtain ⟨_, g3, g4⟩ := World.cells?_some g1'
        obtain ⟨xs, m, _, _, h5, hxl, h6⟩ := DataW.trod_struct he g2
        have hn3 : 3 ≤ fs.size := (Array.getElem?_eq_some_iff.1 hf2).1
        have hadd : ∀ i, ((⟨bk, off, none⟩ : Addr).add (j * 7)).add i = ⟨bk, off + j * 7 + i, none⟩ := fun i => by rw [addr_add, addr_add]
        have e0 := h6 0 f0 hf0
        have e1 := h6 1 f1 hf1
        have e2 := h6 2 f2 hf2
        rw [List.getElem?_eq_getElem (by omega)] at e0 e1 e2
        obtain ⟨s0, z0, _⟩ := DataW.trod_string (by rw [t0]; exact hst) e0
        obtain ⟨s2, z2, _⟩ := DataW.trod_string (by rw [t2]; exact hst) e2
        rw [t0, hcs, o0] at z0
        rw [t2, hcs, o2] at z2
        obtain ⟨xs1, m1, _, _, k5, k6, k7⟩ := DataW.trod_struct (by rw [t1]; exact hd) e1
        have hn2 : 2 ≤ gs.size := (Array.getElem?_eq_some_iff.1 hg1).1
        have d0 := k7 0 g0 hg0
        have d1 := k7 1 g1 hg1
        rw [List.getElem?_eq_getElem (by omega)] at d0 d1
        obtain ⟨nn, zn, _, wn⟩ := DataW.trod_int (by rw [u1]; exact hn) d1
        rw [t1, hcd, o1, u1, hcn, p1] at zn
        obtain ⟨xs2, m2, _, _, l5, l6, l7⟩ := DataW.trod_array (by rw [u0]; exact ha) d0
        have byte : ∀ i, i < 4 → ∃ b : UInt8, cs'[1 + i]? = some (.int .u8 (b.toNat : Int)) := by
          intro i hi
          have q := l7 i hi
          rw [List.getElem?_eq_getElem (by omega)] at q
          obtain ⟨b, zb, _, wb⟩ := DataW.trod_int hu q
          have hb := bounds_u8 wb
          rw [t1, hcd, o1, u0, hca, p0, hcu] at zb
          refine ⟨UInt8.ofNat b.toNat, ?_⟩
          have hv : ((UInt8.ofNat b.toNat).toNat : Int) = b := by
            have : b.toNat < 256 := by omega
            rw [UInt8.toNat_ofNat']
            omega
          rw [hv]
          have := congrArg (·[0]?) zb
          simp [List.getElem?_take, List.getElem?_drop] at this
          rw [Nat.add_comm]
          exact this.2.2
        obtain ⟨b0, y0⟩ := byte 0 (by omega)
        obtain ⟨b1, y1⟩ := byte 1 (by omega)
        obtain ⟨b2, y2⟩ := byte 2 (by omega)
        obtain ⟨b3, y3⟩ := byte 3 (by omega)
        have yn : cs'[5]? = some (.int .u64 nn) := by
          have := congrArg (·[0]?) zn
          simpa [List.getElem?_take, List.getElem?_drop] using this
        have hb := bounds_u64 wn
        refine ⟨⟨s0, b0, b1, b2, b3, nn.toNat, s2⟩, by show nn.toNat < _; omega, fun i v hv => ?_⟩
        have q : cs'[i]? = some v := by
          have hs0 := one_at z0
          have hs2 := one_at z2
          match i, hv with
          | 0, hv => rw [hs0]; exact hv
          | 1, hv => rw [y0]; exact hv
          | 2, hv => rw [y1]; exact hv
          | 3, hv => rw [y2]; exact hv
          | 4, hv => rw [y3]; exact hv
          | 5, hv =>
            rw [yn]
            have : ((nn.toNat : Nat) : Int) = nn := by omega
            rw [← hv]
            simp [It.cells, this]
          | 6, hv => rw [hs2]; exact hv
          | i + 7, hv => simp [It.cells] at hv
        have hi : i < 7 := by
          have := (List.getElem?_eq_some_iff.1 hv).1
          simpa [It.cells] using this
        have := g4 i hi
        rw [hadd] at this
        rw [this, q]
      refine ⟨some ⟨bk, off, none⟩, len, cap, fun j => if hj : j < len then (cell j hj).choose else default, rfl, by omega, fun j => ?_, .inr ⟨bk, off, rfl, fun j hj i v hv => ?_⟩⟩
      · by_cases hj : j < len
        · simp only [dif_pos hj]; exact (cell j hj).choose_spec.1
        · simp only [dif_neg hj]; show (0 : Nat) < _; omega
      simp only [dif_pos hj] at hv
      exact (cell j hj).choose_spec.2 i v hv
end Go.MapWin
/- Two rows from outside are compared; regions that draw and only read, walked once. -/
namespace Go.VmK
variable {P : Program}
theorem slice_rows {P : Program} {E : List LoopInfo} {η : Env} {H : Heap} {w : World} (hr : HRel P η E H w) {b off k : Nat} {cap : Cap} {l : List AV} {ys : List Value} {y : Value} (h : loadN H b off k = some l) (hb : concL η l = some ys) (hc : conc η (.slice b off k cap) = some y) :
    ∃ (r c : Nat), y = .slice (some ⟨r, off, none⟩) ys.length c ∧ r < w.heap.size ∧ ∀ (j : Nat) x, ys[j]? = some x → w.cell? ⟨r, off + j, none⟩ = some x := by
  obtain ⟨r, cells, g1, g2, g3, g4, g5, _⟩ := loadN_sound hr h
  obtain rfl : cells = ys := by rw [g2] at hb; exact Option.some.inj hb
  have hlt : r < w.heap.size := by
    unfold loadN at h
    split at h
    · rename_i hg
      obtain ⟨b', ob, e1, e2, _⟩ := hr.obj _ _ hg
      rw [g1] at e1; cases e1
      exact lt_of_get e2
    · cases h
  simp only [conc, g1] at hc
  cases hcp : capOf η cap with
  | none => simp [hcp] at hc
  | some c =>
    rw [hcp] at hc
    simp only at hc
    split at hc
    · cases hc
      exact ⟨r, c, by rw [g3], hlt, g5⟩
    · cases hc
/-- a function that answers this of just these two rows -/
noncomputable def rowsAre (l1 l2 : List AV) (v : AV) (H : Heap) : List AV → Option (List (AV × Heap))
  | [.slice b1 o1 n1 _, .slice b2 o2 n2 _] => match loadN H b1 o1 n1, loadN H b2 o2 n2 with
    | some x, some y => bif eqAVs x l1 && eqAVs y l2 then some [(v, H)] else none
    | _, _ => none
  | _ => none
theorem rowsAre_ok {w0 : World} {σ0 : Nat → Option Value} {f : FuncId} {l1 l2 : List AV} {v : AV} {xs ys : List Value} {z : Value} (e1 : concL (env0 σ0) l1 = some xs) (e2 : concL (env0 σ0) l2 = some ys) (e3 : conc (env0 σ0) v = some z)
    (h : ∀ (w : World) (b1 o1 c1 b2 o2 c2 : Nat), (∀ (j : Nat) x, xs[j]? = some x → w.cell? ⟨b1, o1 + j, none⟩ = some x) → (∀ (j : Nat) x, ys[j]? = some x → w.cell? ⟨b2, o2 + j, none⟩ = some x) →
      Calls P f #[.slice (some ⟨b1, o1, none⟩) xs.length c1, .slice (some ⟨b2, o2, none⟩) ys.length c2] w fun e w' => e = .returned z ∧ Stands w w') : ConOK P (Outer w0 σ0 fun b => b < w0.heap.size) f (.fn (rowsAre l1 l2 v)) := by
  intro E η H w args zs l b hy hl cs
  simp only [conRun] at hl
  unfold rowsAre at hl
  split at hl
  · rename_i b1 o1 n1 k1 b2 o2 n2 k2
    split at hl
    · rename_i m1 m2 h1 h2
      cases hb : (eqAVs m1 l1 && eqAVs m2 l2) with
      | false => rw [hb] at hl; cases hl
      | true =>
        rw [hb] at hl
        cases hl
        simp only [Bool.and_eq_true] at hb
        obtain rfl := eqAVs_eq _ _ hb.1
        obtain rfl := eqAVs_eq _ _ hb.2
        have hle : (env0 σ0).le η := ⟨fun _ _ h => (by cases h), fun _ _ h => (by cases h), b.inv.σ⟩
        simp only [concL] at hy
        cases q1 : conc η (.slice b1 o1 n1 k1) with
        | none => rw [q1] at hy; cases hy
        | some v1 =>
          cases q2 : conc η (.slice b2 o2 n2 k2) with
          | none => rw [q1, q2] at hy; cases hy
          | some v2 =>
            rw [q1, q2] at hy
            obtain rfl : [v1, v2] = zs := Option.some.inj hy
            obtain ⟨r1, c1, rfl, s1, t1⟩ := slice_rows b.rel h1 (concL_mono hle _ _ e1) q1
            obtain ⟨r2, c2, rfl, s2, t2⟩ := slice_rows b.rel h2 (concL_mono hle _ _ e2) q2
            obtain ⟨e, w', fr, ⟨rfl, hs⟩, p1, p2, p3⟩ := h w r1 o1 c1 r2 o2 c2 t1 t2 cs
            exact ⟨(v, H), List.mem_cons_self, η, _, w', ⟨fr, p1, p2, going_of p3⟩, conc_mono hle _ _ e3, Trans.stands b.rel hs, b.above, Below.refl _ _ _⟩
    · cases hl
  · cases hl
/-- a world in which what stood in w stands -/
structure StBy (w : World) where
  u : World
  st : Stands w u
instance (w : World) : Nonempty (StBy w) := ⟨⟨w, ⟨rfl, rfl, Nat.le_refl _, fun _ _ => rfl⟩⟩⟩
theorem wp_region_stands {id : Nat} {Q : Exit → Act → World → Prop} {a : Act} {w : World} {l : List Oper} (hm : P.follows .mixedOrders = true) (hB : Region.lexB .any l.toArray = true)
    (h : wpQuiet P l.toArray (fun w' => ∃ p : StBy w, w' = p.u) (fun a' => ∀ w', (∃ p : StBy w, w' = p.u) → Q .normal a' w') l a) : (Code.region id l.toArray true).wp P Q a w :=
  wp_region_quiet (C := fun w' => ∃ p : StBy w, w' = p.u) hm hB ⟨⟨{ w with drawn := w.drawn + 1 }, ⟨rfl, rfl, Nat.le_refl _, fun _ _ => rfl⟩⟩, rfl⟩ (by simpa using h)
/-- the walk of such a region, shut against reckoning -/
structure QW (P : Program) (ops : Array Oper) (C : World → Prop) (Q : Act → Prop) (l : List Oper) (a : Act) : Prop where
  out : wpQuiet P ops C Q l a
theorem QW.step {ops : Array Oper} {C : World → Prop} {Q : Act → Prop} {a : Act} {o : Oper} {rest : List Oper}
    (h : ∀ K : Act → Prop, (∀ a, QW P ops C Q rest a → K a) → if Region.wanted o (yielded ops a.tmps) then o.quiet P a C K else K (a.put o.dst undef)) : QW P ops C Q (o :: rest) a :=
  ⟨wpQuiet_step fun K hK => h K fun a ha => hK a ha.out⟩
theorem QW.nil {ops : Array Oper} {C : World → Prop} {Q : Act → Prop} {a : Act} (h : Q a) : QW P ops C Q [] a := ⟨wpQuiet_nil h⟩
theorem wp_region_qw {id : Nat} {Q : Exit → Act → World → Prop} {a : Act} {w : World} {l : List Oper} (hm : P.follows .mixedOrders = true) (hB : Region.lexB .any l.toArray = true)
    (h : QW P l.toArray (fun w' => ∃ p : StBy w, w' = p.u) (fun a' => ∀ w', (∃ p : StBy w, w' = p.u) → Q .normal a' w') l a) : (Code.region id l.toArray true).wp P Q a w :=
  wp_region_stands hm hB h.out
theorem Calls.by_stands {f : FuncId} {args : Array Value} {w : World} {p : StBy w} {v : Value} (h : Calls P f args p.u fun e w' => e = .returned v ∧ Stands p.u w') : Calls P f args p.u fun e w'' => e = .returned v ∧ ∃ p : StBy w, w'' = p.u :=
  h.mono fun _ w' ⟨he, hs⟩ => ⟨he, ⟨w', ⟨hs.os.trans p.st.os, hs.output.trans p.st.output, Nat.le_trans p.st.size hs.size, fun b hb => (hs.blocks b (Nat.lt_of_lt_of_le hb p.st.size)).trans (p.st.blocks b hb)⟩⟩, rfl⟩
theorem StBy.cell {w : World} (p : StBy w) {b o : Nat} {v : Value} (h : w.cell? ⟨b, o, none⟩ = some v) : p.u.cell? ⟨b, o, none⟩ = some v := by
  have hlt : b < w.heap.size := by
    cases hq : w.heap[b]? with
    | none => simp [World.cell?, hq] at h
    | some o => exact (Array.getElem?_eq_some_iff.1 hq).1
  unfold World.cell? at h ⊢
  rw [p.st.blocks b hlt]
  exact h
end Go.VmK
