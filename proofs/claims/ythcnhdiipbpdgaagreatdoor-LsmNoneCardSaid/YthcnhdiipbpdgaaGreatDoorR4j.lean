/-
  A machine that runs the model with abstract blocks, and lemmas on it: whatever it answers of a call is what the model does (ProgOK, Base: the conditions).
-/
import Derived.Test.YthcnhdiipbpdgaaGreatDoorR4i
namespace Go.VmK
variable {P : Program} {C : Ctx} {E : List LoopInfo} {η : Env} {H : Heap} {w : World}

theorem lies_own {e : TypeId} {s count : Nat} (hs : P.cellsOf e = s) (h0 : s ≠ 0) (hc : 1 ≤ count) : liesAt P P.depth e count 0 e 1 = true := by
  obtain ⟨d, hd⟩ : ∃ d, P.depth = d + 1 := ⟨2 * (P.types.size + Made.depth) + 1, rfl⟩
  have hsame : sameLayout P P.depth e e = true := by rw [hd]; simp [sameLayout]
  have hrow : rowAt P (sameLayout P P.depth · e) P.depth e count 0 1 = true := by
    have hs' := hsame
    rw [hd] at hs' ⊢
    simp [rowAt, hs, h0, hc, hs']
  have : liesAt P (d + 1) e count 0 e 1 = true := by
    rw [hd] at hrow
    simp only [liesAt]
    rw [hd, hrow]; simp
  rw [hd]; exact this

theorem convertOp_sound (hC : CtxOK P C) (hr : HRel P η E H w) {s d : TypeId} {a : AV} {x : Value} (hx : conc η a = some x) {v : AV} {H' : Heap} (h : convertOp C H s d a = some (v, H')) :
    H' = H ∧ ∃ u, conc η v = some u ∧ (convert s d x).run P w = .ok u w := by
  unfold convertOp at h
  split at h
  · rename_i k1 k k2 n h1 h2
    cases h; rw [conc_int hx]
    exact ⟨rfl, _, rfl, by simp [convert, run_und hC h1, run_und hC h2, Conv.intToInt, wrapK_eq]⟩
  · rename_i t h1 h2
    cases h; rw [conc_str hx]
    exact ⟨rfl, _, rfl, by simp [convert, run_und hC h1, run_und hC h2]⟩
  · rename_i e x' h1 h2
    split at h
    · rename_i h3
      cases h; rw [conc_nils hx]
      refine ⟨rfl, _, rfl, ?_⟩
      simp [convert, run_und hC h1, run_und hC h2, run_und hC h3, Conv.bytesToString]
      rfl
    · rename_i b off len c h3
      split at h
      · rename_i l hl
        cases hs : asBytes l with
        | none => rw [hs] at h; cases h
        | some s' =>
          rw [hs] at h; simp only [Option.map_some, Option.some.injEq, Prod.mk.injEq] at h
          obtain ⟨rfl, rfl⟩ := h
          obtain ⟨r, n, hb, _, rfl⟩ := conc_slice hx
          obtain ⟨r2, xs, hb2, hxs, hxl, hll, hcell, hrun⟩ := loadN_sound (P := P) hr hl
          rw [hb] at hb2; cases hb2
          obtain ⟨a1, a2⟩ := asBytes_sound hs hxs
          have := bytesToString_run (P := P) (cap := n) a1 a2 hrun
          exact ⟨rfl, _, rfl, by simp [convert, run_und hC h1, run_und hC h2, run_und hC h3, this]⟩
      · cases h
    · cases h
  · rename_i e h1 h2
    cases h; rw [conc_nilp hx]
    exact ⟨rfl, _, rfl, by simp [convert, run_und hC h1, run_und hC h2, Conv.unsafePointer]⟩
  · rename_i e h1 h2
    cases h; rw [conc_nilp hx]
    exact ⟨rfl, _, rfl, by simp [convert, run_und hC h1, run_und hC h2, Conv.unsafePointer]⟩
  · rename_i t b off h1 h2
    split at h
    · rename_i tt tr n e o lo hi mk htt hg
      cases hq : (Nat.beq tt.size 0 || Nat.ble n off) with
      | true => rw [hq] at h; cases h
      | false =>
        rw [hq] at h; simp only [cond_false, Option.some.injEq, Prod.mk.injEq] at h
        obtain ⟨rfl, rfl⟩ := h
        simp only [Bool.or_eq_false_iff] at hq
        obtain ⟨q1, q2⟩ := hq
        have hz : tt.size ≠ 0 := fun e => by rw [e] at q1; cases q1
        have hlt : off < n := by
          rcases Nat.lt_or_ge off n with h | h
          · exact h
          · rw [Nat.ble_eq_true_of_le h] at q2; cases q2
        obtain ⟨r, hb, rfl⟩ := conc_ptr hx
        obtain ⟨r2, c, fz, hb2, hh, hcr⟩ := getC hr hg
        rw [hb] at hb2; cases hb2
        have hcs := hcr.le
        have hno : ¬ c.size ≤ off := by omega
        exact ⟨rfl, _, hx, by simp [convert, run_und hC h1, run_und hC h2, Conv.unsafePointer, Conv.seenAt, viewAt, World.shape?, hh, cellsIn, (ti_ok hC htt).sizeOf, hz, hno]⟩
    · cases h
  · rename_i u b off h1 h2
    split at h
    · rename_i tr n e o lo hi mk hg
      cases hq : (Nat.beq u e && Nat.beq off 0 && ownSize C u n) with
      | false => rw [hq] at h; cases h
      | true =>
        rw [hq] at h; simp only [cond_true, Option.some.injEq, Prod.mk.injEq] at h
        obtain ⟨rfl, rfl⟩ := h
        simp only [Bool.and_eq_true] at hq
        obtain ⟨⟨q1, q2⟩, q3⟩ := hq
        have q1 := beq_eq q1; have q2 := beq_eq q2
        subst q1; subst q2
        unfold ownSize at q3
        split at q3
        · rename_i tu htu
          simp only [Bool.and_eq_true, notB_eq, Bool.not_eq_true'] at q3
          have q4 := beq_eq q3.1
          have hn0 : n ≠ 0 := fun e => by have := q3.2; rw [e] at this; cases this
          obtain ⟨r, hb, rfl⟩ := conc_ptr hx
          obtain ⟨r2, c, fz, hb2, hh, hcr⟩ := getC hr hg
          rw [hb] at hb2; cases hb2
          have hT := ti_ok hC htu
          have hcs := hcr.le
          have hcell : P.cellsOf u = n := by rw [hT.cellsOf, q4]
          have hlies := lies_own (P := P) (count := c.size / P.cellsOf u) hcell hn0 (by rw [hcell]; exact (Nat.le_div_iff_mul_le (by omega)).2 (by omega))
          exact ⟨rfl, _, hx, by simp [convert, run_und hC h1, run_und hC h2, Conv.unsafePointer, Conv.seenAt, viewAt, World.shape?, hh, hT.sizeOf, q4, hn0, variablesAt, hlies]⟩
        · cases q3
    · cases h
  · cases h

theorem doNil_sound {a : AV} {x : Value} {v : AV} {H' : Heap} {o : Oper} {ρ : Operand → Value} {p : Operand} (hop : o.op = .nilCheck p) (hp : ρ p = x) (hx : conc η a = some x) (h : doNil H a = some (.val v H')) :
    H' = H ∧ v = a ∧ (execOp ρ o).run P w = .ok (.value x) w := by
  unfold doNil at h
  split at h
  · obtain ⟨r, hb, rfl⟩ := conc_ptr hx
    cases h; exact ⟨rfl, rfl, by simp [execOp, hop, hp]⟩
  · obtain ⟨xs, ys, _, _, rfl⟩ := conc_func hx
    cases h; exact ⟨rfl, rfl, by simp [execOp, hop, hp]⟩
  · obtain ⟨y, _, rfl⟩ := conc_iface hx
    cases h; exact ⟨rfl, rfl, by simp [execOp, hop, hp]⟩
  · cases h

theorem doIface_sound (hC : CtxOK P C) {t : TypeId} {a : AV} {x : Value} {v : AV} {H' : Heap} (hx : conc η a = some x) (h : doIface C H t a = some (.val v H')) :
    H' = H ∧ ∃ u, conc η v = some u ∧ (Instr.makeInterface t x).run P w = .ok u w := by
  unfold doIface at h
  split at h
  · cases h
  · rename_i u hni hu
    cases h
    refine ⟨rfl, .iface t x, by simp [conc, hx], ?_⟩
    simp only [Instr.makeInterface, Sem.run_bind, run_und hC hu, Result.andThen_ok]
    cases u <;> first | rfl | exact absurd rfl (hni _)
  · cases h

theorem doExtract_sound {i : Nat} {a : AV} {x : Value} {v : AV} {H' : Heap} (hx : conc η a = some x) (h : doExtract H i a = some (.val v H')) : H' = H ∧ ∃ u, conc η v = some u ∧ (Instr.extract x i).run P w = .ok u w := by
  unfold doExtract at h
  split at h
  · rename_i vs
    obtain ⟨xs, hxs, rfl⟩ := conc_tuple hx
    cases hv : vs[i]? with
    | none => rw [hv] at h; cases h
    | some v' =>
      rw [hv] at h; simp only [valO] at h; cases h
      obtain ⟨y, hy, hc⟩ := concL_get hxs i _ hv
      exact ⟨rfl, y, hc, by simp [Instr.extract, hy]⟩
  · cases h

theorem doAssert_sound (hC : CtxOK P C) {t xT : TypeId} {ok : Bool} {a : AV} {x : Value} {v : AV} {H' : Heap} (hx : conc η a = some x) (h : doAssert C H t ok a = some (.val v H')) :
    H' = H ∧ ∃ u, conc η v = some u ∧ (Instr.typeAssert x xT t ok).run P w = .ok u w := by
  unfold doAssert at h
  cases hq : typeAssertOp C a t ok with
  | none => rw [hq] at h; cases h
  | some v' =>
    rw [hq] at h; simp only [valO] at h; cases h
    refine ⟨rfl, ?_⟩
    unfold typeAssertOp at hq
    split at hq
    · cases hq
    · rename_i u t' v0 hni hu
      cases hb : Nat.beq t' t with
      | false => rw [hb] at hq; cases hq
      | true =>
        rw [hb] at hq; simp only [cond_true, Option.some.injEq] at hq; subst hq
        have := beq_eq hb; subst this
        obtain ⟨y, hy, rfl⟩ := conc_iface hx
        cases ok with
        | true =>
          refine ⟨.tuple #[y, .bool true], by simp [conc, concL, hy], ?_⟩
          simp only [Instr.typeAssert, Sem.run_bind, run_und hC hu, Result.andThen_ok]
          cases u <;> first | simp | exact absurd rfl (hni _)
        | false =>
          refine ⟨y, hy, ?_⟩
          simp only [Instr.typeAssert, Sem.run_bind, run_und hC hu, Result.andThen_ok]
          cases u <;> first | simp | exact absurd rfl (hni _)
    · cases hq

theorem mapO_ev {tmps : Tr AV} {n : Nat} {a : Act} (ht : TRel η tmps n a.tmps) {l : List Operand} {r : List AV} (h : mapO (ev tmps) l = some r) : concL η r = some (l.map a.eval) := by
  obtain ⟨hl, hg⟩ := mapO_some h
  refine concL_of_get (by simp [hl]) fun i v hv => ?_
  have hi : i < l.length := by rw [← hl]; exact (List.getElem?_eq_some_iff.1 hv).1
  obtain ⟨y, hy, he⟩ := hg i l[i] (List.getElem?_eq_getElem hi)
  rw [hv] at hy; cases hy
  exact ⟨a.eval l[i], by simp [hi], ev_sound ht he⟩

theorem doFunc_sound {tmps : Tr AV} {n : Nat} {a : Act} (ht : TRel η tmps n a.tmps) {fn : Fn} {first captured : Array Operand} {v : AV} {H' : Heap} (h : doFunc H tmps fn first.toList captured.toList = some (.val v H')) :
    H' = H ∧ ∃ u, conc η v = some u ∧ (Instr.makeFunc fn (first.map a.eval) (captured.map a.eval)).run P w = .ok u w := by
  unfold doFunc at h
  split at h
  · rename_i f
    split at h
    · cases h
    · rename_i x hx
      split at h
      · cases h
      · rename_i y hy
        cases h
        have e1 := mapO_ev ht hx
        have e2 := mapO_ev ht hy
        refine ⟨rfl, .func (.func f) (first.map a.eval) (captured.map a.eval), ?_, rfl⟩
        simp [conc, e1, e2]
        constructor <;> (apply Array.ext'; simp)
  · cases h
end Go.VmK
