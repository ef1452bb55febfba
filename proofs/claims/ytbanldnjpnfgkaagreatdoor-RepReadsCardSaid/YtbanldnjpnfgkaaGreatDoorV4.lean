/-
  A machine that runs the model with abstract blocks, and lemmas on it: whatever it answers of a call is what the model does (ProgOK, Base: the conditions).
-/
import Derived.Test.YtbanldnjpnfgkaaGreatDoorV3
import Derived.Lib.UnsafeStr
import Derived.OpenShut
import Derived.Laws.StructEq
import Derived.Laws.RangeString
namespace Go.VmK
variable {P : Program} {C : Ctx} {E : List LoopInfo} {η : Env} {H : Heap} {w : World}

/-! unsafe.String -/
theorem freeze_put {w : World} {r off n : Nat} {c : Array Value} {e : TypeId} {lo hi : Nat} (h : w.heap[r]? = some (.cells c e (lo, hi))) (hn : n ≠ 0) :
    w.freeze ⟨r, off, none⟩ n = World.putBlock w r (.cells c e (if lo == hi then (off, off + n) else (min lo off, max hi (off + n)))) := by
  unfold World.freeze World.putBlock
  rw [if_neg hn, modify_eq _ h]

theorem unsafeStr_sound (hC : CtxOK P C) (hr : HRel P η E H w) {t it : TypeId} {type : TypeId} {p n : AV} {x y : Value} (hx : conc η p = some x) (hy : conc η n = some y) {v : AV} {H' : Heap}
    (h : unsafeStr C H t p n = some (v, H')) : SimS P E η H w (Builtin.unsafeString_ #[t, it] type #[x, y]) v H' := by
  unfold unsafeStr at h
  split at h
  · rename_i k
    rw [conc_int hy]
    have zero : ∀ q, SimS P E η H w (Builtin.unsafeString_ #[t, it] type #[.pointer q, .int .i64 (Int.ofNat 0)]) (.str []) H := fun q =>
      SimS.pure hr rfl (Lib.run_unsafeString_none (P := P) (w := w) t it type q)
    unfold unsafeN at h
    split at h
    · rw [conc_nilp hx]
      cases hq : Nat.beq k 0 with
      | false => rw [hq] at h; cases h
      | true =>
        rw [hq] at h; simp only [cond_true, Option.some.injEq, Prod.mk.injEq] at h
        obtain ⟨rfl, rfl⟩ := h
        have := beq_eq hq; subst this
        exact zero none
    · rename_i b off
      obtain ⟨r', hb, rfl⟩ := conc_ptr hx
      cases hq : Nat.beq k 0 with
      | true =>
        rw [hq] at h; simp only [cond_true, Option.some.injEq, Prod.mk.injEq] at h
        obtain ⟨rfl, rfl⟩ := h
        have := beq_eq hq; subst this
        exact zero _
      | false =>
        rw [hq] at h; simp only [cond_false] at h
        have hk0 : k ≠ 0 := fun e => by rw [e] at hq; cases hq
        split at h
        · rename_i u hu
          cases hoff : Nat.beq off 0 with
          | false => rw [hoff] at h; cases h
          | true =>
            rw [hoff] at h; simp only [cond_true] at h
            have := beq_eq hoff; subst this
            unfold unsafeRow at h
            split at h
            · rename_i tr m e o lo hi mk te hg hte
              cases hq2 : (notB mk && Nat.beq e u && Nat.beq te.size 1 && Nat.ble k m && Nat.ble k 1099511627776) with
              | false => rw [hq2] at h; cases h
              | true =>
                rw [hq2] at h; simp only [cond_true] at h
                simp only [Bool.and_eq_true] at hq2
                obtain ⟨⟨⟨⟨q0, q1⟩, q2⟩, q3⟩, q4⟩ := hq2
                rw [notB_eq] at q0
                have hmk : mk = false := by cases mk <;> first | rfl | cases q0
                subst hmk
                have q1 := beq_eq q1; have q2 := beq_eq q2; have q3 := ble_le q3; have q4 := ble_le q4
                subst q1
                split at h
                · cases h
                · rename_i l hl
                  split at h
                  · rename_i s hs
                    simp only [Option.some.injEq, Prod.mk.injEq] at h
                    obtain ⟨rfl, rfl⟩ := h
                    have hloadN : loadN H b 0 k = some l := by
                      unfold loadN; rw [hg]; simp only []
                      rw [Nat.ble_eq_true_of_le (by omega)]; exact hl
                    obtain ⟨r2, xs, hb2, hxs, hxl, hll, hcell, _⟩ := loadN_sound (P := P) hr hloadN
                    rw [hb] at hb2; cases hb2
                    obtain ⟨a1, a2⟩ := asBytes_sound hs hxs
                    obtain ⟨r2, c, ⟨lo', hi'⟩, hb2, hh, hcr⟩ := getC hr hg
                    rw [hb] at hb2; cases hb2
                    have hsl : s.length = k := by omega
                    have hne : s ≠ [] := fun e => by subst e; simp at hsl; omega
                    have hrun := Lib.run_unsafeString_row (P := P) (w := w) t it type e (und_ok hC hu) (by rw [(ti_ok hC hte).cellsOf, q2]) r' c.size (by simp [World.shape?, hh]) s hne (by have := hcr.le; omega) (by omega) (fun j xb hj => by
                      rw [add_off]
                      have hjl : j < xs.length := by rw [← a1]; exact (List.getElem?_eq_some_iff.1 hj).1
                      obtain ⟨bb, hbb, hg2⟩ := a2 j _ (List.getElem?_eq_getElem hjl)
                      rw [hj] at hg2; cases hg2
                      have := hcell j _ (List.getElem?_eq_getElem hjl)
                      rw [this, hbb])
                    rw [hsl] at hrun
                    have hfz := freeze_put (off := 0) hh hk0
                    refine ⟨η, _, _, hrun, rfl, ?_, ?_⟩
                    · rw [hfz]
                      refine Trans.put hr hg hb _ _ ?_ rfl
                      have hcov := hcr.cover
                      have hle := hcr.fzle
                      simp only at hcov hle
                      refine ⟨rfl, hcr.get, hcr.le, hcr.shut, hcr.opened, ?_, ?_, (fun h => by cases h)⟩
                      · split
                        · simp
                        · simp only; omega
                      · intro off h1 h2
                        refine .inl ?_
                        by_cases hlh : hi ≤ lo
                        · have : ¬ lo' < hi' := fun hlt => by
                            rcases hcov lo' (Nat.le_refl _) hlt with ⟨p, q⟩ | ⟨p, _⟩
                            · omega
                            · cases p
                          have heq : lo' = hi' := by omega
                          rw [if_pos (by simp [heq])] at h1 h2
                          rw [Nat.ble_eq_true_of_le hlh]
                          simp at h1 h2 ⊢; omega
                        · have : Nat.ble hi lo = false := by cases hq9 : Nat.ble hi lo with | false => rfl | true => exact absurd (ble_le hq9) hlh
                          rw [this]; simp only [cond_false]
                          by_cases heq : lo' = hi'
                          · rw [if_pos (by simp [heq])] at h1 h2
                            simp at h1 h2 ⊢; omega
                          · rw [if_neg (by simp [heq])] at h1 h2
                            simp at h1 h2 ⊢
                            have hlt : lo' < hi' := by omega
                            rcases hcov (hi' - 1) (by omega) (by omega) with ⟨p, q⟩ | ⟨p, _⟩
                            · omega
                            · cases p
                    · refine ⟨Only.refl _ _, fun id _ hn => ?_, .inl ⟨rfl, rfl, fun hn => ?_⟩⟩
                      · rw [show freezeTo H b tr m e o lo hi k = H.put b _ from rfl, Heap.get_put, if_neg]; exact hn
                        intro e2; subst e2; rw [hg] at hn; cases hn
                      · rw [show freezeTo H b tr m e o lo hi k = H.put b _ from rfl, Heap.get_put, if_neg]; exact hn
                        intro e2; rw [e2, hg] at hn; cases hn
                  · cases h
            · cases h
        · cases h
    · cases h
  · cases h
end Go.VmK
namespace Go.VmK
variable {P : Program} {C : Ctx} {E : List LoopInfo} {η : Env} {H : Heap} {w : World}

theorem lies_own {e : TypeId} {s count : Nat} (hs : P.cellsOf e = s) (h0 : s ≠ 0) (hc : 1 ≤ count) : liesAt P P.depth e count 0 e 1 = true := by
  obtain ⟨d, hd⟩ : ∃ d, P.depth = d + 1 := ⟨2 * (P.types.size + Made.depth) + 1, rfl⟩
  have hsame : sameLayout P P.depth e e = true := by rw [hd]; simp [sameLayout]
  have hrow : rowAt P (sameLayout P P.depth · e) P.depth e count 0 1 = true := by
    have hs' := hsame
    rw [hd] at hs' ⊢
    simp [rowAt, hs, h0, hc, hs']
  have : liesAt P (d + 1) e count 0 e 1 = true := by
    rw [hd] at hrow
    simp only [liesAt]
    rw [hd, hrow]; simp
  rw [hd]; exact this

theorem convertOp_sound (hC : CtxOK P C) (hr : HRel P η E H w) {s d : TypeId} {a : AV} {x : Value} (hx : conc η a = some x) {v : AV} {H' : Heap} (h : convertOp C H s d a = some (v, H')) :
    H' = H ∧ ∃ u, conc η v = some u ∧ (convert s d x).run P w = .ok u w := by
  unfold convertOp at h
  split at h
  · rename_i k1 k k2 n h1 h2
    cases h; rw [conc_int hx]
    exact ⟨rfl, _, rfl, by simp [convert, run_und hC h1, run_und hC h2, Conv.intToInt, wrapK_eq]⟩
  · rename_i t h1 h2
    cases h; rw [conc_str hx]
    exact ⟨rfl, _, rfl, by simp [convert, run_und hC h1, run_und hC h2]⟩
  · rename_i e x' h1 h2
    split at h
    · rename_i h3
      cases h; rw [conc_nils hx]
      refine ⟨rfl, _, rfl, ?_⟩
      simp [convert, run_und hC h1, run_und hC h2, run_und hC h3, Conv.bytesToString]
      rfl
    · rename_i b off len c h3
      split at h
      · rename_i l hl
        cases hs : asBytes l with
        | none => rw [hs] at h; cases h
        | some s' =>
          rw [hs] at h; simp only [Option.map_some, Option.some.injEq, Prod.mk.injEq] at h
          obtain ⟨rfl, rfl⟩ := h
          obtain ⟨r, n, hb, _, rfl⟩ := conc_slice hx
          obtain ⟨r2, xs, hb2, hxs, hxl, hll, hcell, hrun⟩ := loadN_sound (P := P) hr hl
          rw [hb] at hb2; cases hb2
          obtain ⟨a1, a2⟩ := asBytes_sound hs hxs
          have := bytesToString_run (P := P) (cap := n) a1 a2 hrun
          exact ⟨rfl, _, rfl, by simp [convert, run_und hC h1, run_und hC h2, run_und hC h3, this]⟩
      · cases h
    · cases h
  · rename_i e h1 h2
    cases h; rw [conc_nilp hx]
    exact ⟨rfl, _, rfl, by simp [convert, run_und hC h1, run_und hC h2, Conv.unsafePointer]⟩
  · rename_i e h1 h2
    cases h; rw [conc_nilp hx]
    exact ⟨rfl, _, rfl, by simp [convert, run_und hC h1, run_und hC h2, Conv.unsafePointer]⟩
  · rename_i t b off h1 h2
    split at h
    · rename_i tt tr n e o lo hi mk htt hg
      cases hq : (Nat.beq tt.size 0 || Nat.ble n off) with
      | true => rw [hq] at h; cases h
      | false =>
        rw [hq] at h; simp only [cond_false, Option.some.injEq, Prod.mk.injEq] at h
        obtain ⟨rfl, rfl⟩ := h
        simp only [Bool.or_eq_false_iff] at hq
        obtain ⟨q1, q2⟩ := hq
        have hz : tt.size ≠ 0 := fun e => by rw [e] at q1; cases q1
        have hlt : off < n := by
          rcases Nat.lt_or_ge off n with h | h
          · exact h
          · rw [Nat.ble_eq_true_of_le h] at q2; cases q2
        obtain ⟨r, hb, rfl⟩ := conc_ptr hx
        obtain ⟨r2, c, fz, hb2, hh, hcr⟩ := getC hr hg
        rw [hb] at hb2; cases hb2
        have hcs := hcr.le
        have hno : ¬ c.size ≤ off := by omega
        exact ⟨rfl, _, hx, by simp [convert, run_und hC h1, run_und hC h2, Conv.unsafePointer, Conv.seenAt, viewAt, World.shape?, hh, cellsIn, (ti_ok hC htt).sizeOf, hz, hno]⟩
    · cases h
  · rename_i u b off h1 h2
    split at h
    · rename_i tr n e o lo hi mk hg
      cases hq : (Nat.beq u e && Nat.beq off 0 && ownSize C u n) with
      | false => rw [hq] at h; cases h
      | true =>
        rw [hq] at h; simp only [cond_true, Option.some.injEq, Prod.mk.injEq] at h
        obtain ⟨rfl, rfl⟩ := h
        simp only [Bool.and_eq_true] at hq
        obtain ⟨⟨q1, q2⟩, q3⟩ := hq
        have q1 := beq_eq q1; have q2 := beq_eq q2
        subst q1; subst q2
        unfold ownSize at q3
        split at q3
        · rename_i tu htu
          simp only [Bool.and_eq_true, notB_eq, Bool.not_eq_true'] at q3
          have q4 := beq_eq q3.1
          have hn0 : n ≠ 0 := fun e => by have := q3.2; rw [e] at this; cases this
          obtain ⟨r, hb, rfl⟩ := conc_ptr hx
          obtain ⟨r2, c, fz, hb2, hh, hcr⟩ := getC hr hg
          rw [hb] at hb2; cases hb2
          have hT := ti_ok hC htu
          have hcs := hcr.le
          have hcell : P.cellsOf u = n := by rw [hT.cellsOf, q4]
          have hlies := lies_own (P := P) (count := c.size / P.cellsOf u) hcell hn0 (by rw [hcell]; exact (Nat.le_div_iff_mul_le (by omega)).2 (by omega))
          exact ⟨rfl, _, hx, by simp [convert, run_und hC h1, run_und hC h2, Conv.unsafePointer, Conv.seenAt, viewAt, World.shape?, hh, hT.sizeOf, q4, hn0, variablesAt, hlies]⟩
        · cases q3
    · cases h
  · cases h

theorem doNil_sound {a : AV} {x : Value} {v : AV} {H' : Heap} {o : Oper} {ρ : Operand → Value} {p : Operand} (hop : o.op = .nilCheck p) (hp : ρ p = x) (hx : conc η a = some x) (h : doNil H a = some (.val v H')) :
    H' = H ∧ v = a ∧ (execOp ρ o).run P w = .ok (.value x) w := by
  unfold doNil at h
  split at h
  · obtain ⟨r, hb, rfl⟩ := conc_ptr hx
    cases h; exact ⟨rfl, rfl, by simp [execOp, hop, hp]⟩
  · obtain ⟨xs, ys, _, _, rfl⟩ := conc_func hx
    cases h; exact ⟨rfl, rfl, by simp [execOp, hop, hp]⟩
  · obtain ⟨y, _, rfl⟩ := conc_iface hx
    cases h; exact ⟨rfl, rfl, by simp [execOp, hop, hp]⟩
  · cases h

theorem doIface_sound (hC : CtxOK P C) {t : TypeId} {a : AV} {x : Value} {v : AV} {H' : Heap} (hx : conc η a = some x) (h : doIface C H t a = some (.val v H')) :
    H' = H ∧ ∃ u, conc η v = some u ∧ (Instr.makeInterface t x).run P w = .ok u w := by
  unfold doIface at h
  split at h
  · cases h
  · rename_i u hni hu
    cases h
    refine ⟨rfl, .iface t x, by simp [conc, hx], ?_⟩
    simp only [Instr.makeInterface, Sem.run_bind, run_und hC hu, Result.andThen_ok]
    cases u <;> first | rfl | exact absurd rfl (hni _)
  · cases h

theorem doExtract_sound {i : Nat} {a : AV} {x : Value} {v : AV} {H' : Heap} (hx : conc η a = some x) (h : doExtract H i a = some (.val v H')) : H' = H ∧ ∃ u, conc η v = some u ∧ (Instr.extract x i).run P w = .ok u w := by
  unfold doExtract at h
  split at h
  · rename_i vs
    obtain ⟨xs, hxs, rfl⟩ := conc_tuple hx
    cases hv : vs[i]? with
    | none => rw [hv] at h; cases h
    | some v' =>
      rw [hv] at h; simp only [valO] at h; cases h
      obtain ⟨y, hy, hc⟩ := concL_get hxs i _ hv
      exact ⟨rfl, y, hc, by simp [Instr.extract, hy]⟩
  · cases h

theorem doAssert_sound (hC : CtxOK P C) {t xT : TypeId} {ok : Bool} {a : AV} {x : Value} {v : AV} {H' : Heap} (hx : conc η a = some x) (h : doAssert C H t ok a = some (.val v H')) :
    H' = H ∧ ∃ u, conc η v = some u ∧ (Instr.typeAssert x xT t ok).run P w = .ok u w := by
  unfold doAssert at h
  cases hq : typeAssertOp C a t ok with
  | none => rw [hq] at h; cases h
  | some v' =>
    rw [hq] at h; simp only [valO] at h; cases h
    refine ⟨rfl, ?_⟩
    unfold typeAssertOp at hq
    split at hq
    · cases hq
    · rename_i u t' v0 hni hu
      cases hb : Nat.beq t' t with
      | false => rw [hb] at hq; cases hq
      | true =>
        rw [hb] at hq; simp only [cond_true, Option.some.injEq] at hq; subst hq
        have := beq_eq hb; subst this
        obtain ⟨y, hy, rfl⟩ := conc_iface hx
        cases ok with
        | true =>
          refine ⟨.tuple #[y, .bool true], by simp [conc, concL, hy], ?_⟩
          simp only [Instr.typeAssert, Sem.run_bind, run_und hC hu, Result.andThen_ok]
          cases u <;> first | simp | exact absurd rfl (hni _)
        | false =>
          refine ⟨y, hy, ?_⟩
          simp only [Instr.typeAssert, Sem.run_bind, run_und hC hu, Result.andThen_ok]
          cases u <;> first | simp | exact absurd rfl (hni _)
    · cases hq

theorem mapO_ev {tmps : Tr AV} {n : Nat} {a : Act} (ht : TRel η tmps n a.tmps) {l : List Operand} {r : List AV} (h : mapO (ev tmps) l = some r) : concL η r = some (l.map a.eval) := by
  obtain ⟨hl, hg⟩ := mapO_some h
  refine concL_of_get (by simp [hl]) fun i v hv => ?_
  have hi : i < l.length := by rw [← hl]; exact (List.getElem?_eq_some_iff.1 hv).1
  obtain ⟨y, hy, he⟩ := hg i l[i] (List.getElem?_eq_getElem hi)
  rw [hv] at hy; cases hy
  exact ⟨a.eval l[i], by simp [hi], ev_sound ht he⟩

theorem doFunc_sound {tmps : Tr AV} {n : Nat} {a : Act} (ht : TRel η tmps n a.tmps) {fn : Fn} {first captured : Array Operand} {v : AV} {H' : Heap} (h : doFunc H tmps fn first.toList captured.toList = some (.val v H')) :
    H' = H ∧ ∃ u, conc η v = some u ∧ (Instr.makeFunc fn (first.map a.eval) (captured.map a.eval)).run P w = .ok u w := by
  unfold doFunc at h
  split at h
  · rename_i f
    split at h
    · cases h
    · rename_i x hx
      split at h
      · cases h
      · rename_i y hy
        cases h
        have e1 := mapO_ev ht hx
        have e2 := mapO_ev ht hy
        refine ⟨rfl, .func (.func f) (first.map a.eval) (captured.map a.eval), ?_, rfl⟩
        simp [conc, e1, e2]
        constructor <;> (apply Array.ext'; simp)
  · cases h
end Go.VmK
namespace Go.VmK
variable {P : Program} {C : Ctx} {E : List LoopInfo} {η : Env} {H : Heap} {w : World}

/-- a table holds a whole row -/
structure Rep (η : Env) (t : Tr AV) (n : Nat) (c : Array Value) : Prop where
  size : c.size = n
  get : ∀ i, i < n → ∃ v x, t.get i = some v ∧ c[i]? = some x ∧ conc η v = some x
theorem Rep.ofL {l : List AV} {xs : List Value} (h : concL η l = some xs) : Rep η (Tr.ofL l) l.length xs.toArray := by
  have hl := concL_length h
  refine ⟨by simp [hl], fun i hi => ?_⟩
  obtain ⟨x, hx, hc⟩ := concL_get h i l[i] (List.getElem?_eq_getElem hi)
  exact ⟨l[i], x, by rw [Tr.get_ofL]; exact List.getElem?_eq_getElem hi, by simpa using hx, hc⟩
theorem Rep.setL {t : Tr AV} {n : Nat} {c : Array Value} (h : Rep η t n c) {off : Nat} {l : List AV} {xs : List Value} (hx : concL η l = some xs) (hle : off + l.length ≤ n) : Rep η (t.setL off l) n (writeL c off xs) := by
  have hl := concL_length hx
  refine ⟨by rw [writeL_size]; exact h.size, fun i hi => ?_⟩
  rw [Tr.get_setL, writeL_get xs c off (by rw [h.size, hl]; exact hle)]
  by_cases hin : off ≤ i ∧ i < off + l.length
  · rw [if_pos hin, if_pos (by omega)]
    obtain ⟨x, hx', hc⟩ := concL_get hx (i - off) l[i - off] (List.getElem?_eq_getElem (by omega))
    exact ⟨_, x, List.getElem?_eq_getElem (by omega), hx', hc⟩
  · rw [if_neg hin, if_neg (by omega)]; exact h.get i hi
theorem zipIdx_writeL (off : Nat) : ∀ (xs : List Value) (k : Nat) (c : Array Value), (xs.zipIdx k).foldl (fun cs (x : Value × Nat) => cs.setIfInBounds (off + x.2) x.1) c = writeL c (off + k) xs
  | [], _, _ => rfl
  | x :: xs, k, c => by
    simp only [List.zipIdx_cons, List.foldl_cons, writeL]
    rw [zipIdx_writeL off xs (k + 1)]
    rfl

/-- parts of a build -/
inductive PartsRel (η : Env) : List (Nat × AV) → List (Nat × Value) → Prop
  | nil : PartsRel η [] []
  | cons {i : Nat} {v : AV} {x : Value} {r : List (Nat × AV)} {s : List (Nat × Value)} : conc η v = some x → PartsRel η r s → PartsRel η ((i, v) :: r) ((i, x) :: s)
theorem fillL_sound {place place' : Nat → Option (Nat × Nat)} (hp : ∀ i p, place i = some p → place' i = some p) : ∀ {ps : List (Nat × AV)} {qs : List (Nat × Value)} {t t' : Tr AV} {n : Nat} {c : Array Value},
    PartsRel η ps qs → Rep η t n c → fillL place t n ps = some t' → ∃ c', Instr.fill place' c qs = some c' ∧ Rep η t' n c'
  | [], _, t, t', n, c, .nil, hr, h => by simp [fillL] at h; subst h; exact ⟨c, rfl, hr⟩
  | (i, v) :: r, _, t, t', n, c, .cons (x := x) hx hps, hr, h => by
    simp only [fillL] at h
    split at h
    · cases h
    · rename_i off size hpl
      cases hq : (Nat.beq v.cells.length size && Nat.ble (off + size) n && v.cells.all AV.oneCell) with
      | false => rw [hq] at h; cases h
      | true =>
        rw [hq] at h; simp only [cond_true] at h
        simp only [Bool.and_eq_true] at hq
        obtain ⟨⟨q1, q2⟩, q3⟩ := hq
        have q1 := beq_eq q1; have q2 := ble_le q2
        have hs : ∀ j, v ≠ .sym j := fun j e => by subst e; simp [AV.cells, AV.oneCell] at q3
        have hc := cells_conc hs hx
        have hl : x.cells.size = v.cells.length := by rw [← concL_length hc]; simp
        obtain ⟨c', hc', hr'⟩ := fillL_sound hp hps (hr.setL hc (by omega)) h
        refine ⟨c', ?_, hr'⟩
        simp only [Instr.fill, hp i _ hpl]
        have hno : ¬ ((x.cells.size ≠ size || off + x.cells.size > c.size) = true) := by
          rw [hl, q1, hr.size]; simp; omega
        rw [if_neg hno]
        have hz := zipIdx_writeL off x.cells.toList 0 c
        simp only [Nat.add_zero] at hz
        rw [← hc', ← hz]
        congr 1
        rw [← Array.foldl_toList]
        simp

theorem aggOf_sound {tr : Tr AV} {n : Nat} {c : Array Value} (hr : Rep η tr n c) {v : AV} (h : aggOf tr n = some v) : conc η v = some (.agg c) := by
  unfold aggOf at h
  split at h
  · cases h
  · rename_i l hl
    cases h
    obtain ⟨h1, h2⟩ := Tr.getL_some _ _ _ _ hl
    have : concL η l = some c.toList := by
      refine concL_of_get (by simp [h1, hr.size]) fun i v hv => ?_
      have hi : i < n := by rw [← h1]; exact (List.getElem?_eq_some_iff.1 hv).1
      obtain ⟨v', x, hg, hx, hc⟩ := hr.get i hi
      have h3 := h2 i hi
      rw [Nat.zero_add, hg, hv] at h3; cases h3
      exact ⟨x, by simpa using hx, hc⟩
    simp [conc, this]

theorem zero_cells {t : TypeId} {ti' : TI} (hT : TypeOK P t ti') {z : AV} (hz : ti'.zero = some z) (w : World) : ∃ zv, (Go.zeroValue t).run P w = .ok zv w ∧ ∀ η, concL η z.cells = some zv.cells.toList := by
  obtain ⟨v, hv, hc⟩ := hT.zeroValue hz w
  have hs : ∀ j, z ≠ .sym j := fun j e => by
    subst e
    have h1 := hc ⟨fun _ => none, fun _ => none, fun _ => none⟩
    simp [conc] at h1
  exact ⟨v, hv, fun η => cells_conc hs (hc η)⟩

theorem mapM_places (hC : CtxOK P C) {fs : Array Field} (h : placesOk C fs.toList = true) (w : World) :
    ∃ ps : Array (Nat × Nat), (fs.mapM (fun f => do pure (f.offset, ← sizeOf f.type) : Field → Sem (Nat × Nat))).run P w = .ok ps w ∧ ∀ i p, placeOf C fs i = some p → ps[i]? = some p := by
  have go : ∀ (l : List Field), l.all (fun f => (ti C f.type).isSome) = true →
      ∃ ps : List (Nat × Nat), (l.mapM (fun f => do pure (f.offset, ← sizeOf f.type) : Field → Sem (Nat × Nat))).run P w = .ok ps w ∧ ps.length = l.length ∧ ∀ (i : Nat) (f : Field) (tf : TI), l[i]? = some f → ti C f.type = some tf → ps[i]? = some (f.offset, tf.size) := by
    intro l
    induction l with
    | nil => intro _; exact ⟨[], by simp, rfl, by simp⟩
    | cons f l ih =>
      intro hall
      simp only [List.all_cons, Bool.and_eq_true] at hall
      obtain ⟨ps, hrun, hlen, hget⟩ := ih hall.2
      cases htf : ti C f.type with
      | none => rw [htf] at hall; exact absurd hall.1 (by simp)
      | some tf =>
        refine ⟨(f.offset, tf.size) :: ps, ?_, by simp [hlen], ?_⟩
        · simp only [List.mapM_cons, Sem.run_bind, (ti_ok hC htf).sizeOf, Result.andThen_ok, Sem.run_pure, hrun]
        · intro i g tg hi hg
          cases i with
          | zero => simp at hi; subst hi; rw [htf] at hg; cases hg; simp
          | succ i => simp at hi ⊢; exact hget i g tg hi hg
  obtain ⟨ps, hrun, hlen, hget⟩ := go fs.toList h
  refine ⟨ps.toArray, ?_, ?_⟩
  · rw [Array.mapM_eq_mapM_toList]
    simp only [Sem.run_map, hrun, Result.andThen_ok]
  · intro i p hp
    unfold placeOf at hp
    split at hp
    · rename_i f hf
      split at hp
      · rename_i tf htf
        cases hp
        have := hget i f tf (by simpa using hf) htf
        simpa using this
      · cases hp
    · cases hp

theorem buildOp_sound (hC : CtxOK P C) {t : TypeId} {ps : List (Nat × AV)} {qs : Array (Nat × Value)} (hps : PartsRel η ps qs.toList) {v : AV} (h : buildOp C t ps = some v) :
    ∃ u, conc η v = some u ∧ (Instr.build t qs).run P w = .ok u w := by
  unfold buildOp at h
  split at h
  · cases h
  · rename_i i hi
    have hT := ti_ok hC hi
    split at h
    · rename_i fs z hu hz
      unfold buildS at h
      cases hq : placesOk C fs.toList with
      | false => rw [hq] at h; cases h
      | true =>
        rw [hq] at h; simp only [cond_true] at h
        split at h
        · rename_i tr htr
          obtain ⟨zv, hzv, hzc⟩ := zero_cells hT hz w
          obtain ⟨pl, hpl, hplace⟩ := mapM_places hC hq w
          obtain ⟨c', hfill, hrep⟩ := fillL_sound (place' := fun i => pl[i]?) hplace hps (Rep.ofL (hzc η)) htr
          have hc := aggOf_sound hrep h
          refine ⟨_, hc, ?_⟩
          have e1 : zv.cells.toList.toArray = zv.cells := by simp
          rw [e1] at hfill
          simp only [Instr.build, Sem.run_bind, hzv, Result.andThen_ok, hT.underlying, hu, hpl, hfill, Sem.run_pure]
        · cases h
    · rename_i m e z hu hz
      unfold buildA at h
      split at h
      · cases h
      · rename_i te hte
        split at h
        · rename_i tr htr
          obtain ⟨zv, hzv, hzc⟩ := zero_cells hT hz w
          obtain ⟨c', hfill, hrep⟩ := fillL_sound (place' := fun i => some (i * te.size, te.size)) (fun _ _ h => h) hps (Rep.ofL (hzc η)) htr
          have hc := aggOf_sound hrep h
          refine ⟨_, hc, ?_⟩
          have e1 : zv.cells.toList.toArray = zv.cells := by simp
          rw [e1] at hfill
          simp only [Instr.build, Sem.run_bind, hzv, Result.andThen_ok, hT.underlying, hu, (ti_ok hC hte).sizeOf, hfill, Sem.run_pure]
        · cases h
    · cases h

theorem repeatL_get {α : Type} (l : List α) : ∀ (n i : Nat), i < n * l.length → (repeatL l n)[i]? = l[i % l.length]?
  | 0, i, h => by omega
  | n + 1, i, h => by
    simp only [repeatL]
    by_cases hi : i < l.length
    · rw [List.getElem?_append_left hi, Nat.mod_eq_of_lt hi]
    · rw [List.getElem?_append_right (by omega), repeatL_get l n (i - l.length) (by rw [Nat.add_mul] at h; omega)]
      congr 1
      rw [Nat.mod_eq_sub_mod (by omega : l.length ≤ i)]
theorem repeatL_length {α : Type} (l : List α) : ∀ n, (repeatL l n).length = n * l.length
  | 0 => by simp [repeatL]
  | n + 1 => by simp [repeatL, repeatL_length l n, Nat.add_mul]; omega

theorem rowOf_sound (hr : HRel P η E H w) (hf : Fresh η H H.next) {e : TypeId} {z : AV} {zs : Array Value} {size n len cap : Nat} {ps : List (Nat × AV)} {qs : List (Nat × Value)} (hps : PartsRel η ps qs) (hz : concL η z.cells = some zs.toList) (hlc : len ≤ cap) {v : AV} {H' : Heap}
    (h : rowOf H e z size n len cap ps = some (v, H')) : ∃ c, Instr.fill (fun i => some (i * size, size)) ((Array.range (n * size)).map fun i => zs[i % zs.size]!) qs = some c ∧
      conc (η.bind H.next w.heap.size) v = some (.slice (some ⟨w.heap.size, 0, none⟩) len cap) ∧ Trans P E η H w (η.bind H.next w.heap.size) H' (w.alloc (.cells c e)) ∧ Grow η (η.bind H.next w.heap.size) H H' := by
  unfold rowOf at h
  cases hq : Nat.beq z.cells.length size with
  | false => rw [hq] at h; cases h
  | true =>
    rw [hq] at h; simp only [cond_true] at h
    have hsz := beq_eq hq
    split at h
    · rename_i tr htr
      simp only [Option.some.injEq, Prod.mk.injEq] at h
      obtain ⟨rfl, rfl⟩ := h
      have hzl : zs.size = size := by have := concL_length hz; simp at this; omega
      have hrep0 : Rep η (Tr.ofL (repeatL z.cells n)) (n * size) ((Array.range (n * size)).map fun i => zs[i % zs.size]!) := by
        refine ⟨by simp, fun i hi => ?_⟩
        have h0 : 0 < size := by rcases Nat.eq_zero_or_pos size with h | h; · rw [h] at hi; simp at hi
                                 · exact h
        have him : i % size < size := Nat.mod_lt _ h0
        obtain ⟨zc, hzc⟩ : ∃ zc, z.cells[i % size]? = some zc := ⟨z.cells[i % size], List.getElem?_eq_getElem (by omega)⟩
        obtain ⟨x, hx, hc⟩ := concL_get hz (i % size) zc hzc
        refine ⟨zc, x, ?_, ?_, hc⟩
        · rw [Tr.get_ofL, repeatL_get _ _ _ (by rw [hsz]; exact hi), hsz]; exact hzc
        · have hx' : zs[i % size]? = some x := by simpa using hx
          obtain ⟨hlt, he⟩ := Array.getElem?_eq_some_iff.1 hx'
          simp [hi, hzl, Array.getElem!_eq_getD, hx']
      obtain ⟨c, hfill, hrep⟩ := fillL_sound (fun _ _ h => h) hps hrep0 htr
      refine ⟨c, hfill, slice_conc (by simp [Env.bind]) rfl hlc, Trans.new hr hf _ _ (Env.le_bind hf.ρ) (fun i => rfl) ?_ (fun j => Heap.get_new _ _ _) rfl rfl rfl, Grow.new (Only.bind _ _ _) (fun j => Heap.get_new _ _ _) rfl⟩
      exact ⟨rfl, fun i v hv hi => by
          obtain ⟨v', x, hg, hx, hc⟩ := hrep.get i hi
          rw [hv] at hg; cases hg
          exact ⟨x, hx, conc_mono (Env.le_bind hf.ρ) _ _ hc⟩,
        by rw [hrep.size]; exact Nat.le_refl _, fun _ => hrep.size, (fun h => by cases h), Nat.le_refl _, (fun off h1 h2 => by simp at h2), (fun h => by cases h)⟩
    · cases h

theorem buildSlice_sound (hC : CtxOK P C) (hr : HRel P η E H w) (hf : Fresh η H H.next) {t : TypeId} {len : Nat} {ps : List (Nat × AV)} {qs : Array (Nat × Value)} (hps : PartsRel η ps qs.toList) {v : AV} {H' : Heap} (h : buildSlice C H t len ps = some (v, H')) :
    SimS P E η H w (Instr.buildSlice t len qs) v H' := by
  unfold buildSlice at h
  split at h
  · rename_i e hu
    split at h
    · cases h
    · rename_i te hte
      split at h
      · cases h
      · rename_i z hz
        cases hq : Nat.ble (len * te.size) 65536 with
        | false => rw [hq] at h; cases h
        | true =>
          rw [hq] at h; simp only [cond_true] at h
          have hle := ble_le hq
          have hT := ti_ok hC hte
          obtain ⟨zv, hzv, hzc⟩ := zero_cells hT hz w
          obtain ⟨c, hfill, hc, htr, hg⟩ := rowOf_sound (P := P) hr hf hps (hzc η) (Nat.le_refl len) h
          refine ⟨_, _, _, ?_, hc, htr, hg⟩
          have two24 : (2 : Nat) ^ 24 = 16777216 := by decide
          have hno : ¬ (len * te.size > 2 ^ 24) := by omega
          by_cases h0 : len * te.size = 0
          · have hzs : ((Array.range (len * te.size)).map fun i => zv.cells[i % zv.cells.size]!) = ((Array.range (len * te.size)).map fun i => (#[] : Array Value)[i % (#[] : Array Value).size]!) := by rw [h0]; simp
            rw [hzs] at hfill
            simp only [Instr.buildSlice, Sem.run_bind, run_und hC hu, Result.andThen_ok, hT.sizeOf]
            have e0 : ∀ f : Nat → Value, (Array.range 0).map f = #[] := fun f => by simp
            rw [h0, e0] at hfill
            rw [h0]
            simp only [gt_iff_lt, Nat.not_lt_zero, if_false, if_true, Sem.run_pure, Result.andThen_ok, e0, hfill, Sem.run_bind, newRow, run_newObj]
            rfl
          · simp only [Instr.buildSlice, Sem.run_bind, run_und hC hu, Result.andThen_ok, hT.sizeOf]
            simp [hno, h0, hzv, hfill, newRow]
  · cases h
end Go.VmK
namespace Go.VmK
variable {P : Program} {C : Ctx} {E : List LoopInfo} {η : Env} {H : Heap} {w : World}

theorem makeSlice_sound (hC : CtxOK P C) (hr : HRel P η E H w) (hf : Fresh η H H.next) {t : TypeId} {a b : AV} {x y : Value} (hx : conc η a = some x) (hy : conc η b = some y) {v : AV} {H' : Heap} (h : makeSlice C H t a b = some (v, H')) :
    SimS P E η H w (Instr.makeSlice t x y) v H' := by
  unfold makeSlice at h
  split at h
  · rename_i e k1 l k2 c hu
    rw [conc_int hx, conc_int hy]
    unfold makeRow at h
    split at h
    · cases h
    · rename_i te hte
      split at h
      · cases h
      · rename_i z hz
        cases hq : (Nat.ble l c && Nat.ble (c * te.bytes) 1048576 && Nat.ble c 1048576) with
        | false => rw [hq] at h; cases h
        | true =>
          rw [hq] at h; simp only [cond_true] at h
          simp only [Bool.and_eq_true] at hq
          obtain ⟨⟨q1, q2⟩, q3⟩ := hq
          have q1 := ble_le q1; have q2 := ble_le q2; have q3 := ble_le q3
          have hT := ti_ok hC hte
          obtain ⟨inf, i1, i2, i3, _⟩ := hT.info
          obtain ⟨zv, hzv, hzc⟩ := zero_cells hT hz w
          obtain ⟨cs, hfill, hc, htr, hg⟩ := rowOf_sound (P := P) hr hf (PartsRel.nil) (hzc η) q1 h
          simp only [Instr.fill, Option.some.injEq] at hfill
          have w1 : IntKind.i64.wrap (l : Int) = l := IntWalk.i64_in _ (by omega)
          have w2 : IntKind.i64.wrap (c : Int) = c := IntWalk.i64_in _ (by omega)
          have two48 : (2 : Int) ^ 48 = 281474976710656 := by decide
          have hcb : ((inf.bytes : Int) * (c : Int)) = ((c * te.bytes : Nat) : Int) := by rw [i3]; push_cast; exact Int.mul_comm _ _
          refine ⟨_, _, _, ?_, hc, htr, hg⟩
          have n1 : ¬ ((c : Int) < 0) := by omega
          have n2 : ¬ ((inf.bytes : Int) * (c : Int) > 281474976710656) := by rw [hcb]; omega
          have n3 : ¬ ((l : Int) < 0) := by omega
          have n4 : ¬ ((c : Int) < (l : Int)) := by omega
          have hti : ∀ w, (Go.typeInfo e).run P w = .ok inf w := fun w => by simp [Go.typeInfo, i1]
          by_cases h0 : c * te.size = 0
          · have e0 : ∀ f : Nat → Value, (Array.range 0).map f = #[] := fun f => by simp
            rw [h0, e0] at hfill
            subst hfill
            simp [Instr.makeSlice, run_und hC hu, asInt, asIntOf, hti, w1, w2, n1, n2, n3, n4, hT.sizeOf, h0, newRow]
            rw [e0]
          · simp [Instr.makeSlice, run_und hC hu, asInt, asIntOf, hti, w1, w2, n1, n2, n3, n4, hT.sizeOf, h0, newRow, hzv, hfill]
  · cases h

/-! maps -/
theorem newObj_sound (hr : HRel P η E H w) (hf : Fresh η H H.next) (o : AObj) (ob : Obj) (ho : ORel P (η.bind H.next w.heap.size) E H.next o ob) :
    Trans P E η H w (η.bind H.next w.heap.size) (H.new o) (w.alloc ob) ∧ Grow η (η.bind H.next w.heap.size) H (H.new o) :=
  ⟨Trans.new hr hf o ob (Env.le_bind hf.ρ) (fun _i => rfl) ho (fun _j => Heap.get_new _ _ _) rfl rfl rfl, Grow.new (Only.bind _ _ _) (fun _j => Heap.get_new _ _ _) rfl⟩
theorem doMap_sound {tmps : Tr AV} {ρ : Operand → Value} (hr : HRel P η E H w) (hf : Fresh η H H.next) {t : TypeId} {r : Option Operand} {v : AV} {H' : Heap} (h : doMap C H tmps t r = some (.val v H')) :
    SimS P E η H w (Instr.makeMap t (r.map ρ)) v H' := by
  unfold doMap at h
  split at h
  · cases h
    obtain ⟨h1, h2⟩ := newObj_sound (P := P) hr hf (.map [] 0) (.map #[] 0) ⟨rfl, trivial⟩
    exact ⟨_, .map (some w.heap.size), _, by simp [Instr.makeMap]; rfl, by simp [conc, Env.bind], by simpa using h1, h2⟩
  · split at h <;> cases h

theorem getMap (hr : HRel P η E H w) {b : Nat} {es : List (AV × AV × Nat)} {clock : Nat} (hg : H.get b = some (.map es clock)) : ∃ r ces, η.ρ b = some r ∧ w.heap[r]? = some (.map ces clock) ∧ EsRel η es ces.toList := by
  obtain ⟨r, ob, hb, hob, hrel⟩ := hr.obj b _ hg
  cases ob with
  | map ces clock' => obtain ⟨h1, h2⟩ := hrel; subst h1; exact ⟨r, ces, hb, hob, h2⟩
  | _ => exact hrel.elim

theorem keyKind_ok (hC : CtxOK P C) {t : TypeId} {u : TypeDesc} (h : keyKind C t = some u) : P.underlying t = some u ∧ ((∃ k, u = .int k) ∨ u = .string ∨ u = .bool) := by
  unfold keyKind at h
  split at h
  · rename_i k hu; cases h; exact ⟨und_ok hC hu, .inl ⟨_, rfl⟩⟩
  · rename_i hu; cases h; exact ⟨und_ok hC hu, .inr (.inl rfl)⟩
  · rename_i hu; cases h; exact ⟨und_ok hC hu, .inr (.inr rfl)⟩
  · cases h
theorem keyEq_sound {u : TypeDesc} {a b : AV} {x y : Value} {r : Bool} (hx : conc η a = some x) (hy : conc η b = some y) (h : keyEq u a b = some r) : Instr.sameNow u x y = some r := by
  unfold keyEq at h
  split at h
  · rename_i k0 k a k' b
    cases hq : Nat.beq (kindNo k) (kindNo k') with
    | false => rw [hq] at h; cases h
    | true =>
      rw [hq] at h; simp only [cond_true, Option.some.injEq] at h; subst h
      have := kindNo_inj hq; subst this
      rw [conc_int hx, conc_int hy]; simp [Instr.sameNow, eqI_eq]
  · rename_i a b
    cases h; rw [conc_str hx, conc_str hy]
    simp only [Instr.sameNow, beqL_eq, beq_toListBytes, ByteArray.toList_mk]
  · rename_i a b; cases h; rw [conc_bool hx, conc_bool hy]; rfl
  · cases h
theorem plain_key {u : TypeDesc} (hu : (∃ k, u = .int k) ∨ u = .string ∨ u = .bool) {t : TypeId} (ht : P.underlying t = some u) (empty : Bool) (x : Value) (w : World) : (Instr.checkKey empty 10000 t x).run P w = .ok () w := by
  have : ∀ d, (Instr.checkKey empty (d + 1) t x).run P w = .ok () w := fun d => by
    simp only [Instr.checkKey, Sem.run_bind, Go.underlying, run_program, Result.andThen_ok, ht, Sem.run_pure]
    rcases hu with ⟨k, rfl⟩ | rfl | rfl <;> (cases x <;> rfl)
  exact this 9999
theorem beqL_eq' {x y : List UInt8} (h : beqL x y = true) : x = y := by rw [beqL_eq] at h; exact eq_of_beq h
mutual
theorem eqAV_eq : ∀ (a b : AV), eqAV a b = true → a = b
  | .bool a, b => by intro h; cases b <;> simp only [eqAV, Bool.false_eq_true] at h; rw [eq_of_beq h]
  | .int j a, b => by
    intro h; cases b <;> simp only [eqAV, Bool.false_eq_true] at h
    simp only [Bool.and_eq_true] at h; rw [eq_of_beq h.1, eq_of_beq h.2]
  | .str a, b => by intro h; cases b <;> simp only [eqAV, Bool.false_eq_true] at h; rw [beqL_eq' h]
  | .nilp, b => by intro h; cases b <;> simp only [eqAV, Bool.false_eq_true] at h; rfl
  | .nils, b => by intro h; cases b <;> simp only [eqAV, Bool.false_eq_true] at h; rfl
  | .nilm, b => by intro h; cases b <;> simp only [eqAV, Bool.false_eq_true] at h; rfl
  | .nilFunc, b => by intro h; cases b <;> simp only [eqAV, Bool.false_eq_true] at h; rfl
  | .nilIface, b => by intro h; cases b <;> simp only [eqAV, Bool.false_eq_true] at h; rfl
  | .ptr a i, b => by
    intro h; cases b <;> simp only [eqAV, Bool.false_eq_true] at h
    simp only [Bool.and_eq_true] at h; rw [beq_eq h.1, beq_eq h.2]
  | .gptr a i, b => by
    intro h; cases b <;> simp only [eqAV, Bool.false_eq_true] at h
    simp only [Bool.and_eq_true] at h; rw [beq_eq h.1, beq_eq h.2]
  | .slice a i l c, b => by
    intro h; cases b <;> simp only [eqAV, Bool.false_eq_true] at h
    simp only [Bool.and_eq_true] at h; rw [beq_eq h.1.1.1, beq_eq h.1.1.2, beq_eq h.1.2, eq_of_beq h.2]
  | .map a, b => by intro h; cases b <;> simp only [eqAV, Bool.false_eq_true] at h; rw [beq_eq h]
  | .func f x y, b => by
    intro h; cases b <;> simp only [eqAV, Bool.false_eq_true] at h
    simp only [Bool.and_eq_true] at h; rw [beq_eq h.1.1, eqAVs_eq _ _ h.1.2, eqAVs_eq _ _ h.2]
  | .yield a, b => by intro h; cases b <;> simp only [eqAV, Bool.false_eq_true] at h; rw [beq_eq h]
  | .iface t a, b => by
    intro h; cases b <;> simp only [eqAV, Bool.false_eq_true] at h
    simp only [Bool.and_eq_true] at h; rw [beq_eq h.1, eqAV_eq _ _ h.2]
  | .agg a, b => by intro h; cases b <;> simp only [eqAV, Bool.false_eq_true] at h; rw [eqAVs_eq _ _ h]
  | .tuple a, b => by intro h; cases b <;> simp only [eqAV, Bool.false_eq_true] at h; rw [eqAVs_eq _ _ h]
  | .sym a, b => by intro h; cases b <;> simp only [eqAV, Bool.false_eq_true] at h; rw [beq_eq h]
  | .slice0 a i j k l, b => by
    intro h; cases b <;> simp only [eqAV, Bool.false_eq_true] at h
    simp only [Bool.and_eq_true] at h
    obtain ⟨⟨⟨⟨h1, h2⟩, h3⟩, h4⟩, h5⟩ := h
    rw [beq_eq h1, beq_eq h2, beq_eq h3, beq_eq h4, beq_eq h5]
  | .symStr a, b => by intro h; cases b <;> simp only [eqAV, Bool.false_eq_true] at h; rw [beq_eq h]
  | .symLen a, b => by intro h; cases b <;> simp only [eqAV, Bool.false_eq_true] at h; rw [beq_eq h]
  | .symInt k a, b => by
    intro h; cases b <;> simp only [eqAV, Bool.false_eq_true] at h
    simp only [Bool.and_eq_true] at h; rw [eq_of_beq h.1, beq_eq h.2]
  | .symC a, b => by intro h; cases b <;> simp only [eqAV, Bool.false_eq_true] at h; rw [beq_eq h]
theorem eqAVs_eq : ∀ (a b : List AV), eqAVs a b = true → a = b
  | [], b => by intro h; cases b <;> simp only [eqAVs, Bool.false_eq_true] at h; rfl
  | a :: x, b => by
    intro h; cases b <;> simp only [eqAVs, Bool.false_eq_true] at h
    simp only [Bool.and_eq_true] at h; rw [eqAV_eq _ _ h.1, eqAVs_eq _ _ h.2]
end

/-! keys that are rows or structs of plain data -/
def KL.lit (η : Env) : KL → Lit
  | .b x => .bool x
  | .i k n => .int k n
  | .s l => .string l
  | .t no => match η.σ no with
    | some (.string tx) => .string tx.data.toList
    | _ => .string []
/-- a text from outside is one -/
def KL.ok (η : Env) : KL → Prop
  | .t no => ∃ tx, η.σ no = some (.string tx)
  | _ => True
theorem inKind_wf {k : IntKind} {n : Int} (h : inKind k n = true) : (Lit.int k n).wf = true := by
  have h1 : IntKind.wrap k n = n := by unfold inKind at h; rw [eqI_eq] at h; exact eq_of_beq h
  rw [← h1]; exact wf_wrap k n
theorem concL_cut {cs : List AV} {xs : List Value} (hx : concL η cs = some xs) (a n : Nat) : concL η ((cs.drop a).take n) = some ((xs.drop a).take n) := by
  have hl := concL_length hx
  refine concL_of_get (by simp [hl]) fun j u hu => ?_
  have hj : j < n := by have := (List.getElem?_eq_some_iff.1 hu).1; simp at this; omega
  rw [List.getElem?_take_of_lt hj, List.getElem?_drop] at hu ⊢
  exact concL_get hx _ _ hu
theorem mapO_mapM {α β γ : Type} {f : α → Option (List β)} {g : α → Option (List γ)} {k : β → γ} : ∀ (l : List α) (r : List (List β)), (∀ x ∈ l, ∀ y, f x = some y → g x = some (y.map k)) → mapO f l = some r → l.mapM g = some (r.map (List.map k))
  | [], r, _, h => by simp [mapO] at h; subst h; simp
  | x :: l, r, hf, h => by
    simp only [mapO] at h
    split at h
    · cases h
    · rename_i y hy
      split at h
      · cases h
      · rename_i ys hys
        cases h
        rw [List.mapM_cons, hf x (by simp) y hy, mapO_mapM l ys (fun z hz => hf z (by simp [hz])) hys]
        rfl
set_option maxHeartbeats 2000000 in
theorem binNo_eq {a b : BinOp} (h : Nat.beq (binNo a) (binNo b) = true) : a = b := by
  have := beq_eq h
  cases a <;> cases b <;> first | rfl | (simp [binNo] at this)
theorem factOf_some {op : BinOp} {a b : AV} {r : AV} : ∀ (l : List (BinOp × AV × AV × AV)), factOf op a b l = some r → ∃ o x y, (o, x, y, r) ∈ l ∧ op = o ∧ a = x ∧ b = y
  | [], h => by cases h
  | (o, x, y, r') :: l, h => by
    unfold factOf at h
    cases hb : (Nat.beq (binNo op) (binNo o) && eqAV a x && eqAV b y) with
    | true =>
      rw [hb] at h; simp only [cond_true, Option.some.injEq] at h; subst h
      simp only [Bool.and_eq_true] at hb
      exact ⟨o, x, y, List.mem_cons_self, binNo_eq hb.1.1, eqAV_eq _ _ hb.1.2, eqAV_eq _ _ hb.2⟩
    | false =>
      rw [hb] at h
      obtain ⟨o', x', y', h1, h2⟩ := factOf_some l h
      exact ⟨o', x', y', List.mem_cons_of_mem _ h1, h2⟩
theorem factEq_sound (hC : CtxOK P C) (hf : Fit C η w) {x y : AV} {a b : ByteArray} {r : Bool} (hx : conc η x = some (.string a)) (hy : conc η y = some (.string b)) (h : factEq C.facts x y = some r) : (a == b) = r := by
  unfold factEq at h
  split at h
  · rename_i r' hr
    cases h
    obtain ⟨o, x', y', hm, ho, rfl, rfl⟩ := factOf_some C.facts hr
    subst ho
    obtain ⟨z, h1, h2⟩ := hC.facts _ hm η w hf _ _ hx hy
    simp only [conc, Option.some.injEq] at h1
    subst h1
    have h3 := h2 0 (.const .nilIface) (.const .nilIface)
    simpa [eqGuard, Go.binOp, Op.stringOp, beq_toListBytes] using h3
  · cases h
theorem keyLitsV_sound (hC : CtxOK P C) (hfit : Fit C η w) : ∀ (d m : Nat) (t : TypeId) (cs : List AV) (xs : List Value) (L : List KL), P.keyTypeAt m t = true → concL η cs = some xs → keyLitsV C d t cs = some L → P.keyLits d t xs = some (L.map (KL.lit η))
  | 0, _, _, _, _, _, _, _, h => by cases h
  | d + 1, 0, _, _, _, _, hk, _, _ => by simp [Program.keyTypeAt] at hk
  | d + 1, m + 1, t, cs, xs, L, hk, hx, h => by
    unfold keyLitsV at h
    split at h
    · cases h
    · rename_i i hi
      have hT := ti_ok hC hi
      have hu := hT.und
      unfold Program.keyTypeAt at hk
      unfold Program.keyLits
      rw [hu] at hk ⊢
      have hl := concL_length hx
      split at h
      · rename_i b hub
        rw [hub]
        cases h
        simp [concL, conc] at hx
        subst hx; rfl
      · rename_i q q' n hub
        rw [hub]
        cases hb : (Nat.beq (kindNo q) (kindNo q') && inKind q n) with
        | false => rw [hb] at h; cases h
        | true =>
          rw [hb] at h; simp only [cond_true, Option.some.injEq] at h; subst h
          simp only [Bool.and_eq_true] at hb
          have hq := kindNo_inj hb.1
          subst hq
          simp [concL, conc] at hx
          subst hx
          simp [inKind_wf hb.2, KL.lit]
      · rename_i s hub
        rw [hub]
        cases hb : Nat.ble s.length 1099511627776 with
        | false => rw [hb] at h; cases h
        | true =>
          rw [hb] at h; simp only [cond_true, Option.some.injEq] at h; subst h
          simp [concL, conc] at hx
          subst hx
          have := ble_le hb
          have hsz : (ByteArray.mk s.toArray).size = s.length := by simp [ByteArray.size]
          simp only [hsz]
          rw [if_pos (by unfold maxLen; omega)]
          simp [KL.lit]
      · rename_i j hub
        rw [hub]
        cases hb : shortF C.facts j with
        | false => rw [hb] at h; cases h
        | true =>
          rw [hb] at h; simp only [cond_true, Option.some.injEq] at h; subst h
          obtain ⟨s, hs, hle⟩ : ∃ s, η.σ j = some (.string s) ∧ s.size ≤ 1099511627776 := by
            cases hs : η.σ j with
            | none => simp [concL, conc, hs] at hx
            | some v =>
              cases v with
              | string s =>
                refine ⟨s, rfl, ?_⟩
                unfold shortF at hb
                split at hb
                · rename_i bb hr
                  subst hb
                  obtain ⟨o, x', y', hm, ho, rfl, rfl⟩ := factOf_some C.facts hr
                  subst ho
                  obtain ⟨z, h1, h2⟩ := hC.facts _ hm η w hfit (.int .i64 (Int.ofNat s.size)) (.int .i64 1099511627776) (by simp [conc, hs]) rfl
                  simp only [conc, Option.some.injEq] at h1
                  subst h1
                  have h3 := h2 0 (.const .nilIface) (.const .nilIface)
                  simp [eqGuard, Go.binOp, Op.intCmp] at h3
                  omega
                · cases hb
              | _ => simp [concL, conc, hs] at hx
          simp only [concL, conc, hs, Option.some.injEq] at hx
          subst hx
          show (if s.size ≤ maxLen then some [Lit.string s.data.toList] else none) = _
          rw [if_pos (by unfold maxLen; omega)]
          simp [KL.lit, hs]
      · rename_i cs u1 c2 n e hub
        rw [hub] at hk ⊢
        split at h
        · cases h
        · rename_i te hte
          cases hb : Nat.beq cs.length i.size with
          | false => rw [hb] at h; cases h
          | true =>
            rw [hb] at h; simp only [cond_true, Option.map_eq_some_iff] at h
            obtain ⟨r, hr, rfl⟩ := h
            have hlen : xs.length = P.cellsOf t := by rw [hT.cellsOf, hl]; exact beq_eq hb
            have hce := (ti_ok hC hte).cellsOf
            simp only [hlen, if_true, hce]
            rw [mapO_mapM (List.range n) r (fun j _ y hy => keyLitsV_sound hC hfit d m e _ _ y hk (concL_cut hx _ _) hy) hr]
            simp [List.map_flatten]
      · rename_i cs u1 c2 fs hub
        rw [hub] at hk ⊢
        simp only [Bool.and_eq_true] at hk
        cases hb : Nat.beq cs.length i.size with
        | false => rw [hb] at h; cases h
        | true =>
          rw [hb] at h; simp only [cond_true, Option.map_eq_some_iff] at h
          obtain ⟨r, hr, rfl⟩ := h
          have hlen : xs.length = P.cellsOf t := by rw [hT.cellsOf, hl]; exact beq_eq hb
          have hnames : fs.all (·.name != "_") = true := by
            rw [Array.all_eq_true_iff_forall_mem]
            intro f hf
            have := Array.all_eq_true_iff_forall_mem.1 hk.1.1 f hf
            simp only [Bool.and_eq_true] at this
            exact this.1
          simp only [hlen, hnames, and_self, if_true]
          rw [mapO_mapM fs.toList r (fun f hf y hy => by
            split at hy
            · cases hy
            · rename_i tf htf
              have := Array.all_eq_true_iff_forall_mem.1 hk.1.1 f (Array.mem_toList_iff.1 hf)
              simp only [Bool.and_eq_true] at this
              rw [(ti_ok hC htf).cellsOf]
              exact keyLitsV_sound hC hfit d m f.type _ _ y this.2 (concL_cut hx _ _) hy) hr]
          simp [List.map_flatten]
      · cases h
theorem eqKL_ne {a b : KL} (ha : ∀ i, a ≠ .t i) (hb : ∀ i, b ≠ .t i) (h : eqKL a b = false) : a.lit η ≠ b.lit η := by
  intro e
  cases a with
  | t i => exact ha i rfl
  | b x => cases b with
    | t i => exact hb i rfl
    | b y => simp only [KL.lit, Lit.bool.injEq] at e; subst e; simp [eqKL] at h
    | i k n => simp [KL.lit] at e
    | s l => simp [KL.lit] at e
  | i k n => cases b with
    | t i => exact hb i rfl
    | b y => simp [KL.lit] at e
    | i k' n' => simp only [KL.lit, Lit.int.injEq] at e; obtain ⟨rfl, rfl⟩ := e; simp [eqKL, eqI_eq] at h
    | s l => simp [KL.lit] at e
  | s l => cases b with
    | t i => exact hb i rfl
    | b y => simp [KL.lit] at e
    | i k n => simp [KL.lit] at e
    | s l' => simp only [KL.lit, Lit.string.injEq] at e; subst e; simp [eqKL, beqL_eq] at h
theorem eqKL_eq : ∀ {a b : KL}, eqKL a b = true → a.lit η = b.lit η := by
  intro a b h
  cases a <;> cases b <;> simp only [eqKL, Bool.false_eq_true] at h
  · rw [eq_of_beq h]
  · rename_i j n k m
    simp only [Bool.and_eq_true] at h
    have h1 := beq_eq h.1
    obtain rfl : n = m := by have := h.2; rw [eqI_eq] at this; exact eq_of_beq this
    have : j = k := by cases j <;> cases k <;> first | rfl | cases h1
    rw [this]
  · rw [beqL_eq' h]
theorem mapO_mem {α β : Type} {f : α → Option β} : ∀ (l : List α) (r : List β), mapO f l = some r → ∀ y ∈ r, ∃ x ∈ l, f x = some y
  | [], r, h, y, hy => by simp [mapO] at h; subst h; cases hy
  | x :: l, r, h, y, hy => by
    simp only [mapO] at h
    split at h
    · cases h
    · rename_i z hz
      split at h
      · cases h
      · rename_i zs hzs
        cases h
        rcases List.mem_cons.1 hy with rfl | hy
        · exact ⟨x, by simp, hz⟩
        · obtain ⟨x', h1, h2⟩ := mapO_mem l zs hzs y hy
          exact ⟨x', by simp [h1], h2⟩
theorem keyLitsV_mem : ∀ (d : Nat) (t : TypeId) (cs : List AV) (L : List KL), keyLitsV C d t cs = some L → ∀ j, KL.t j ∈ L → AV.symStr j ∈ cs
  | 0, _, _, _, h, _, _ => by cases h
  | d + 1, t, cs, L, h, j, hj => by
    unfold keyLitsV at h
    split at h
    · cases h
    · rename_i i hi
      split at h
      · cases h; simp at hj
      · rename_i q q' n hub
        cases hb : (Nat.beq (kindNo q) (kindNo q') && inKind q n) with
        | false => rw [hb] at h; cases h
        | true => rw [hb] at h; simp only [cond_true, Option.some.injEq] at h; subst h; simp at hj
      · rename_i s hub
        cases hb : Nat.ble s.length 1099511627776 with
        | false => rw [hb] at h; cases h
        | true => rw [hb] at h; simp only [cond_true, Option.some.injEq] at h; subst h; simp at hj
      · rename_i jj hub
        cases hb : shortF C.facts jj with
        | false => rw [hb] at h; cases h
        | true =>
          rw [hb] at h; simp only [cond_true, Option.some.injEq] at h; subst h
          simp only [List.mem_cons, List.mem_nil_iff, or_false, KL.t.injEq] at hj
          subst hj
          simp
      · rename_i cs u1 c2 n e hub
        split at h
        · cases h
        · rename_i te hte
          cases hb : Nat.beq cs.length i.size with
          | false => rw [hb] at h; cases h
          | true =>
            rw [hb] at h; simp only [cond_true, Option.map_eq_some_iff] at h
            obtain ⟨r, hr, rfl⟩ := h
            obtain ⟨l, hl, hjl⟩ := List.mem_flatten.1 hj
            obtain ⟨x, _, hx⟩ := mapO_mem _ _ hr l hl
            exact List.mem_of_mem_drop (List.mem_of_mem_take (keyLitsV_mem d e _ l hx j hjl))
      · rename_i cs u1 c2 fs hub
        cases hb : Nat.beq cs.length i.size with
        | false => rw [hb] at h; cases h
        | true =>
          rw [hb] at h; simp only [cond_true, Option.map_eq_some_iff] at h
          obtain ⟨r, hr, rfl⟩ := h
          obtain ⟨l, hl, hjl⟩ := List.mem_flatten.1 hj
          obtain ⟨f, _, hx⟩ := mapO_mem _ _ hr l hl
          split at hx
          · cases hx
          · exact List.mem_of_mem_drop (List.mem_of_mem_take (keyLitsV_mem d f.type _ l hx j hjl))
      · cases h
theorem bytes_beq (a b : ByteArray) : (a == b) = true ↔ a.data.toList = b.data.toList := by
  have h : ∀ a : ByteArray, a.toList = a.data.toList := fun ⟨⟨l⟩⟩ => ByteArray.toList_mk _
  rw [beq_toListBytes, beq_iff_eq, h, h]
theorem triKL_sound (hC : CtxOK P C) (hfit : Fit C η w) {a b : KL} {r : Bool} (ha : a.ok η) (hb : b.ok η) (h : triKL C.facts a b = some r) : (r = true ↔ a.lit η = b.lit η) := by
  unfold triKL at h
  split at h
  · rename_i i j
    obtain ⟨s, hs⟩ := ha
    obtain ⟨s', hs'⟩ := hb
    cases hij : Nat.beq i j with
    | true =>
      rw [hij] at h
      simp only [cond_true, Option.some.injEq] at h
      subst h
      have := beq_eq hij
      subst this
      simp
    | false =>
      rw [hij] at h
      simp only [cond_false] at h
      have := factEq_sound (a := s) (b := s') hC hfit (by simp only [conc, hs]) (by simp only [conc, hs']) h
      simp only [KL.lit, hs, hs', Lit.string.injEq]
      rw [← this]
      exact bytes_beq _ _
  · rename_i i l
    obtain ⟨s, hs⟩ := ha
    have := factEq_sound (a := s) (b := ⟨l.toArray⟩) hC hfit (by simp only [conc, hs]) (by simp only [conc]) h
    simp only [KL.lit, hs, Lit.string.injEq]
    rw [← this]
    exact bytes_beq _ _
  · rename_i l i
    obtain ⟨s, hs⟩ := hb
    have := factEq_sound (a := ⟨l.toArray⟩) (b := s) hC hfit (by simp only [conc]) (by simp only [conc, hs]) h
    simp only [KL.lit, hs, Lit.string.injEq]
    rw [← this]
    exact bytes_beq _ _
  · cases h
    obtain ⟨s, hs⟩ := ha
    cases b <;> simp_all [KL.lit]
  · cases h
    obtain ⟨s, hs⟩ := hb
    cases a <;> simp_all [KL.lit]
  · simp only [Option.some.injEq] at h
    subst h
    constructor
    · exact eqKL_eq
    · intro e
      cases hq : eqKL a b with
      | true => rfl
      | false =>
        refine absurd e (eqKL_ne (fun i ha' => ?_) (fun i hb' => ?_) hq)
        · subst ha'
          cases b <;> simp_all
        · subst hb'
          cases a <;> simp_all
theorem triKLs_sound (hC : CtxOK P C) (hfit : Fit C η w) : ∀ (x y : List KL) (r : Bool), (∀ a ∈ x, a.ok η) → (∀ a ∈ y, a.ok η) → triKLs C.facts x y = some r → (r = true ↔ x.map (KL.lit η) = y.map (KL.lit η))
  | [], [], r, _, _, h => by simp [triKLs] at h; subst h; simp
  | [], _ :: _, r, _, _, h => by simp [triKLs] at h; subst h; simp
  | _ :: _, [], r, _, _, h => by simp [triKLs] at h; subst h; simp
  | a :: x, b :: y, r, ha, hb, h => by
    simp only [triKLs] at h
    have hx := fun r' => triKLs_sound hC hfit x y r' (fun c hc => ha c (by simp [hc])) (fun c hc => hb c (by simp [hc]))
    split at h
    · rename_i hq
      cases h
      have := triKL_sound hC hfit (ha a (by simp)) (hb b (by simp)) hq
      simp only [Bool.false_eq_true, false_iff, List.map_cons, List.cons.injEq, not_and] at this ⊢
      exact fun e => absurd e this
    · rename_i hq
      have h1 := triKL_sound hC hfit (ha a (by simp)) (hb b (by simp)) hq
      have h2 := hx r h
      rw [h2, List.map_cons, List.map_cons, List.cons.injEq]
      exact ⟨fun e => ⟨h1.1 rfl, e⟩, fun e => e.2⟩
    · split at h
      · rename_i hq
        cases h
        have := hx false hq
        simp only [Bool.false_eq_true, false_iff, List.map_cons, List.cons.injEq, not_and] at this ⊢
        exact fun _ => this
      · cases h
/-- what is taken of a wide key -/
theorem litsOf_sound (hC : CtxOK P C) (hfit : Fit C η w) {m : Nat} {t : TypeId} {u : TypeDesc} (ht : P.underlying t = some u) (hw : isWide u = true) (hk : P.keyTypeAt m t = true) {k : AV} {x : Value} {L : List KL} (hx : conc η k = some x) (h : litsOf C m t k = some L) :
    x.formed P t = true ∧ P.keyLits m t x.cells.toList = some (L.map (KL.lit η)) ∧ (∀ a ∈ L, a.ok η) ∧ ∃ cs xs, k = .agg cs ∧ x = .agg xs.toArray ∧ concL η cs = some xs ∧ cs.all isFlat = true := by
  unfold litsOf at h
  split at h
  · rename_i cs
    cases hf : cs.all isFlat with
    | false => rw [hf] at h; cases h
    | true =>
      rw [hf] at h; simp only [cond_true] at h
      obtain ⟨xs, hxs, rfl⟩ := conc_agg hx
      have h1 := keyLitsV_sound hC hfit m m t cs xs L hk hxs h
      have hsz : xs.length = P.cellsOf t := by
        cases m with
        | zero => simp [Program.keyTypeAt] at hk
        | succ m =>
          unfold Program.keyLits at h1
          rw [ht] at h1
          cases u <;> simp only [isWide, Bool.false_eq_true] at hw
          · simp only at h1
            split at h1
            · assumption
            · cases h1
          · simp only at h1
            split at h1
            · rename_i hh; exact hh.1
            · cases h1
      refine ⟨?_, by simpa [Value.cells] using h1, fun a ha => ?_, cs, xs, rfl, rfl, hxs, hf⟩
      rotate_left
      · cases a with
        | t j =>
          have hm := keyLitsV_mem m t cs L h j ha
          obtain ⟨n, hn⟩ := List.getElem?_of_mem hm
          obtain ⟨y, _, hy⟩ := concL_get hxs n _ hn
          simp only [conc] at hy
          split at hy
          · rename_i s hs; exact ⟨s, hs⟩
          · cases hy
        | _ => trivial
      cases u <;> simp only [isWide, Bool.false_eq_true] at hw
      · simp [Value.formed, ht, hsz]
      · simp [Value.formed, ht, hsz]
  · cases h
theorem text_conc {v : AV} {x : Value} (ht : isText v = true) (hx : conc η v = some x) : ∃ s, x = .string s := by
  cases v <;> simp only [isText, Bool.false_eq_true] at ht
  · simp only [conc, Option.some.injEq] at hx; exact ⟨_, hx.symm⟩
  · simp only [conc] at hx
    split at hx
    · exact ⟨_, (Option.some.inj hx).symm⟩
    · cases hx
theorem flat_same {η : Env} : ∀ {cs : List AV} {xs : List Value}, concL η cs = some xs → cs.all isFlat = true → ∀ n, (xs.zip xs).all (fun (x, y) => Instr.sameBits n x y) = true
  | [], xs, hx, _, n => by simp [concL] at hx; subst hx; rfl
  | c :: cs, xs, hx, hf, n => by
    simp only [concL] at hx
    split at hx
    · rename_i y ys hy hys
      cases hx
      simp only [List.all_cons, Bool.and_eq_true] at hf
      simp only [List.zip_cons_cons, List.all_cons, Bool.and_eq_true]
      refine ⟨?_, flat_same hys hf.2 n⟩
      cases c <;> simp only [isFlat, Bool.false_eq_true] at hf <;> (try exact hf.1.elim)
      · rw [conc_bool hy]; cases n <;> simp [Instr.sameBits]
      · rw [conc_int hy]; cases n <;> simp [Instr.sameBits]
      · rw [conc_str hy]
        have : ∀ a : ByteArray, (a == a) = true := fun a => by rw [beq_toListBytes]; simp
        cases n <;> exact this _
      · obtain ⟨s, rfl⟩ := text_conc (v := .symStr _) rfl hy
        have : ∀ a : ByteArray, (a == a) = true := fun a => by rw [beq_toListBytes]; simp
        cases n <;> exact this _
    · cases hx
theorem findW_sound (hC : CtxOK P C) (hfit : Fit C η w) {m : Nat} {t : TypeId} {u : TypeDesc} (ht : P.underlying t = some u) (hw : isWide u = true) (hm : m ≤ 10000) (hk : P.keyTypeAt m t = true) {k : AV} {x : Value} {L : List KL} (hx : conc η k = some x) (hL : litsOf C m t k = some L) :
    ∀ {es : List (AV × AV × Nat)} {ces : List MapEntry} {i : Nat} {r : Option (Nat × AV × Nat)}, EsRel η es ces → findW C m t k L es i = some r →
    (Instr.findAsking t x ces i).run P w = .ok (match r with | none => none | some (j, _, _) => (ces[j - i]?).map fun e => (j, e.val)) w ∧
    (∀ j v b, r = some (j, v, b) → i ≤ j ∧ ∃ k0 e, es[j - i]? = some (k0, v, b) ∧ ces[j - i]? = some e ∧ conc η v = some e.val ∧ conc η k0 = some e.key ∧ x = e.key)
  | [], [], i, r, _, h => by simp [findW] at h; subst h; exact ⟨rfl, fun j v b e => by cases e⟩
  | [], _ :: _, _, _, hr, _ => hr.elim
  | _ :: _, [], _, _, hr, _ => hr.elim
  | (k', v', b') :: es, e :: ces, i, r, ⟨h1, h2, h3, h4⟩, h => by
    obtain ⟨f1, f2, f3, _⟩ := litsOf_sound hC hfit ht hw hk hx hL
    have eqs : ∀ (y : Value) (L' : List Lit), y.formed P t = true → P.keyLits m t y.cells.toList = some L' → ∃ r : Bool, (Op.equal t x y).run P w = .ok r w ∧ (r = true ↔ L.map (KL.lit η) = L') := by
      intro y L' g1 g2
      have := run_equalIn_deep (10000 - m) m t hk w m m x y _ _ f1 g1 f2 g2
      rw [show 10000 - m + m = 10000 by omega] at this
      exact this
    unfold findW at h
    cases hq : eqAV k k' with
    | true =>
      rw [hq] at h; simp only [cond_true, Option.some.injEq] at h; subst h
      have hkk := eqAV_eq _ _ hq
      subst hkk
      have hxe : x = e.key := by rw [hx] at h1; exact Option.some.inj h1
      obtain ⟨r, hr, hiff⟩ := eqs x _ f1 f2
      have hrt : r = true := hiff.2 rfl
      subst hrt
      rw [hxe] at hr
      refine ⟨?_, fun j v b he => ?_⟩
      · simp only [Instr.findAsking, Sem.run_bind]
        rw [hxe, hr]
        simp
      · cases he
        exact ⟨Nat.le_refl _, k, e, by simp, by simp, h2, h1, hxe⟩
    | false =>
      rw [hq] at h; simp only [cond_false] at h
      split at h
      · cases h
      · rename_i L' hL'
        cases hn : isNo (triKLs C.facts L L') with
        | false => rw [hn] at h; cases h
        | true =>
          rw [hn] at h; simp only [cond_true] at h
          obtain ⟨g1, g2, g3, _⟩ := litsOf_sound hC hfit ht hw hk h1 hL'
          obtain ⟨rb, hr, hiff⟩ := eqs e.key _ g1 g2
          have hrf : rb = false := by
            cases rb with
            | false => rfl
            | true =>
              have : triKLs C.facts L L' = some false := by
                cases hz : triKLs C.facts L L' with
                | none => rw [hz] at hn; cases hn
                | some b => cases b with
                  | false => rfl
                  | true => rw [hz] at hn; cases hn
              exact absurd ((triKLs_sound hC hfit _ _ _ f3 g3 this).2 (hiff.1 rfl)) (by simp)
          subst hrf
          obtain ⟨a1, a2⟩ := findW_sound hC hfit ht hw hm hk hx hL h4 h
          refine ⟨?_, fun j v b he => ?_⟩
          · cases r with
            | none =>
              simp only [Instr.findAsking, Sem.run_bind, hr, Result.andThen_ok, Bool.false_eq_true, if_false]
              exact a1
            | some p =>
              obtain ⟨j, v, b⟩ := p
              obtain ⟨hij, _⟩ := a2 j v b rfl
              simp only [Instr.findAsking, Sem.run_bind, hr, Result.andThen_ok, Bool.false_eq_true, if_false]
              rw [show j - i = (j - (i + 1)) + 1 from by omega, List.getElem?_cons_succ]
              exact a1
          · obtain ⟨hij, k0, e0, c1, c2, c3⟩ := a2 j v b he
            refine ⟨by omega, k0, e0, ?_, ?_, c3⟩
            · rw [show j - i = (j - (i + 1)) + 1 from by omega, List.getElem?_cons_succ]; exact c1
            · rw [show j - i = (j - (i + 1)) + 1 from by omega, List.getElem?_cons_succ]; exact c2
theorem same_now_bits {u : TypeDesc} {x y : Value} (h : Instr.sameNow u x y = some true) : ∀ n, Instr.sameBits n y x = true := by
  unfold Instr.sameNow at h
  split at h
  · split at h
    · rename_i hk; subst hk; intro n; cases n <;> simp_all [Instr.sameBits]
    · cases h
  · simp only [Option.some.injEq] at h
    intro n
    have : ∀ a b : ByteArray, (a == b) = true → (b == a) = true := fun a b h => by
      rw [beq_toListBytes] at h ⊢; simp only [beq_iff_eq] at h ⊢; exact h.symm
    cases n <;> exact this _ _ h
  · intro n; cases n <;> simp_all [Instr.sameBits]
  · cases h
theorem keyEqF_sound (hC : CtxOK P C) (hf : Fit C η w) {u : TypeDesc} {a b : AV} {x y : Value} {r : Bool} (hx : conc η a = some x) (hy : conc η b = some y) (h : keyEqF C.facts u a b = some r) : Instr.sameNow u x y = some r := by
  unfold keyEqF at h
  split at h
  · rename_i r' hr
    cases h
    exact keyEq_sound hx hy hr
  · cases hg : isStrT u && isText a && isText b with
    | false => rw [hg] at h; cases h
    | true =>
      rw [hg] at h
      simp only [cond_true] at h
      simp only [Bool.and_eq_true] at hg
      obtain ⟨⟨hu, ha⟩, hb⟩ := hg
      have hu : u = .string := by cases u <;> simp only [isStrT, Bool.false_eq_true] at hu; rfl
      subst hu
      obtain ⟨s, rfl⟩ := text_conc ha hx
      obtain ⟨t, rfl⟩ := text_conc hb hy
      have key : (s == t) = r := by
        cases he : eqAV a b with
        | true =>
          rw [he] at h
          simp only [cond_true, Option.some.injEq] at h
          subst h
          have := eqAV_eq _ _ he
          subst this
          rw [hx] at hy
          cases hy
          rw [beq_toListBytes]
          simp
        | false =>
          rw [he] at h
          simp only [cond_false] at h
          exact factEq_sound hC hf hx hy h
      simp only [Instr.sameNow, key]
theorem findK_sound (hC : CtxOK P C) (hf : Fit C η w) {u : TypeDesc} {k : AV} {x : Value} (hx : conc η k = some x) : ∀ {es : List (AV × AV × Nat)} {ces : List MapEntry} {i : Nat} {r : Option (Nat × AV × Nat)}, EsRel η es ces → findK C.facts u k es i = some r →
    Instr.findNow u x ces i = some (match r with | none => none | some (j, _, _) => (ces[j - i]?).map fun e => (j, e.val)) ∧
    (∀ j v b, r = some (j, v, b) → i ≤ j ∧ ∃ k0 e, es[j - i]? = some (k0, v, b) ∧ ces[j - i]? = some e ∧ conc η v = some e.val ∧ conc η k0 = some e.key ∧ Instr.sameNow u x e.key = some true)
  | [], [], i, r, _, h => by simp [findK] at h; subst h; exact ⟨rfl, fun j v b e => by cases e⟩
  | [], _ :: _, _, _, hr, _ => hr.elim
  | _ :: _, [], _, _, hr, _ => hr.elim
  | (k', v', b') :: es, e :: ces, i, r, ⟨h1, h2, h3, h4⟩, h => by
    simp only [findK] at h
    split at h
    · cases h
    · rename_i hq
      cases h
      have := keyEqF_sound hC hf hx h1 hq
      refine ⟨by simp [Instr.findNow, this], fun j v b he => ?_⟩
      cases he
      exact ⟨Nat.le_refl _, k', e, by simp, by simp, h2, h1, this⟩
    · rename_i hq
      have hs := keyEqF_sound hC hf hx h1 hq
      obtain ⟨g1, g2⟩ := findK_sound hC hf hx h4 h
      refine ⟨?_, fun j v b he => ?_⟩
      · simp only [Instr.findNow, hs, g1]
        cases r with
        | none => rfl
        | some p =>
          obtain ⟨j, v, b⟩ := p
          obtain ⟨hij, _⟩ := g2 j v b rfl
          simp only []
          rw [show j - i = (j - (i + 1)) + 1 from by omega, List.getElem?_cons_succ]
      · obtain ⟨hij, k0, e0, a1, a2, a3⟩ := g2 j v b he
        refine ⟨by omega, k0, e0, ?_, ?_, a3⟩
        · rw [show j - i = (j - (i + 1)) + 1 from by omega, List.getElem?_cons_succ]; exact a1
        · rw [show j - i = (j - (i + 1)) + 1 from by omega, List.getElem?_cons_succ]; exact a2

theorem findKey_sound (hC : CtxOK P C) (hf : Fit C η w) {kt : TypeId} {k : AV} {x : Value} (hx : conc η k = some x) {es : List (AV × AV × Nat)} {ces : Array MapEntry} (he : EsRel η es ces.toList) {r : Option (Nat × AV × Nat)} (h : findKey C kt k es = some r) :
    (∀ empty, (Instr.checkKey empty 10000 kt x).run P w = .ok () w) ∧
    (Instr.findKey kt x ces.toList).run P w = .ok (match r with | none => none | some (j, _, _) => (ces[j]?).map fun e => (j, e.val)) w ∧
    (∀ j v b, r = some (j, v, b) → ∃ k0 e, es[j]? = some (k0, v, b) ∧ ces[j]? = some e ∧ conc η v = some e.val ∧ conc η k0 = some e.key ∧ ∀ n, Instr.sameBits (n + 1) e.key x = true) := by
  unfold findKey at h
  split at h
  · rename_i m hkm
    obtain ⟨⟨hm, hk⟩, _⟩ := hC.keys kt m hkm
    split at h
    · rename_i u hu
      have hu := und_ok hC hu
      cases hw : isWide u with
      | false => rw [hw] at h; cases h
      | true =>
        rw [hw] at h; simp only [cond_true] at h
        split at h
        · rename_i L hL
          obtain ⟨f1, f2, _, cs, xs, rfl, rfl, hcs, hflat⟩ := litsOf_sound hC hf hu hw hk hx hL
          obtain ⟨a1, a2⟩ := findW_sound hC hf hu hw hm hk hx hL he h
          refine ⟨fun em => ?_, ?_, ?_⟩
          · have := run_checkKey_deep (P := P) em (10000 - m) m kt hk w m _ _ f1 f2
            rw [show 10000 - m + m = 10000 by omega] at this
            exact this
          · simp only [Instr.findKey, Sem.run_bind, Go.underlying, run_program, Result.andThen_ok, hu, Sem.run_pure]
            cases hces : ces.toList with
            | nil =>
              rw [hces] at a1
              simp only [Instr.findNow, Sem.run_pure]
              rw [hces] at he
              cases es with
              | nil => simp [findW] at h; subst h; rfl
              | cons => exact he.elim
            | cons e0 rest =>
              have hnow : Instr.findNow u (.agg xs.toArray) (e0 :: rest) 0 = none := by
                simp only [Instr.findNow]
                have : Instr.sameNow u (.agg xs.toArray) e0.key = none := by
                  cases u <;> simp only [isWide, Bool.false_eq_true] at hw <;> rfl
                rw [this]
              rw [hnow]
              simp only
              rw [hces] at a1
              rw [a1]
              cases r with
              | none => rfl
              | some p => simp [← hces]
          · intro j v b hr
            obtain ⟨_, k0, e, c1, c2, c3, c4, c5⟩ := a2 j v b hr
            refine ⟨k0, e, by simpa using c1, by simpa using c2, c3, c4, fun n => ?_⟩
            rw [← c5]
            have := flat_same hcs hflat n
            simpa [Instr.sameBits] using this
        · cases h
    · cases h
  · split at h
    · cases h
    · rename_i u hu
      obtain ⟨h1, h2⟩ := keyKind_ok hC hu
      obtain ⟨g1, g2⟩ := findK_sound (u := u) hC hf hx he h
      refine ⟨fun e => plain_key h2 h1 e x w, ?_, ?_⟩
      · simp only [Instr.findKey, Sem.run_bind, Go.underlying, run_program, Result.andThen_ok, h1, Sem.run_pure, g1]
        cases r with
        | none => rfl
        | some p => simp
      · intro j v b hr
        obtain ⟨_, k0, e, a1, a2, a3, a4, a5⟩ := g2 j v b hr
        exact ⟨k0, e, by simpa using a1, by simpa using a2, a3, a4, fun n => same_now_bits a5 _⟩

theorem mapLookup_sound (hC : CtxOK P C) (hfit : Fit C η w) (hr : HRel P η E H w) {t : TypeId} {m k : AV} {x y : Value} (hx : conc η m = some x) (hy : conc η k = some y) {ok : Bool} {v : AV} (h : mapLookup C H t m k ok = some v) :
    ∃ u, conc η v = some u ∧ (Instr.lookup t x y ok).run P w = .ok u w := by
  unfold mapLookup at h
  split at h
  · rename_i kt et hu
    split at h
    · rename_i b
      split at h
      · rename_i es clock hg
        obtain ⟨r, ces, hb, hh, he⟩ := getMap hr hg
        obtain ⟨r2, hb2, rfl⟩ := conc_map hx
        rw [hb] at hb2; cases hb2
        split at h
        · rename_i i v' b' hf
          cases h
          obtain ⟨a1, a2, a3⟩ := findKey_sound (P := P) hC hfit hy he hf
          obtain ⟨k0, e, _, he2, hv, _⟩ := a3 _ _ _ rfl
          simp only [he2, Option.map_some] at a2
          cases ok with
          | true => exact ⟨.tuple #[e.val, .bool true], by simp [conc, concL, hv], by simp [Instr.lookup, run_und hC hu, getObj, Sem.run, hh, a1, a2]⟩
          | false => exact ⟨e.val, hv, by simp [Instr.lookup, run_und hC hu, getObj, Sem.run, hh, a1, a2]⟩
        · rename_i hf
          obtain ⟨a1, a2, _⟩ := findKey_sound (P := P) hC hfit hy he hf
          split at h
          · rename_i z hz
            cases h
            obtain ⟨zv, hzv, hzc⟩ := (ti_ok hC (i := _) hz).zeroValue rfl w
            cases ok with
            | true => exact ⟨.tuple #[zv, .bool false], by simp [conc, concL, hzc η], by simp [Instr.lookup, run_und hC hu, getObj, Sem.run, hh, a1, a2, hzv]⟩
            | false => exact ⟨zv, hzc η, by simp [Instr.lookup, run_und hC hu, getObj, Sem.run, hh, a1, a2, hzv]⟩
          · cases h
        · cases h
      · cases h
    · rw [conc_nilm hx]
      split at h
      · rename_i hf
        have he : EsRel η [] (#[] : Array MapEntry).toList := trivial
        obtain ⟨a1, a2, _⟩ := findKey_sound (P := P) hC hfit hy he hf
        split at h
        · rename_i z hz
          cases h
          obtain ⟨zv, hzv, hzc⟩ := (ti_ok hC (i := _) hz).zeroValue rfl w
          cases ok with
          | true => exact ⟨.tuple #[zv, .bool false], by simp [conc, concL, hzc η], by simp [Instr.lookup, run_und hC hu, a1, a2, hzv]⟩
          | false => exact ⟨zv, hzc η, by simp [Instr.lookup, run_und hC hu, a1, a2, hzv]⟩
        · cases h
      · cases h
    · cases h
  · cases h
end Go.VmK
namespace Go.VmK
variable {P : Program} {C : Ctx} {E : List LoopInfo} {η : Env} {H : Heap} {w : World}

theorem EsRel_get : ∀ {es : List (AV × AV × Nat)} {ces : List MapEntry}, EsRel η es ces → es.length = ces.length ∧ ∀ (i : Nat) (k v : AV) (b : Nat), es[i]? = some (k, v, b) → ∃ e, ces[i]? = some e ∧ conc η k = some e.key ∧ conc η v = some e.val ∧ e.born = b
  | [], [], _ => ⟨rfl, fun i k v b h => by simp at h⟩
  | [], _ :: _, h => h.elim
  | _ :: _, [], h => h.elim
  | (k, v, b) :: es, e :: ces, ⟨h1, h2, h3, h4⟩ => by
    obtain ⟨a1, a2⟩ := EsRel_get h4
    refine ⟨by simp [a1], fun i k' v' b' h => ?_⟩
    cases i with
    | zero => simp at h; obtain ⟨rfl, rfl, rfl⟩ := h; exact ⟨e, by simp, h1, h2, h3⟩
    | succ i => rw [List.getElem?_cons_succ] at h; obtain ⟨e', h'⟩ := a2 i k' v' b' h; exact ⟨e', by rw [List.getElem?_cons_succ]; exact h'⟩
theorem EsRel_append : ∀ {es : List (AV × AV × Nat)} {ces : List MapEntry}, EsRel η es ces → ∀ {k v : AV} {e : MapEntry}, conc η k = some e.key → conc η v = some e.val → EsRel η (es ++ [(k, v, e.born)]) (ces ++ [e])
  | [], [], _, _, _, _, hk, hv => ⟨hk, hv, rfl, trivial⟩
  | [], _ :: _, h, _, _, _, _, _ => h.elim
  | _ :: _, [], h, _, _, _, _, _ => h.elim
  | _ :: _, _ :: _, ⟨h1, h2, h3, h4⟩, _, _, _, hk, hv => ⟨h1, h2, h3, EsRel_append h4 hk hv⟩
theorem EsRel_mod {f : AV × AV × Nat → AV × AV × Nat} {g : MapEntry → MapEntry} (hfg : ∀ k v b e, conc η k = some e.key → conc η v = some e.val → e.born = b → conc η (f (k, v, b)).1 = some (g e).key ∧ conc η (f (k, v, b)).2.1 = some (g e).val ∧ (g e).born = (f (k, v, b)).2.2) :
    ∀ {es : List (AV × AV × Nat)} {ces : List MapEntry} (i : Nat), EsRel η es ces → EsRel η (modL f i es) (ces.modify i g)
  | [], [], i, _ => by cases i <;> trivial
  | [], _ :: _, _, h => h.elim
  | _ :: _, [], _, h => h.elim
  | (k, v, b) :: es, e :: ces, 0, ⟨h1, h2, h3, h4⟩ => by
    obtain ⟨a1, a2, a3⟩ := hfg k v b e h1 h2 h3
    simp only [modL, List.modify_zero_cons]
    exact ⟨a1, a2, a3, h4⟩
  | (k, v, b) :: es, e :: ces, i + 1, ⟨h1, h2, h3, h4⟩ => by
    simp only [modL, List.modify_succ_cons]
    exact ⟨h1, h2, h3, EsRel_mod hfg i h4⟩
theorem EsRel_del : ∀ {es : List (AV × AV × Nat)} {ces : List MapEntry} (i : Nat), EsRel η es ces → EsRel η (delL i es) (ces.eraseIdx i)
  | [], [], i, _ => by cases i <;> trivial
  | [], _ :: _, _, h => h.elim
  | _ :: _, [], _, h => h.elim
  | (k, v, b) :: es, e :: ces, 0, ⟨_, _, _, h4⟩ => by simpa [delL] using h4
  | (k, v, b) :: es, e :: ces, i + 1, ⟨h1, h2, h3, h4⟩ => by
    simp only [delL, List.eraseIdx_cons_succ]
    exact ⟨h1, h2, h3, EsRel_del i h4⟩

theorem setObj_map {w : World} {r : Nat} {ces : Array MapEntry} {c : Nat} (h : w.heap[r]? = some (.map ces c)) (o : Obj) : (setObj r o).run P w = .ok () (World.putBlock w r o) := by
  simp [setObj, Sem.run, h, World.putBlock]
theorem put_same {w : World} {r : Nat} {o : Obj} (h : w.heap[r]? = some o) : World.putBlock w r o = w := by
  unfold World.putBlock
  have : w.heap.setIfInBounds r o = w.heap := by
    apply Array.ext_getElem?
    intro j; rw [Array.getElem?_setIfInBounds]
    by_cases hj : r = j
    · subst hj; rw [if_pos rfl, if_pos (lt_of_get h), h]
    · simp [hj]
  rw [this]
theorem Grow.put {b : Nat} {o o' : AObj} (hg : H.get b = some o) : Grow η η H (H.put b o') :=
  have h : ∀ id, H.get id = none → (H.put b o').get id = none := fun id hn => by
    rw [Heap.get_put, if_neg]
    · exact hn
    · intro e; rw [e, hg] at hn; cases hn
  ⟨Only.refl _ _, fun id _ hn => h id hn, .inl ⟨rfl, rfl, h H.next⟩⟩
theorem same_bits {u : TypeDesc} {x y : Value} (h : Instr.sameNow u x y = some true) : ∀ n, Instr.sameBits n y x = true := by
  unfold Instr.sameNow at h
  split at h
  · split at h
    · rename_i hk; subst hk; intro n; cases n <;> simp_all [Instr.sameBits]
    · cases h
  · simp only [Option.some.injEq] at h
    intro n
    have : ∀ a b : ByteArray, (a == b) = true → (b == a) = true := fun a b h => by
      rw [beq_toListBytes] at h ⊢; simp only [beq_iff_eq] at h ⊢; exact h.symm
    cases n <;> exact this _ _ h
  · intro n; cases n <;> simp_all [Instr.sameBits]
  · cases h

theorem mapUpdate_sound (hC : CtxOK P C) (hfit : Fit C η w) (hr : HRel P η E H w) {t : TypeId} {m k v : AV} {x y z : Value} (hx : conc η m = some x) (hy : conc η k = some y) (hz : conc η v = some z) {H' : Heap} (h : mapUpdate C H t m k v = some H') :
    SimU P E η H w (Instr.mapUpdate t x y z) H' := by
  unfold mapUpdate at h
  split at h
  · rename_i kt et b hu
    split at h
    · rename_i es clock hg
      obtain ⟨r, ces, hb, hh, he⟩ := getMap hr hg
      obtain ⟨r2, hb2, rfl⟩ := conc_map hx
      rw [hb] at hb2; cases hb2
      split at h
      · rename_i i p hf
        cases h
        obtain ⟨a1, a2, a3⟩ := findKey_sound (P := P) hC hfit hy he hf
        obtain ⟨k0, e, he1, he2, hv, hk0, hsame⟩ := a3 _ _ _ rfl
        simp only [he2, Option.map_some] at a2
        have hkeep : (Instr.keyThatStays e.key y).run P w = .ok y w := by
          simp [Instr.keyThatStays, hsame 9999]
        refine ⟨_, ?_, Trans.put hr hg hb _ (.map (ces.modify i fun e => { e with key := y, val := z }) clock) ?_ rfl, Grow.put hg⟩
        · simp [Instr.mapUpdate, run_und hC hu, getObj, Sem.run, hh, a1, a2, he2, hkeep, setObj_map hh]
        · refine ⟨rfl, ?_⟩
          rw [Array.toList_modify]
          exact EsRel_mod (f := fun p => (k, v, p.2.2)) (g := fun e => { e with key := y, val := z }) (fun k1 v1 b1 e1 _ _ h3 => ⟨hy, hz, h3⟩) i he
      · rename_i hf
        cases h
        obtain ⟨a1, a2, _⟩ := findKey_sound (P := P) hC hfit hy he hf
        refine ⟨_, ?_, Trans.put hr hg hb _ (.map (ces.push { key := y, val := z, born := clock }) (clock + 1)) ?_ rfl, Grow.put hg⟩
        · simp [Instr.mapUpdate, run_und hC hu, getObj, Sem.run, hh, a1, a2, setObj_map hh]
        · refine ⟨rfl, ?_⟩
          rw [Array.toList_push]
          exact EsRel_append (e := { key := y, val := z, born := clock }) he hy hz
      · cases h
    · cases h
  · cases h

theorem mapEntry_sound (hC : CtxOK P C) (hfit : Fit C η w) (hr : HRel P η E H w) {t : TypeId} {m k : AV} {x y : Value} (hx : conc η m = some x) (hy : conc η k = some y) {v : AV} {H' : Heap} (h : mapEntry C H t m k = some (v, H')) :
    SimS P E η H w (Instr.mapEntry t x y) v H' := by
  unfold mapEntry at h
  split at h
  · rename_i kt et b hu
    split at h
    · rename_i es clock hg
      obtain ⟨r, ces, hb, hh, he⟩ := getMap hr hg
      obtain ⟨r2, hb2, rfl⟩ := conc_map hx
      rw [hb] at hb2; cases hb2
      split at h
      · rename_i i v0 born hf
        cases h
        obtain ⟨a1, a2, a3⟩ := findKey_sound (P := P) hC hfit hy he hf
        obtain ⟨k0, e, he1, he2, hv, hk0, hsame⟩ := a3 _ _ _ rfl
        have hborn : e.born = born := by
          obtain ⟨_, hg2⟩ := EsRel_get he
          obtain ⟨e', he', _, _, h3⟩ := hg2 i k0 v0 born he1
          rw [Array.getElem?_toList, he2] at he'; cases he'; exact h3
        simp only [he2, Option.map_some] at a2
        have hkeep : (Instr.keyThatStays e.key y).run P w = .ok y w := by
          simp [Instr.keyThatStays, hsame 9999]
        refine ⟨η, .tuple #[e.val, .int .i64 (Int.ofNat born)], _, ?_, by simp [conc, concL, hv], Trans.put hr hg hb _ (.map (ces.modify i fun e => { e with key := y }) clock) ?_ rfl, Grow.put hg⟩
        · simp [Instr.mapEntry, run_und hC hu, getObj, Sem.run, hh, a1, a2, he2, hkeep, setObj_map hh, goInt, hborn]
        · refine ⟨rfl, ?_⟩
          rw [Array.toList_modify]
          exact EsRel_mod (f := fun p => (k, p.2.1, p.2.2)) (g := fun e => { e with key := y }) (fun k1 v1 b1 e1 h1 h2 h3 => ⟨hy, h2, h3⟩) i he
      · rename_i hf
        split at h
        · rename_i z hz
          cases h
          obtain ⟨a1, a2, _⟩ := findKey_sound (P := P) hC hfit hy he hf
          obtain ⟨zv, hzv, hzc⟩ := (ti_ok hC (i := _) hz).zeroValue rfl w
          refine ⟨η, .tuple #[zv, .int .i64 (Int.ofNat clock)], _, ?_, by simp [conc, concL, hzc η], Trans.put hr hg hb _ (.map (ces.push { key := y, val := zv, born := clock }) (clock + 1)) ?_ rfl, Grow.put hg⟩
          · simp [Instr.mapEntry, run_und hC hu, getObj, Sem.run, hh, a1, a2, hzv, setObj_map hh, goInt]
          · refine ⟨rfl, ?_⟩
            rw [Array.toList_push]
            exact EsRel_append (e := { key := y, val := zv, born := clock }) he hy (hzc η)
        · cases h
      · cases h
    · cases h
  · cases h
theorem bornAt_sound {n : Int} : ∀ {es : List (AV × AV × Nat)} {ces : List MapEntry} {i j : Nat}, EsRel η es ces → bornAt n es i = some j → i ≤ j ∧ ces.findIdx? (fun e => (e.born : Int) == n) = some (j - i)
  | [], [], _, _, _, h => by cases h
  | [], _ :: _, _, _, hr, _ => hr.elim
  | _ :: _, [], _, _, hr, _ => hr.elim
  | (k, v, b) :: es, e :: ces, i, j, ⟨h1, h2, h3, h4⟩, h => by
    unfold bornAt at h
    have hb : eqI (Int.ofNat b) n = ((e.born : Int) == n) := by rw [eqI_eq, h3]; rfl
    cases hq : eqI (Int.ofNat b) n with
    | true =>
      rw [hq] at h; simp only [cond_true, Option.some.injEq] at h; subst h
      rw [hq] at hb
      exact ⟨Nat.le_refl _, by simp [List.findIdx?_cons, ← hb]⟩
    | false =>
      rw [hq] at h; simp only [cond_false] at h
      rw [hq] at hb
      obtain ⟨g1, g2⟩ := bornAt_sound h4 h
      refine ⟨by omega, ?_⟩
      rw [List.findIdx?_cons, ← hb]
      simp only [Bool.false_eq_true, if_false, g2, Option.map_some, Option.some.injEq]
      omega
theorem entryStore_sound (hr : HRel P η E H w) {t : TypeId} {m s v : AV} {x y z : Value} (hx : conc η m = some x) (hy : conc η s = some y) (hz : conc η v = some z) {H' : Heap} (h : entryStore H m s v = some H') :
    SimU P E η H w (Instr.entryStore t x y z) H' := by
  unfold entryStore at h
  split at h
  · rename_i b k n
    split at h
    · rename_i es clock hg
      obtain ⟨r, ces, hb, hh, he⟩ := getMap hr hg
      obtain ⟨r2, hb2, rfl⟩ := conc_map hx
      rw [hb] at hb2; cases hb2
      rw [conc_int hy]
      split at h
      · rename_i i hf
        cases h
        obtain ⟨_, hi⟩ := bornAt_sound he hf
        have hi' : ces.findIdx? (fun e => (e.born : Int) == n) = some i := by
          have hce : ces = ces.toList.toArray := by simp
          rw [hce, List.findIdx?_toArray]; simpa using hi
        refine ⟨_, ?_, Trans.put hr hg hb _ (.map (ces.modify i fun e => { e with val := z }) clock) ?_ rfl, Grow.put hg⟩
        · simp [Instr.entryStore, getObj, Sem.run, hh, asInt, asIntOf, hi', setObj_map hh]
        · refine ⟨rfl, ?_⟩
          rw [Array.toList_modify]
          exact EsRel_mod (f := fun p => (p.1, v, p.2.2)) (g := fun e => { e with val := z }) (fun k1 v1 b1 e1 h1 h2 h3 => ⟨h1, hz, h3⟩) i he
      · cases h
    · cases h
  · cases h

theorem mapDelete_sound (hC : CtxOK P C) (hfit : Fit C η w) (hr : HRel P η E H w) {ats : List TypeId} {t : TypeId} {r : List TypeId} (hat : ats = t :: r) {type : TypeId} {m k : AV} {x y : Value} (hx : conc η m = some x) (hy : conc η k = some y) {H' : Heap} (h : mapDelete C H t m k = some H') :
    SimS P E η H w (Builtin.delete_ ats.toArray type #[x, y]) (.tuple []) H' := by
  subst hat
  unfold mapDelete at h
  split at h
  · rename_i kt et hu
    split at h
    · rename_i u hk
      cases h
      obtain ⟨h1, h2⟩ := keyKind_ok hC hk
      rw [conc_nilm hx]
      exact SimS.pure hr rfl (by simp [Builtin.delete_, run_und hC hu, plain_key h2 h1])
    · cases h
  · rename_i kt et b hu
    split at h
    · rename_i es clock hg
      obtain ⟨r, ces, hb, hh, he⟩ := getMap hr hg
      obtain ⟨r2, hb2, rfl⟩ := conc_map hx
      rw [hb] at hb2; cases hb2
      split at h
      · rename_i i p hf
        cases h
        obtain ⟨a1, a2, a3⟩ := findKey_sound (P := P) hC hfit hy he hf
        obtain ⟨k0, e, he1, he2, hv, _⟩ := a3 _ _ _ rfl
        simp only [he2, Option.map_some] at a2
        refine ⟨η, _, _, ?_, rfl, Trans.put hr hg hb _ (.map (ces.eraseIdxIfInBounds i) clock) ?_ rfl, Grow.put hg⟩
        · simp [Builtin.delete_, run_und hC hu, getObj, Sem.run, hh, a1, a2, setObj_map hh]
        · refine ⟨rfl, ?_⟩
          have hil : i < ces.size := (Array.getElem?_eq_some_iff.1 he2).1
          have : (ces.eraseIdxIfInBounds i).toList = ces.toList.eraseIdx i := by
            simp [Array.eraseIdxIfInBounds, hil]
          rw [this]
          exact EsRel_del i he
      · rename_i hf
        cases h
        obtain ⟨a1, a2, _⟩ := findKey_sound (P := P) hC hfit hy he hf
        refine SimS.pure hr rfl ?_
        simp [Builtin.delete_, run_und hC hu, getObj, Sem.run, hh, a1, a2, setObj_map hh, put_same hh]
      · cases h
    · cases h
  · cases h

/-! ranges over a map -/
theorem rangeOp_sound (hC : CtxOK P C) (hr : HRel P η E H w) (hf : Fresh η H H.next) {t : TypeId} {a : AV} {x : Value} (hx : conc η a = some x) {v : AV} {H' : Heap} (h : rangeOp C H t a = some (v, H')) : SimS P E η H w (Instr.range t x) v H' := by
  unfold rangeOp at h
  split at h
  · rename_i s hu
    cases h; rw [conc_str hx]
    obtain ⟨h1, h2⟩ := newObj_sound (P := P) hr hf (.striter s 0) (.stringIter ⟨s.toArray⟩ 0) ⟨rfl, rfl⟩
    exact ⟨_, .pointer (some ⟨w.heap.size, 0, none⟩), w.alloc (.stringIter ⟨s.toArray⟩ 0), by simp [Instr.range, run_und hC hu], ptr_new _ _ _, by simpa using h1, h2⟩
  · rename_i k e hu
    cases h; rw [conc_nilm hx]
    obtain ⟨h1, h2⟩ := newObj_sound (P := P) hr hf (.mapIter none 0 [] 0) (.mapIter none 0 #[] 0) ⟨rfl, rfl, rfl, rfl⟩
    exact ⟨_, .pointer (some ⟨w.heap.size, 0, none⟩), w.alloc (.mapIter none 0 #[] 0), by simp [Instr.range, run_und hC hu], ptr_new _ _ _, by simpa using h1, h2⟩
  · rename_i k e b hu
    split at h
    · rename_i es clock hg
      cases h
      obtain ⟨r, ces, hb, hh, he⟩ := getMap hr hg
      obtain ⟨r2, hb2, rfl⟩ := conc_map hx
      rw [hb] at hb2; cases hb2
      obtain ⟨h1, h2⟩ := newObj_sound (P := P) (E := E) hr hf (.mapIter (some b) clock [] clock) (.mapIter (some r) clock #[] clock) ⟨⟨r, (Env.le_bind hf.ρ).ρ _ _ hb, rfl⟩, rfl, rfl, rfl⟩
      exact ⟨_, .pointer (some ⟨w.heap.size, 0, none⟩), w.alloc (.mapIter (some r) clock #[] clock), by simp [Instr.range, run_und hC hu, getObj, Sem.run, hh], ptr_new _ _ _, by simpa using h1, h2⟩
    · cases h
  · cases h

def IterOf (η : Env) : Option Nat → Option Nat → Prop
  | none, m' => m' = none
  | some i, m' => ∃ r, η.ρ i = some r ∧ m' = some r
theorem getIter (hr : HRel P η E H w) {b : Nat} {m : Option Nat} {s st : Nat} {seen : List Nat} (hg : H.get b = some (.mapIter m s seen st)) :
    ∃ r m' seen', η.ρ b = some r ∧ w.heap[r]? = some (.mapIter m' s seen' st) ∧ seen'.toList = seen ∧ IterOf η m m' := by
  obtain ⟨r, ob, hb, hob, hrel⟩ := hr.obj b _ hg
  cases ob with
  | mapIter m' s' seen' st' => obtain ⟨h1, h2, h3, h4⟩ := hrel; subst h2; subst h4; exact ⟨r, m', seen', hb, hob, h3, by cases m <;> exact h1⟩
  | _ => exact hrel.elim

theorem lastL_back : ∀ (l : List Nat) (s : Nat), lastL l = some s → l.getLast? = some s
  | [], s, h => by simp [lastL] at h
  | [x], s, h => by simp [lastL] at h; simp [h]
  | x :: y :: r, s, h => by simp only [lastL] at h; rw [List.getLast?_cons_cons]; exact lastL_back (y :: r) s h
theorem findBorn_sound (s : Nat) : ∀ {es : List (AV × AV × Nat)} {ces : List MapEntry} {k v : AV}, EsRel η es ces → findBorn s es = some (k, v) → ∃ e, ces.find? (fun e => e.born == s) = some e ∧ conc η k = some e.key ∧ conc η v = some e.val
  | [], [], _, _, _, h => by simp [findBorn] at h
  | [], _ :: _, _, _, h, _ => h.elim
  | _ :: _, [], _, _, h, _ => h.elim
  | (k', v', b') :: es, e :: ces, k, v, ⟨h1, h2, h3, h4⟩, h => by
    simp only [findBorn] at h
    cases hq : Nat.beq b' s with
    | true =>
      rw [hq] at h; simp only [cond_true, Option.some.injEq, Prod.mk.injEq] at h
      obtain ⟨rfl, rfl⟩ := h
      have := beq_eq hq
      exact ⟨e, by simp [h3, this], h1, h2⟩
    | false =>
      rw [hq] at h; simp only [cond_false] at h
      obtain ⟨e', he', hc⟩ := findBorn_sound s h4 h
      have : (e.born == s) = false := by rw [h3]; simp; intro e; rw [e] at hq; simp at hq
      exact ⟨e', by rw [List.find?_cons_of_neg (by simp [this])]; exact he', hc⟩
theorem entryOp_sound (hr : HRel P η E H w) {a : AV} {x : Value} (hx : conc η a = some x) {v : AV} (h : entryOp H a = some v) : ∃ u, conc η v = some u ∧ (Instr.entry x).run P w = .ok u w := by
  unfold entryOp at h
  split at h
  · rename_i b
    split at h
    · rename_i m since seen stepped hg
      split at h
      · rename_i s es clock hl hgm
        cases hq : Nat.beq clock stepped with
        | false => rw [hq] at h; cases h
        | true =>
          rw [hq] at h; simp only [cond_true] at h
          have hcs := beq_eq hq
          cases hfb : findBorn s es with
          | none => rw [hfb] at h; cases h
          | some kv =>
            obtain ⟨k, vv⟩ := kv
            rw [hfb] at h; simp only [Option.map_some, Option.some.injEq] at h; subst h
            obtain ⟨r, m', seen', hb, hh, hse, hm⟩ := getIter hr hg
            obtain ⟨rm, hrm, rfl⟩ := hm
            obtain ⟨rm2, ces, hbm, hhm, he⟩ := getMap hr hgm
            rw [hrm] at hbm; cases hbm
            obtain ⟨r2, hb2, rfl⟩ := conc_ptr hx
            rw [hb] at hb2; cases hb2
            obtain ⟨e, hfe, hk, hv⟩ := findBorn_sound s he hfb
            have hback : seen'.back? = some s := by
              rw [← Array.getLast?_toList, hse]; exact lastL_back _ _ hl
            have hfe2 : ces.find? (fun e => e.born == s) = some e := by rw [← Array.find?_toList]; exact hfe
            refine ⟨.tuple #[e.key, e.val], by simp [conc, concL, hk, hv], ?_⟩
            simp [Instr.entry, getObj, Sem.run, hh, hback, hhm, hcs, hfe2]
      · cases h
    · cases h
  · cases h
end Go.VmK
namespace Go.VmK
variable {P : Program} {C : Ctx} {E : List LoopInfo} {η : Env} {H : Heap} {w : World}

theorem EsRel_filter {p : Nat → Bool} : ∀ {es : List (AV × AV × Nat)} {ces : List MapEntry}, EsRel η es ces → EsRel η (es.filter fun e => p e.2.2) (ces.filter fun e => p e.born)
  | [], [], _ => trivial
  | [], _ :: _, h => h.elim
  | _ :: _, [], h => h.elim
  | (k, v, b) :: es, e :: ces, ⟨h1, h2, h3, h4⟩ => by
    subst h3
    simp only [List.filter_cons]
    cases hp : p e.born with
    | true => simp only [if_true]; exact ⟨h1, h2, rfl, EsRel_filter h4⟩
    | false => simp only [Bool.false_eq_true, if_false]; exact EsRel_filter h4
theorem EsRel_app : ∀ {es : List (AV × AV × Nat)} {ces : List MapEntry} {fs : List (AV × AV × Nat)} {cfs : List MapEntry}, EsRel η es ces → EsRel η fs cfs → EsRel η (es ++ fs) (ces ++ cfs)
  | [], [], _, _, _, h => h
  | [], _ :: _, _, _, h, _ => h.elim
  | _ :: _, [], _, _, h, _ => h.elim
  | (_, _, _) :: _, _ :: _, _, _, ⟨h1, h2, h3, h4⟩, h => ⟨h1, h2, h3, EsRel_app h4 h⟩
theorem elemN_eq (l : List Nat) (n : Nat) : elemN l n = l.contains n := by
  induction l with
  | nil => rfl
  | cons a l ih =>
    simp only [elemN, List.any_cons, List.contains_cons] at ih ⊢
    rw [ih]
    congr 1
    rw [Bool.eq_iff_iff, Nat.beq_eq]; simp

theorem EsRel_back {es : List (AV × AV × Nat)} {ces : List MapEntry} (h : EsRel η es ces) {i : Nat} {e : MapEntry} (hi : ces[i]? = some e) : ∃ p, p ∈ es ∧ conc η p.1 = some e.key ∧ conc η p.2.1 = some e.val ∧ e.born = p.2.2 := by
  obtain ⟨hl, hg⟩ := EsRel_get h
  have hlt : i < es.length := by rw [hl]; exact (List.getElem?_eq_some_iff.1 hi).1
  obtain ⟨e', he', h1, h2, h3⟩ := hg i es[i].1 es[i].2.1 es[i].2.2 (List.getElem?_eq_getElem hlt)
  rw [hi] at he'; cases he'
  exact ⟨es[i], List.getElem_mem _, h1, h2, h3⟩

def SimW (P : Program) (E : List LoopInfo) (η : Env) (H : Heap) (w : World) (s : Sem Value) (l : List (AV × Heap)) : Prop :=
  ∃ p ∈ l, SimS P E η H w s p.1 p.2

theorem choose_in {n : Nat} (h : 0 < n) (w : World) : ∃ k w', k < n ∧ (choose (.mapNext n)).run P w = .ok k w' ∧ (w' = w ∨ w' = w.drew) := by
  rw [run_choose]
  by_cases hf : (Question.mapNext n).forced = true
  · rw [if_pos hf]; exact ⟨0, w, h, rfl, .inl rfl⟩
  · rw [if_neg hf]; exact ⟨_, _, Nat.mod_lt _ h, rfl, .inr rfl⟩

theorem nextOp_sound (hr : HRel P η E H w) {a : AV} {x : Value} (hx : conc η a = some x) {isS : Bool} {l : List (AV × Heap)} (h : nextOp H a isS = some l) (ty : TypeId) : SimW P E η H w (Instr.next x isS ty) l := by
  unfold nextOp at h
  split at h
  · rename_i b
    obtain ⟨r, hb, rfl⟩ := conc_ptr hx
    split at h
    · rename_i s p hg
      obtain ⟨r', ob, hb', hh, hrel⟩ := hr.obj b _ hg
      rw [hb] at hb'; cases hb'
      cases ob <;> try exact hrel.elim
      rename_i s' p'
      obtain ⟨rfl, rfl⟩ := hrel
      have hsz : (ByteArray.mk s.toArray).size = s.length := by simp [ByteArray.size]
      split at h
      · rename_i hn
        cases h
        have hge : ¬ p' < s.length := by have := List.getElem?_eq_none_iff.1 hn; omega
        exact ⟨(.tuple [.bool false], H), by simp, SimS.pure hr (x := .tuple #[.bool false]) (by simp [conc, concL]) (by simp [Instr.next, getObj, Sem.run, hh, hsz, hge])⟩
      · rename_i c hc
        cases hb8 : Nat.blt c.toNat 128 with
        | false => rw [hb8] at h; cases h
        | true =>
          rw [hb8] at h; cases h
          have hlt : p' < s.length := (List.getElem?_eq_some_iff.1 hc).1
          have hlt' : p' < (ByteArray.mk s.toArray).size := by rw [hsz]; exact hlt
          have hce : (ByteArray.mk s.toArray)[p']'hlt' = c := by
            have h2 := (List.getElem?_eq_some_iff.1 hc).2
            show (s.toArray)[p'] = c
            simpa using h2
          have hd := decode_ascii (ByteArray.mk s.toArray) p' hlt' (by rw [hce]; exact blt_lt hb8)
          rw [hce] at hd
          refine ⟨_, List.mem_singleton.2 rfl, η, .tuple #[.bool true, .int .i64 (Int.ofNat p'), .int .i32 (Int.ofNat c.toNat)], World.putBlock w r (.stringIter ⟨s.toArray⟩ (p' + 1)), ?_, by simp [conc, concL], Trans.put hr hg hb (.striter s (p' + 1)) (.stringIter ⟨s.toArray⟩ (p' + 1)) ⟨rfl, rfl⟩ rfl, Grow.put hg⟩
          simp [Instr.next, getObj, setObj, Sem.run, hh, hsz, hlt, hd, World.putBlock, goInt]
    · cases h
  · rename_i b
    obtain ⟨r, hb, rfl⟩ := conc_ptr hx
    split at h
    · rename_i s0 seen0 st0 hg
      cases h
      obtain ⟨r', m', seen', hb', hh, hse, hm⟩ := getIter hr hg
      rw [hb] at hb'; cases hb'
      have hm : m' = none := hm
      subst hm
      exact ⟨(.tuple [.bool false], H), by simp, SimS.pure hr (x := .tuple #[.bool false]) (by simp [conc, concL]) (by simp [Instr.next, getObj, Sem.run, hh])⟩
    · rename_i m since seen last hg
      obtain ⟨r', m', seen', hb', hh, hse, rm, hrm, rfl⟩ := getIter hr hg
      rw [hb] at hb'; cases hb'
      unfold nextMap at h
      split at h
      · rename_i es clock hgm
        obtain ⟨rm2, ces, hbm, hhm, he⟩ := getMap hr hgm
        rw [hrm] at hbm; cases hbm
        cases hq : goneAll seen es last with
        | true => rw [hq] at h; cases h
        | false =>
          rw [hq] at h; simp only [cond_false, Option.some.injEq] at h
          subst h
          obtain ⟨hlen, hget⟩ := EsRel_get he
          -- the test ahead
          have htest : (!seen'.isEmpty && !ces.isEmpty && ces.all (fun e => decide (e.born ≥ last))) = false := by
            cases hs : seen with
            | nil => have : seen' = #[] := by rw [← Array.toList_eq_nil_iff, hse, hs]
                     simp [this]
            | cons s0 sr =>
              cases hes : es with
              | nil =>
                rw [hes] at hlen
                have : ces = #[] := by rw [← Array.toList_eq_nil_iff]; exact List.length_eq_zero_iff.1 (by simpa using hlen.symm)
                simp [this]
              | cons e0 er =>
                have hq2 : (es.all fun e => Nat.ble last e.2.2) = false := by rw [hs, hes] at hq; rw [hes]; exact hq
                have : (ces.all fun e => decide (e.born ≥ last)) = false := by
                  rw [Bool.eq_false_iff] at hq2 ⊢
                  intro hall
                  apply hq2
                  rw [List.all_eq_true]
                  rintro ⟨k, v, b0⟩ hm0
                  obtain ⟨i, hi, hie⟩ := List.getElem_of_mem hm0
                  obtain ⟨e, hce, _, _, hbo⟩ := hget i k v b0 (by rw [List.getElem?_eq_getElem hi, hie])
                  rw [Array.all_eq_true'] at hall
                  have := hall e (by rw [Array.mem_def]; exact List.mem_of_getElem? hce)
                  rw [hbo] at this
                  exact Nat.ble_eq_true_of_le (by simpa using this)
                rw [this]; simp
          obtain ⟨left, hleft⟩ : ∃ left, left = ces.filter fun e => !seen'.contains e.born := ⟨_, rfl⟩
          have hsc : ∀ n, seen'.contains n = elemN seen n := fun n => by rw [elemN_eq, ← hse]; simp
          have hl1 : EsRel η (es.filter fun e => notB (elemN seen e.2.2)) left.toList := by
            have := EsRel_filter (p := fun n => notB (elemN seen n)) he
            rw [hleft, Array.toList_filter]
            have e2 : (fun e : MapEntry => !seen'.contains e.born) = fun e => notB (elemN seen e.born) := by funext e; rw [hsc, notB_eq]
            rw [e2]; exact this
          have ho := EsRel_filter (p := fun n => Nat.blt n since) hl1
          have hn := EsRel_filter (p := fun n => Nat.ble since n) hl1
          obtain ⟨oldA, hoA⟩ : ∃ z, z = (es.filter fun e => notB (elemN seen e.2.2)).filter fun e => Nat.blt e.2.2 since := ⟨_, rfl⟩
          obtain ⟨newA, hnA⟩ : ∃ z, z = (es.filter fun e => notB (elemN seen e.2.2)).filter fun e => Nat.ble since e.2.2 := ⟨_, rfl⟩
          rw [← hoA] at ho; rw [← hnA] at hn
          have eo : (left.filter fun e => decide (e.born < since)).toList = left.toList.filter fun e => Nat.blt e.born since := by
            rw [Array.toList_filter]; congr 1; funext e; rw [Bool.eq_iff_iff]; simp [Nat.blt_eq]
          have en : (left.filter fun e => decide (e.born ≥ since)).toList = left.toList.filter fun e => Nat.ble since e.born := by
            rw [Array.toList_filter]; congr 1; funext e; rw [Bool.eq_iff_iff]; simp [Nat.ble_eq]
          rw [← eo] at ho; rw [← en] at hn
          obtain ⟨oldC, hoC⟩ : ∃ z, z = left.filter fun e => decide (e.born < since) := ⟨_, rfl⟩
          obtain ⟨newC, hnC⟩ : ∃ z, z = left.filter fun e => decide (e.born ≥ since) := ⟨_, rfl⟩
          rw [← hoC] at ho; rw [← hnC] at hn
          have hall := EsRel_app ho hn
          obtain ⟨hall1, hall2⟩ := EsRel_get hall
          obtain ⟨ho1, _⟩ := EsRel_get ho
          simp only [← hoA, ← hnA]
          -- what the model does
          have hrun : ∀ (k : Nat) (w' : World), (choose (.mapNext ((if oldC.isEmpty then #[none] else #[]) ++ (oldC ++ newC).map some : Array (Option MapEntry)).size)).run P w = .ok k w' → w'.heap = w.heap →
              (Instr.next (.pointer (some ⟨r, 0, none⟩)) false ty).run P w = (match ((if oldC.isEmpty then #[none] else #[]) ++ (oldC ++ newC).map some : Array (Option MapEntry))[k]? with
                | some (some e) => .ok (.tuple #[.bool true, e.key, e.val]) (World.putBlock w' r (.mapIter (some rm) since (seen'.push e.born) clock))
                | some none => .ok (.tuple #[.bool false]) w'
                | none => .halt (.stuck "Next: no such candidate") w') := by
            intro k w' hch hw'
            have hso : ∀ o, (setObj r o).run P w' = .ok () (World.putBlock w' r o) := fun o => by simp [setObj, Sem.run, hw', hh, World.putBlock]
            simp only [Instr.next, Sem.run_bind, getObj, Sem.run, hh, Result.andThen_ok, hhm, htest, Bool.false_eq_true, if_false]
            simp only [← hleft, ← hoC, ← hnC, hch, Result.andThen_ok]
            split <;> simp_all
          have over : ∀ w', w' = w ∨ w' = w.drew → SimS P E η H w (.pure (.tuple #[.bool false]) : Sem Value) (.tuple [.bool false]) H := fun _ _ => SimS.pure hr (by simp [conc, concL]) rfl
          -- the choice
          have hpos : 0 < ((if oldC.isEmpty then #[none] else #[]) ++ (oldC ++ newC).map some : Array (Option MapEntry)).size := by
            by_cases hoe : oldC.isEmpty = true
            · rw [if_pos hoe, Array.size_append]; exact Nat.lt_of_lt_of_le Nat.zero_lt_one (Nat.le_add_right 1 _)
            · have : 0 < oldC.size := by
                rcases Nat.eq_zero_or_pos oldC.size with h0 | h0
                · exact absurd (by simp [Array.eq_empty_of_size_eq_zero h0]) hoe
                · exact h0
              rw [Array.size_append, Array.size_map, Array.size_append]; omega
          obtain ⟨k, w', hk, hch, hw'⟩ := choose_in hpos w
          have hheap : w'.heap = w.heap := hw'.elim (fun e => by rw [e]) (fun e => by rw [e]; rfl)
          have hr' : HRel P η E H w' := hw'.elim (fun e => e ▸ hr) (fun e => e ▸ hr.drew)
          have tr0 : ∀ {η' H' w''}, Trans P E η H w' η' H' w'' → Trans P E η H w η' H' w'' := fun t => hw'.elim (fun e => e ▸ t) (fun e => by rw [e] at t; exact t.drew)
          have hmain := hrun k w' hch hheap
          obtain ⟨c, hc⟩ : ∃ c, ((if oldC.isEmpty then #[none] else #[]) ++ (oldC ++ newC).map some : Array (Option MapEntry))[k]? = some c := ⟨_, Array.getElem?_eq_getElem hk⟩
          rw [hc] at hmain
          have hmem : c ∈ ((if oldC.isEmpty then #[none] else #[]) ++ (oldC ++ newC).map some : Array (Option MapEntry)) := Array.mem_of_getElem? hc
          cases c with
          | none =>
            have hoe : oldC.isEmpty = true := by
              cases hoe : oldC.isEmpty with
              | true => rfl
              | false => rw [hoe] at hmem; simp at hmem
            have hoA0 : oldA = [] := by
              have : oldC = #[] := Array.isEmpty_iff.1 hoe
              rw [this] at ho1; exact List.length_eq_zero_iff.1 (by simpa using ho1)
            refine ⟨(.tuple [.bool false], H), ?_, η, .tuple #[.bool false], w', hmain, by simp [conc, concL], tr0 (Trans.refl hr'), Grow.same _ _⟩
            rw [hoA0]; simp [overOf]
          | some e =>
            have hin : e ∈ (oldC ++ newC) := by
              cases hoe : oldC.isEmpty with
              | true => rw [hoe] at hmem; simpa using hmem
              | false => rw [hoe] at hmem; simpa using hmem
            obtain ⟨i, hi⟩ := List.getElem?_of_mem (Array.mem_def.1 hin)
            rw [Array.toList_append] at hi
            obtain ⟨p, hp, h1, h2, h3⟩ := EsRel_back hall hi
            refine ⟨stepTo H b m since clock seen p, ?_, η, .tuple #[.bool true, e.key, e.val], _, hmain, by simp [stepTo, conc, concL, h1, h2], tr0 (Trans.put hr' hg hb (.mapIter (some m) since (seen ++ [p.2.2]) clock) _ ?_ rfl), Grow.put hg⟩
            · exact List.mem_append.2 (.inr (List.mem_map.2 ⟨p, hp, rfl⟩))
            · exact ⟨⟨rm, hrm, rfl⟩, rfl, by rw [Array.toList_push, hse, h3], rfl⟩
      · cases h
    · cases h
  · cases h
end Go.VmK
namespace Go.VmK
variable {P : Program} {C : Ctx} {E : List LoopInfo} {η : Env} {H : Heap} {w : World}

/-- what an operation's operands are -/
def EvOK (η : Env) (tmps : Tr AV) (xs : List Operand) (ρ : Operand → Value) : Prop := ∀ x ∈ xs, ∀ v, ev tmps x = some v → conc η v = some (ρ x)

theorem mapO_evo {tmps : Tr AV} {ρ : Operand → Value} : ∀ {l : List Operand} {r : List AV}, EvOK η tmps l ρ → mapO (ev tmps) l = some r → concL η r = some (l.map ρ)
  | [], r, _, h => by simp [mapO] at h; subst h; rfl
  | x :: xs, r, hev, h => by
    simp only [mapO] at h
    split at h
    · cases h
    · rename_i y hy
      split at h
      · cases h
      · rename_i ys hys
        cases h
        have h1 := hev x (by simp) y hy
        have h2 := mapO_evo (fun z hz => hev z (by simp [hz])) hys
        simp [concL, h1, h2]
theorem evParts_sound {tmps : Tr AV} {ρ : Operand → Value} : ∀ {l : List (Nat × Operand)} {r : List (Nat × AV)}, EvOK η tmps (l.map (·.2)) ρ → evParts tmps l = some r → PartsRel η r (l.map fun p => (p.1, ρ p.2))
  | [], r, _, h => by simp [evParts] at h; subst h; exact .nil
  | (i, x) :: xs, r, hev, h => by
    simp only [evParts] at h
    split at h
    · cases h
    · rename_i y hy
      split at h
      · cases h
      · rename_i ys hys
        cases h
        exact .cons (hev x (by simp) y hy) (evParts_sound (fun z hz => hev z (by simp at hz ⊢; exact .inr hz)) hys)
theorem evO_sound {tmps : Tr AV} {ρ : Operand → Value} {x : Option Operand} {r : Option AV} (hev : EvOK η tmps x.toList ρ) (h : evO tmps x = some r) : OptC η r (x.map ρ) := by
  cases x with
  | none => simp [evO] at h; subst h; trivial
  | some x =>
    simp only [evO] at h
    split at h
    · rename_i v hv
      cases h
      exact hev x (by simp) v hv
    · cases h

def OutOK (P : Program) (C : Ctx) (E : List LoopInfo) (η : Env) (H : Heap) (w : World) (s : Result Next) : Out → Prop
  | .val v H' => ∃ η' x w', s = .ok (.value x) w' ∧ conc η' v = some x ∧ Trans P E η H w η' H' w' ∧ Grow η η' H H'
  | .skip H' => ∃ η' w', s = .ok .skip w' ∧ Trans P E η H w η' H' w' ∧ Grow η η' H H'
  | .enter f args => C.exts.get f = none ∧ ∃ xs, concL η args = some xs ∧ s = .ok (.enter f xs.toArray) w
  | .round l args => ∃ xs r, concL η args = some xs ∧ η.ρ l = some r ∧ s = (Instr.yield r xs.toArray).run P w
  | .ways l => ∃ p ∈ l, ∃ η' x w', s = .ok (.value x) w' ∧ conc η' p.1 = some x ∧ Trans P E η H w η' p.2 w' ∧ Grow η η' H p.2

theorem valO_some {o : Option AV} {out : Out} (h : valO H o = some out) : ∃ v, o = some v ∧ out = .val v H := by
  cases o with
  | none => cases h
  | some v => simp only [valO, Option.some.injEq] at h; exact ⟨v, rfl, h.symm⟩
theorem pairO_some {o : Option (AV × Heap)} {out : Out} (h : pairO o = some out) : ∃ v H', o = some (v, H') ∧ out = .val v H' := by
  cases o with
  | none => cases h
  | some p => obtain ⟨v, H'⟩ := p; simp only [pairO, Option.some.injEq] at h; exact ⟨v, H', rfl, h.symm⟩
theorem skipO_some {o : Option Heap} {out : Out} (h : skipO o = some out) : ∃ H', o = some H' ∧ out = .skip H' := by
  cases o with
  | none => cases h
  | some v => simp only [skipO, Option.some.injEq] at h; exact ⟨v, rfl, h.symm⟩
theorem with1_some {f : AV → Option Out} {o : Option AV} {out : Out} (h : with1 f o = some out) : ∃ a, o = some a ∧ f a = some out := by
  cases o with
  | none => cases h
  | some v => exact ⟨v, rfl, h⟩
theorem with2_some {f : AV → AV → Option Out} {o p : Option AV} {out : Out} (h : with2 f o p = some out) : ∃ a b, o = some a ∧ p = some b ∧ f a b = some out := by
  cases o with
  | none => cases h
  | some v => cases p with
    | none => cases h
    | some u => exact ⟨v, u, rfl, rfl, h⟩

theorem OutOK.same (hr : HRel P η E H w) {s : Result Next} {v : AV} {x : Value} (hx : conc η v = some x) (hs : s = .ok (.value x) w) : OutOK P C E η H w s (.val v H) :=
  ⟨η, x, w, hs, hx, Trans.refl hr, Grow.same _ _⟩
theorem OutOK.sim {s : Sem Value} {v : AV} {H' : Heap} (h : SimS P E η H w s v H') : OutOK P C E η H w ((do pure (.value (← s)) : Sem Next).run P w) (.val v H') := by
  obtain ⟨η', x, w', h1, h2, h3, h4⟩ := h
  exact ⟨η', x, w', by simp [h1], h2, h3, h4⟩
theorem OutOK.simU {s : Sem Unit} {H' : Heap} (h : SimU P E η H w s H') : OutOK P C E η H w ((do s; pure .skip : Sem Next).run P w) (.skip H') := by
  obtain ⟨w', h1, h2, h3⟩ := h
  exact ⟨η, w', by simp [h1], h2, h3⟩
theorem OutOK.keep (hr : HRel P η E H w) {s : Sem Value} {v : AV} {H' : Heap} (h : H' = H ∧ ∃ u, conc η v = some u ∧ s.run P w = .ok u w) : OutOK P C E η H w ((do pure (.value (← s)) : Sem Next).run P w) (.val v H') := by
  obtain ⟨rfl, u, h1, h2⟩ := h
  exact OutOK.same hr h1 (by simp [h2])

theorem doLoad_val {t : TypeId} {a : AV} {out : Out} (h : doLoad C H t a = some out) : ∃ v, out = .val v H := by
  unfold doLoad at h
  split at h
  · obtain ⟨v, _, rfl⟩ := valO_some h; exact ⟨v, rfl⟩
  · cases h

/-! calls -/
theorem run_enter (hC : CtxOK P C) {f : Nat} {i : FI} {c : Code} (hi : C.funcs.get f = some i) (hb : i.body = some c) (args : Array Value) (w : World) : (callFunc f args).run P w = .ok (.enter f args) w := by
  obtain ⟨fn, hf, hb', _, _⟩ := hC.funcs f i hi
  have hs : fn.body.isSome = true := by rw [hb', hb]; rfl
  have hn := hC.named f fn hf hs
  have hs' : fn.body.isNone = false := by rw [hb', hb]; rfl
  simp only [callFunc, Sem.run_bind, Go.program, Sem.run, Result.andThen_ok, hf, hn, hs', Bool.false_eq_true, if_false]
  rfl
theorem callFn_sound (hC : CtxOK P C) (hr : HRel P η E H w) (hf : Fresh η H H.next) {f : FuncId} {args : List AV} {xs : List Value} (hx : concL η args = some xs) {out : Out} (h : callFn C H f args = some out) :
    OutOK P C E η H w ((callFunc f xs.toArray).run P w) out := by
  unfold callFn at h
  split at h
  · rename_i e he
    have hE := hC.exts f e he
    unfold extOp at h
    split at h
    · rename_i a
      cases h
      simp only [concL] at hx
      split at hx
      · rename_i y ys hy hys
        cases hx; cases hys
        exact OutOK.same hr hy (hE y w)
      · cases hx
    · rename_i t b
      split at h
      · rename_i es clock hg
        cases h
        simp only [concL] at hx
        split at hx
        · rename_i y ys hy hys
          cases hx; cases hys
          obtain ⟨z, hz, rfl⟩ := conc_iface hy
          obtain ⟨r, hb, rfl⟩ := conc_map hz
          obtain ⟨r', ces, hb', hh, he⟩ := getMap hr hg
          rw [hb] at hb'; cases hb'
          obtain ⟨h1, h2⟩ := newObj_sound (P := P) hr hf (.map es clock) (.map ces clock) ⟨rfl, EsRel_mono (Env.le_bind hf.ρ) _ _ he⟩
          exact ⟨_, _, _, hE t r ces clock w hh, by simp [conc, Env.bind], h1, h2⟩
        · cases hx
      · cases h
    · rename_i e n
      cases hb : Nat.ble n 65536 with
      | false => rw [hb] at h; cases h
      | true =>
        rw [hb] at h; simp only [cond_true] at h
        cases h
        simp only [concL, conc] at hx
        cases hx
        obtain ⟨hc1, hE⟩ := hE
        obtain ⟨cs, k1, k2, hrun⟩ := hE n w (ble_le hb)
        refine ⟨η.bindK H.next w.heap.size cs.size, _, _, hrun, slice_conc (by simp [Env.bindK]) (by simp [capOf, Env.bindK]) k1, Trans.new hr hf (.cells .lf n e true 0 0 false) (.cells cs e) (Env.le_bindK hf.ρ hf.κ) (fun i => rfl) ?_ (fun j => Heap.get_new _ _ _) rfl rfl rfl, Grow.new (Only.bindK _ _ _ _) (fun j => Heap.get_new _ _ _) rfl⟩
        exact ⟨rfl, (fun i v hv _ => by rw [Tr.get_lf] at hv; cases hv), k1, (fun h => by cases h), (fun _ => ⟨cs.size, by simp [Env.bindK], k2, by rw [hc1]; omega⟩), Nat.le_refl _, (fun off h1 h2 => by simp at h2), (fun h => by cases h)⟩
    · rename_i s c
      cases h
      simp only [concL] at hx
      split at hx
      · rename_i y ys hy hys
        split at hys
        · rename_i z zs hz hzs
          cases hys; cases hx; cases hzs
          rw [conc_str hy, conc_int hz]
          exact OutOK.same hr rfl (hE _ _ w)
        · cases hys
      · cases hx
    · rename_i s c
      cases h
      simp only [concL] at hx
      split at hx
      · rename_i y ys hy hys
        split at hys
        · rename_i z zs hz hzs
          cases hys; cases hx; cases hzs
          rw [conc_str hy, conc_int hz]
          exact OutOK.same hr rfl (hE _ _ w)
        · cases hys
      · cases hx
    · rename_i x y
      cases h
      simp only [concL] at hx
      split at hx
      · rename_i y ys hy hys
        split at hys
        · rename_i z zs hz hzs
          cases hys; cases hx; cases hzs
          rw [conc_str hy, conc_str hz]
          exact OutOK.same hr rfl (hE _ _ w)
        · cases hys
      · cases hx
    · cases h
  · rename_i he
    split at h
    · rename_i i hi
      unfold callBody at h
      split at h
      · cases h
      · rename_i c hb
        cases h
        exact ⟨he, xs, hx, run_enter hC hi hb _ w⟩
    · cases h
theorem callVal_sound (hC : CtxOK P C) (hr : HRel P η E H w) (hf : Fresh η H H.next) {v : AV} {y : Value} (hy : conc η v = some y) {args : List AV} {xs : List Value} (hx : concL η args = some xs) {out : Out} (h : callVal C H args v = some out) :
    OutOK P C E η H w ((do let d ← Deferred.ofValue y xs.toArray; invoke d.target d.args : Sem Next).run P w) out := by
  unfold callVal at h
  split at h
  · rename_i g first captured
    obtain ⟨as, bs, h1, h2, rfl⟩ := conc_func hy
    have := callFn_sound (P := P) (E := E) hC hr hf (concL_append (concL_append h1 hx) h2) h
    simp only [Deferred.ofValue, Sem.run_bind, Sem.run_pure, Result.andThen_ok, invoke]
    have e : as.toArray ++ xs.toArray ++ bs.toArray = (as ++ xs ++ bs).toArray := by simp
    rw [e]; exact this
  · rename_i l
    cases h
    obtain ⟨r, hl, rfl⟩ := conc_yield hy
    refine ⟨xs, r, hx, hl, ?_⟩
    simp only [Deferred.ofValue, Sem.run_bind, Sem.run_pure, Result.andThen_ok, invoke]
    simp
  · cases h

theorem capOp_sound (hC : CtxOK P C) {ats : List TypeId} {t : TypeId} {r : List TypeId} (hat : ats = t :: r) {type : TypeId} {x v : AV} {y : Value} (hy : conc η x = some y) (h : capOp C t x = some v) :
    ∃ u, conc η v = some u ∧ (Builtin.cap_ ats.toArray type #[y]).run P w = .ok u w := by
  subst hat
  unfold capOp at h
  split at h
  · rename_i e hu
    cases h
    rw [conc_nils hy]
    exact ⟨_, rfl, by simp [Builtin.cap_, run_und hC hu, goInt]⟩
  · rename_i e b off len c hu
    cases h
    obtain ⟨r', n, hb, ⟨hn, _⟩, rfl⟩ := conc_slice hy
    simp only [capOf, Option.some.injEq] at hn; subst hn
    exact ⟨_, rfl, by simp [Builtin.cap_, run_und hC hu, goInt]⟩
  · cases h
theorem repeatL_conc {l : List AV} {zs : Array Value} (hz : concL η l = some zs.toList) : ∀ n, concL η (repeatL l n) = some (Builtin.zeroCells zs n).toList := by
  intro n
  have hzl : zs.size = l.length := by have := concL_length hz; simpa using this
  have key : ∀ n, (Builtin.zeroCells zs (n + 1)).toList = zs.toList ++ (Builtin.zeroCells zs n).toList := by
    intro n
    apply List.ext_getElem?
    intro i
    simp only [Builtin.zeroCells, Array.toList_map, Array.toList_range, List.getElem?_map, List.getElem?_append, Array.length_toList]
    by_cases hi : i < zs.size
    · have h1 : i < (n + 1) * zs.size := by rw [Nat.add_mul]; omega
      simp [hi, h1, Nat.mod_eq_of_lt hi]
    · have hle : zs.size ≤ i := by omega
      simp only [if_neg hi]
      by_cases h1 : i < (n + 1) * zs.size
      · have h2 : i - zs.size < n * zs.size := by rw [Nat.add_mul] at h1; omega
        simp [h1, h2, Nat.mod_eq_sub_mod hle]
      · have h2 : ¬ i - zs.size < n * zs.size := by rw [Nat.add_mul] at h1; omega
        simp [h1, h2]
  induction n with
  | zero => simp [repeatL, concL, Builtin.zeroCells]
  | succ n ih => rw [key, repeatL]; exact concL_append hz ih
theorem clearOp_sound (hC : CtxOK P C) (hr : HRel P η E H w) {ats : List TypeId} {t : TypeId} {r : List TypeId} (hat : ats = t :: r) {type : TypeId} {m : AV} {x : Value} (hx : conc η m = some x) {H' : Heap} (h : clearOp C H t m = some H') :
    SimS P E η H w (Builtin.clear_ ats.toArray type #[x]) (.tuple []) H' := by
  subst hat
  have hu0 : conc η (.tuple []) = some (.tuple #[]) := by simp [conc, concL]
  unfold clearOp at h
  split at h
  · rename_i e b off off' k less hu
    cases h
    refine SimS.pure hr hu0 ?_
    simp only [conc] at hx
    split at hx
    · cases hx
      simp [Builtin.clear_, run_und hC hu]
    · cases hx
  · rename_i e hu
    cases h
    rw [conc_nils hx]
    exact SimS.pure hr hu0 (by simp [Builtin.clear_, run_und hC hu])
  · rename_i e b off len cp hu
    split at h
    · rename_i und size bytes z hti
      cases hq : (Nat.beq z.cells.length size && Nat.ble len 4096 && notB (Nat.beq len 0)) with
      | false => rw [hq] at h; cases h
      | true =>
        rw [hq] at h; simp only [cond_true] at h
        simp only [Bool.and_eq_true] at hq
        have hn0 : len ≠ 0 := by
          intro e0; subst e0; have := hq.2; simp [notB_eq] at this
        obtain ⟨r', n, hb, ⟨_, _⟩, rfl⟩ := conc_slice hx
        obtain ⟨zv, hzv, hzc⟩ := zero_cells (ti_ok hC hti) rfl w
        obtain ⟨r2, w', hb2, hrun, htr, hnx⟩ := storeL_sound (P := P) hr h (repeatL_conc (hzc η) len)
        rw [hb] at hb2; cases hb2
        obtain ⟨len', rfl⟩ : ∃ l', len = l' + 1 := ⟨len - 1, by omega⟩
        exact ⟨η, _, w', by simp [Builtin.clear_, run_und hC hu, hzv, hrun], hu0, htr, Grow.of_store h hnx⟩
    · cases h
  · cases h
theorem builtin_sound (hC : CtxOK P C) (hfit : Fit C η w) (hr : HRel P η E H w) (hf : Fresh η H H.next) {b : Builtin} {ats : Array TypeId} {type : TypeId} {cs : Array Bool} {args : List AV} {xs : List Value} (hx : concL η args = some xs) {out : Out}
    (h : builtinOp C H b ats.toList args = some out) : OutOK P C E η H w ((Go.builtin b ats type cs xs.toArray).run P w) out := by
  obtain ⟨al, hal⟩ : ∃ al, al = ats.toList := ⟨_, rfl⟩
  rw [← hal] at h
  have hats : ats = al.toArray := by rw [hal]
  unfold builtinOp at h
  split at h
  · rename_i sT r s x
    obtain ⟨v, H', hq, rfl⟩ := pairO_some h
    simp only [concL] at hx
    split at hx
    · rename_i y ys hy hys
      cases hx
      split at hys
      · rename_i z zs hz hzs
        cases hys; cases hzs
        rw [hats]
        exact OutOK.sim (append_sound hC hr hf rfl hy hz hq)
      · cases hys
    · cases hx
  · rename_i t r x
    simp only [concL] at hx
    split at hx
    · rename_i y ys hy hys
      cases hx; cases hys
      cases hq : lenOp C H t x with
      | none => rw [hq] at h; cases h
      | some v =>
        rw [hq] at h; cases h
        rw [hats]
        exact OutOK.keep hr ⟨rfl, lenOp_sound hC hr rfl hy hq⟩
    · cases hx
  · rename_i t r x
    cases hq : capOp C t x with
    | none => rw [hq] at h; cases h
    | some v =>
      rw [hq] at h; cases h
      simp only [concL] at hx
      split at hx
      · rename_i y ys hy hys
        cases hx; cases hys
        rw [hats]
        exact OutOK.keep hr ⟨rfl, capOp_sound hC rfl hy hq⟩
      · cases hx
  · rename_i t r x
    cases hq : clearOp C H t x with
    | none => rw [hq] at h; cases h
    | some H' =>
      rw [hq] at h; cases h
      simp only [concL] at hx
      split at hx
      · rename_i y ys hy hys
        cases hx; cases hys
        rw [hats]
        exact OutOK.sim (clearOp_sound hC hr rfl hy hq)
      · cases hx
  · rename_i t r d s
    obtain ⟨v, H', hq, rfl⟩ := pairO_some h
    simp only [concL] at hx
    split at hx
    · rename_i y ys hy hys
      cases hx
      split at hys
      · rename_i z zs hz hzs
        cases hys; cases hzs
        rw [hats]
        exact OutOK.sim (copyOp_sound hC hr rfl hy hz hq)
      · cases hys
    · cases hx
  · rename_i t r m k
    cases hq : mapDelete C H t m k with
    | none => rw [hq] at h; cases h
    | some H' =>
      rw [hq] at h; cases h
      simp only [concL] at hx
      split at hx
      · rename_i y ys hy hys
        cases hx
        split at hys
        · rename_i z zs hz hzs
          cases hys; cases hzs
          rw [hats]
          exact OutOK.sim (mapDelete_sound hC hfit hr rfl hy hz hq)
        · cases hys
      · cases hx
  · rename_i x r
    cases hq : foldO min2 x r with
    | none => rw [hq] at h; cases h
    | some v =>
      rw [hq] at h; cases h
      simp only [concL] at hx
      split at hx
      · rename_i y ys hy hys
        cases hx
        obtain ⟨u, hu, hrun⟩ := foldO_sound (P := P) (w := w) (fun h1 h2 h3 => min2_sound h1 h2 h3) hy hys hq
        exact OutOK.keep hr ⟨rfl, u, hu, by simpa [Builtin.min_] using hrun⟩
      · cases hx
  · rename_i x r
    cases hq : foldO max2 x r with
    | none => rw [hq] at h; cases h
    | some v =>
      rw [hq] at h; cases h
      simp only [concL] at hx
      split at hx
      · rename_i y ys hy hys
        cases hx
        obtain ⟨u, hu, hrun⟩ := foldO_sound (P := P) (w := w) (fun h1 h2 h3 => max2_sound h1 h2 h3) hy hys hq
        exact OutOK.keep hr ⟨rfl, u, hu, by simpa [Builtin.max_] using hrun⟩
      · cases hx
  · rename_i t it p n
    obtain ⟨v, H', hq, rfl⟩ := pairO_some h
    simp only [concL] at hx
    split at hx
    · rename_i y ys hy hys
      cases hx
      split at hys
      · rename_i z zs hz hzs
        cases hys; cases hzs
        rw [hats]
        exact OutOK.sim (unsafeStr_sound hC hr hy hz hq)
      · cases hys
    · cases hx
  · rename_i x
    cases hq : unsafeSliceData x with
    | none => rw [hq] at h; cases h
    | some v =>
      rw [hq] at h; cases h
      simp only [concL] at hx
      split at hx
      · rename_i y ys hy hys
        cases hx; cases hys
        exact OutOK.keep hr ⟨rfl, sliceData_sound hy hq⟩
      · cases hx
  · cases h

theorem invokeOp_some {name : String} {args : List AV} {o : Option AV} {out : Out} (h : invokeOp C H name args o = some out) : ∃ t v l nm f r x, o = some (.iface t v) ∧ C.meths.get t = some l ∧ l.find? (fun m => m.1 == name) = some (nm, some (f, r)) ∧ recvOf C H r v = some x ∧ callFn C H f (x :: args) = some out := by
  unfold invokeOp at h
  split at h
  · rename_i t v
    split at h
    · rename_i l hl
      unfold invokeFn at h
      split at h
      · rename_i nm f r hfind
        split at h
        · rename_i x hx
          exact ⟨t, v, l, nm, f, r, x, rfl, hl, hfind, hx, h⟩
        · cases h
      · cases h
    · cases h
  · cases h
theorem recvOf_sound (hC : CtxOK P C) (hr : HRel P η E H w) {t : TypeId} {name : String} {f : FuncId} {r : Recv} (hM : MethOK P t name f r) {v x : AV} {y : Value} (hy : conc η v = some y) (h : recvOf C H r v = some x) :
    ∃ z, conc η x = some z ∧ (method (P.types.size + Made.depth) t y name).run P w = .ok (f, z) w := by
  unfold recvOf at h
  split at h
  · cases h
    exact ⟨y, hy, hM y w⟩
  · split at h
    · rename_i e b off
      obtain ⟨q, hb, rfl⟩ := conc_ptr hy
      obtain ⟨z, hrun, hz⟩ := loadVar_sound (P := P) hC hr hb h
      exact ⟨z, hz, hM _ _ _ hrun⟩
    · cases h
theorem callOp_sound (hC : CtxOK P C) (hfit : Fit C η w) (hr : HRel P η E H w) (hf : Fresh η H H.next) {tmps : Tr AV} {ρ : Operand → Value} {c : Call} (hev : EvOK η tmps c.operands.toList ρ) {type : TypeId} {out : Out} (h : callOp C H tmps c = some out) :
    OutOK P C E η H w ((do let d ← resolve ρ c type; invoke d.target d.args : Sem Next).run P w) out := by
  unfold callOp at h
  split at h
  · cases h
  · rename_i args ha
    have hx : concL η args = some (c.args.toList.map ρ) := mapO_evo (fun x hx => hev x (by simp [Call.operands]; right; simpa using hx)) ha
    have hargs : c.args.map ρ = (c.args.toList.map ρ).toArray := by apply Array.ext'; simp
    unfold callArgs at h
    split at h
    · rename_i b hb
      have := builtin_sound (P := P) (E := E) (type := type) (cs := c.args.map fun | .const _ => true | _ => false) hC hfit hr hf hx h
      simp only [resolve, hb, Sem.run_bind, Sem.run_pure, Result.andThen_ok, invoke, hargs]
      exact this
    · rename_i f hf'
      unfold callO at h
      split at h
      · cases h
      · rename_i v hv
        have hy := hev f (by simp [Call.operands, hf']) v hv
        have := callVal_sound (P := P) (E := E) hC hr hf hy hx h
        simp only [resolve, hf', hargs]
        exact this
    · rename_i r m hcal
      obtain ⟨t, v, l, nm, f, rc, x, hv, hl, hfind, hrecv, h⟩ := invokeOp_some h
      have hy := hev r (by simp [Call.operands, hcal]) _ hv
      obtain ⟨y, hvy, hρ⟩ := conc_iface hy
      have hM := hC.meths t l hl m nm f rc hfind
      obtain ⟨z, hz, hmeth⟩ := recvOf_sound hC hr hM hvy hrecv
      have := callFn_sound (P := P) (E := E) hC hr hf (args := x :: args) (xs := z :: c.args.toList.map ρ) (by simp [concL, hz, hx]) h
      have e1 : (#[Value.iface t y] ++ (c.args.toList.map ρ).toArray).extract 1 (#[Value.iface t y] ++ (c.args.toList.map ρ).toArray).size = (c.args.toList.map ρ).toArray := by
        apply Array.ext'; simp [List.take_of_length_le]
      have e2 : (#[Value.iface t y] ++ (c.args.toList.map ρ).toArray)[0]? = some (Value.iface t y) := by simp
      have e3 : #[z] ++ (c.args.toList.map ρ).toArray = (z :: c.args.toList.map ρ).toArray := by simp
      have hp : Sem.run P program w = .ok P w := rfl
      simp only [resolve, hcal, Sem.run_bind, Sem.run_pure, Result.andThen_ok, invoke, hargs, hρ, e1, e2, callMethod, hp, hmeth, e3]
      exact this
end Go.VmK
namespace Go.VmK
variable {P : Program} {C : Ctx} {E : List LoopInfo} {η : Env} {H : Heap} {w : World}

theorem doFunc_sound' {tmps : Tr AV} {ρ : Operand → Value} {fn : Fn} {first captured : Array Operand} (hev : EvOK η tmps (first.toList ++ captured.toList) ρ) {out : Out} (h : doFunc H tmps fn first.toList captured.toList = some out) :
    ∃ v, out = .val v H ∧ ∃ u, conc η v = some u ∧ (Instr.makeFunc fn (first.map ρ) (captured.map ρ)).run P w = .ok u w := by
  unfold doFunc at h
  split at h
  · rename_i f
    split at h
    · cases h
    · rename_i x hx
      split at h
      · cases h
      · rename_i y hy
        cases h
        have e1 := mapO_evo (fun z hz => hev z (by simp at hz ⊢; exact .inl hz)) hx
        have e2 := mapO_evo (fun z hz => hev z (by simp at hz ⊢; exact .inr hz)) hy
        refine ⟨_, rfl, .func (.func f) (first.map ρ) (captured.map ρ), ?_, rfl⟩
        simp [conc, e1, e2]
        constructor <;> (apply Array.ext'; simp)
  · cases h
theorem doMap_out {tmps : Tr AV} {t : TypeId} {r : Option Operand} {out : Out} (h : doMap C H tmps t r = some out) : ∃ v H', out = .val v H' := by
  unfold doMap at h
  split at h
  · cases h; exact ⟨_, _, rfl⟩
  · split at h <;> cases h

theorem wideEq_sound (hC : CtxOK P C) (hfit : Fit C η w) {t : TypeId} {a b : AV} {x y : Value} (hx : conc η a = some x) (hy : conc η b = some y) {r : Bool} (h : wideEq C t a b = some r) :
    (∀ w, (Op.equal t x y).run P w = .ok r w) ∧ (∀ op p q w, (eqGuard op t p q x y).run P w = .ok () w) ∧ (∃ xs, x = .agg xs) ∧ ∃ ys, y = .agg ys := by
  unfold wideEq at h
  split at h
  · rename_i m hm
    obtain ⟨⟨hm1, hk⟩, hg⟩ := hC.keys t m hm
    split at h
    · rename_i u hu
      cases hw : isWide u with
      | false => rw [hw] at h; cases h
      | true =>
        rw [hw] at h; simp only [cond_true] at h
        split at h
        · rename_i L L' h1 h2
          have ht := und_ok hC hu
          obtain ⟨f1, f2, f3, _, xs, _, rfl, _, _⟩ := litsOf_sound hC hfit ht hw hk hx h1
          obtain ⟨g1, g2, g3, _, ys, _, rfl, _, _⟩ := litsOf_sound hC hfit ht hw hk hy h2
          have h3 := triKLs_sound hC hfit _ _ _ f3 g3 h
          refine ⟨fun w => ?_, fun op p q w => ?_, ⟨_, rfl⟩, ⟨_, rfl⟩⟩
          · obtain ⟨rb, hr, hiff⟩ := run_equalIn_deep (10000 - m) m t hk w m m _ _ _ _ f1 g1 f2 g2
            rw [show 10000 - m + m = 10000 by omega] at hr
            have : rb = r := by rw [Bool.eq_iff_iff, hiff, h3]
            rw [← this]; exact hr
          · unfold eqGuard
            cases op <;> simp [hg, run_program]
        · cases h
    · cases h
  · cases h
theorem binWide_sound (hC : CtxOK P C) (hfit : Fit C η w) {op : BinOp} {t : TypeId} {a b : AV} {x y : Value} {p q : Operand} {v : AV} (hx : conc η a = some x) (hy : conc η b = some y) (h : binWide C op t a b = some v) :
    H = H ∧ ∃ u, conc η v = some u ∧ (do eqGuard op t p q x y; Go.binOp op t x y : Sem Value).run P w = .ok u w := by
  refine ⟨rfl, ?_⟩
  unfold binWide at h
  split at h
  · split at h
    · rename_i r hr
      cases h
      obtain ⟨h1, h2, ⟨xs, rfl⟩, ⟨ys, rfl⟩⟩ := wideEq_sound (P := P) hC hfit hx hy hr
      exact ⟨.bool r, rfl, by simp [h2, Go.binOp, h1]⟩
    · cases h
  · split at h
    · rename_i r hr
      cases h
      obtain ⟨h1, h2, ⟨xs, rfl⟩, ⟨ys, rfl⟩⟩ := wideEq_sound (P := P) hC hfit hx hy hr
      exact ⟨.bool (!r), by rw [notB_eq]; rfl, by simp [h2, Go.binOp, h1]⟩
    · cases h
  · cases h

set_option maxHeartbeats 1000000 in
theorem opStep0_sound (hC : CtxOK P C) (hfit : Fit C η w) (hr : HRel P η E H w) (hf : Fresh η H H.next) {tmps : Tr AV} {ρ : Operand → Value} {o : Oper} (hev : EvOK η tmps o.op.operands.toList ρ) {out : Out} (h : opStep0 C H tmps o.op = some out) :
    OutOK P C E η H w ((execOp ρ o).run P w) out := by
  cases hop : o.op <;> rw [hop] at h hev <;> simp only [opStep0] at h
  case move x =>
    obtain ⟨v, hv, rfl⟩ := valO_some h
    exact OutOK.same hr (hev x (by simp [Op.operands]) v hv) (by simp [execOp, hop])
  case assign x =>
    obtain ⟨v, hv, rfl⟩ := valO_some h
    exact OutOK.same hr (hev x (by simp [Op.operands]) v hv) (by simp [execOp, hop])
  case pick c a b =>
    unfold doPick at h
    split at h
    · rename_i hc
      obtain ⟨v, hv, rfl⟩ := valO_some h
      have h1 := conc_bool (hev c (by simp [Op.operands]) _ hc)
      exact OutOK.same hr (hev a (by simp [Op.operands]) v hv) (by simp [execOp, hop, h1, asBool])
    · rename_i hc
      obtain ⟨v, hv, rfl⟩ := valO_some h
      have h1 := conc_bool (hev c (by simp [Op.operands]) _ hc)
      exact OutOK.same hr (hev b (by simp [Op.operands]) v hv) (by simp [execOp, hop, h1, asBool])
    · cases h
  case alloc t =>
    have : ∃ v H', out = .val v H' := by
      unfold doAlloc at h
      split at h
      · split at h
        · cases h; exact ⟨_, _, rfl⟩
        · cases h
      · cases h
    obtain ⟨v, H', rfl⟩ := this
    simp only [execOp, hop]
    exact OutOK.sim (doAlloc_sound hC hr hf h)
  case box t x =>
    obtain ⟨a, ha, h⟩ := with1_some h
    have : ∃ v H', out = .val v H' := by
      unfold doBox at h
      split at h
      · cases h
      · cases h; exact ⟨_, _, rfl⟩
    obtain ⟨v, H', rfl⟩ := this
    simp only [execOp, hop]
    exact OutOK.sim (doBox_sound hr hf (hev x (by simp [Op.operands]) a ha) h)
  case build t ps =>
    unfold doBuild at h
    split at h
    · cases h
    · rename_i qs hqs
      obtain ⟨v, hv, rfl⟩ := valO_some h
      simp only [execOp, hop]
      have := evParts_sound (ρ := ρ) (by simpa [Op.operands] using hev) hqs
      exact OutOK.keep hr ⟨rfl, buildOp_sound (qs := ps.map fun (i, x) => (i, ρ x)) hC (by simpa using this) hv⟩
  case buildSlice t n ps =>
    unfold doBuildSlice at h
    split at h
    · cases h
    · rename_i qs hqs
      obtain ⟨v, H', hv, rfl⟩ := pairO_some h
      simp only [execOp, hop]
      have := evParts_sound (ρ := ρ) (by simpa [Op.operands] using hev) hqs
      exact OutOK.sim (buildSlice_sound (qs := ps.map fun (i, x) => (i, ρ x)) hC hr hf (by simpa using this) hv)
  case insert t m k x =>
    obtain ⟨a, b, ha, hb, h⟩ := with2_some h
    unfold doUpdate at h
    split at h
    · cases h
    · rename_i c hc
      obtain ⟨H', hq, rfl⟩ := skipO_some h
      simp only [execOp, hop]
      exact OutOK.simU (mapUpdate_sound hC hfit hr (hev m (by simp [Op.operands]) a ha) (hev k (by simp [Op.operands]) b hb) (hev x (by simp [Op.operands]) c hc) hq)
  case load t a =>
    obtain ⟨v, hv, h⟩ := with1_some h
    obtain ⟨u, rfl⟩ := doLoad_val h
    simp only [execOp, hop]
    exact OutOK.sim (doLoad_sound hC hr (hev a (by simp [Op.operands]) v hv) h)
  case store t a x =>
    obtain ⟨u, v, hu, hv, h⟩ := with2_some h
    have : ∃ H', out = .skip H' := by
      unfold doStore at h
      split at h
      · obtain ⟨H', _, rfl⟩ := skipO_some h; exact ⟨H', rfl⟩
      · cases h
    obtain ⟨H', rfl⟩ := this
    simp only [execOp, hop]
    exact OutOK.simU (doStore_sound hC hr (hev a (by simp [Op.operands]) u hu) (hev x (by simp [Op.operands]) v hv) h)
  case ready => cases h
  case waits => cases h
  case nilCheck x =>
    obtain ⟨v, hv, h⟩ := with1_some h
    have : ∃ v H', out = .val v H' := by
      unfold doNil at h
      split at h <;> first | (cases h; exact ⟨_, _, rfl⟩) | cases h
    obtain ⟨u, H', rfl⟩ := this
    obtain ⟨rfl, rfl, hrun⟩ := doNil_sound (P := P) (w := w) hop rfl (hev x (by simp [Op.operands]) v hv) h
    exact OutOK.same hr (hev x (by simp [Op.operands]) _ hv) hrun
  case binOp op t x y yt =>
    obtain ⟨a, b, ha, hb, h⟩ := with2_some h
    simp only [execOp, hop]
    unfold doBin at h
    split at h
    · rename_i v hv
      cases h
      exact OutOK.keep hr (doBin_sound hC hr (p := x) (q := y) (hev x (by simp [Op.operands]) a ha) (hev y (by simp [Op.operands]) b hb) (by rw [hv]; rfl))
    · split at h
      · rename_i v hv
        cases h
        exact OutOK.keep hr (binWide_sound (H := H) hC hfit (hev x (by simp [Op.operands]) a ha) (hev y (by simp [Op.operands]) b hb) hv)
      · split at h
        · rename_i r hr'
          cases h
          obtain ⟨o, x', y', hm, ho, h1, h2⟩ := factOf_some C.facts hr'
          obtain ⟨r', hcr, this⟩ := hC.facts _ hm η w hfit _ _ (by rw [← h1]; exact hev x (by simp [Op.operands]) a ha) (by rw [← h2]; exact hev y (by simp [Op.operands]) b hb)
          subst ho
          exact OutOK.keep hr ⟨rfl, r', hcr, this t x y⟩
        · cases hc : openCmp op a b with
          | false => rw [hc] at h; cases h
          | true =>
            rw [hc] at h; cases h
            obtain ⟨r, hrun⟩ := openCmp_sound hC hr (p := x) (q := y) (t := t) (hev x (by simp [Op.operands]) a ha) (hev y (by simp [Op.operands]) b hb) hc
            have hk := OutOK.keep (C := C) (E := E) (H := H) hr ⟨rfl, _, (show conc η (.bool r) = some (.bool r) from rfl), hrun⟩
            exact ⟨(.bool r, H), by cases r <;> simp, hk⟩
  case unOp op t x =>
    obtain ⟨a, ha, h⟩ := with1_some h
    obtain ⟨v, hv, rfl⟩ := valO_some h
    simp only [execOp, hop]
    exact OutOK.keep hr (doUn_sound (hev x (by simp [Op.operands]) a ha) (by unfold doUn; rw [hv]; rfl))
  case convert s d x =>
    obtain ⟨a, ha, h⟩ := with1_some h
    obtain ⟨v, H', hv, rfl⟩ := pairO_some h
    simp only [execOp, hop]
    exact OutOK.keep hr (convertOp_sound hC hr (hev x (by simp [Op.operands]) a ha) hv)
  case sliceToArrayPointer => cases h
  case makeInterface t x =>
    obtain ⟨a, ha, h⟩ := with1_some h
    have : ∃ v H', out = .val v H' := by
      unfold doIface at h
      split at h <;> first | (cases h; exact ⟨_, _, rfl⟩) | cases h
    obtain ⟨v, H', rfl⟩ := this
    simp only [execOp, hop]
    exact OutOK.keep hr (doIface_sound hC (hev x (by simp [Op.operands]) a ha) h)
  case makeFunc fn first captured =>
    obtain ⟨v, rfl, hq⟩ := doFunc_sound' (P := P) (w := w) (ρ := ρ) (by simpa [Op.operands] using hev) h
    simp only [execOp, hop]
    exact OutOK.keep hr ⟨rfl, hq⟩
  case makeMap t r =>
    obtain ⟨v, H', rfl⟩ := doMap_out h
    simp only [execOp, hop]
    exact OutOK.sim (doMap_sound hr hf h)
  case makeChan => cases h
  case makeSlice t l c =>
    obtain ⟨a, b, ha, hb, h⟩ := with2_some h
    obtain ⟨v, H', hv, rfl⟩ := pairO_some h
    simp only [execOp, hop]
    exact OutOK.sim (makeSlice_sound hC hr hf (hev l (by simp [Op.operands]) a ha) (hev c (by simp [Op.operands]) b hb) hv)
  case slice t x lo hi mx =>
    obtain ⟨a, ha, h⟩ := with1_some h
    unfold doSlice at h
    split at h
    · cases h
    · rename_i l hl
      split at h
      · cases h
      · rename_i hh hhi
        split at h
        · cases h
        · rename_i m hm
          obtain ⟨v, H', hv, rfl⟩ := pairO_some h
          simp only [execOp, hop]
          refine OutOK.keep hr (sliceOp_sound hC hr (hev x (by simp [Op.operands]) a ha) (evO_sound (ρ := ρ) (fun z hz => hev z ?_) hl) (evO_sound (ρ := ρ) (fun z hz => hev z ?_) hhi) (evO_sound (ρ := ρ) (fun z hz => hev z ?_) hm) hv) <;>
            (simp only [Option.mem_toList] at hz; simp [Op.operands, hz])
  case fieldAddr t x f =>
    obtain ⟨a, ha, h⟩ := with1_some h
    obtain ⟨v, hv, rfl⟩ := valO_some h
    simp only [execOp, hop]
    exact OutOK.keep hr ⟨rfl, fieldAddr_sound hC (hev x (by simp [Op.operands]) a ha) hv⟩
  case field t x f =>
    obtain ⟨a, ha, h⟩ := with1_some h
    obtain ⟨v, hv, rfl⟩ := valO_some h
    simp only [execOp, hop]
    exact OutOK.keep hr ⟨rfl, fieldOp_sound hC (hev x (by simp [Op.operands]) a ha) hv⟩
  case indexAddr t x ix =>
    obtain ⟨a, b, ha, hb, h⟩ := with2_some h
    obtain ⟨v, hv, rfl⟩ := valO_some h
    simp only [execOp, hop]
    exact OutOK.keep hr ⟨rfl, indexAddr_sound hC (hev x (by simp [Op.operands]) a ha) (hev ix (by simp [Op.operands]) b hb) hv⟩
  case index t x ix =>
    obtain ⟨a, b, ha, hb, h⟩ := with2_some h
    obtain ⟨v, hv, rfl⟩ := valO_some h
    simp only [execOp, hop]
    exact OutOK.keep hr ⟨rfl, indexOp_sound hC (hev x (by simp [Op.operands]) a ha) (hev ix (by simp [Op.operands]) b hb) hv⟩
  case lookup t x ix ok =>
    obtain ⟨a, b, ha, hb, h⟩ := with2_some h
    obtain ⟨v, hv, rfl⟩ := valO_some h
    simp only [execOp, hop]
    exact OutOK.keep hr ⟨rfl, mapLookup_sound hC hfit hr (hev x (by simp [Op.operands]) a ha) (hev ix (by simp [Op.operands]) b hb) hv⟩
  case mapUpdate t m k x =>
    obtain ⟨a, b, ha, hb, h⟩ := with2_some h
    unfold doUpdate at h
    split at h
    · cases h
    · rename_i c hc
      obtain ⟨H', hq, rfl⟩ := skipO_some h
      simp only [execOp, hop]
      exact OutOK.simU (mapUpdate_sound hC hfit hr (hev m (by simp [Op.operands]) a ha) (hev k (by simp [Op.operands]) b hb) (hev x (by simp [Op.operands]) c hc) hq)
  case mapEntry t m k =>
    obtain ⟨a, b, ha, hb, h⟩ := with2_some h
    obtain ⟨v, H', hv, rfl⟩ := pairO_some h
    simp only [execOp, hop]
    exact OutOK.sim (mapEntry_sound hC hfit hr (hev m (by simp [Op.operands]) a ha) (hev k (by simp [Op.operands]) b hb) hv)
  case entryStore t m st x =>
    obtain ⟨a, b, ha, hb, h⟩ := with2_some h
    unfold doEntryStore at h
    split at h
    · cases h
    · rename_i c hc
      obtain ⟨H', hq, rfl⟩ := skipO_some h
      simp only [execOp, hop]
      exact OutOK.simU (entryStore_sound hr (hev m (by simp [Op.operands]) a ha) (hev st (by simp [Op.operands]) b hb) (hev x (by simp [Op.operands]) c hc) hq)
  case range t x =>
    obtain ⟨a, ha, h⟩ := with1_some h
    obtain ⟨v, H', hv, rfl⟩ := pairO_some h
    simp only [execOp, hop]
    exact OutOK.sim (rangeOp_sound hC hr hf (hev x (by simp [Op.operands]) a ha) hv)
  case next it s =>
    obtain ⟨a, ha, h⟩ := with1_some h
    unfold doNext at h
    split at h
    · cases h
    · rename_i l hl
      cases h
      simp only [execOp, hop]
      obtain ⟨p, hp, η', x, w', h1, h2, h3, h4⟩ := nextOp_sound hr (hev it (by simp [Op.operands]) a ha) hl o.type
      exact ⟨p, hp, η', x, w', by simp [h1], h2, h3, h4⟩
  case entry it =>
    obtain ⟨a, ha, h⟩ := with1_some h
    obtain ⟨v, hv, rfl⟩ := valO_some h
    simp only [execOp, hop]
    exact OutOK.keep hr ⟨rfl, entryOp_sound hr (hev it (by simp [Op.operands]) a ha) hv⟩
  case typeAssert x xt t ok =>
    obtain ⟨a, ha, h⟩ := with1_some h
    obtain ⟨v, hv, rfl⟩ := valO_some h
    simp only [execOp, hop]
    exact OutOK.keep hr (doAssert_sound hC (hev x (by simp [Op.operands]) a ha) (by unfold doAssert; rw [hv]; rfl))
  case extract x i =>
    obtain ⟨a, ha, h⟩ := with1_some h
    have : ∃ v H', out = .val v H' := by
      unfold doExtract at h
      split at h
      · obtain ⟨v, _, rfl⟩ := valO_some h; exact ⟨_, _, rfl⟩
      · cases h
    obtain ⟨v, H', rfl⟩ := this
    simp only [execOp, hop]
    exact OutOK.keep hr (doExtract_sound (hev x (by simp [Op.operands]) a ha) h)
  case call c =>
    simp only [execOp, hop]
    exact callOp_sound hC hfit hr hf (by simpa [Op.operands] using hev) h
  all_goals cases h
theorem eqKey_eq {a b : Nat × Nat × Nat} (h : eqKey a b = true) : a = b := by
  unfold eqKey at h
  simp only [Bool.and_eq_true] at h
  exact Prod.ext (beq_eq h.1.1) (Prod.ext (beq_eq h.1.2) (beq_eq h.2))
theorem ofactOf_some {k : Nat × Nat × Nat} {xs : List AV} {v : AV} : ∀ (l : List ((Nat × Nat × Nat) × List AV × AV)), ofactOf k xs l = some v → (k, xs, v) ∈ l
  | [], h => by cases h
  | (k', ys, r) :: l, h => by
    unfold ofactOf at h
    cases hb : (eqKey k k' && eqAVs xs ys) with
    | true =>
      rw [hb] at h
      simp only [cond_true, Option.some.injEq] at h
      simp only [Bool.and_eq_true] at hb
      rw [eqKey_eq hb.1, eqAVs_eq _ _ hb.2, h]
      exact List.mem_cons_self
    | false =>
      rw [hb] at h
      exact List.mem_cons_of_mem _ (ofactOf_some l h)
theorem opFact_some {tmps : Tr AV} {op : Op} {v : AV} (h : opFact C tmps op = some v) : ∃ k xs, okey op = some k ∧ mapO (ev tmps) op.operands.toList = some xs ∧ (k, xs, v) ∈ C.ofacts := by
  unfold opFact at h
  split at h
  · cases h
  · rename_i k hk
    split at h
    · cases h
    · rename_i xs hx
      exact ⟨k, xs, hk, hx, ofactOf_some _ h⟩
theorem opStep_cases {tmps : Tr AV} {op : Op} {out : Out} (h : opStep C H tmps op = some out) : opStep0 C H tmps op = some out ∨ ∃ v, out = .val v H ∧ opFact C tmps op = some v := by
  unfold opStep orFact at h
  split at h
  · rename_i r hr
    cases h
    exact .inl hr
  · split at h
    · rename_i v hv
      cases h
      exact .inr ⟨v, rfl, hv⟩
    · cases h
theorem opStep_sound (hC : CtxOK P C) (hfit : Fit C η w) (hr : HRel P η E H w) (hf : Fresh η H H.next) {tmps : Tr AV} {ρ : Operand → Value} {o : Oper} (hev : EvOK η tmps o.op.operands.toList ρ) {out : Out} (h : opStep C H tmps o.op = some out) :
    OutOK P C E η H w ((execOp ρ o).run P w) out := by
  rcases opStep_cases h with h | ⟨v, rfl, hv⟩
  · exact opStep0_sound hC hfit hr hf hev h
  · obtain ⟨k, xs, hk, hx, hm⟩ := opFact_some hv
    obtain ⟨r, h1, h2⟩ := hC.ofacts _ hm η w hfit _ (mapO_evo hev hx)
    exact OutOK.same hr h1 (h2 o ρ hk rfl)
end Go.VmK
