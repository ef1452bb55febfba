/-
  A machine that runs the model with abstract blocks, and lemmas on it: whatever it answers of a call is what the model does (ProgOK, Base: the conditions).
-/
import Derived.Test.YthcnhdiipbpdgaaGreatDoorR4k
import Derived.OpenShut
import Derived.Laws.StructEq
namespace Go.VmK
variable {P : Program} {C : Ctx} {E : List LoopInfo} {η : Env} {H : Heap} {w : World}

theorem makeSlice_sound (hC : CtxOK P C) (hr : HRel P η E H w) (hf : Fresh η H H.next) {t : TypeId} {a b : AV} {x y : Value} (hx : conc η a = some x) (hy : conc η b = some y) {v : AV} {H' : Heap} (h : makeSlice C H t a b = some (v, H')) :
    SimS P E η H w (Instr.makeSlice t x y) v H' := by
  unfold makeSlice at h
  split at h
  · rename_i e k1 l k2 c hu
    rw [conc_int hx, conc_int hy]
    unfold makeRow at h
    split at h
    · cases h
    · rename_i te hte
      split at h
      · cases h
      · rename_i z hz
        cases hq : (Nat.ble l c && Nat.ble (c * te.bytes) 1048576 && Nat.ble c 1048576) with
        | false => rw [hq] at h; cases h
        | true =>
          rw [hq] at h; simp only [cond_true] at h
          simp only [Bool.and_eq_true] at hq
          obtain ⟨⟨q1, q2⟩, q3⟩ := hq
          have q1 := ble_le q1; have q2 := ble_le q2; have q3 := ble_le q3
          have hT := ti_ok hC hte
          obtain ⟨inf, i1, i2, i3, _⟩ := hT.info
          obtain ⟨zv, hzv, hzc⟩ := zero_cells hT hz w
          obtain ⟨cs, hfill, hc, htr, hg⟩ := rowOf_sound (P := P) hr hf (PartsRel.nil) (hzc η) q1 h
          simp only [Instr.fill, Option.some.injEq] at hfill
          have w1 : IntKind.i64.wrap (l : Int) = l := IntWalk.i64_in _ (by omega)
          have w2 : IntKind.i64.wrap (c : Int) = c := IntWalk.i64_in _ (by omega)
          have two48 : (2 : Int) ^ 48 = 281474976710656 := by decide
          have hcb : ((inf.bytes : Int) * (c : Int)) = ((c * te.bytes : Nat) : Int) := by rw [i3]; push_cast; exact Int.mul_comm _ _
          refine ⟨_, _, _, ?_, hc, htr, hg⟩
          have n1 : ¬ ((c : Int) < 0) := by omega
          have n2 : ¬ ((inf.bytes : Int) * (c : Int) > 281474976710656) := by rw [hcb]; omega
          have n3 : ¬ ((l : Int) < 0) := by omega
          have n4 : ¬ ((c : Int) < (l : Int)) := by omega
          have hti : ∀ w, (Go.typeInfo e).run P w = .ok inf w := fun w => by simp [Go.typeInfo, i1]
          by_cases h0 : c * te.size = 0
          · have e0 : ∀ f : Nat → Value, (Array.range 0).map f = #[] := fun f => by simp
            rw [h0, e0] at hfill
            subst hfill
            simp [Instr.makeSlice, run_und hC hu, asInt, asIntOf, hti, w1, w2, n1, n2, n3, n4, hT.sizeOf, h0, newRow]
            rw [e0]
          · simp [Instr.makeSlice, run_und hC hu, asInt, asIntOf, hti, w1, w2, n1, n2, n3, n4, hT.sizeOf, h0, newRow, hzv, hfill]
  · cases h

/-! maps -/
theorem newObj_sound (hr : HRel P η E H w) (hf : Fresh η H H.next) (o : AObj) (ob : Obj) (ho : ORel P (η.bind H.next w.heap.size) E H.next o ob) :
    Trans P E η H w (η.bind H.next w.heap.size) (H.new o) (w.alloc ob) ∧ Grow η (η.bind H.next w.heap.size) H (H.new o) :=
  ⟨Trans.new hr hf o ob (Env.le_bind hf.ρ) (fun _i => rfl) ho (fun _j => Heap.get_new _ _ _) rfl rfl rfl, Grow.new (Only.bind _ _ _) (fun _j => Heap.get_new _ _ _) rfl⟩
theorem doMap_sound {tmps : Tr AV} {ρ : Operand → Value} (hr : HRel P η E H w) (hf : Fresh η H H.next) {t : TypeId} {r : Option Operand} {v : AV} {H' : Heap} (h : doMap C H tmps t r = some (.val v H')) :
    SimS P E η H w (Instr.makeMap t (r.map ρ)) v H' := by
  unfold doMap at h
  split at h
  · cases h
    obtain ⟨h1, h2⟩ := newObj_sound (P := P) hr hf (.map [] 0) (.map #[] 0) ⟨rfl, trivial⟩
    exact ⟨_, .map (some w.heap.size), _, by simp [Instr.makeMap]; rfl, by simp [conc, Env.bind], by simpa using h1, h2⟩
  · split at h <;> cases h

theorem getMap (hr : HRel P η E H w) {b : Nat} {es : List (AV × AV × Nat)} {clock : Nat} (hg : H.get b = some (.map es clock)) : ∃ r ces, η.ρ b = some r ∧ w.heap[r]? = some (.map ces clock) ∧ EsRel η es ces.toList := by
  obtain ⟨r, ob, hb, hob, hrel⟩ := hr.obj b _ hg
  cases ob with
  | map ces clock' => obtain ⟨h1, h2⟩ := hrel; subst h1; exact ⟨r, ces, hb, hob, h2⟩
  | _ => exact hrel.elim

theorem keyKind_ok (hC : CtxOK P C) {t : TypeId} {u : TypeDesc} (h : keyKind C t = some u) : P.underlying t = some u ∧ ((∃ k, u = .int k) ∨ u = .string ∨ u = .bool) := by
  unfold keyKind at h
  split at h
  · rename_i k hu; cases h; exact ⟨und_ok hC hu, .inl ⟨_, rfl⟩⟩
  · rename_i hu; cases h; exact ⟨und_ok hC hu, .inr (.inl rfl)⟩
  · rename_i hu; cases h; exact ⟨und_ok hC hu, .inr (.inr rfl)⟩
  · cases h
theorem keyEq_sound {u : TypeDesc} {a b : AV} {x y : Value} {r : Bool} (hx : conc η a = some x) (hy : conc η b = some y) (h : keyEq u a b = some r) : Instr.sameNow u x y = some r := by
  unfold keyEq at h
  split at h
  · rename_i k0 k a k' b
    cases hq : Nat.beq (kindNo k) (kindNo k') with
    | false => rw [hq] at h; cases h
    | true =>
      rw [hq] at h; simp only [cond_true, Option.some.injEq] at h; subst h
      have := kindNo_inj hq; subst this
      rw [conc_int hx, conc_int hy]; simp [Instr.sameNow, eqI_eq]
  · rename_i a b
    cases h; rw [conc_str hx, conc_str hy]
    simp only [Instr.sameNow, beqL_eq, beq_toListBytes, ByteArray.toList_mk]
  · rename_i a b; cases h; rw [conc_bool hx, conc_bool hy]; rfl
  · cases h
theorem findK_sound {u : TypeDesc} {k : AV} {x : Value} (hx : conc η k = some x) : ∀ {es : List (AV × AV × Nat)} {ces : List MapEntry} {i : Nat} {r : Option (Nat × AV × Nat)}, EsRel η es ces → findK u k es i = some r →
    Instr.findNow u x ces i = some (match r with | none => none | some (j, _, _) => (ces[j - i]?).map fun e => (j, e.val)) ∧
    (∀ j v b, r = some (j, v, b) → i ≤ j ∧ ∃ k0 e, es[j - i]? = some (k0, v, b) ∧ ces[j - i]? = some e ∧ conc η v = some e.val ∧ conc η k0 = some e.key ∧ Instr.sameNow u x e.key = some true)
  | [], [], i, r, _, h => by simp [findK] at h; subst h; exact ⟨rfl, fun j v b e => by cases e⟩
  | [], _ :: _, _, _, hr, _ => hr.elim
  | _ :: _, [], _, _, hr, _ => hr.elim
  | (k', v', b') :: es, e :: ces, i, r, ⟨h1, h2, h3, h4⟩, h => by
    simp only [findK] at h
    split at h
    · cases h
    · rename_i hq
      cases h
      have := keyEq_sound hx h1 hq
      refine ⟨by simp [Instr.findNow, this], fun j v b he => ?_⟩
      cases he
      exact ⟨Nat.le_refl _, k', e, by simp, by simp, h2, h1, this⟩
    · rename_i hq
      have hs := keyEq_sound hx h1 hq
      obtain ⟨g1, g2⟩ := findK_sound hx h4 h
      refine ⟨?_, fun j v b he => ?_⟩
      · simp only [Instr.findNow, hs, g1]
        cases r with
        | none => rfl
        | some p =>
          obtain ⟨j, v, b⟩ := p
          obtain ⟨hij, _⟩ := g2 j v b rfl
          simp only []
          rw [show j - i = (j - (i + 1)) + 1 from by omega, List.getElem?_cons_succ]
      · obtain ⟨hij, k0, e0, a1, a2, a3⟩ := g2 j v b he
        refine ⟨by omega, k0, e0, ?_, ?_, a3⟩
        · rw [show j - i = (j - (i + 1)) + 1 from by omega, List.getElem?_cons_succ]; exact a1
        · rw [show j - i = (j - (i + 1)) + 1 from by omega, List.getElem?_cons_succ]; exact a2

theorem plain_key {u : TypeDesc} (hu : (∃ k, u = .int k) ∨ u = .string ∨ u = .bool) {t : TypeId} (ht : P.underlying t = some u) (empty : Bool) (x : Value) (w : World) : (Instr.checkKey empty 10000 t x).run P w = .ok () w := by
  have : ∀ d, (Instr.checkKey empty (d + 1) t x).run P w = .ok () w := fun d => by
    simp only [Instr.checkKey, Sem.run_bind, Go.underlying, run_program, Result.andThen_ok, ht, Sem.run_pure]
    rcases hu with ⟨k, rfl⟩ | rfl | rfl <;> (cases x <;> rfl)
  exact this 9999
theorem beqL_eq' {x y : List UInt8} (h : beqL x y = true) : x = y := by rw [beqL_eq] at h; exact eq_of_beq h
mutual
theorem eqAV_eq : ∀ (a b : AV), eqAV a b = true → a = b
  | .bool a, b => by intro h; cases b <;> simp only [eqAV, Bool.false_eq_true] at h; rw [eq_of_beq h]
  | .int j a, b => by
    intro h; cases b <;> simp only [eqAV, Bool.false_eq_true] at h
    simp only [Bool.and_eq_true] at h; rw [eq_of_beq h.1, eq_of_beq h.2]
  | .str a, b => by intro h; cases b <;> simp only [eqAV, Bool.false_eq_true] at h; rw [beqL_eq' h]
  | .nilp, b => by intro h; cases b <;> simp only [eqAV, Bool.false_eq_true] at h; rfl
  | .nils, b => by intro h; cases b <;> simp only [eqAV, Bool.false_eq_true] at h; rfl
  | .nilm, b => by intro h; cases b <;> simp only [eqAV, Bool.false_eq_true] at h; rfl
  | .nilFunc, b => by intro h; cases b <;> simp only [eqAV, Bool.false_eq_true] at h; rfl
  | .nilIface, b => by intro h; cases b <;> simp only [eqAV, Bool.false_eq_true] at h; rfl
  | .ptr a i, b => by
    intro h; cases b <;> simp only [eqAV, Bool.false_eq_true] at h
    simp only [Bool.and_eq_true] at h; rw [beq_eq h.1, beq_eq h.2]
  | .gptr a i, b => by
    intro h; cases b <;> simp only [eqAV, Bool.false_eq_true] at h
    simp only [Bool.and_eq_true] at h; rw [beq_eq h.1, beq_eq h.2]
  | .slice a i l c, b => by
    intro h; cases b <;> simp only [eqAV, Bool.false_eq_true] at h
    simp only [Bool.and_eq_true] at h; rw [beq_eq h.1.1.1, beq_eq h.1.1.2, beq_eq h.1.2, eq_of_beq h.2]
  | .map a, b => by intro h; cases b <;> simp only [eqAV, Bool.false_eq_true] at h; rw [beq_eq h]
  | .func f x y, b => by
    intro h; cases b <;> simp only [eqAV, Bool.false_eq_true] at h
    simp only [Bool.and_eq_true] at h; rw [beq_eq h.1.1, eqAVs_eq _ _ h.1.2, eqAVs_eq _ _ h.2]
  | .yield a, b => by intro h; cases b <;> simp only [eqAV, Bool.false_eq_true] at h; rw [beq_eq h]
  | .iface t a, b => by
    intro h; cases b <;> simp only [eqAV, Bool.false_eq_true] at h
    simp only [Bool.and_eq_true] at h; rw [beq_eq h.1, eqAV_eq _ _ h.2]
  | .agg a, b => by intro h; cases b <;> simp only [eqAV, Bool.false_eq_true] at h; rw [eqAVs_eq _ _ h]
  | .tuple a, b => by intro h; cases b <;> simp only [eqAV, Bool.false_eq_true] at h; rw [eqAVs_eq _ _ h]
  | .sym a, b => by intro h; cases b <;> simp only [eqAV, Bool.false_eq_true] at h; rw [beq_eq h]
  | .slice0 a i j k l, b => by
    intro h; cases b <;> simp only [eqAV, Bool.false_eq_true] at h
    simp only [Bool.and_eq_true] at h
    obtain ⟨⟨⟨⟨h1, h2⟩, h3⟩, h4⟩, h5⟩ := h
    rw [beq_eq h1, beq_eq h2, beq_eq h3, beq_eq h4, beq_eq h5]
  | .symStr a, b => by intro h; cases b <;> simp only [eqAV, Bool.false_eq_true] at h; rw [beq_eq h]
  | .symLen a, b => by intro h; cases b <;> simp only [eqAV, Bool.false_eq_true] at h; rw [beq_eq h]
  | .symInt k a, b => by
    intro h; cases b <;> simp only [eqAV, Bool.false_eq_true] at h
    simp only [Bool.and_eq_true] at h; rw [eq_of_beq h.1, beq_eq h.2]
theorem eqAVs_eq : ∀ (a b : List AV), eqAVs a b = true → a = b
  | [], b => by intro h; cases b <;> simp only [eqAVs, Bool.false_eq_true] at h; rfl
  | a :: x, b => by
    intro h; cases b <;> simp only [eqAVs, Bool.false_eq_true] at h
    simp only [Bool.and_eq_true] at h; rw [eqAV_eq _ _ h.1, eqAVs_eq _ _ h.2]
end

/-! keys that are rows or structs of plain data -/
def KL.lit : KL → Lit
  | .b x => .bool x
  | .i k n => .int k n
  | .s l => .string l
theorem inKind_wf {k : IntKind} {n : Int} (h : inKind k n = true) : (Lit.int k n).wf = true := by
  have h1 : IntKind.wrap k n = n := by unfold inKind at h; rw [eqI_eq] at h; exact eq_of_beq h
  rw [← h1]; exact wf_wrap k n
theorem concL_cut {cs : List AV} {xs : List Value} (hx : concL η cs = some xs) (a n : Nat) : concL η ((cs.drop a).take n) = some ((xs.drop a).take n) := by
  have hl := concL_length hx
  refine concL_of_get (by simp [hl]) fun j u hu => ?_
  have hj : j < n := by have := (List.getElem?_eq_some_iff.1 hu).1; simp at this; omega
  rw [List.getElem?_take_of_lt hj, List.getElem?_drop] at hu ⊢
  exact concL_get hx _ _ hu
theorem mapO_mapM {α β γ : Type} {f : α → Option (List β)} {g : α → Option (List γ)} {k : β → γ} : ∀ (l : List α) (r : List (List β)), (∀ x ∈ l, ∀ y, f x = some y → g x = some (y.map k)) → mapO f l = some r → l.mapM g = some (r.map (List.map k))
  | [], r, _, h => by simp [mapO] at h; subst h; simp
  | x :: l, r, hf, h => by
    simp only [mapO] at h
    split at h
    · cases h
    · rename_i y hy
      split at h
      · cases h
      · rename_i ys hys
        cases h
        rw [List.mapM_cons, hf x (by simp) y hy, mapO_mapM l ys (fun z hz => hf z (by simp [hz])) hys]
        rfl
theorem keyLitsV_sound (hC : CtxOK P C) : ∀ (d m : Nat) (t : TypeId) (cs : List AV) (xs : List Value) (L : List KL), P.keyTypeAt m t = true → concL η cs = some xs → keyLitsV C d t cs = some L → P.keyLits d t xs = some (L.map KL.lit)
  | 0, _, _, _, _, _, _, _, h => by cases h
  | d + 1, 0, _, _, _, _, hk, _, _ => by simp [Program.keyTypeAt] at hk
  | d + 1, m + 1, t, cs, xs, L, hk, hx, h => by
    unfold keyLitsV at h
    split at h
    · cases h
    · rename_i i hi
      have hT := ti_ok hC hi
      have hu := hT.und
      unfold Program.keyTypeAt at hk
      unfold Program.keyLits
      rw [hu] at hk ⊢
      have hl := concL_length hx
      split at h
      · rename_i b hub
        rw [hub]
        cases h
        simp [concL, conc] at hx
        subst hx; rfl
      · rename_i q q' n hub
        rw [hub]
        cases hb : (Nat.beq (kindNo q) (kindNo q') && inKind q n) with
        | false => rw [hb] at h; cases h
        | true =>
          rw [hb] at h; simp only [cond_true, Option.some.injEq] at h; subst h
          simp only [Bool.and_eq_true] at hb
          have hq := kindNo_inj hb.1
          subst hq
          simp [concL, conc] at hx
          subst hx
          simp [inKind_wf hb.2, KL.lit]
      · rename_i s hub
        rw [hub]
        cases hb : Nat.ble s.length 1099511627776 with
        | false => rw [hb] at h; cases h
        | true =>
          rw [hb] at h; simp only [cond_true, Option.some.injEq] at h; subst h
          simp [concL, conc] at hx
          subst hx
          have := ble_le hb
          have hsz : (ByteArray.mk s.toArray).size = s.length := by simp [ByteArray.size]
          simp only [hsz]
          rw [if_pos (by unfold maxLen; omega)]
          simp [KL.lit]
      · rename_i cs u1 c2 n e hub
        rw [hub] at hk ⊢
        split at h
        · cases h
        · rename_i te hte
          cases hb : Nat.beq cs.length i.size with
          | false => rw [hb] at h; cases h
          | true =>
            rw [hb] at h; simp only [cond_true, Option.map_eq_some_iff] at h
            obtain ⟨r, hr, rfl⟩ := h
            have hlen : xs.length = P.cellsOf t := by rw [hT.cellsOf, hl]; exact beq_eq hb
            have hce := (ti_ok hC hte).cellsOf
            simp only [hlen, if_true, hce]
            rw [mapO_mapM (List.range n) r (fun j _ y hy => keyLitsV_sound hC d m e _ _ y hk (concL_cut hx _ _) hy) hr]
            simp [List.map_flatten]
      · rename_i cs u1 c2 fs hub
        rw [hub] at hk ⊢
        simp only [Bool.and_eq_true] at hk
        cases hb : Nat.beq cs.length i.size with
        | false => rw [hb] at h; cases h
        | true =>
          rw [hb] at h; simp only [cond_true, Option.map_eq_some_iff] at h
          obtain ⟨r, hr, rfl⟩ := h
          have hlen : xs.length = P.cellsOf t := by rw [hT.cellsOf, hl]; exact beq_eq hb
          have hnames : fs.all (·.name != "_") = true := by
            rw [Array.all_eq_true_iff_forall_mem]
            intro f hf
            have := Array.all_eq_true_iff_forall_mem.1 hk.1.1 f hf
            simp only [Bool.and_eq_true] at this
            exact this.1
          simp only [hlen, hnames, and_self, if_true]
          rw [mapO_mapM fs.toList r (fun f hf y hy => by
            split at hy
            · cases hy
            · rename_i tf htf
              have := Array.all_eq_true_iff_forall_mem.1 hk.1.1 f (Array.mem_toList_iff.1 hf)
              simp only [Bool.and_eq_true] at this
              rw [(ti_ok hC htf).cellsOf]
              exact keyLitsV_sound hC d m f.type _ _ y this.2 (concL_cut hx _ _) hy) hr]
          simp [List.map_flatten]
      · cases h
theorem eqKL_ne {a b : KL} (h : eqKL a b = false) : a.lit ≠ b.lit := by
  intro e
  cases a <;> cases b <;> simp only [KL.lit, reduceCtorEq] at e
  · cases e; simp [eqKL] at h
  · cases e; simp [eqKL, eqI_eq] at h
  · cases e; simp [eqKL, beqL_eq] at h
theorem eqKLs_ne : ∀ (x y : List KL), eqKLs x y = false → x.map KL.lit ≠ y.map KL.lit
  | [], [], h => by cases h
  | [], _ :: _, _ => by simp
  | _ :: _, [], _ => by simp
  | a :: x, b :: y, h => by
    intro e
    simp only [List.map_cons, List.cons.injEq] at e
    simp only [eqKLs, Bool.and_eq_false_iff] at h
    rcases h with h | h
    · exact eqKL_ne h e.1
    · exact eqKLs_ne x y h e.2
theorem eqKL_eq : ∀ {a b : KL}, eqKL a b = true → a.lit = b.lit := by
  intro a b h
  cases a <;> cases b <;> simp only [eqKL, Bool.false_eq_true] at h
  · rw [eq_of_beq h]
  · rename_i j n k m
    simp only [Bool.and_eq_true] at h
    have h1 := beq_eq h.1
    obtain rfl : n = m := by have := h.2; rw [eqI_eq] at this; exact eq_of_beq this
    have : j = k := by cases j <;> cases k <;> first | rfl | cases h1
    rw [this]
  · rw [beqL_eq' h]
theorem eqKLs_eq : ∀ (x y : List KL), eqKLs x y = true → x.map KL.lit = y.map KL.lit
  | [], [], _ => rfl
  | a :: x, b :: y, h => by
    simp only [eqKLs, Bool.and_eq_true] at h
    rw [List.map_cons, List.map_cons, eqKL_eq h.1, eqKLs_eq x y h.2]
  | [], _ :: _, h => by cases h
  | _ :: _, [], h => by cases h
/-- what is taken of a wide key -/
theorem litsOf_sound (hC : CtxOK P C) {m : Nat} {t : TypeId} {u : TypeDesc} (ht : P.underlying t = some u) (hw : isWide u = true) (hk : P.keyTypeAt m t = true) {k : AV} {x : Value} {L : List KL} (hx : conc η k = some x) (h : litsOf C m t k = some L) :
    x.formed P t = true ∧ P.keyLits m t x.cells.toList = some (L.map KL.lit) ∧ ∃ cs xs, k = .agg cs ∧ x = .agg xs.toArray ∧ concL η cs = some xs ∧ cs.all isFlat = true := by
  unfold litsOf at h
  split at h
  · rename_i cs
    cases hf : cs.all isFlat with
    | false => rw [hf] at h; cases h
    | true =>
      rw [hf] at h; simp only [cond_true] at h
      obtain ⟨xs, hxs, rfl⟩ := conc_agg hx
      have h1 := keyLitsV_sound hC m m t cs xs L hk hxs h
      have hsz : xs.length = P.cellsOf t := by
        cases m with
        | zero => simp [Program.keyTypeAt] at hk
        | succ m =>
          unfold Program.keyLits at h1
          rw [ht] at h1
          cases u <;> simp only [isWide, Bool.false_eq_true] at hw
          · simp only at h1
            split at h1
            · assumption
            · cases h1
          · simp only at h1
            split at h1
            · rename_i hh; exact hh.1
            · cases h1
      refine ⟨?_, by simpa [Value.cells] using h1, cs, xs, rfl, rfl, hxs, hf⟩
      cases u <;> simp only [isWide, Bool.false_eq_true] at hw
      · simp [Value.formed, ht, hsz]
      · simp [Value.formed, ht, hsz]
  · cases h
theorem flat_same {η : Env} : ∀ {cs : List AV} {xs : List Value}, concL η cs = some xs → cs.all isFlat = true → ∀ n, (xs.zip xs).all (fun (x, y) => Instr.sameBits n x y) = true
  | [], xs, hx, _, n => by simp [concL] at hx; subst hx; rfl
  | c :: cs, xs, hx, hf, n => by
    simp only [concL] at hx
    split at hx
    · rename_i y ys hy hys
      cases hx
      simp only [List.all_cons, Bool.and_eq_true] at hf
      simp only [List.zip_cons_cons, List.all_cons, Bool.and_eq_true]
      refine ⟨?_, flat_same hys hf.2 n⟩
      cases c <;> simp only [isFlat, Bool.false_eq_true] at hf <;> (try exact hf.1.elim)
      · rw [conc_bool hy]; cases n <;> simp [Instr.sameBits]
      · rw [conc_int hy]; cases n <;> simp [Instr.sameBits]
      · rw [conc_str hy]
        have : ∀ a : ByteArray, (a == a) = true := fun a => by rw [beq_toListBytes]; simp
        cases n <;> exact this _
    · cases hx
theorem findW_sound (hC : CtxOK P C) {m : Nat} {t : TypeId} {u : TypeDesc} (ht : P.underlying t = some u) (hw : isWide u = true) (hm : m ≤ 10000) (hk : P.keyTypeAt m t = true) {k : AV} {x : Value} {L : List KL} (hx : conc η k = some x) (hL : litsOf C m t k = some L) (w : World) :
    ∀ {es : List (AV × AV × Nat)} {ces : List MapEntry} {i : Nat} {r : Option (Nat × AV × Nat)}, EsRel η es ces → findW C m t k L es i = some r →
    (Instr.findAsking t x ces i).run P w = .ok (match r with | none => none | some (j, _, _) => (ces[j - i]?).map fun e => (j, e.val)) w ∧
    (∀ j v b, r = some (j, v, b) → i ≤ j ∧ ∃ k0 e, es[j - i]? = some (k0, v, b) ∧ ces[j - i]? = some e ∧ conc η v = some e.val ∧ conc η k0 = some e.key ∧ x = e.key)
  | [], [], i, r, _, h => by simp [findW] at h; subst h; exact ⟨rfl, fun j v b e => by cases e⟩
  | [], _ :: _, _, _, hr, _ => hr.elim
  | _ :: _, [], _, _, hr, _ => hr.elim
  | (k', v', b') :: es, e :: ces, i, r, ⟨h1, h2, h3, h4⟩, h => by
    obtain ⟨f1, f2, _⟩ := litsOf_sound hC ht hw hk hx hL
    have eqs : ∀ (y : Value) (L' : List Lit), y.formed P t = true → P.keyLits m t y.cells.toList = some L' → ∃ r : Bool, (Op.equal t x y).run P w = .ok r w ∧ (r = true ↔ L.map KL.lit = L') := by
      intro y L' g1 g2
      have := run_equalIn_deep (10000 - m) m t hk w m m x y _ _ f1 g1 f2 g2
      rw [show 10000 - m + m = 10000 by omega] at this
      exact this
    unfold findW at h
    cases hq : eqAV k k' with
    | true =>
      rw [hq] at h; simp only [cond_true, Option.some.injEq] at h; subst h
      have hkk := eqAV_eq _ _ hq
      subst hkk
      have hxe : x = e.key := by rw [hx] at h1; exact Option.some.inj h1
      obtain ⟨r, hr, hiff⟩ := eqs x _ f1 f2
      have hrt : r = true := hiff.2 rfl
      subst hrt
      rw [hxe] at hr
      refine ⟨?_, fun j v b he => ?_⟩
      · simp only [Instr.findAsking, Sem.run_bind]
        rw [hxe, hr]
        simp
      · cases he
        exact ⟨Nat.le_refl _, k, e, by simp, by simp, h2, h1, hxe⟩
    | false =>
      rw [hq] at h; simp only [cond_false] at h
      split at h
      · cases h
      · rename_i L' hL'
        cases hn : notB (eqKLs L L') with
        | false => rw [hn] at h; cases h
        | true =>
          rw [hn] at h; simp only [cond_true] at h
          obtain ⟨g1, g2, _⟩ := litsOf_sound hC ht hw hk h1 hL'
          obtain ⟨rb, hr, hiff⟩ := eqs e.key _ g1 g2
          have hrf : rb = false := by
            cases rb with
            | false => rfl
            | true =>
              have : eqKLs L L' = false := by cases hz : eqKLs L L' with
                | false => rfl
                | true => rw [hz] at hn; cases hn
              exact absurd (hiff.1 rfl) (eqKLs_ne _ _ this)
          subst hrf
          obtain ⟨a1, a2⟩ := findW_sound hC ht hw hm hk hx hL w h4 h
          refine ⟨?_, fun j v b he => ?_⟩
          · cases r with
            | none =>
              simp only [Instr.findAsking, Sem.run_bind, hr, Result.andThen_ok, Bool.false_eq_true, if_false]
              exact a1
            | some p =>
              obtain ⟨j, v, b⟩ := p
              obtain ⟨hij, _⟩ := a2 j v b rfl
              simp only [Instr.findAsking, Sem.run_bind, hr, Result.andThen_ok, Bool.false_eq_true, if_false]
              rw [show j - i = (j - (i + 1)) + 1 from by omega, List.getElem?_cons_succ]
              exact a1
          · obtain ⟨hij, k0, e0, c1, c2, c3⟩ := a2 j v b he
            refine ⟨by omega, k0, e0, ?_, ?_, c3⟩
            · rw [show j - i = (j - (i + 1)) + 1 from by omega, List.getElem?_cons_succ]; exact c1
            · rw [show j - i = (j - (i + 1)) + 1 from by omega, List.getElem?_cons_succ]; exact c2
theorem same_now_bits {u : TypeDesc} {x y : Value} (h : Instr.sameNow u x y = some true) : ∀ n, Instr.sameBits n y x = true := by
  unfold Instr.sameNow at h
  split at h
  · split at h
    · rename_i hk; subst hk; intro n; cases n <;> simp_all [Instr.sameBits]
    · cases h
  · simp only [Option.some.injEq] at h
    intro n
    have : ∀ a b : ByteArray, (a == b) = true → (b == a) = true := fun a b h => by
      rw [beq_toListBytes] at h ⊢; simp only [beq_iff_eq] at h ⊢; exact h.symm
    cases n <;> exact this _ _ h
  · intro n; cases n <;> simp_all [Instr.sameBits]
  · cases h
theorem findKey_sound (hC : CtxOK P C) {kt : TypeId} {k : AV} {x : Value} (hx : conc η k = some x) {es : List (AV × AV × Nat)} {ces : Array MapEntry} (he : EsRel η es ces.toList) {r : Option (Nat × AV × Nat)} (h : findKey C kt k es = some r) (w : World) :
    (∀ empty, (Instr.checkKey empty 10000 kt x).run P w = .ok () w) ∧
    (Instr.findKey kt x ces.toList).run P w = .ok (match r with | none => none | some (j, _, _) => (ces[j]?).map fun e => (j, e.val)) w ∧
    (∀ j v b, r = some (j, v, b) → ∃ k0 e, es[j]? = some (k0, v, b) ∧ ces[j]? = some e ∧ conc η v = some e.val ∧ conc η k0 = some e.key ∧ ∀ n, Instr.sameBits (n + 1) e.key x = true) := by
  unfold findKey at h
  split at h
  · rename_i m hkm
    obtain ⟨⟨hm, hk⟩, _⟩ := hC.keys kt m hkm
    split at h
    · rename_i u hu
      have hu := und_ok hC hu
      cases hw : isWide u with
      | false => rw [hw] at h; cases h
      | true =>
        rw [hw] at h; simp only [cond_true] at h
        split at h
        · rename_i L hL
          obtain ⟨f1, f2, cs, xs, rfl, rfl, hcs, hflat⟩ := litsOf_sound hC hu hw hk hx hL
          obtain ⟨a1, a2⟩ := findW_sound hC hu hw hm hk hx hL w he h
          refine ⟨fun em => ?_, ?_, ?_⟩
          · have := run_checkKey_deep (P := P) em (10000 - m) m kt hk w m _ _ f1 f2
            rw [show 10000 - m + m = 10000 by omega] at this
            exact this
          · simp only [Instr.findKey, Sem.run_bind, Go.underlying, run_program, Result.andThen_ok, hu, Sem.run_pure]
            cases hces : ces.toList with
            | nil =>
              rw [hces] at a1
              simp only [Instr.findNow, Sem.run_pure]
              rw [hces] at he
              cases es with
              | nil => simp [findW] at h; subst h; rfl
              | cons => exact he.elim
            | cons e0 rest =>
              have hnow : Instr.findNow u (.agg xs.toArray) (e0 :: rest) 0 = none := by
                simp only [Instr.findNow]
                have : Instr.sameNow u (.agg xs.toArray) e0.key = none := by
                  cases u <;> simp only [isWide, Bool.false_eq_true] at hw <;> rfl
                rw [this]
              rw [hnow]
              simp only
              rw [hces] at a1
              rw [a1]
              cases r with
              | none => rfl
              | some p => simp [← hces]
          · intro j v b hr
            obtain ⟨_, k0, e, c1, c2, c3, c4, c5⟩ := a2 j v b hr
            refine ⟨k0, e, by simpa using c1, by simpa using c2, c3, c4, fun n => ?_⟩
            rw [← c5]
            have := flat_same hcs hflat n
            simpa [Instr.sameBits] using this
        · cases h
    · cases h
  · split at h
    · cases h
    · rename_i u hu
      obtain ⟨h1, h2⟩ := keyKind_ok hC hu
      obtain ⟨g1, g2⟩ := findK_sound (u := u) hx he h
      refine ⟨fun e => plain_key h2 h1 e x w, ?_, ?_⟩
      · simp only [Instr.findKey, Sem.run_bind, Go.underlying, run_program, Result.andThen_ok, h1, Sem.run_pure, g1]
        cases r with
        | none => rfl
        | some p => simp
      · intro j v b hr
        obtain ⟨_, k0, e, a1, a2, a3, a4, a5⟩ := g2 j v b hr
        exact ⟨k0, e, by simpa using a1, by simpa using a2, a3, a4, fun n => same_now_bits a5 _⟩

theorem mapLookup_sound (hC : CtxOK P C) (hr : HRel P η E H w) {t : TypeId} {m k : AV} {x y : Value} (hx : conc η m = some x) (hy : conc η k = some y) {ok : Bool} {v : AV} (h : mapLookup C H t m k ok = some v) :
    ∃ u, conc η v = some u ∧ (Instr.lookup t x y ok).run P w = .ok u w := by
  unfold mapLookup at h
  split at h
  · rename_i kt et hu
    split at h
    · rename_i b
      split at h
      · rename_i es clock hg
        obtain ⟨r, ces, hb, hh, he⟩ := getMap hr hg
        obtain ⟨r2, hb2, rfl⟩ := conc_map hx
        rw [hb] at hb2; cases hb2
        split at h
        · rename_i i v' b' hf
          cases h
          obtain ⟨a1, a2, a3⟩ := findKey_sound (P := P) hC hy he hf w
          obtain ⟨k0, e, _, he2, hv, _⟩ := a3 _ _ _ rfl
          simp only [he2, Option.map_some] at a2
          cases ok with
          | true => exact ⟨.tuple #[e.val, .bool true], by simp [conc, concL, hv], by simp [Instr.lookup, run_und hC hu, getObj, Sem.run, hh, a1, a2]⟩
          | false => exact ⟨e.val, hv, by simp [Instr.lookup, run_und hC hu, getObj, Sem.run, hh, a1, a2]⟩
        · rename_i hf
          obtain ⟨a1, a2, _⟩ := findKey_sound (P := P) hC hy he hf w
          split at h
          · rename_i z hz
            cases h
            obtain ⟨zv, hzv, hzc⟩ := (ti_ok hC (i := _) hz).zeroValue rfl w
            cases ok with
            | true => exact ⟨.tuple #[zv, .bool false], by simp [conc, concL, hzc η], by simp [Instr.lookup, run_und hC hu, getObj, Sem.run, hh, a1, a2, hzv]⟩
            | false => exact ⟨zv, hzc η, by simp [Instr.lookup, run_und hC hu, getObj, Sem.run, hh, a1, a2, hzv]⟩
          · cases h
        · cases h
      · cases h
    · cases h
  · cases h
end Go.VmK
