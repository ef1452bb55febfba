/-
  A machine that runs the model with abstract blocks, and lemmas on it: whatever it answers of a call is what the model does (ProgOK, Base: the conditions).
-/
import Derived.Test.YthcnhdiipbpdgaaGreatDoorR4b
namespace Go.VmK
variable {P : Program} {C : Ctx} {E : List LoopInfo} {η : Env} {H : Heap} {w : World}

theorem conc_bool {η : Env} {b : Bool} {x : Value} (h : conc η (.bool b) = some x) : x = .bool b := by simp [conc] at h; exact h.symm
theorem conc_int {η : Env} {k : IntKind} {n : Int} {x : Value} (h : conc η (.int k n) = some x) : x = .int k n := by simp [conc] at h; exact h.symm
theorem conc_str {η : Env} {s : List UInt8} {x : Value} (h : conc η (.str s) = some x) : x = .string ⟨s.toArray⟩ := by simp [conc] at h; exact h.symm
theorem conc_nilp {η : Env} {x : Value} (h : conc η .nilp = some x) : x = .pointer none := by simp [conc] at h; exact h.symm
theorem conc_nils {η : Env} {x : Value} (h : conc η .nils = some x) : x = .slice none 0 0 := by simp [conc] at h; exact h.symm
theorem conc_nilm {η : Env} {x : Value} (h : conc η .nilm = some x) : x = .map none := by simp [conc] at h; exact h.symm
theorem conc_nilFunc {η : Env} {x : Value} (h : conc η .nilFunc = some x) : x = .nilFunc := by simp [conc] at h; exact h.symm
theorem conc_nilIface {η : Env} {x : Value} (h : conc η .nilIface = some x) : x = .nilIface := by simp [conc] at h; exact h.symm
theorem conc_ptr {η : Env} {b off : Nat} {x : Value} (h : conc η (.ptr b off) = some x) : ∃ r, η.ρ b = some r ∧ x = .pointer (some ⟨r, off, none⟩) := by
  simp only [conc] at h
  split at h
  · rename_i r hr; exact ⟨r, hr, (Option.some.inj h).symm⟩
  · cases h
theorem conc_map {η : Env} {b : Nat} {x : Value} (h : conc η (.map b) = some x) : ∃ r, η.ρ b = some r ∧ x = .map (some r) := by
  simp only [conc] at h
  split at h
  · rename_i r hr; exact ⟨r, hr, (Option.some.inj h).symm⟩
  · cases h
theorem conc_slice {η : Env} {b off len : Nat} {c : Cap} {x : Value} (h : conc η (.slice b off len c) = some x) : ∃ r n, η.ρ b = some r ∧ (capOf η c = some n ∧ len ≤ n) ∧ x = .slice (some ⟨r, off, none⟩) len n := by
  simp only [conc] at h
  split at h
  · rename_i r n hr hn
    split at h
    · rename_i hle; exact ⟨r, n, hr, ⟨hn, hle⟩, (Option.some.inj h).symm⟩
    · cases h
  · cases h
theorem slice_conc {η : Env} {b off len : Nat} {c : Cap} {r n : Nat} (h1 : η.ρ b = some r) (h2 : capOf η c = some n) (h3 : len ≤ n) : conc η (.slice b off len c) = some (.slice (some ⟨r, off, none⟩) len n) := by
  simp [conc, h1, h2, h3]
theorem conc_func {η : Env} {f : Nat} {a b : List AV} {x : Value} (h : conc η (.func f a b) = some x) : ∃ xs ys, concL η a = some xs ∧ concL η b = some ys ∧ x = .func (.func f) xs.toArray ys.toArray := by
  simp only [conc] at h
  split at h
  · rename_i r n hr hn; exact ⟨r, n, hr, hn, (Option.some.inj h).symm⟩
  · cases h
theorem conc_iface {η : Env} {t : Nat} {v : AV} {x : Value} (h : conc η (.iface t v) = some x) : ∃ y, conc η v = some y ∧ x = .iface t y := by
  simp only [conc] at h
  split at h
  · rename_i r hr; exact ⟨r, hr, (Option.some.inj h).symm⟩
  · cases h
theorem conc_agg {η : Env} {l : List AV} {x : Value} (h : conc η (.agg l) = some x) : ∃ xs, concL η l = some xs ∧ x = .agg xs.toArray := by
  simp only [conc] at h
  split at h
  · rename_i r hr; exact ⟨r, hr, (Option.some.inj h).symm⟩
  · cases h
theorem conc_tuple {η : Env} {l : List AV} {x : Value} (h : conc η (.tuple l) = some x) : ∃ xs, concL η l = some xs ∧ x = .tuple xs.toArray := by
  simp only [conc] at h
  split at h
  · rename_i r hr; exact ⟨r, hr, (Option.some.inj h).symm⟩
  · cases h
theorem conc_yield {η : Env} {l : Nat} {x : Value} (h : conc η (.yield l) = some x) : ∃ r, η.ρ l = some r ∧ x = .func (.yield r) #[] #[] := by
  simp only [conc] at h
  split at h
  · rename_i r hr; exact ⟨r, hr, (Option.some.inj h).symm⟩
  · cases h

/-! equality -/
theorem equal_one {t : TypeId} {x y : Value} {w : World} {b : Bool} (h : ∀ d, (Op.equalIn (d + 1) t x y).run P w = .ok b w) : (Op.equal t x y).run P w = .ok b w := h 9999
def NoGuard : Value → Value → Prop
  | .nilIface, .nilIface => False
  | .agg _, .agg _ => False
  | _, _ => True
theorem eqGuard_ok {x y : Value} (h : NoGuard x y) (op : BinOp) (t : TypeId) (p q : Operand) (w : World) : (eqGuard op t p q x y).run P w = .ok () w := by
  cases op
  case eql => cases x <;> first | rfl | (cases y <;> first | exact h.elim | rfl)
  case neq => cases x <;> first | rfl | (cases y <;> first | exact h.elim | rfl)
  all_goals rfl
def Unlike : Value → Value → Prop
  | .nilIface, .nilIface => False
  | .agg _, .agg _ => False
  | .int _ _, _ => False
  | .float _ _, _ => False
  | .complex _ _ _, _ => False
  | .string _, _ => False
  | _, _ => True
theorem eqV_sound (hC : CtxOK P C) (_hr : HRel P η E H w) {t : TypeId} {a b : AV} {x y : Value} {r : Bool} (hx : conc η a = some x) (hy : conc η b = some y) (h : eqV C t a b = some r) :
    (Op.equal t x y).run P w = .ok r w ∧ (∀ o : BinOp, ∀ p q : Operand, (eqGuard o t p q x y).run P w = .ok () w) ∧ (Go.binOp .eql t x y).run P w = .ok (.bool r) w ∧ (Go.binOp .neq t x y).run P w = .ok (.bool (!r)) w := by
  have key : (Op.equal t x y).run P w = .ok r w ∧ Unlike x y := by
    unfold eqV at h
    split at h
    all_goals (try (cases h; done))
    all_goals (rename_i hu; have hu := und_ok hC hu)
    · cases h; rw [conc_bool hx, conc_bool hy]; exact ⟨equal_one fun d => by simp [Op.equalIn, Go.underlying, hu], trivial⟩
    · cases h; rw [conc_nilp hx, conc_nilp hy]; exact ⟨equal_one fun d => by simp [Op.equalIn, Go.underlying, hu], trivial⟩
    · cases h; obtain ⟨_, _, rfl⟩ := conc_ptr hy; rw [conc_nilp hx]; exact ⟨equal_one fun d => by simp [Op.equalIn, Go.underlying, hu], trivial⟩
    · cases h; obtain ⟨_, _, rfl⟩ := conc_ptr hx; rw [conc_nilp hy]; exact ⟨equal_one fun d => by simp [Op.equalIn, Go.underlying, hu], trivial⟩
    · rename_i e b1 i b2 j _
      obtain ⟨r1, h1, rfl⟩ := conc_ptr hx
      obtain ⟨r2, h2, rfl⟩ := conc_ptr hy
      unfold ptrEq at h
      split at h
      · rename_i te hte
        cases hz : Nat.beq te.size 0 with
        | true => rw [hz] at h; cases h
        | false =>
          rw [hz] at h; simp only [cond_false] at h
          cases hb : Nat.beq b1 b2 with
          | false => rw [hb] at h; cases h
          | true =>
            rw [hb] at h; simp only [cond_true, Option.some.injEq] at h; subst h
            have := beq_eq hb; subst this
            rw [h1] at h2; cases h2
            have hsz : te.size ≠ 0 := fun e => by rw [e] at hz; simp at hz
            refine ⟨equal_one fun d => ?_, trivial⟩
            have hs := (ti_ok hC hte).sizeOf w
            have hij : Nat.beq i j = (({ block := r1, off := i } : Addr) == { block := r1, off := j }) := by
              rw [Bool.eq_iff_iff, Nat.beq_eq]; simp
            simp [Op.equalIn, Go.underlying, hu, hs, hsz, sameAddr, hij]
      · cases h
    · cases h; obtain ⟨_, _, rfl⟩ := conc_iface hy; rw [conc_nilIface hx]; exact ⟨equal_one fun d => by simp [Op.equalIn, Go.underlying, hu], trivial⟩
    · cases h; obtain ⟨_, _, rfl⟩ := conc_iface hx; rw [conc_nilIface hy]; exact ⟨equal_one fun d => by simp [Op.equalIn, Go.underlying, hu], trivial⟩
    · cases h; rw [conc_nils hx, conc_nils hy]; exact ⟨equal_one fun d => by simp [Op.equalIn, Go.underlying, hu], trivial⟩
    · cases h; obtain ⟨_, _, _, _, rfl⟩ := conc_slice hy; rw [conc_nils hx]; exact ⟨equal_one fun d => by simp [Op.equalIn, Go.underlying, hu], trivial⟩
    · cases h; obtain ⟨_, _, _, _, rfl⟩ := conc_slice hx; rw [conc_nils hy]; exact ⟨equal_one fun d => by simp [Op.equalIn, Go.underlying, hu], trivial⟩
    · cases h; rw [conc_nilm hx, conc_nilm hy]; exact ⟨equal_one fun d => by simp [Op.equalIn, Go.underlying, hu], trivial⟩
    · cases h; obtain ⟨_, _, rfl⟩ := conc_map hy; rw [conc_nilm hx]; exact ⟨equal_one fun d => by simp [Op.equalIn, Go.underlying, hu], trivial⟩
    · cases h; obtain ⟨_, _, rfl⟩ := conc_map hx; rw [conc_nilm hy]; exact ⟨equal_one fun d => by simp [Op.equalIn, Go.underlying, hu], trivial⟩
    · cases h; rw [conc_nilFunc hx, conc_nilFunc hy]; exact ⟨equal_one fun d => by simp [Op.equalIn, Go.underlying, hu], trivial⟩
    · cases h; obtain ⟨_, _, _, _, rfl⟩ := conc_func hy; rw [conc_nilFunc hx]; exact ⟨equal_one fun d => by simp [Op.equalIn, Go.underlying, hu], trivial⟩
    · cases h; obtain ⟨_, _, _, _, rfl⟩ := conc_func hx; rw [conc_nilFunc hy]; exact ⟨equal_one fun d => by simp [Op.equalIn, Go.underlying, hu], trivial⟩
  obtain ⟨k1, k2⟩ := key
  refine ⟨k1, fun o p q => eqGuard_ok (by cases x <;> cases y <;> first | exact k2 | trivial) o t p q w, ?_, ?_⟩
  · cases x <;> (try exact k2.elim) <;> simp [Go.binOp, k1]
  · cases x <;> (try exact k2.elim) <;> simp [Go.binOp, k1]

theorem doBin_sound (hC : CtxOK P C) (hr : HRel P η E H w) {op : BinOp} {t : TypeId} {a b : AV} {x y : Value} {p q : Operand} {v : AV} {H' : Heap} (hx : conc η a = some x) (hy : conc η b = some y)
    (h : valO H (binOp C op t a b) = some (.val v H')) : H' = H ∧ ∃ u, conc η v = some u ∧ (do eqGuard op t p q x y; Go.binOp op t x y : Sem Value).run P w = .ok u w := by
  cases hb : binOp C op t a b with
  | none => rw [hb] at h; cases h
  | some u =>
    rw [hb] at h; simp only [valO] at h; cases h
    refine ⟨rfl, ?_⟩
    unfold binOp at hb
    split at hb
    · rename_i k n
      unfold binInt at hb
      split at hb
      · rename_i k' m
        obtain ⟨u', hf, hrun⟩ := intOp2_sound P w (t := t) hb
        rw [conc_int hx, conc_int hy]
        exact ⟨u', hf.conc η, by simp [eqGuard_ok (P := P) (x := .int k n) (y := .int k' m) trivial, hrun]⟩
      · cases hb
    · rename_i s
      unfold binStr at hb
      split at hb
      · rename_i s'
        obtain ⟨u', hf, hrun⟩ := strOp_sound (P := P) (t := t) hb w
        rw [conc_str hx, conc_str hy]
        exact ⟨u', hf.conc η, by simp [eqGuard_ok (P := P) (x := .string ⟨s.toArray⟩) (y := .string ⟨s'.toArray⟩) trivial, hrun]⟩
      · cases hb
    · unfold binGen at hb
      split at hb
      · unfold binEq at hb
        split at hb
        · cases hb
        · rename_i r hq
          obtain ⟨_, h2, h3, _⟩ := eqV_sound (P := P) hC hr hx hy hq
          cases hb
          exact ⟨.bool r, rfl, by simp [h2, h3]⟩
      · unfold binNe at hb
        split at hb
        · cases hb
        · rename_i r hq
          obtain ⟨_, h2, _, h3⟩ := eqV_sound (P := P) hC hr hx hy hq
          cases hb
          exact ⟨.bool (!r), by rw [notB_eq]; rfl, by simp [h2, h3]⟩
      · cases hb

theorem numKind_conc {a : AV} {x : Value} {k : IntKind} {s : Bool} (h : numKind a = some (k, s)) (hx : conc η a = some x) : ∃ n, x = .int k n := by
  cases a <;> simp [numKind] at h
  case int j n => obtain ⟨rfl, _⟩ := h; simp [conc] at hx; exact ⟨n, hx.symm⟩
  case symLen i =>
    obtain ⟨rfl, _⟩ := h
    simp only [conc] at hx
    split at hx
    · exact ⟨_, (Option.some.inj hx).symm⟩
    · cases hx
  case symInt j i =>
    obtain ⟨rfl, _⟩ := h
    simp only [conc] at hx
    split at hx
    · split at hx
      · exact ⟨_, (Option.some.inj hx).symm⟩
      · cases hx
    · cases hx
theorem txtKind_conc {a : AV} {x : Value} {s : Bool} (h : txtKind a = some s) (hx : conc η a = some x) : ∃ t : List UInt8, x = .string ⟨t.toArray⟩ := by
  cases a <;> simp [txtKind] at h
  case str t => simp [conc] at hx; exact ⟨t, hx.symm⟩
  case symStr i =>
    simp only [conc] at hx
    split at hx
    · rename_i s _
      exact ⟨s.data.toList, by rw [← Option.some.inj hx]⟩
    · cases hx
/-- a comparison that hangs on what is outside says yes or no -/
theorem openCmp_sound (hC : CtxOK P C) (hr : HRel P η E H w) {op : BinOp} {t : TypeId} {a b : AV} {x y : Value} {p q : Operand} (hx : conc η a = some x) (hy : conc η b = some y) (h : openCmp op a b = true) :
    ∃ r : Bool, (do eqGuard op t p q x y; Go.binOp op t x y : Sem Value).run P w = .ok (.bool r) w := by
  unfold openCmp at h
  simp only [Bool.and_eq_true] at h
  obtain ⟨hop, h⟩ := h
  have fin : ∀ (a' b' : AV), conc η a' = some x → conc η b' = some y → (∃ r : Bool, binOp C op t a' b' = some (.bool r)) → ∃ r : Bool, (do eqGuard op t p q x y; Go.binOp op t x y : Sem Value).run P w = .ok (.bool r) w := by
    intro a' b' h1 h2 ⟨r, h3⟩
    obtain ⟨_, u, h4, h5⟩ := doBin_sound hC hr (p := p) (q := q) (H' := H) (v := .bool r) h1 h2 (by rw [h3]; rfl)
    simp [conc] at h4
    subst h4
    exact ⟨r, h5⟩
  split at h
  · rename_i j s k s' h1 h2
    simp only [Bool.and_eq_true] at h
    have hjk := eq_of_beq h.2
    subst hjk
    obtain ⟨m, rfl⟩ := numKind_conc h1 hx
    obtain ⟨n, rfl⟩ := numKind_conc h2 hy
    refine fin (.int j m) (.int j n) rfl rfl ?_
    unfold binOp binInt intOp2
    simp only [Nat.beq_refl]
    cases op <;> first | exact ⟨_, rfl⟩ | cases hop
  · split at h
    · rename_i s s' h1 h2
      obtain ⟨m, rfl⟩ := txtKind_conc h1 hx
      obtain ⟨n, rfl⟩ := txtKind_conc h2 hy
      refine fin (.str m) (.str n) rfl rfl ?_
      unfold binOp binStr
      cases op <;> first | exact ⟨_, rfl⟩ | cases hop
    · cases h
theorem doUn_sound {op : UnOp} {a : AV} {x : Value} {v : AV} {H' : Heap} (hx : conc η a = some x) (h : doUn H op a = some (.val v H')) :
    H' = H ∧ ∃ u, conc η v = some u ∧ (Op.unary op x).run P w = .ok u w := by
  unfold doUn at h
  cases hb : unOp op a with
  | none => rw [hb] at h; cases h
  | some u =>
    rw [hb] at h; simp only [valO] at h; cases h
    unfold unOp at hb
    split at hb
    · rename_i b
      cases hb; rw [conc_bool hx]
      exact ⟨rfl, .bool (!b), by rw [notB_eq]; rfl, by simp [Op.unary]⟩
    · rename_i k n
      obtain ⟨m, rfl, hrun⟩ := bitOp_sound (P := P) (w := w) (.inr (.inr ⟨rfl, rfl⟩)) hb
      rw [conc_int hx]
      refine ⟨rfl, .int k m, rfl, ?_⟩
      have e : unMask k = if k.signed then -1 else k.max := by cases k <;> rfl
      rw [e] at hrun
      exact hrun
    · rename_i k n
      simp only [opSub, Option.some.injEq] at hb; subst hb
      rw [conc_int hx]
      exact ⟨rfl, .int k (k.wrap (0 - n)), by rw [wrapK_eq]; rfl, rfl⟩
    · cases hb

/-! fields and places -/
theorem idx_int {η : Env} {a : AV} {x : Value} {i : Int} (hx : conc η a = some x) (h : asIdx a = some i) : ∃ k, x = .int k i := by
  unfold asIdx at h
  split at h
  · rename_i k n; cases h; exact ⟨k, conc_int hx⟩
  · cases h
theorem add_off (r off k : Nat) : (Addr.mk r off none).add k = ⟨r, off + k, none⟩ := by unfold Addr.add; by_cases h0 : k = 0 <;> simp [h0]

theorem fieldAddr_sound (hC : CtxOK P C) {t : TypeId} {a : AV} {x : Value} {f : Nat} {v : AV} (hx : conc η a = some x) (h : fieldAddr C t a f = some v) :
    ∃ u, conc η v = some u ∧ (Instr.fieldAt t x f).run P w = .ok u w := by
  unfold fieldAddr at h
  split at h
  · rename_i fs b off hu
    split at h
    · rename_i fd hfd
      split at h
      · rename_i tf htf
        cases hz : Nat.beq tf.size 0 with
        | true => rw [hz] at h; cases h
        | false =>
          rw [hz] at h; simp only [cond_false, Option.some.injEq] at h; subst h
          obtain ⟨r, hb, rfl⟩ := conc_ptr hx
          have hsz : tf.size ≠ 0 := fun e => by rw [e] at hz; simp at hz
          exact ⟨_, by simp [conc, hb]; rfl, by simp [Instr.fieldAt, run_und hC hu, hfd, Instr.sureAddr, fieldPlace, (ti_ok hC htf).sizeOf, hsz, add_off]⟩
      · cases h
    · cases h
  · cases h

theorem part_sound (hC : CtxOK P C) {t : TypeId} {cs : List AV} {xs : List Value} {off : Nat} {v : AV} (hx : concL η cs = some xs) (h : part C t cs off = some v) :
    ∃ u, conc η v = some u ∧ (Go.part t xs.toArray off).run P w = .ok u w := by
  unfold part at h
  split at h
  · cases h
  · rename_i i hi
    have hT := ti_ok hC hi
    cases ha : isAggD i.und with
    | true =>
      rw [ha] at h; simp only [cond_true] at h
      cases hb : Nat.ble (off + i.size) cs.length with
      | false => rw [hb] at h; cases h
      | true =>
        rw [hb] at h; simp only [cond_true, Option.some.injEq] at h; subst h
        have hb := ble_le hb
        have hl := concL_length hx
        have : concL η ((cs.drop off).take i.size) = some ((xs.drop off).take i.size) := by
          refine concL_of_get (by simp [hl]) fun j u hu => ?_
          have hj : j < i.size := by have := (List.getElem?_eq_some_iff.1 hu).1; simp at this; omega
          rw [List.getElem?_take_of_lt hj, List.getElem?_drop] at hu ⊢
          exact concL_get hx _ _ hu
        refine ⟨.agg ((xs.drop off).take i.size).toArray, by simp [conc, this], ?_⟩
        simp [Go.part, hT.isAgg, ha, hT.sizeOf]
        all_goals (try rw [List.take_drop])
    | false =>
      rw [ha] at h; simp only [cond_false] at h
      obtain ⟨u, hu, hc⟩ := concL_get hx _ _ h
      exact ⟨u, hc, by simp [Go.part, hT.isAgg, ha, hu]⟩

theorem fieldOp_sound (hC : CtxOK P C) {t : TypeId} {a : AV} {x : Value} {f : Nat} {v : AV} (hx : conc η a = some x) (h : fieldOp C t a f = some v) :
    ∃ u, conc η v = some u ∧ (Instr.field t x f).run P w = .ok u w := by
  unfold fieldOp at h
  split at h
  · rename_i fs cs hu
    split at h
    · rename_i fd hfd
      obtain ⟨xs, hxs, rfl⟩ := conc_agg hx
      obtain ⟨u, hc, hrun⟩ := part_sound (P := P) (w := w) hC hxs h
      exact ⟨u, hc, by simp [Instr.field, run_und hC hu, hfd, asAgg, hrun]⟩
    · cases h
  · cases h

theorem indexAddr_sound (hC : CtxOK P C) {t : TypeId} {a b : AV} {x y : Value} {v : AV} (hx : conc η a = some x) (hy : conc η b = some y) (h : indexAddr C t a b = some v) :
    ∃ u, conc η v = some u ∧ (Instr.indexAt t x y).run P w = .ok u w := by
  unfold indexAddr at h
  split at h
  · rename_i len e b off i hu hi
    split at h
    · rename_i te hte
      cases hq : (decide (0 ≤ i) && Nat.blt i.toNat len) with
      | false => rw [hq] at h; cases h
      | true =>
        rw [hq] at h; simp only [cond_true, Option.some.injEq] at h; subst h
        simp only [Bool.and_eq_true, decide_eq_true_eq] at hq
        obtain ⟨h0, h1⟩ := hq
        have h1 := blt_lt h1
        obtain ⟨k, rfl⟩ := idx_int hy hi
        obtain ⟨r, hb, rfl⟩ := conc_ptr hx
        refine ⟨_, by simp [conc, hb]; rfl, ?_⟩
        have : 0 ≤ i ∧ i < (len : Int) := ⟨h0, by omega⟩
        simp [Instr.indexAt, asIntOf, run_und hC hu, Instr.sureAddr, this, (ti_ok hC hte).sizeOf, add_off]
    · cases h
  · rename_i e b off len c i hu hi
    split at h
    · rename_i te hte
      cases hq : (decide (0 ≤ i) && Nat.blt i.toNat len) with
      | false => rw [hq] at h; cases h
      | true =>
        rw [hq] at h; simp only [cond_true, Option.some.injEq] at h; subst h
        simp only [Bool.and_eq_true, decide_eq_true_eq] at hq
        obtain ⟨h0, h1⟩ := hq
        have h1 := blt_lt h1
        obtain ⟨k, rfl⟩ := idx_int hy hi
        obtain ⟨r, n, hb, _, rfl⟩ := conc_slice hx
        refine ⟨_, by simp [conc, hb]; rfl, ?_⟩
        have : 0 ≤ i ∧ i < (len : Int) := ⟨h0, by omega⟩
        simp [Instr.indexAt, asIntOf, run_und hC hu, this, (ti_ok hC hte).sizeOf, add_off]
    · cases h
  · cases h

theorem indexOp_sound (hC : CtxOK P C) {t : TypeId} {a b : AV} {x y : Value} {v : AV} (hx : conc η a = some x) (hy : conc η b = some y) (h : indexOp C t a b = some v) :
    ∃ u, conc η v = some u ∧ (Instr.index t x y).run P w = .ok u w := by
  unfold indexOp at h
  split at h
  · rename_i s i hu hi
    obtain ⟨k, rfl⟩ := idx_int hy hi
    rw [conc_str hx]
    cases hq : decide (0 ≤ i) with
    | false => rw [hq] at h; cases h
    | true =>
      rw [hq] at h; simp only [cond_true] at h
      have h0 : 0 ≤ i := by simpa using hq
      split at h
      · rename_i c hc
        cases h
        refine ⟨.int .u8 (Int.ofNat c.toNat), rfl, ?_⟩
        have hlt : i.toNat < s.length := (List.getElem?_eq_some_iff.1 hc).1
        have hb : (ByteArray.mk s.toArray)[i.toNat]? = some c := by
          rw [ByteArray.getElem?_lt' _ _ (by simpa [ByteArray.size] using hlt)]
          have := (List.getElem?_eq_some_iff.1 hc).2
          simp [← this]; rfl
        simp [Instr.index, asIntOf, run_und hC hu, h0, hb]
      · cases h
  · rename_i len e cs i hu hi
    split at h
    · rename_i te hte
      cases hq : (decide (0 ≤ i) && Nat.blt i.toNat len) with
      | false => rw [hq] at h; cases h
      | true =>
        rw [hq] at h; simp only [cond_true] at h
        simp only [Bool.and_eq_true, decide_eq_true_eq] at hq
        obtain ⟨h0, h1⟩ := hq
        have h1 := blt_lt h1
        obtain ⟨k, rfl⟩ := idx_int hy hi
        obtain ⟨xs, hxs, rfl⟩ := conc_agg hx
        obtain ⟨u, hc, hrun⟩ := part_sound (P := P) (w := w) hC hxs h
        have : 0 ≤ i ∧ i < (len : Int) := ⟨h0, by omega⟩
        exact ⟨u, hc, by simp [Instr.index, asIntOf, run_und hC hu, this, (ti_ok hC hte).sizeOf, hrun]⟩
    · cases h
  · cases h

/-! cutting -/
def OptC (η : Env) : Option AV → Option Value → Prop
  | none, none => True
  | some a, some x => conc η a = some x
  | _, _ => False

theorem inTo_sound {v : AV} {x : Value} {m i c : Nat} (code : BoundsCode) (hx : conc η v = some x) (h : inTo v m = some i) (hm : m ≤ c) : (Instr.sliceBound x c code).run P w = .ok i w ∧ i ≤ m := by
  unfold inTo at h
  split at h
  · rename_i n hn
    obtain ⟨k, rfl⟩ := idx_int hx hn
    cases hq : (decide (0 ≤ n) && Nat.ble n.toNat m) with
    | false => rw [hq] at h; cases h
    | true =>
      rw [hq] at h; simp only [cond_true, Option.some.injEq] at h; subst h
      simp only [Bool.and_eq_true, decide_eq_true_eq] at hq
      have h1 := ble_le hq.2
      have : 0 ≤ n ∧ n ≤ (c : Int) := ⟨hq.1, by omega⟩
      exact ⟨by simp [Instr.sliceBound, asIntOf, this], h1⟩
  · cases h
theorem bounds_sound {len c top : Nat} (htop : top ≤ c) {lo hi mx : Option AV} {lo' hi' mx' : Option Value} (h1 : OptC η lo lo') (h2 : OptC η hi hi') (h3 : OptC η mx mx')
    {l h : Nat} {mm : Option Nat} (hb : sliceBounds len top lo hi mx = some (l, h, mm)) (isS : Bool) :
    (Instr.sliceBounds isS len c lo' hi' mx').run P w = .ok (l, h, mm.getD c) w ∧ l ≤ h ∧ (hi = none → mx = none → h = len) ∧ (∀ v, hi = some v → h ≤ top) ∧ (mm = none → mx = none) ∧ (∀ m, mm = some m → h ≤ m ∧ m ≤ top) := by
  have low : ∀ (hh : Nat) {l : Nat}, boundO lo hh 0 = some l → ((lo' = none ∧ l = 0) ∨ ∃ x, lo' = some x ∧ ∀ code, (Instr.sliceBound x hh code).run P w = .ok l w) ∧ l ≤ hh := by
    intro hh l hl
    cases lo with
    | none =>
      cases lo' with
      | some _ => exact h1.elim
      | none => simp only [boundO, Option.some.injEq] at hl; subst hl; exact ⟨.inl ⟨rfl, rfl⟩, Nat.zero_le _⟩
    | some v =>
      cases lo' with
      | none => exact h1.elim
      | some x => exact ⟨.inr ⟨x, rfl, fun code => (inTo_sound (P := P) (w := w) code h1 hl (Nat.le_refl _)).1⟩, (inTo_sound (P := P) (w := w) .sliceB h1 hl (Nat.le_refl _)).2⟩
  unfold sliceBounds at hb
  cases mx with
  | none =>
    cases mx' with
    | some _ => exact h3.elim
    | none =>
      simp only at hb
      split at hb
      · cases hb
      · rename_i hh hq
        split at hb
        · cases hb
        · rename_i ll hl
          cases hb
          obtain ⟨e1, e2⟩ := low h hl
          cases hi with
          | none =>
            cases hi' with
            | some _ => exact h2.elim
            | none =>
              simp only [boundO, Option.some.injEq] at hq; subst hq
              refine ⟨?_, e2, fun _ _ => rfl, (fun v e => by cases e), fun _ => rfl, (fun m e => by cases e)⟩
              rcases e1 with ⟨rfl, rfl⟩ | ⟨x0, rfl, e1⟩
              · simp [Instr.sliceBounds]
              · simp [Instr.sliceBounds, e1]
          | some v =>
            cases hi' with
            | none => exact h2.elim
            | some x =>
              obtain ⟨e3, e4⟩ := inTo_sound (P := P) (w := w) (if isS = true then .sliceAcap else .sliceAlen) h2 hq htop
              refine ⟨?_, e2, (fun e => by cases e), fun _ _ => e4, fun _ => rfl, (fun m e => by cases e)⟩
              rcases e1 with ⟨rfl, rfl⟩ | ⟨x0, rfl, e1⟩
              · simp [Instr.sliceBounds, e3]
              · simp [Instr.sliceBounds, e1, e3]
  | some vm =>
    cases mx' with
    | none => exact h3.elim
    | some xm =>
      simp only at hb
      split at hb
      · cases hb
      · rename_i m hm
        split at hb
        · cases hb
        · rename_i vh
          split at hb
          · cases hb
          · rename_i hh hq
            split at hb
            · cases hb
            · rename_i ll hl
              cases hb
              cases hi' with
              | none => exact h2.elim
              | some x =>
                obtain ⟨e1, e2⟩ := low h hl
                obtain ⟨e3, e4⟩ := inTo_sound (P := P) (w := w) (if isS = true then .slice3Acap else .slice3Alen) h3 hm htop
                obtain ⟨e5, e6⟩ := inTo_sound (P := P) (w := w) .slice3B h2 hq (Nat.le_refl _)
                refine ⟨?_, e2, (fun e => by cases e), fun _ _ => Nat.le_trans e6 e4, (fun e => by cases e), fun m' e => by cases e; exact ⟨e6, e4⟩⟩
                rcases e1 with ⟨rfl, rfl⟩ | ⟨x0, rfl, e1⟩
                · simp [Instr.sliceBounds, e3, e5]
                · simp [Instr.sliceBounds, e1, e3, e5]

theorem slice_len {η : Env} {_H' : Heap} {sz b off l hh m r : Nat} (hb : η.ρ b = some r) (hlm : hh - l ≤ m - l) :
    conc η (cutAt b off sz l hh m) = some (.slice (some (if m = l then ⟨r, off, none⟩ else ⟨r, off + l * sz, none⟩)) (hh - l) (m - l)) := by
  unfold cutAt
  by_cases hml : m = l
  · have : Nat.beq m l = true := by rw [Nat.beq_eq]; exact hml
    rw [this]; simp only [cond_true]
    rw [slice_conc hb rfl hlm, if_pos hml]
  · have : Nat.beq m l = false := by cases hq : Nat.beq m l with | false => rfl | true => exact absurd (Nat.eq_of_beq_eq_true hq) hml
    rw [this]; simp only [cond_false]
    rw [slice_conc hb rfl hlm, if_neg hml]
theorem mm_top {mm : Option Nat} {hh len c : Nat} (hlc : len ≤ c) {hi mx : Option AV} (e3 : hi = none → mx = none → hh = len) (e4 : ∀ v, hi = some v → hh ≤ c) (e5 : mm = none → mx = none) (e6 : ∀ m, mm = some m → hh ≤ m ∧ m ≤ c) : hh ≤ mm.getD c := by
  cases mm with
  | some m => exact (e6 m rfl).1
  | none =>
    have := e5 rfl; subst this
    cases hi with
    | none => rw [e3 rfl rfl]; exact hlc
    | some v => exact e4 v rfl

theorem sliceOp_sound (hC : CtxOK P C) {t : TypeId} {a : AV} {x : Value} {lo hi mx : Option AV} {lo' hi' mx' : Option Value} (hx : conc η a = some x) (h1 : OptC η lo lo') (h2 : OptC η hi hi') (h3 : OptC η mx mx')
    {v : AV} {H' : Heap} (h : sliceOp C H t a lo hi mx = some (v, H')) : H' = H ∧ ∃ u, conc η v = some u ∧ (Instr.sliceAt t x lo' hi' mx').run P w = .ok u w := by
  unfold sliceOp at h
  split at h
  · rename_i s hu
    rw [conc_str hx]
    cases hs : slice1 s lo hi mx with
    | none => rw [hs] at h; cases h
    | some u =>
      rw [hs] at h; simp only [Option.map_some, Option.some.injEq, Prod.mk.injEq] at h
      obtain ⟨rfl, rfl⟩ := h
      refine ⟨rfl, ?_⟩
      unfold slice1 at hs
      split at hs
      · rename_i l hh mm hb
        cases hs
        cases mx' with
        | some _ => exact h3.elim
        | none =>
          obtain ⟨e1, e2, _, _, e3, _⟩ := bounds_sound (P := P) (w := w) (mx := none) (mx' := none) (Nat.le_refl s.length) h1 h2 trivial hb false
          refine ⟨_, rfl, ?_⟩
          have hsz : (ByteArray.mk s.toArray).size = s.length := by simp [ByteArray.size]
          have hex : (ByteArray.mk s.toArray).extract l hh = ⟨(List.drop l (List.take hh s)).toArray⟩ := by
            apply ByteArray.ext
            simp [List.extract_eq_take_drop, List.drop_take]
          simp only [Instr.sliceAt, Sem.run_bind, run_und hC hu, Result.andThen_ok, Instr.slice, hsz, Option.isSome_none, Bool.false_eq_true, if_false, Sem.run_pure, e1, hex]
      · cases hs
  · rename_i e hu
    split at h
    · rename_i te res hte hb
      cases h
      rw [conc_nils hx]
      obtain ⟨l, hh, mm⟩ := res
      obtain ⟨e1, e2, e3, e4, e5, e6⟩ := bounds_sound (P := P) (w := w) (Nat.le_refl 0) h1 h2 h3 hb true
      refine ⟨rfl, _, rfl, ?_⟩
      have hm0 : mm.getD 0 = 0 := by cases mm with | none => rfl | some m => have := (e6 m rfl).2; simpa using this
      have hh0 : hh = 0 := by have := mm_top (Nat.le_refl 0) e3 e4 e5 e6; omega
      subst hh0
      obtain rfl : l = 0 := by omega
      rw [hm0] at e1
      simp only [Instr.sliceAt, Sem.run_bind, run_und hC hu, Result.andThen_ok, Instr.slice, e1, (ti_ok hC hte).sizeOf, Sem.run_pure, Option.map_none, ite_self]
    · cases h
  · rename_i e b off len c hu
    split at h
    · rename_i te hte
      cases hs : slice2 te.size b off len c lo hi mx with
      | none => rw [hs] at h; cases h
      | some u =>
        rw [hs] at h; simp only [Option.map_some, Option.some.injEq, Prod.mk.injEq] at h
        obtain ⟨rfl, rfl⟩ := h
        refine ⟨rfl, ?_⟩
        obtain ⟨r, n, hb, ⟨hn, hle⟩, rfl⟩ := conc_slice hx
        simp only [capOf, Option.some.injEq] at hn; subst hn
        unfold slice2 at hs
        split at hs
        · rename_i l hh mm hbd
          cases hs
          obtain ⟨e1, e2, e3, e4, e5, e6⟩ := bounds_sound (P := P) (w := w) (Nat.le_refl c) h1 h2 h3 hbd true
          have htop := mm_top hle e3 e4 e5 e6
          refine ⟨_, slice_len (_H' := H) hb (by omega), ?_⟩
          simp only [Instr.sliceAt, Sem.run_bind, run_und hC hu, Result.andThen_ok, Instr.slice, e1, (ti_ok hC hte).sizeOf, Sem.run_pure, Option.map_some, add_off]
          split <;> rfl
        · cases hs
    · cases h
  · rename_i e b off len k less hu
    split at h
    · rename_i te hte
      obtain ⟨r, n, hb, ⟨hn, hle⟩, rfl⟩ := conc_slice hx
      unfold slice3 at h
      split at h
      · rename_i l hh m hbd
        cases h
        obtain ⟨e1, e2, e3, e4, e5, e6⟩ := bounds_sound (P := P) (w := w) hle h1 h2 h3 hbd true
        have := e6 m rfl
        refine ⟨rfl, _, slice_len (_H' := H) hb (by omega), ?_⟩
        simp only [Instr.sliceAt, Sem.run_bind, run_und hC hu, Result.andThen_ok, Instr.slice, e1, (ti_ok hC hte).sizeOf, Sem.run_pure, Option.map_some, add_off, Option.getD_some]
        split <;> rfl
      · rename_i l hh hbd
        obtain ⟨e1, e2, e3, e4, e5, e6⟩ := bounds_sound (P := P) (w := w) hle h1 h2 h3 hbd true
        have hh_le : hh ≤ len := by
          have hmx := e5 rfl
          cases hi with
          | none => rw [e3 rfl hmx]; exact Nat.le_refl _
          | some v => exact e4 v rfl
        have hln : l ≤ n := by omega
        have hcap' : capOf η (.var k (less + l)) = some (n - l) := by
          simp only [capOf] at hn ⊢
          split at hn
          · rename_i kk hk
            split at hn
            · rename_i hless
              cases hn
              rw [if_pos (by omega)]; congr 1; omega
            · cases hn
          · cases hn
        cases hq : (Nat.blt l len || Nat.beq l 0) with
        | false =>
          rw [hq] at h; simp only [cond_false, Option.some.injEq, Prod.mk.injEq] at h
          obtain ⟨rfl, rfl⟩ := h
          have hl : len ≤ l ∧ l ≠ 0 := by
            simp only [Bool.or_eq_false_iff] at hq
            refine ⟨?_, fun h0 => ?_⟩
            · rcases Nat.lt_or_ge l len with h | h
              · have : Nat.blt l len = true := by simpa [Nat.blt_eq] using h
                rw [hq.1] at this; cases this
              · exact h
            · subst h0; have := hq.2; simp at this
          have hll : hh = l := by omega
          subst hll
          refine ⟨rfl, .slice (some ⟨r, bif Nat.beq (n - hh) 0 then off else off + hh * te.size, none⟩) 0 (n - hh), by simp only [conc, hb, hcap'], ?_⟩
          simp only [Instr.sliceAt, Sem.run_bind, run_und hC hu, Result.andThen_ok, Instr.slice, e1, (ti_ok hC hte).sizeOf, Sem.run_pure, Option.map_some, add_off, Option.getD_none]
          by_cases hnl : n = hh
          · subst hnl; simp
          · have : Nat.beq (n - hh) 0 = false := by
              cases hz : Nat.beq (n - hh) 0 with
              | false => rfl
              | true => have := beq_eq hz; omega
            rw [this]
            simp [hnl]
        | true =>
          rw [hq] at h; simp only [cond_true, Option.some.injEq, Prod.mk.injEq] at h
          obtain ⟨rfl, rfl⟩ := h
          have hl : l < len ∨ l = 0 := by
            simp only [Bool.or_eq_true] at hq
            rcases hq with hq | hq
            · exact .inl (blt_lt hq)
            · exact .inr (beq_eq hq)
          refine ⟨rfl, _, slice_conc hb hcap' (by omega), ?_⟩
          simp only [Instr.sliceAt, Sem.run_bind, run_und hC hu, Result.andThen_ok, Instr.slice, e1, (ti_ok hC hte).sizeOf, Sem.run_pure, Option.map_some, add_off, Option.getD_none]
          by_cases hnl : n = l
          · have hl0 : l = 0 := by omega
            subst hl0; simp [hnl]
          · rw [if_neg hnl]
      · cases h
    · cases h
  · rename_i n e b off hu
    split at h
    · rename_i te hte
      cases hs : slice2 te.size b off n n lo hi mx with
      | none => rw [hs] at h; cases h
      | some u =>
        rw [hs] at h; simp only [Option.map_some, Option.some.injEq, Prod.mk.injEq] at h
        obtain ⟨rfl, rfl⟩ := h
        refine ⟨rfl, ?_⟩
        obtain ⟨r, hb, rfl⟩ := conc_ptr hx
        unfold slice2 at hs
        split at hs
        · rename_i l hh mm hbd
          cases hs
          obtain ⟨e1, e2, e3, e4, e5, e6⟩ := bounds_sound (P := P) (w := w) (Nat.le_refl n) h1 h2 h3 hbd false
          have htop := mm_top (Nat.le_refl n) e3 e4 e5 e6
          refine ⟨_, slice_len (_H' := H) hb (by omega), ?_⟩
          simp only [Instr.sliceAt, Sem.run_bind, run_und hC hu, Result.andThen_ok, Instr.sureAddr, e1, (ti_ok hC hte).sizeOf, Sem.run_pure, add_off]
          try (split <;> rfl)
        · cases hs
    · cases h
  · cases h
end Go.VmK
