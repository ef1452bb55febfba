/-
  A machine that runs the model with abstract blocks, and lemmas on it: whatever it answers of a call is what the model does (ProgOK, Base: the conditions).
-/
import Derived.Test.YthcnhdiipbpdgaaGreatDoorR4f
namespace Go.VmK
variable {P : Program} {C : Ctx} {E : List LoopInfo} {η : Env} {H : Heap} {w : World}

theorem appVar_sound (hC : CtxOK P C) (hr : HRel P η E H w) (hf : Fresh η H H.next) {at_ : Array TypeId} {sT e : TypeId} {te : TI} {type : TypeId} {x' : Value} {b off len k less c r : Nat} (hb : η.ρ b = some r) (hcap : capOf η (.var k less) = some c) (hlc : len ≤ c)
    (h0 : at_[0]? = some sT) (hu : und C sT = some (.slice e)) (hte : ti C e = some te) (hz : NoZeros P at_) (hsz : te.size ≠ 0) {n : Nat} (hn : ∀ w, (Builtin.lenOf x').run P w = .ok n w)
    {new : List AV} {xn : List Value} (hn1 : concL η new = some xn) (hnl : new.length = n * te.size) (hx : (Builtin.firstCells te.size n x').run P w = .ok xn.toArray w) (hx2 : (Builtin.firstCells te.size n x').run P w.drew = .ok xn.toArray w.drew)
    {v : AV} {H' : Heap} (h : appVar H e te b off len k less n new = some (v, H')) : SimS P E η H w (Builtin.append_ at_ type #[.slice (some ⟨r, off, none⟩) len c, x']) v H' := by
  unfold appVar at h
  split at h
  · rename_i t m e' lo hi mk hg
    cases hq : (Nat.beq k b && Nat.beq off (less * te.size) && Nat.beq e e') with
    | false => rw [hq] at h; cases h
    | true =>
      rw [hq] at h; simp only [cond_true] at h
      simp only [Bool.and_eq_true] at hq
      obtain ⟨⟨q1, q2⟩, q3⟩ := hq
      have q1 := beq_eq q1; have q2 := beq_eq q2; have q3 := beq_eq q3
      subst q1; subst q3
      cases hq2 : Nat.ble (off + (len + n) * te.size) m with
      | true =>
        rw [hq2] at h; simp only [cond_true] at h
        have hle := ble_le hq2
        obtain ⟨r', cc, fz, hb', hh, hcr⟩ := getC hr hg
        rw [hb] at hb'; cases hb'
        obtain ⟨kk, hkk, hk63, hksz⟩ := hcr.opened rfl
        have hT := ti_ok hC hte
        rw [hT.cellsOf] at hksz
        have hfit : len + n ≤ c := by
          simp only [capOf, hkk] at hcap
          split at hcap
          · cases hcap
            have h1 := hcr.le
            rw [hksz] at h1
            have h2 : (less + (len + n)) * te.size ≤ kk * te.size := by rw [Nat.add_mul, ← q2]; omega
            have h3 := Nat.le_of_mul_le_mul_right h2 (Nat.pos_of_ne_zero hsz)
            omega
          · cases hcap
        exact appIn_sound hC hr hb hcap h0 hu hte hz (hn w) hfit hn1 hx h
      | false =>
        rw [hq2] at h; simp only [cond_false] at h
        exact appOn_sound hC hr hf hg hb hcap hlc h0 hu hte hz hsz hn hn1 hnl hx hx2 h
  · cases h

theorem append_sound (hC : CtxOK P C) (hr : HRel P η E H w) (hf : Fresh η H H.next) {ats : List TypeId} {sT : TypeId} {r : List TypeId} (hat : ats = sT :: r) {type : TypeId} {s x : AV} {s' x' : Value} (hs : conc η s = some s') (hx : conc η x = some x')
    {v : AV} {H' : Heap} (h : append C H sT r.head? s x = some (v, H')) : SimS P E η H w (Builtin.append_ ats.toArray type #[s', x']) v H' := by
  unfold append at h
  split at h
  · rename_i e hu
    split at h
    · cases h
    · rename_i te hte
      split at h
      · cases h
      · rename_i n new hac
        cases hq : (noInt C r.head? && notB (Nat.beq te.size 0)) with
        | false => rw [hq] at h; cases h
        | true =>
          rw [hq] at h; simp only [cond_true] at h
          simp only [Bool.and_eq_true] at hq
          obtain ⟨q1, q2⟩ := hq
          rw [notB_eq] at q2
          have hsz : te.size ≠ 0 := fun e => by rw [e] at q2; cases q2
          have h0 : ats.toArray[0]? = some sT := by subst hat; simp
          have hz : NoZeros P ats.toArray := by
            subst hat
            cases r with
            | nil => exact .inl (by simp)
            | cons t r =>
              refine .inr ⟨t, ?_⟩
              simp only [noInt, List.head?_cons] at q1
              split at q1
              · cases q1
              · cases q1
              · rename_i u hni hu2
                exact ⟨u, by simp, und_ok hC hu2, fun k hk => hni k hk⟩
          obtain ⟨hn, xn, hn1, hnl, hrun⟩ := appCells_sound (P := P) hr hx hac
          obtain ⟨_, xn2, hn2, _, hrun2⟩ := appCells_sound (P := P) hr.drew hx hac
          rw [hn1] at hn2; cases hn2
          have hnall : ∀ w, (Builtin.lenOf x').run P w = .ok n w := fun w' => by
            cases x' <;> first | (simp only [Builtin.lenOf, Sem.run_pure] at hn ⊢; cases hn; rfl) | (simp only [Builtin.lenOf, run_stuck] at hn; cases hn)
          unfold appRow at h
          split at h
          · rw [conc_nils hs]
            cases hq : Nat.beq n 0 with
            | true =>
              rw [hq] at h; simp only [cond_true, Option.some.injEq, Prod.mk.injEq] at h
              obtain ⟨rfl, rfl⟩ := h
              have hn0 := beq_eq hq; subst hn0
              exact SimS.pure hr rfl (append_fits (base := none) hC h0 hu hte hz hn (by omega) hrun rfl)
            | false =>
              rw [hq] at h; simp only [cond_false] at h
              have hn0 : n ≠ 0 := fun e => by rw [e] at hq; cases hq
              have := appNew_sound (base := none) (sLen := 0) (sCap := 0) (type := type) (old := []) (xo := []) hC hr hf h0 hu hte hz hn (by omega) rfl hn1 (by simpa using hnl) (by simp [Builtin.firstCells]) hrun2 (v := v) (H' := H') (by simpa using h)
              exact this
          · rename_i b off len c
            obtain ⟨r', n', hb, ⟨hcap, hlc⟩, rfl⟩ := conc_slice hs
            simp only [capOf, Option.some.injEq] at hcap; subst hcap
            cases hq : Nat.ble (len + n) c with
            | true =>
              rw [hq] at h; simp only [cond_true] at h
              exact appIn_sound hC hr hb rfl h0 hu hte hz hn (ble_le hq) hn1 hrun h
            | false =>
              rw [hq] at h; simp only [cond_false] at h
              split at h
              · rename_i old hold
                obtain ⟨r2, xo, hb2, hxo, hxol, hol, _, hrunl⟩ := loadN_sound (P := P) hr.drew hold
                rw [hb] at hb2; cases hb2
                have hnle : ¬ len + n ≤ c := fun hh => by rw [Nat.ble_eq_true_of_le hh] at hq; cases hq
                exact appNew_sound (base := some ⟨r', off, none⟩) hC hr hf h0 hu hte hz hn hnle hxo hn1 (by rw [List.length_append, hol, hnl, Nat.add_mul]) (by simp only [Builtin.firstCells]; exact hrunl) hrun2 h
              · cases h
          · rename_i b off len k less
            obtain ⟨r', n', hb, ⟨hcap, hlc⟩, rfl⟩ := conc_slice hs
            cases hq : Nat.beq n 0 with
            | true =>
              rw [hq] at h; simp only [cond_true, Option.some.injEq, Prod.mk.injEq] at h
              obtain ⟨rfl, rfl⟩ := h
              have hn0 := beq_eq hq; subst hn0
              have hxn : xn = [] := by
                have := concL_length hn1; rw [hnl] at this; simpa using this
              subst hxn
              have := append_fits (P := P) (w := w) (w' := w) (type := type) (base := some ⟨r', off, none⟩) (sLen := len) (sCap := n') hC h0 hu hte hz hn (by omega) hrun (by show (storeCells _ _ 0).run P w = _; simp [storeCells])
              exact SimS.pure hr hs this
            | false =>
              rw [hq] at h; simp only [cond_false] at h
              exact appVar_sound hC hr hf hb hcap hlc h0 hu hte hz hsz hnall hn1 hnl hrun hrun2 h
          · cases h
  · cases h

/-! len, min, max, the data of a slice -/
theorem lenOp_sound (hC : CtxOK P C) (hr : HRel P η E H w) {ats : List TypeId} {t : TypeId} {r : List TypeId} (hat : ats = t :: r) {type : TypeId} {a : AV} {x : Value} (hx : conc η a = some x) {v : AV} (h : lenOp C H t a = some v) :
    ∃ u, conc η v = some u ∧ (Builtin.len_ ats.toArray type #[x]).run P w = .ok u w := by
  subst hat
  unfold lenOp at h
  split at h
  · rename_i s hu; cases h; rw [conc_str hx]
    have hsz : (ByteArray.mk s.toArray).size = s.length := by simp [ByteArray.size]
    exact ⟨_, rfl, by simp [Builtin.len_, run_und hC hu, goInt, hsz]⟩
  · rename_i i hu; cases h
    have hy := hx
    simp only [conc] at hx
    split at hx
    · rename_i s hs
      cases hx
      refine ⟨.int .i64 (Int.ofNat s.size), by simp only [conc, hs], by simp [Builtin.len_, run_und hC hu, goInt]⟩
    · cases hx
  · rename_i e hu; cases h; rw [conc_nils hx]
    exact ⟨_, rfl, by simp [Builtin.len_, run_und hC hu, goInt]⟩
  · rename_i e i hu; cases h
    simp only [conc] at hx
    split at hx
    · cases hx; exact ⟨_, rfl, by simp [Builtin.len_, run_und hC hu, goInt]⟩
    · cases hx
  · rename_i e b off len c hu; cases h
    obtain ⟨_, _, _, _, rfl⟩ := conc_slice hx
    exact ⟨_, rfl, by simp [Builtin.len_, run_und hC hu, goInt]⟩
  · rename_i k e hu; cases h; rw [conc_nilm hx]
    exact ⟨_, rfl, by simp [Builtin.len_, run_und hC hu, goInt]⟩
  · rename_i k e b hu
    split at h
    · rename_i es clock hg
      cases h
      obtain ⟨r', hb, rfl⟩ := conc_map hx
      obtain ⟨r2, ob, hb2, hob, hrel⟩ := hr.obj b _ hg
      rw [hb] at hb2; cases hb2
      cases ob with
      | map ces clock' =>
        have hl : ∀ (es : List (AV × AV × Nat)) (ces : List MapEntry), EsRel η es ces → ces.length = es.length := by
          intro es
          induction es with
          | nil => intro ces h; cases ces with | nil => rfl | cons _ _ => exact h.elim
          | cons e es ih => intro ces h; cases ces with | nil => exact h.elim | cons c ces => simp [ih ces h.2.2.2]
        have := hl es ces.toList hrel.2
        have hsz : ces.size = es.length := by simpa using this
        exact ⟨_, rfl, by simp [Builtin.len_, run_und hC hu, goInt, getObj, Sem.run, hob, hsz]⟩
      | _ => exact hrel.elim
    · cases h
  · cases h

theorem min2_sound {a b c : AV} {x y : Value} (hx : conc η a = some x) (hy : conc η b = some y) (h : min2 a b = some c) : ∃ u, conc η c = some u ∧ (Builtin.min2 x y).run P w = .ok u w := by
  unfold min2 at h
  split at h
  · cases h; rw [conc_int hx, conc_int hy]; exact ⟨_, rfl, by simp [Builtin.min2]⟩
  · cases h
theorem max2_sound {a b c : AV} {x y : Value} (hx : conc η a = some x) (hy : conc η b = some y) (h : max2 a b = some c) : ∃ u, conc η c = some u ∧ (Builtin.max2 x y).run P w = .ok u w := by
  unfold max2 at h
  split at h
  · cases h; rw [conc_int hx, conc_int hy]; exact ⟨_, rfl, by simp [Builtin.max2]⟩
  · cases h
theorem foldO_sound {f : AV → AV → Option AV} {g : Value → Value → Sem Value} (hfg : ∀ {a b c : AV} {x y : Value}, conc η a = some x → conc η b = some y → f a b = some c → ∃ u, conc η c = some u ∧ (g x y).run P w = .ok u w) :
    ∀ {l : List AV} {xs : List Value} {a c : AV} {x : Value}, conc η a = some x → concL η l = some xs → foldO f a l = some c → ∃ u, conc η c = some u ∧ (xs.foldlM g x).run P w = .ok u w
  | [], xs, a, c, x, hx, hl, h => by simp [concL] at hl; subst hl; simp [foldO] at h; subst h; exact ⟨x, hx, rfl⟩
  | b :: l, xs, a, c, x, hx, hl, h => by
    simp only [concL] at hl
    split at hl
    · rename_i y ys hy hys
      cases hl
      simp only [foldO] at h
      split at h
      · rename_i z hz
        obtain ⟨u, hu, hrun⟩ := hfg hx hy hz
        obtain ⟨u2, hu2, hrun2⟩ := foldO_sound hfg hu hys h
        exact ⟨u2, hu2, by simp [hrun, hrun2]⟩
      · cases h
    · cases hl

theorem sliceData_run (ats : Array TypeId) (type : TypeId) (a : Addr) (len c : Nat) (h : c ≠ 0) : (Builtin.unsafeSliceData_ ats type #[.slice (some a) len c]).run P w = .ok (.pointer (some a)) w := by
  show (if c ≠ 0 then pure (Value.pointer (some a)) else _ : Sem Value).run P w = _
  rw [if_pos h]; rfl
theorem sliceData_sound {ats : Array TypeId} {type : TypeId} {a : AV} {x : Value} (hx : conc η a = some x) {v : AV} (h : unsafeSliceData a = some v) : ∃ u, conc η v = some u ∧ (Builtin.unsafeSliceData_ ats type #[x]).run P w = .ok u w := by
  unfold unsafeSliceData at h
  split at h
  · cases h; rw [conc_nils hx]; exact ⟨_, rfl, rfl⟩
  · rename_i b off len c
    cases hq : Nat.beq c 0 with
    | true => rw [hq] at h; cases h
    | false =>
      rw [hq] at h; cases h
      obtain ⟨r, n, hb, ⟨hc, _⟩, rfl⟩ := conc_slice hx
      simp only [capOf, Option.some.injEq] at hc; subst hc
      have : c ≠ 0 := fun e => by rw [e] at hq; cases hq
      exact ⟨_, by simp [conc, hb], sliceData_run _ _ _ _ _ this⟩
  · rename_i b off len k less
    cases hq : Nat.beq len 0 with
    | true => rw [hq] at h; cases h
    | false =>
      rw [hq] at h; cases h
      obtain ⟨r, n, hb, ⟨hc, hle⟩, rfl⟩ := conc_slice hx
      have : len ≠ 0 := fun e => by rw [e] at hq; cases hq
      have : n ≠ 0 := by omega
      exact ⟨_, by simp [conc, hb], sliceData_run _ _ _ _ _ this⟩
  · cases h
end Go.VmK
