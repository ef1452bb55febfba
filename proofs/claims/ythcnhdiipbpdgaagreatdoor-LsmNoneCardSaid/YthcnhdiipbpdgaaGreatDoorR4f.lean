/-
  A machine that runs the model with abstract blocks, and lemmas on it: whatever it answers of a call is what the model does (ProgOK, Base: the conditions).
-/
import Derived.Test.YthcnhdiipbpdgaaGreatDoorR4e
namespace Go.VmK
variable {P : Program} {C : Ctx} {E : List LoopInfo} {η : Env} {H : Heap} {w : World}

theorem storeL_objs {H' : Heap} {b off : Nat} {vs : List AV} (h : storeL H b off vs = some H') : ∀ id, H.get id = none → H'.get id = none := by
  unfold storeL at h
  split at h
  · rename_i t n e o lo hi mk hg
    cases hq : (Nat.ble (off + vs.length) n && (Nat.ble hi off || Nat.ble (off + vs.length) lo) && vs.all AV.oneCell) with
    | false => rw [hq] at h; cases h
    | true =>
      rw [hq] at h; simp only [cond_true, Option.some.injEq] at h; subst h
      intro id hn
      rw [Heap.get_put, if_neg]; exact hn
      intro e; subst e; rw [hg] at hn; cases hn
  · cases h
theorem Grow.of_store {H' : Heap} {b off : Nat} {vs : List AV} (h : storeL H b off vs = some H') (hn : H'.next = H.next) : Grow η η H H' :=
  ⟨Only.refl _ _, fun id _ hi => storeL_objs h id hi, .inl ⟨hn, rfl, storeL_objs h H.next⟩⟩

theorem zero_size {e : TypeId} {te : TI} (hT : TypeOK P e te) {z : AV} (hz : te.zero = some z) (hl : z.cells.length = te.size) (w : World) : ∃ v, (Go.zeroValue e).run P w = .ok v w ∧ v.cells.size = te.size := by
  obtain ⟨v, hv, hc⟩ := hT.zeroValue hz w
  refine ⟨v, hv, ?_⟩
  have hs : ∀ j, z ≠ .sym j := fun j e => by
    subst e
    have h1 := hc ⟨fun _ => none, fun _ => none, fun _ => none⟩
    simp [conc] at h1
  have := concL_length (cells_conc hs (hc ⟨fun _ => none, fun _ => none, fun _ => none⟩))
  simpa [hl] using this

theorem appNew_sound (hC : CtxOK P C) (hr : HRel P η E H w) (hf : Fresh η H H.next) {at_ : Array TypeId} {sT e : TypeId} {te : TI} {type : TypeId} {x' : Value} {sLen sCap : Nat} {base : Option Addr}
    (h0 : at_[0]? = some sT) (hu : und C sT = some (.slice e)) (hte : ti C e = some te) (hz : NoZeros P at_) {n : Nat} (hn : (Builtin.lenOf x').run P w = .ok n w)
    (hle : ¬ sLen + n ≤ sCap) {old new : List AV} {xo xn : List Value} (ho1 : concL η old = some xo) (hn1 : concL η new = some xn) (hlen : (old ++ new).length = (sLen + n) * te.size)
    (ho : (Builtin.firstCells te.size sLen (.slice base sLen sCap)).run P w.drew = .ok xo.toArray w.drew) (hx : (Builtin.firstCells te.size n x').run P w.drew = .ok xn.toArray w.drew)
    {v : AV} {H' : Heap} (h : appNew H e te (sLen + n) (old ++ new) = some (v, H')) : SimS P E η H w (Builtin.append_ at_ type #[.slice base sLen sCap, x']) v H' := by
  unfold appNew at h
  split at h
  · cases h
  · rename_i z hzz
    cases hq : (Nat.beq z.cells.length te.size && roomOk (sLen + n) te.bytes && Nat.ble (sLen + n) 1099511627776) with
    | false => rw [hq] at h; cases h
    | true =>
      rw [hq] at h; simp only [cond_true, Option.some.injEq] at h
      simp only [Bool.and_eq_true] at hq
      obtain ⟨⟨q1, q2⟩, q3⟩ := hq
      have q1 := beq_eq q1
      have q3 := ble_le q3
      have hT := ti_ok hC hte
      obtain ⟨zv, hzv, hzs⟩ := zero_size hT hzz q1 w.drew
      obtain ⟨k, k1, k2, hrun⟩ := append_grows (type := type) hC h0 hu hte hz hn hle q2 (by omega) ho hx hzv
      have hcat := concL_append ho1 hn1
      obtain ⟨t1, t2, t3⟩ := newOpen_sound (P := P) hr hf e hT hcat hlen k1 k2 hzs
      have e1 : (newOpen H e (old ++ new) (sLen + n)).1 = v := by rw [h]
      have e2 : (newOpen H e (old ++ new) (sLen + n)).2 = H' := by rw [h]
      rw [e2] at t1 t2
      rw [e1] at t3
      refine ⟨_, _, _, hrun, t3, ?_, t2⟩
      have : (xo ++ xn).toArray = xo.toArray ++ xn.toArray := by simp
      rw [this] at t1
      exact t1

theorem appIn_sound (hC : CtxOK P C) (hr : HRel P η E H w) {at_ : Array TypeId} {sT e : TypeId} {te : TI} {type : TypeId} {x' : Value} {b off len c r : Nat} {cap : Cap} (hb : η.ρ b = some r) (hcap : capOf η cap = some c)
    (h0 : at_[0]? = some sT) (hu : und C sT = some (.slice e)) (hte : ti C e = some te) (hz : NoZeros P at_) {n : Nat} (hn : (Builtin.lenOf x').run P w = .ok n w)
    (hle : len + n ≤ c) {new : List AV} {xn : List Value} (hn1 : concL η new = some xn) (hx : (Builtin.firstCells te.size n x').run P w = .ok xn.toArray w)
    {v : AV} {H' : Heap} (h : appIn H b off len n te.size cap new = some (v, H')) : SimS P E η H w (Builtin.append_ at_ type #[.slice (some ⟨r, off, none⟩) len c, x']) v H' := by
  unfold appIn at h
  split at h
  · cases h
  · rename_i H1 hs
    simp only [Option.some.injEq, Prod.mk.injEq] at h
    obtain ⟨rfl, rfl⟩ := h
    obtain ⟨r', w', hb', hrun, htr, hnext⟩ := storeL_sound (P := P) hr hs hn1
    rw [hb] at hb'; cases hb'
    refine ⟨η, _, w', append_fits (base := some ⟨r, off, none⟩) hC h0 hu hte hz hn hle hx (by show (storeCells (Addr.add ⟨r, off, none⟩ (len * te.size)) _ 0).run P w = _; rw [add_off]; simpa using hrun), slice_conc hb hcap hle, htr, Grow.of_store hs hnext⟩

/-- an object is handed on: it lies under a new number, and the elder number is forgotten -/
theorem Trans.pass {H' : Heap} {w' : World} (hr : HRel P η E H w) (hf : Fresh η H H.next) {b r k : Nat} {o : AObj} (hg : H.get b = some o) (hb : η.ρ b = some r) (o' : AObj) (ob' : Obj)
    (ho : ORel P (η.bindK H.next r k) E H.next o' ob') (hH : ∀ j, H'.get j = if j = H.next then some o' else if j = b then none else H.get j) (hw : w' = World.putBlock w r ob') :
    Trans P E η H w (η.bindK H.next r k) H' w' := by
  subst hw
  have hle : η.le (η.bindK H.next r k) := Env.le_bindK hf.ρ hf.κ
  obtain ⟨r', ob, hb', hob, _⟩ := hr.obj b o hg
  rw [hb] at hb'; cases hb'
  have hlt := lt_of_get hob
  have hρ : ∀ j, (η.bindK H.next r k).ρ j = if j = H.next then some r else η.ρ j := fun j => rfl
  refine ⟨hle, ⟨?_, ?_⟩, ?_, ?_, ⟨rfl, rfl, by simp [World.putBlock]⟩⟩
  · intro j oj hj
    rw [hH] at hj
    by_cases h1 : j = H.next
    · subst h1; simp at hj; subst hj
      exact ⟨r, ob', by rw [hρ]; simp, by rw [putBlock_get _ _ _ _ hlt]; simp, ho⟩
    · rw [if_neg h1] at hj
      by_cases h2 : j = b
      · rw [if_pos h2] at hj; cases hj
      · rw [if_neg h2] at hj
        obtain ⟨c, oc, hc, hoc, hrel⟩ := hr.obj j oj hj
        have hne : c ≠ r := fun he => h2 (hr.inj _ _ _ _ _ hj hg (he ▸ hc) hb)
        exact ⟨c, oc, by rw [hρ, if_neg h1]; exact hc, by rw [putBlock_get _ _ _ _ hlt, if_neg hne]; exact hoc, ORel_mono hle hrel⟩
  · intro i j oi oj c hi hj hci hcj
    rw [hH] at hi hj; rw [hρ] at hci hcj
    have other : ∀ i oi c, i ≠ H.next → (if i = b then none else H.get i) = some oi → η.ρ i = some c → c ≠ r := fun i oi c _ hi hci he => by
      by_cases h2 : i = b
      · rw [if_pos h2] at hi; cases hi
      · rw [if_neg h2] at hi; exact h2 (hr.inj _ _ _ _ _ hi hg (he ▸ hci) hb)
    by_cases h1 : i = H.next <;> by_cases h2 : j = H.next
    · rw [h1, h2]
    · rw [if_neg h2] at hj hcj; rw [if_pos h1] at hci; cases hci; exact absurd rfl (other j oj _ h2 hj hcj)
    · rw [if_neg h1] at hi hci; rw [if_pos h2] at hcj; cases hcj; exact absurd rfl (other i oi _ h1 hi hci)
    · rw [if_neg h1] at hi hci; rw [if_neg h2] at hj hcj
      by_cases h3 : i = b
      · rw [if_pos h3] at hi; cases hi
      · by_cases h4 : j = b
        · rw [if_pos h4] at hj; cases hj
        · rw [if_neg h3] at hi; rw [if_neg h4] at hj; exact hr.inj _ _ _ _ _ hi hj hci hcj
  · intro c _ hn
    rw [putBlock_get _ _ _ _ hlt, if_neg]
    intro he; exact hn ⟨b, o, hg, he ▸ hb⟩
  · rintro c _ ⟨j, oj, hj, hc⟩
    rw [hH] at hj; rw [hρ] at hc
    by_cases h1 : j = H.next
    · rw [if_pos h1] at hc; cases hc; exact ⟨b, o, hg, hb⟩
    · rw [if_neg h1] at hj hc
      by_cases h2 : j = b
      · rw [if_pos h2] at hj; cases hj
      · rw [if_neg h2] at hj; exact ⟨j, oj, hj, hc⟩

theorem get_handOn (H : Heap) (b m : Nat) (t : Tr AV) (e : TypeId) (lo hi : Nat) (mk : Bool) (len : Nat) (new : List AV) (j : Nat) :
    (handOn H b m t e lo hi mk len new).2.get j = if j = H.next then some (.cells (t.setL m new) (m + new.length) e true lo hi mk) else if j = b then none else H.get j := by
  show ((H.objs.del b).set H.next _).get j = _
  rw [Tr.get_set, Tr.get_del]; rfl
theorem Grow.handOn {k r b m : Nat} {t : Tr AV} {e : TypeId} {lo hi : Nat} {mk : Bool} {len : Nat} {new : List AV} : Grow η (η.bindK H.next r k) H (handOn H b m t e lo hi mk len new).2 :=
  ⟨Only.bindK _ _ _ _, fun id h1 h2 => by rw [get_handOn, if_neg h1]; by_cases h : id = b; · rw [if_pos h]
                                          · rw [if_neg h]; exact h2, .inr rfl⟩

theorem appOn_sound (hC : CtxOK P C) (hr : HRel P η E H w) (hf : Fresh η H H.next) {at_ : Array TypeId} {sT e : TypeId} {te : TI} {type : TypeId} {x' : Value} {b off len c r less m lo hi : Nat} {t : Tr AV} {mk : Bool}
    (hg : H.get b = some (.cells t m e true lo hi mk)) (hb : η.ρ b = some r) (hcap : capOf η (.var b less) = some c) (_hlc : len ≤ c)
    (h0 : at_[0]? = some sT) (hu : und C sT = some (.slice e)) (hte : ti C e = some te) (hz : NoZeros P at_) (_hsz : te.size ≠ 0) {n : Nat} (hn : ∀ w, (Builtin.lenOf x').run P w = .ok n w)
    {new : List AV} {xn : List Value} (hn1 : concL η new = some xn) (hnl : new.length = n * te.size) (hx : (Builtin.firstCells te.size n x').run P w = .ok xn.toArray w) (hx2 : (Builtin.firstCells te.size n x').run P w.drew = .ok xn.toArray w.drew)
    {v : AV} {H' : Heap} (h : appOn H b m t e te lo hi mk off len less n new = some (v, H')) : SimS P E η H w (Builtin.append_ at_ type #[.slice (some ⟨r, off, none⟩) len c, x']) v H' := by
  unfold appOn at h
  split at h
  · rename_i z old hzz hold
    cases hq : (notB mk && Nat.beq off 0 && Nat.beq less 0 && Nat.beq (len * te.size) m && Nat.ble hi m && new.all AV.oneCell && Nat.beq z.cells.length te.size && roomOk (len + n) te.bytes && Nat.ble (len + n) 1099511627776) with
    | false => rw [hq] at h; cases h
    | true =>
      rw [hq] at h; simp only [cond_true, Option.some.injEq] at h
      simp only [Bool.and_eq_true] at hq
      obtain ⟨⟨⟨⟨⟨⟨⟨⟨q0, q1⟩, q2⟩, q3⟩, q4⟩, q5⟩, q6⟩, q7⟩, q8⟩ := hq
      rw [notB_eq] at q0
      have q1 := beq_eq q1; have q2 := beq_eq q2; have q3 := beq_eq q3; have q4 := ble_le q4; have q6 := beq_eq q6; have q8 := ble_le q8
      subst q1; subst q2
      have e1 : (handOn H b m t e lo hi mk (len + n) new).1 = v := by rw [h]
      have e2 : (handOn H b m t e lo hi mk (len + n) new).2 = H' := by rw [h]
      obtain ⟨r', cc, fz, hb', hh, hcr⟩ := getC hr hg
      rw [hb] at hb'; cases hb'
      obtain ⟨kk, hkk, hk63, hksz⟩ := hcr.opened rfl
      have hT := ti_ok hC hte
      rw [hT.cellsOf] at hksz
      have hc : c = kk := by simp only [capOf, hkk] at hcap; simpa using hcap.symm
      subst hc
      have hxl := concL_length hn1
      obtain ⟨hol, hok⟩ := Tr.getL_some _ _ _ _ hold
      -- the elder cells
      have hloadN : loadN H b 0 m = some old := by
        unfold loadN; rw [hg]; simp only []
        have : Nat.ble (0 + m) m = true := Nat.ble_eq_true_of_le (by omega)
        rw [this]; exact hold
      by_cases hfit : len + n ≤ c
      · -- in place
        have hmn : m + xn.length ≤ cc.size := by
          rw [hksz, hxl, hnl, ← q3, ← Nat.add_mul]; exact Nat.mul_le_mul_right _ hfit
        have hrun := run_storeCells_go (P := P) r m e fz xn 0 w cc hh (by omega) (allOne_conc hn1 q5) (fun j hj hin => by
          rcases hcr.cover (m + j) (by omega) (by omega) with ⟨_, p⟩ | ⟨_, p⟩ <;> omega)
        have hput : (if xn = [] then w else World.putBlock w r (.cells (writeL cc (m + 0) xn) e fz)) = World.putBlock w r (.cells (writeL cc m xn) e fz) := by
          by_cases hnil : xn = []
          · subst hnil; simp only [if_true, writeL]
            unfold World.putBlock
            have : w.heap.setIfInBounds r (.cells cc e fz) = w.heap := by
              apply Array.ext_getElem?
              intro j; rw [Array.getElem?_setIfInBounds]
              by_cases hj : r = j
              · subst hj; rw [if_pos rfl, if_pos (lt_of_get hh), hh]
              · simp [hj]
            rw [this]
          · rw [if_neg hnil]; rfl
        rw [hput] at hrun
        refine ⟨η.bindK H.next r c, _, _, append_fits (base := some ⟨r, 0, none⟩) hC h0 hu hte hz (hn w) hfit hx (by show (storeCells (Addr.add ⟨r, 0, none⟩ (len * te.size)) _ 0).run P w = _; rw [add_off]; simpa [q3] using hrun), ?_, ?_, ?_⟩
        · rw [← e1]; exact slice_conc (by simp [Env.bindK]) (by simp [capOf, Env.bindK]) hfit
        · rw [← e2]
          refine Trans.pass hr hf hg hb (.cells (t.setL m new) (m + new.length) e true lo hi mk) (.cells (writeL cc m xn) e fz) ?_ (fun j => get_handOn _ _ _ _ _ _ _ _ _ _ j) rfl
          have hws := writeL_size xn cc m
          exact ⟨rfl, fun i v' hv hi' => by
              rw [Tr.get_setL] at hv
              rw [writeL_get xn cc m hmn]
              by_cases hin : m ≤ i ∧ i < m + new.length
              · rw [if_pos hin] at hv; rw [if_pos (by omega)]
                obtain ⟨y, hy, hcy⟩ := concL_get hn1 _ _ hv
                exact ⟨y, hy, conc_mono (Env.le_bindK hf.ρ hf.κ) _ _ hcy⟩
              · rw [if_neg hin] at hv; rw [if_neg (by omega)]
                obtain ⟨y, hy, hcy⟩ := hcr.get i v' hv (by omega)
                exact ⟨y, hy, conc_mono (Env.le_bindK hf.ρ hf.κ) _ _ hcy⟩,
            by rw [hws]; omega, (fun h => by cases h), fun _ => ⟨c, by simp [Env.bindK], hk63, by rw [hws, hksz, hT.cellsOf]⟩, hcr.fzle, by rw [hws]; exact hcr.cover, by rw [hws]; exact hcr.small⟩
        · rw [← e2]; exact Grow.handOn
      · -- laid anew
        obtain ⟨r', xo, hb', hxo, hxol, _, hcell, hrunl⟩ := loadN_sound (P := P) hr.drew hloadN
        rw [hb] at hb'; cases hb'
        obtain ⟨zv, hzv, hzs⟩ := zero_size hT hzz q6 w.drew
        have ho : (Builtin.firstCells te.size len (.slice (some ⟨r, 0, none⟩) len c)).run P w.drew = .ok xo.toArray w.drew := by
          simp only [Builtin.firstCells]; rw [q3]; exact hrunl
        obtain ⟨k, k1, k2, hrun⟩ := append_grows (type := type) hC h0 hu hte hz (hn w) hfit q7 (by omega) ho hx2 hzv
        have hcat := concL_append hxo hn1
        have hvl : (old ++ new).length = (len + n) * te.size := by rw [List.length_append, hol, hnl, ← q3, Nat.add_mul]
        obtain ⟨t1, t2, t3⟩ := newOpen_sound (P := P) hr hf e hT hcat hvl k1 k2 hzs
        have harr : (xo ++ xn).toArray = xo.toArray ++ xn.toArray := by simp
        rw [harr] at t1
        refine ⟨η.bindK H.next w.heap.size k, _, _, hrun, ?_, ?_, ?_⟩
        · rw [← e1]; exact slice_conc (by simp [Env.bindK]) (by simp [capOf, Env.bindK]) k1
        · rw [← e2]
          -- the new block, read as the row handed on
          have base := t1
          refine ⟨t1.le, ⟨?_, ?_⟩, t1.frame, ?_, t1.keeps⟩
          · intro j oj hj
            rw [get_handOn] at hj
            by_cases h1 : j = H.next
            · rw [if_pos h1] at hj; cases hj; subst h1
              obtain ⟨r2, ob2, hr2, hob2, hrel2⟩ := t1.rel.obj H.next _ (by rw [show (newOpen H e (old ++ new) (len + n)).2 = H.new _ from rfl, Heap.get_new, if_pos rfl])
              refine ⟨r2, ob2, hr2, hob2, ?_⟩
              cases ob2 with
              | cells c2 e2' fz2 =>
                have hrel2 : CRel P _ _ _ _ _ _ _ _ _ _ _ _ := hrel2
                have hfz0 : ∀ off, ¬ (fz2.1 ≤ off ∧ off < fz2.2) := fun off hh => by
                  rcases hrel2.cover off hh.1 hh.2 with ⟨_, p⟩ | ⟨p, _⟩
                  · omega
                  · cases p
                refine ⟨hrel2.elem, fun i v' hv hi' => ?_, ?_, (fun h => by cases h), hrel2.opened, hrel2.fzle, (fun off p q => absurd ⟨p, q⟩ (hfz0 off)), ?_⟩
                · rw [Tr.get_setL] at hv
                  have hin2 : (Tr.ofL (old ++ new)).get i = some v' := by
                    rw [Tr.get_ofL]
                    by_cases hin : m ≤ i ∧ i < m + new.length
                    · rw [if_pos hin] at hv; rw [List.getElem?_append_right (by omega), hol]; exact hv
                    · rw [if_neg hin] at hv
                      have him : i < m := by omega
                      rw [List.getElem?_append_left (by omega)]
                      rw [← hok i him, Nat.zero_add]; exact hv
                  exact hrel2.get i v' hin2 (by rw [List.length_append, hol]; exact hi')
                · have := hrel2.le; rw [List.length_append, hol] at this; exact this
                · intro hmk
                  rw [hmk] at q0; cases q0
              | _ => exact hrel2.elim
            · rw [if_neg h1] at hj
              by_cases h2 : j = b
              · rw [if_pos h2] at hj; cases hj
              · rw [if_neg h2] at hj
                exact t1.rel.obj j oj (by rw [show (newOpen H e (old ++ new) (len + n)).2 = H.new _ from rfl, Heap.get_new, if_neg h1]; exact hj)
          · intro i j oi oj c' hi' hj' hci hcj
            have up : ∀ i oi, (handOn H b m t e lo hi mk (len + n) new).2.get i = some oi → ∃ o2, (newOpen H e (old ++ new) (len + n)).2.get i = some o2 := fun i oi hi => by
              rw [get_handOn] at hi
              rw [show (newOpen H e (old ++ new) (len + n)).2 = H.new _ from rfl, Heap.get_new]
              by_cases h1 : i = H.next
              · rw [if_pos h1]; exact ⟨_, rfl⟩
              · rw [if_neg h1] at hi ⊢
                by_cases h2 : i = b
                · rw [if_pos h2] at hi; cases hi
                · rw [if_neg h2] at hi; exact ⟨_, hi⟩
            obtain ⟨_, u1⟩ := up i oi hi'
            obtain ⟨_, u2⟩ := up j oj hj'
            exact t1.rel.inj _ _ _ _ _ u1 u2 hci hcj
          · rintro c' hc' ⟨j, oj, hj, hcj⟩
            rw [get_handOn] at hj
            refine t1.shr c' hc' ?_
            by_cases h1 : j = H.next
            · exact ⟨j, _, by rw [show (newOpen H e (old ++ new) (len + n)).2 = H.new _ from rfl, Heap.get_new, if_pos h1], hcj⟩
            · rw [if_neg h1] at hj
              by_cases h2 : j = b
              · rw [if_pos h2] at hj; cases hj
              · rw [if_neg h2] at hj; exact ⟨j, oj, by rw [show (newOpen H e (old ++ new) (len + n)).2 = H.new _ from rfl, Heap.get_new, if_neg h1]; exact hj, hcj⟩
        · rw [← e2]; exact Grow.handOn
  · cases h
end Go.VmK
