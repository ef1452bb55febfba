/-
  A machine that runs the model with abstract blocks, and lemmas on it: whatever it answers of a call is what the model does (ProgOK, Base: the conditions).
-/
import Derived.Test.YthcnhdiipbpdgaaGreatDoorR3
import Derived.Test.YthcnhdiipbpdgaaGreatDoorR4a
import Derived.Laws.Strings
namespace Go.VmK

/-- what an operation makes is new, and nothing else -/
structure Grow (η η' : Env) (H H' : Heap) : Prop where
  only : Only (· = H.next) η η'
  objs : ∀ id, id ≠ H.next → H.get id = none → H'.get id = none
  next : (H'.next = H.next ∧ η' = η ∧ (H.get H.next = none → H'.get H.next = none)) ∨ H'.next = H.next + 1
theorem Grow.same (η : Env) (H : Heap) : Grow η η H H := ⟨Only.refl _ _, fun _ _ h => h, .inl ⟨rfl, rfl, id⟩⟩

def SimS (P : Program) (E : List LoopInfo) (η : Env) (H : Heap) (w : World) (s : Sem Value) (v : AV) (H' : Heap) : Prop :=
  ∃ η' x w', s.run P w = .ok x w' ∧ conc η' v = some x ∧ Trans P E η H w η' H' w' ∧ Grow η η' H H'
def SimU (P : Program) (E : List LoopInfo) (η : Env) (H : Heap) (w : World) (s : Sem Unit) (H' : Heap) : Prop :=
  ∃ w', s.run P w = .ok () w' ∧ Trans P E η H w η H' w' ∧ Grow η η H H'

variable {P : Program} {C : Ctx} {E : List LoopInfo} {η : Env} {H : Heap} {w : World}

theorem SimS.pure (hr : HRel P η E H w) {s : Sem Value} {v : AV} {x : Value} (hx : conc η v = some x) (h : s.run P w = .ok x w) : SimS P E η H w s v H :=
  ⟨η, x, w, h, hx, Trans.refl hr, Grow.same _ _⟩

theorem Flat.conc {v : AV} {x : Value} (h : Flat v x) (η : Env) : conc η v = some x := by cases h <;> rfl

/-! texts -/
theorem beqL_eq : ∀ (x y : List UInt8), beqL x y = (x == y)
  | [], [] => rfl
  | [], _ :: _ => rfl
  | _ :: _, [] => rfl
  | a :: x, b :: y => by
    simp only [beqL]
    cases h : Nat.beq a.toNat b.toNat with
    | true =>
      have : a = b := UInt8.toNat_inj.1 (Nat.eq_of_beq_eq_true h)
      subst this; simp [beqL_eq x y]
    | false =>
      have : a ≠ b := fun e => by subst e; simp at h
      simp [this]
theorem ltL_eq : ∀ (x y : List UInt8), ltL x y = Op.bytesLess x y
  | _, [] => by simp [ltL, Op.bytesLess]
  | [], _ :: _ => rfl
  | a :: x, b :: y => by
    simp only [ltL, Op.bytesLess, ltL_eq x y]
    have h1 : Nat.blt a.toNat b.toNat = decide (a < b) := by
      rw [Bool.eq_iff_iff]; simp [Nat.blt_eq, UInt8.lt_iff_toNat_lt]
    have h2 : Nat.beq a.toNat b.toNat = (a == b) := by
      rw [Bool.eq_iff_iff, Nat.beq_eq]; simp [UInt8.toNat_inj]
    rw [h1, h2]
    by_cases h : a < b
    · simp [h]
    · cases hq : (a == b) <;> simp [h]
theorem bytesLess_total : ∀ (x y : List UInt8), (Op.bytesLess x y || x == y) = !Op.bytesLess y x
  | [], [] => rfl
  | [], _ :: _ => rfl
  | _ :: _, [] => rfl
  | a :: x, b :: y => by
    simp only [Op.bytesLess]
    have ih := bytesLess_total x y
    by_cases h1 : a < b
    · have h2 : ¬ b < a := by rw [UInt8.lt_iff_toNat_lt] at *; omega
      have h3 : ¬ b = a := fun e => by subst e; exact h2 h1
      simp [h1, h2, h3]
    · by_cases h2 : b < a
      · have h3 : ¬ a = b := fun e => by subst e; exact h1 h2
        simp [h1, h2, h3]
      · have : a = b := by apply UInt8.toNat_inj.1; rw [UInt8.lt_iff_toNat_lt] at h1 h2; omega
        subst this
        simp [h1]
        rw [← ih]
theorem strOp_sound {op : BinOp} {t : TypeId} {x y : List UInt8} {v : AV} (h : strOp op x y = some v) (w : World) :
    ∃ u, Flat v u ∧ (Go.binOp op t (.string ⟨x.toArray⟩) (.string ⟨y.toArray⟩)).run P w = .ok u w := by
  cases op <;> simp only [strOp] at h <;> try (cases h; done)
  · unfold strAdd at h
    cases hb : Nat.ble (x.length + y.length) 1099511627776 with
    | false => rw [hb] at h; cases h
    | true =>
      rw [hb] at h
      have h : v = .str (x ++ y) := (Option.some.inj h).symm
      subst h
      refine ⟨_, .str _, ?_⟩
      have hb := Nat.le_of_ble_eq_true hb
      have hs : ¬ (((ByteArray.mk x.toArray).size + (ByteArray.mk y.toArray).size : Nat) : Int) > IntKind.i64.max := by
        have : IntKind.i64.max = 9223372036854775807 := by decide
        rw [this]
        have e1 : (ByteArray.mk x.toArray).size = x.length := by simp [ByteArray.size]
        have e2 : (ByteArray.mk y.toArray).size = y.length := by simp [ByteArray.size]
        rw [e1, e2]; omega
      simp only [Go.binOp, Op.stringOp]
      rw [if_neg hs]
      simp
      apply ByteArray.ext
      simp
  all_goals (simp only [opB, Option.some.injEq] at h; subst h; refine ⟨_, .bool _, ?_⟩; simp [Go.binOp, Op.stringOp, beqL_eq, ltL_eq, notB_eq])
  · rw [bytesLess_total]
  · have := bytesLess_total x y
    rw [Bool.eq_iff_iff] at this ⊢
    simp at this ⊢
    grind

/-! load and store -/
theorem ti_ok (hC : CtxOK P C) {t : TypeId} {i : TI} (h : ti C t = some i) : TypeOK P t i := hC.types t i h
theorem und_ok (hC : CtxOK P C) {t : TypeId} {u : TypeDesc} (h : und C t = some u) : P.underlying t = some u := by
  unfold und at h
  cases hq : C.types.get t with
  | none => simp [hq] at h
  | some i => simp [hq] at h; rw [(hC.types t i hq).und, h]
theorem run_und (hC : CtxOK P C) {t : TypeId} {u : TypeDesc} (h : und C t = some u) (w : World) : (Go.underlying t).run P w = .ok u w := by
  simp [Go.underlying, und_ok hC h]
theorem und_of_ti {t : TypeId} {i : TI} (h : ti C t = some i) : und C t = some i.und := by unfold und; unfold ti at h; simp [h]

theorem loadVar_sound (hC : CtxOK P C) (hr : HRel P η E H w) {t : TypeId} {b off r : Nat} {v : AV} (hb : η.ρ b = some r) (h : loadVar C H t b off = some v) :
    ∃ x, (Go.loadVar t ⟨r, off, none⟩).run P w = .ok x w ∧ conc η v = some x := by
  unfold loadVar at h
  split at h
  · cases h
  · rename_i i hi
    have hT := ti_ok hC hi
    cases ha : isAggD i.und with
    | true =>
      rw [ha] at h; simp only [cond_true] at h
      cases hl : loadN H b off i.size with
      | none => rw [hl] at h; cases h
      | some l =>
        rw [hl] at h; simp at h; subst h
        obtain ⟨r', xs, hb', hx, _, _, _, hrun⟩ := loadN_sound (P := P) hr hl
        rw [hb] at hb'; cases hb'
        exact ⟨.agg xs.toArray, by simp [Go.loadVar, hT.isAgg, ha, hT.sizeOf, hrun], by simp [conc, hx]⟩
    | false =>
      rw [ha] at h; simp only [cond_false] at h
      obtain ⟨r', x, hb', hcell, hx⟩ := load1_sound (P := P) hr h
      rw [hb] at hb'; cases hb'
      exact ⟨x, by simp [Go.loadVar, hT.isAgg, ha, hcell], hx⟩

theorem doLoad_sound (hC : CtxOK P C) (hr : HRel P η E H w) {t : TypeId} {a : AV} {x : Value} {v : AV} {H' : Heap} (hx : conc η a = some x) (h : doLoad C H t a = some (.val v H')) :
    SimS P E η H w (Instr.loadAt t x) v H' := by
  unfold doLoad at h
  split at h
  · rename_i b off
    cases hl : loadVar C H t b off with
    | none => rw [hl] at h; cases h
    | some u =>
      rw [hl] at h; simp only [valO] at h; cases h
      simp only [conc] at hx
      cases hb : η.ρ b with
      | none => simp [hb] at hx
      | some r =>
        simp [hb] at hx; subst hx
        obtain ⟨y, hrun, hy⟩ := loadVar_sound hC hr hb hl
        exact SimS.pure hr hy (by simp [Instr.loadAt, Instr.sureAddr, hrun])
  · cases h

theorem doStore_sound (hC : CtxOK P C) (hr : HRel P η E H w) {t : TypeId} {a v : AV} {x y : Value} {H' : Heap} (hx : conc η a = some x) (hy : conc η v = some y) (h : doStore C H t a v = some (.skip H')) :
    SimU P E η H w (Instr.storeAt t x y) H' := by
  unfold doStore at h
  split at h
  · rename_i b off
    cases hl : storeVar C H t b off v with
    | none => rw [hl] at h; cases h
    | some u =>
      rw [hl] at h; simp only [skipO] at h; cases h
      unfold storeVar at hl
      split at hl
      · cases hl
      · rename_i i hi
        have hT := ti_ok hC hi
        cases hs : Nat.beq v.cells.length i.size with
        | false => rw [hs] at hl; cases hl
        | true =>
          rw [hs] at hl; simp only [cond_true] at hl
          have hs := beq_eq hs
          have hsym : ∀ j, v ≠ .sym j := fun j e => by
            subst e
            unfold storeL at hl
            split at hl
            · simp [AV.cells, AV.oneCell] at hl
            · cases hl
          have hcells := cells_conc hsym hy
          obtain ⟨r, w', hb, hrun, htr, hnext⟩ := storeL_sound (P := P) hr hl hcells
          simp only [conc, hb, Option.some.injEq] at hx; subst hx
          have hsz : y.cells.size = i.size := by rw [← hs, ← concL_length hcells]; simp
          refine ⟨w', ?_, htr, ⟨Only.refl _ _, ?_, .inl ⟨hnext, rfl, ?_⟩⟩⟩
          · simp [Instr.storeAt, Instr.sureAddr, Go.storeVar, hT.sizeOf, hsz, hrun]
          · intro id _ hn
            unfold storeL at hl
            split at hl
            · rename_i t' n e o lo hi mk hg
              cases hq : (Nat.ble (off + v.cells.length) n && (Nat.ble hi off || Nat.ble (off + v.cells.length) lo) && v.cells.all AV.oneCell) with
              | false => rw [hq] at hl; cases hl
              | true =>
                rw [hq] at hl; simp only [cond_true, Option.some.injEq] at hl; subst hl
                rw [Heap.get_put, if_neg]; exact hn
                intro e; subst e; rw [hg] at hn; cases hn
            · cases hl
          · intro hn
            unfold storeL at hl
            split at hl
            · rename_i t' n e o lo hi mk hg
              cases hq : (Nat.ble (off + v.cells.length) n && (Nat.ble hi off || Nat.ble (off + v.cells.length) lo) && v.cells.all AV.oneCell) with
              | false => rw [hq] at hl; cases hl
              | true =>
                rw [hq] at hl; simp only [cond_true, Option.some.injEq] at hl; subst hl
                rw [Heap.get_put, if_neg]; exact hn
                intro e; rw [e, hg] at hn; cases hn
            · cases hl
  · cases h

/-! what is made -/
theorem Grow.new {o : AObj} {η' : Env} {H' : Heap} (ho : Only (· = H.next) η η') (hH : ∀ j, H'.get j = if j = H.next then some o else H.get j) (hn : H'.next = H.next + 1) : Grow η η' H H' :=
  ⟨ho, fun id h1 h2 => by rw [hH, if_neg h1]; exact h2, .inr hn⟩

theorem newCells_sound (hr : HRel P η E H w) (hf : Fresh η H H.next) (e : TypeId) {vs : List AV} {xs : List Value} (hx : concL η vs = some xs) :
    Trans P E η H w (η.bind H.next w.heap.size) (newCells H e vs) (w.alloc (.cells xs.toArray e)) ∧ Grow η (η.bind H.next w.heap.size) H (newCells H e vs) := by
  have hl := concL_length hx
  refine ⟨Trans.new hr hf (.cells (Tr.ofL vs) vs.length e false 0 0 false) (.cells xs.toArray e) (Env.le_bind hf.ρ) (fun i => rfl) ?_ (fun j => Heap.get_new _ _ _) rfl rfl rfl, Grow.new (Only.bind _ _ _) (fun j => Heap.get_new _ _ _) rfl⟩
  exact ⟨rfl, fun i v hv _ => by
      rw [Tr.get_ofL] at hv
      obtain ⟨x, hx', hc⟩ := concL_get hx i v hv
      exact ⟨x, by simpa using hx', conc_mono (Env.le_bind hf.ρ) _ _ hc⟩,
    by simp [hl], fun _ => by simp [hl], (fun h => by cases h), Nat.le_refl _, (fun off h1 h2 => by simp at h2), (fun h => by cases h)⟩
theorem ptr_new (η : Env) (id b : Nat) : conc (η.bind id b) (.ptr id 0) = some (.pointer (some ⟨b, 0, none⟩)) := by simp [conc, Env.bind]

theorem doBox_sound (hr : HRel P η E H w) (hf : Fresh η H H.next) {t : TypeId} {a : AV} {x : Value} {v : AV} {H' : Heap} (hx : conc η a = some x) (h : doBox H t a = some (.val v H')) :
    SimS P E η H w (Instr.box t x) v H' := by
  have hs : ∀ i, a ≠ .sym i := fun i e => by subst e; simp [doBox] at h
  have h : some (Out.val (.ptr H.next 0) (newCells H t a.cells)) = some (.val v H') := by
    rw [← h]; cases a <;> first | rfl | exact absurd rfl (hs _)
  cases h
  obtain ⟨h1, h2⟩ := newCells_sound (P := P) hr hf t (cells_conc hs hx)
  exact ⟨_, _, _, by simp [Instr.box, newVar, newRow]; rfl, ptr_new _ _ _, by simpa using h1, h2⟩
theorem doAlloc_sound (hC : CtxOK P C) (hr : HRel P η E H w) (hf : Fresh η H H.next) {t : TypeId} {v : AV} {H' : Heap} (h : doAlloc C H t = some (.val v H')) :
    SimS P E η H w (Instr.alloc t true (.tuple #[])) v H' := by
  unfold doAlloc at h
  split at h
  · rename_i i hi
    split at h
    · rename_i z hz
      cases h
      obtain ⟨zv, hrun, hc⟩ := (ti_ok hC hi).zeroValue hz w
      have hs : ∀ j, z ≠ .sym j := fun j e => by
        subst e
        have h1 := hc ⟨fun _ => none, fun _ => none, fun _ => none⟩
        simp [conc] at h1
      obtain ⟨h1, h2⟩ := newCells_sound (P := P) hr hf t (cells_conc hs (hc η))
      exact ⟨_, _, _, by simp [Instr.alloc, hrun, newVar, newRow]; rfl, ptr_new _ _ _, by simpa using h1, h2⟩
    · cases h
  · cases h
end Go.VmK
