/-
  A machine that runs the model with abstract blocks, and lemmas on it: whatever it answers of a call is what the model does (ProgOK, Base: the conditions).
-/
import Derived.Test.YthcnhdiipbpdgaaGreatDoorR2
import Derived.DeepKeys3
import Derived.Control
import Derived.Calls
namespace Go.VmK

/-! values that bear no block -/
theorem mapO_some {α β : Type} {f : α → Option β} : ∀ {l : List α} {r : List β}, mapO f l = some r → r.length = l.length ∧ ∀ (i : Nat) (x : α), l[i]? = some x → ∃ y, r[i]? = some y ∧ f x = some y
  | [], r, h => by simp [mapO] at h; subst h; simp
  | x :: xs, r, h => by
    simp only [mapO] at h
    cases h1 : f x with
    | none => simp [h1] at h
    | some y =>
      cases h2 : mapO f xs with
      | none => simp [h1, h2] at h
      | some ys =>
        simp [h1, h2] at h; subst h
        obtain ⟨hl, hg⟩ := mapO_some h2
        refine ⟨by simp [hl], fun i z hz => ?_⟩
        cases i with
        | zero => simp at hz; subst hz; exact ⟨y, by simp, h1⟩
        | succ i => rw [List.getElem?_cons_succ] at hz; obtain ⟨u, hu, hf⟩ := hg i z hz; exact ⟨u, by rw [List.getElem?_cons_succ]; exact hu, hf⟩

/-- what is laid of a plain value is that value -/
theorem ofVal_conc (η : Env) : ∀ (k : Nat) (v : Value) (a : AV), ofVal k v = some a → conc η a = some v
  | 0, _, _, h => by simp [ofVal] at h
  | k + 1, v, a, h => by
    have L : ∀ (l : List Value) (r : List AV), mapO (ofVal k) l = some r → concL η r = some l := fun l r hr => by
      obtain ⟨hl, hg⟩ := mapO_some hr
      refine concL_of_get hl.symm fun i y hy => ?_
      have hi : i < l.length := by rw [← hl]; exact (List.getElem?_eq_some_iff.1 hy).1
      obtain ⟨y', hy', hf⟩ := hg i l[i] (List.getElem?_eq_getElem hi)
      rw [hy] at hy'; cases hy'
      exact ⟨l[i], List.getElem?_eq_getElem hi, ofVal_conc η k _ _ hf⟩
    cases v with
    | bool b => simp [ofVal] at h; subst h; rfl
    | int k n => simp [ofVal] at h; subst h; rfl
    | float _ _ => simp [ofVal] at h
    | complex _ _ _ => simp [ofVal] at h
    | string s => simp [ofVal] at h; subst h; simp [conc]
    | pointer p => cases p with
      | none => simp [ofVal] at h; subst h; rfl
      | some _ => simp [ofVal] at h
    | slice p len cap => cases p with
      | none =>
        simp only [ofVal] at h
        by_cases hz : len + cap = 0
        · have h1 : len = 0 := by omega
          have h2 : cap = 0 := by omega
          subst h1; subst h2
          simp at h; subst h; rfl
        · have : Nat.beq (len + cap) 0 = false := by
            cases hq : Nat.beq (len + cap) 0 with
            | false => rfl
            | true => exact absurd (Nat.eq_of_beq_eq_true hq) hz
          simp [this] at h
      | some _ => simp [ofVal] at h
    | map r => cases r with
      | none => simp [ofVal] at h; subst h; rfl
      | some _ => simp [ofVal] at h
    | chan _ => simp [ofVal] at h
    | func fn first captured =>
      cases fn with
      | func f =>
        simp only [ofVal] at h
        cases h1 : mapO (ofVal k) first.toList with
        | none => simp [h1] at h
        | some x =>
          cases h2 : mapO (ofVal k) captured.toList with
          | none => simp [h1, h2] at h
          | some y => simp [h1, h2] at h; subst h; simp [conc, L _ _ h1, L _ _ h2]
      | _ => simp [ofVal] at h
    | nilFunc => simp [ofVal] at h; subst h; rfl
    | iface t v =>
      simp only [ofVal] at h
      cases h1 : ofVal k v with
      | none => simp [h1] at h
      | some x => simp [h1] at h; subst h; simp [conc, ofVal_conc η k v x h1]
    | nilIface => simp [ofVal] at h; subst h; rfl
    | agg cs =>
      simp only [ofVal] at h
      cases h1 : mapO (ofVal k) cs.toList with
      | none => simp [h1] at h
      | some x => simp [h1] at h; subst h; simp [conc, L _ _ h1]
    | tuple cs =>
      simp only [ofVal] at h
      cases h1 : mapO (ofVal k) cs.toList with
      | none => simp [h1] at h
      | some x => simp [h1] at h; subst h; simp [conc, L _ _ h1]

theorem evC_conc (η : Env) (v : Value) (a : AV) (h : evC v = some a) : conc η a = some v := by
  cases v with
  | bool b => simp [evC] at h; subst h; rfl
  | int k n => simp [evC] at h; subst h; rfl
  | string s => simp [evC] at h; subst h; simp [conc]
  | float _ _ => simp [evC] at h
  | complex _ _ _ => simp [evC] at h
  | chan _ => simp [evC] at h
  | _ => exact ofVal_conc η 4 _ _ h

/-- an operand -/
theorem ev_sound {η : Env} {tmps : Tr AV} {n : Nat} {a : Act} (ht : TRel η tmps n a.tmps) {x : Operand} {v : AV} (h : ev tmps x = some v) : conc η v = some (a.eval x) := by
  cases x with
  | tmp t =>
    obtain ⟨y, hy, hc⟩ := ht.get t v h
    rw [hc]; simp [Act.eval, Array.getD]
    obtain ⟨hlt, he⟩ := Array.getElem?_eq_some_iff.1 hy
    simp [hlt, he]
  | const c => exact evC_conc η c v h
  | global g => simp [ev] at h; subst h; rfl
  | func f => simp [ev] at h; subst h; simp [conc, concL, Act.eval]

/-! the tables of the program -/
structure TypeOK (P : Program) (t : TypeId) (i : TI) : Prop where
  und : P.underlying t = some i.und
  info : ∃ inf, P.info? t = some inf ∧ inf.size = i.size ∧ inf.bytes = i.bytes ∧ ∀ z, i.zero = some z → ∃ v, inf.zero = some v ∧ ∀ η, conc η z = some v
def ExtOK (P : Program) (f : FuncId) : Ext → Prop
  | .same => ∀ (x : Value) (w : World), (callFunc f #[x]).run P w = .ok (.value x) w
  | .mapsClone => ∀ (t b : Nat) (es : Array MapEntry) (c : Nat) (w : World), w.heap[b]? = some (.map es c) → (callFunc f #[.iface t (.map (some b))]).run P w = .ok (.value (.iface t (.map (some w.heap.size)))) (w.alloc (.map es c))
  | .count => ∀ (s : List UInt8) (c : Int) (w : World), (callFunc f #[.string ⟨s.toArray⟩, .int .u8 c]).run P w = .ok (.value (.int .i64 (Int.ofNat (cntByte (Nat.mod c.toNat 256) s)))) w
  | .indexByte => ∀ (s : List UInt8) (c : Int) (w : World), (callFunc f #[.string ⟨s.toArray⟩, .int .u8 c]).run P w = .ok (.value (.int .i64 (idxByte (Nat.mod c.toNat 256) s 0))) w
  | .compare => ∀ (x y : List UInt8) (w : World), (callFunc f #[.string ⟨x.toArray⟩, .string ⟨y.toArray⟩]).run P w = .ok (.value (.int .i64 (bif ltL x y then Int.negSucc 0 else bif ltL y x then Int.ofNat 1 else Int.ofNat 0))) w
  | .other => True
/-- a method through an interface: how the receiver is found -/
def MethOK (P : Program) (t : TypeId) (name : String) (f : FuncId) : Recv → Prop
  | .ptr => ∀ (x : Value) (w : World), (method (P.types.size + Made.depth) t x name).run P w = .ok (f, x) w
  | .load e => ∀ (a : Addr) (y : Value) (w : World), (Go.loadVar e a).run P w = .ok y w → (method (P.types.size + Made.depth) t (.pointer (some a)) name).run P w = .ok (f, y) w
structure CtxOK (P : Program) (C : Ctx) : Prop where
  types : ∀ t i, C.types.get t = some i → TypeOK P t i
  funcs : ∀ (f : Nat) (i : FI), C.funcs.get f = some i → ∃ fn : Func, P.funcs[f]? = some fn ∧ fn.body = i.body ∧ fn.ntmps = i.ntmps ∧ fn.results.toList = i.results
  named : ∀ (f : Nat) (fn : Func), P.funcs[f]? = some fn → fn.body.isSome = true → (fn.name == "runtime.NumGoroutine") = false
  exts : ∀ (f : Nat) (e : Ext), C.exts.get f = some e → ExtOK P f e
  keys : ∀ (t m : Nat), C.keys.get t = some m → (m ≤ 10000 ∧ P.keyTypeAt m t = true) ∧ P.eqGuardType P.depth t = false
  meths : ∀ (t : Nat) (l : List (String × Option (FuncId × Recv))), C.meths.get t = some l → ∀ (name q : String) (f : FuncId) (r : Recv), l.find? (fun m => m.1 == name) = some (q, some (f, r)) → MethOK P t name f r

theorem TypeOK.underlying {P : Program} {t : TypeId} {i : TI} (h : TypeOK P t i) (w : World) : (Go.underlying t).run P w = .ok i.und w := by
  simp [Go.underlying, h.und]
theorem TypeOK.sizeOf {P : Program} {t : TypeId} {i : TI} (h : TypeOK P t i) (w : World) : (Go.sizeOf t).run P w = .ok i.size w := by
  obtain ⟨inf, h1, h2, _⟩ := h.info
  simp [Go.sizeOf, Go.typeInfo, h1, h2]
theorem TypeOK.cellsOf {P : Program} {t : TypeId} {i : TI} (h : TypeOK P t i) : P.cellsOf t = i.size := by
  obtain ⟨inf, h1, h2, _⟩ := h.info
  simp [Program.cellsOf, h1, h2]
theorem TypeOK.zeroValue {P : Program} {t : TypeId} {i : TI} (h : TypeOK P t i) {z : AV} (hz : i.zero = some z) (w : World) : ∃ v, (Go.zeroValue t).run P w = .ok v w ∧ ∀ η, conc η z = some v := by
  obtain ⟨inf, h1, _, _, h4⟩ := h.info
  obtain ⟨v, hv, hc⟩ := h4 z hz
  exact ⟨v, by simp [Go.zeroValue, Go.typeInfo, h1, hv], hc⟩
theorem TypeOK.isAgg {P : Program} {t : TypeId} {i : TI} (h : TypeOK P t i) (w : World) : (Go.isAgg t).run P w = .ok (isAggD i.und) w := by
  unfold Go.isAgg
  simp only [Sem.run_bind, h.underlying, Result.andThen_ok]
  cases i.und <;> rfl

/-! cells of values -/
theorem cells_conc {η : Env} {v : AV} {x : Value} (hs : ∀ i, v ≠ .sym i) (h : conc η v = some x) : concL η v.cells = some x.cells.toList := by
  cases v with
  | agg l =>
    simp only [conc] at h
    cases h1 : concL η l with
    | none => simp [h1] at h
    | some y => simp [h1] at h; subst h; simpa [AV.cells, Value.cells] using h1
  | sym i => exact absurd rfl (hs i)
  | slice0 b off off' k less =>
    have h' := h
    simp only [conc] at h'
    have : x.cells = #[x] := by
      split at h'
      · cases h'; rfl
      · cases h'
    simp [AV.cells, this, concL, h]
  | symStr i =>
    have h' := h
    simp only [conc] at h'
    have : x.cells = #[x] := by
      split at h'
      · simp at h'; subst h'; rfl
      · simp at h'
    simp [AV.cells, this, concL, h]
  | symLen i =>
    have h' := h
    simp only [conc] at h'
    have : x.cells = #[x] := by
      split at h'
      · simp at h'; subst h'; rfl
      · simp at h'
    simp [AV.cells, this, concL, h]
  | symInt k i =>
    have h' := h
    simp only [conc] at h'
    have : x.cells = #[x] := by
      split at h'
      · split at h' <;> simp at h'
        subst h'; rfl
      · simp at h'
    simp [AV.cells, this, concL, h]
  | ptr b off =>
    have h' := h; simp only [conc] at h'
    split at h' <;> simp at h'; subst h'; simp [AV.cells, Value.cells, concL, h]
  | slice b off len c =>
    have h' := h; simp only [conc] at h'
    split at h'
    · split at h'
      · cases h'; simp [AV.cells, Value.cells, concL, h]
      · cases h'
    · cases h'
  | map b =>
    have h' := h; simp only [conc] at h'
    split at h' <;> simp at h'; subst h'; simp [AV.cells, Value.cells, concL, h]
  | yield b =>
    have h' := h; simp only [conc] at h'
    split at h' <;> simp at h'; subst h'; simp [AV.cells, Value.cells, concL, h]
  | func f a b =>
    have h' := h; simp only [conc] at h'
    split at h' <;> simp at h'; subst h'; simp [AV.cells, Value.cells, concL, h]
  | iface t v =>
    have h' := h; simp only [conc] at h'
    split at h' <;> simp at h'; subst h'; simp [AV.cells, Value.cells, concL, h]
  | tuple l =>
    have h' := h; simp only [conc] at h'
    split at h' <;> simp at h'; subst h'; simp [AV.cells, Value.cells, concL, h]
  | _ => simp only [conc, Option.some.injEq] at h; subst h; simp [AV.cells, Value.cells, concL, conc]

theorem oneCell_conc {η : Env} {v : AV} {x : Value} (ho : v.oneCell = true) (h : conc η v = some x) : x.oneCell' = true := by
  cases v <;> simp [AV.oneCell] at ho <;> simp only [conc] at h
  all_goals first
    | (simp at h; subst h; rfl)
    | (split at h <;> simp at h; subst h; rfl)
    | (split at h
       · split at h
         · cases h; rfl
         · cases h
       · cases h)

/-! reading -/
theorem getC {P : Program} {E : List LoopInfo} {η : Env} {H : Heap} {w : World} (hr : HRel P η E H w) {b : Nat} {t : Tr AV} {n : Nat} {e : TypeId} {opn : Bool} {lo hi : Nat} {mk : Bool}
    (hg : H.get b = some (.cells t n e opn lo hi mk)) : ∃ r c fz, η.ρ b = some r ∧ w.heap[r]? = some (.cells c e fz) ∧ CRel P η b t n e opn lo hi mk c e fz := by
  obtain ⟨r, ob, hb, hob, hrel⟩ := hr.obj b _ hg
  cases ob with
  | cells c e' fz =>
    have hrel : CRel P η b t n e opn lo hi mk c e' fz := hrel
    have he := hrel.elem; subst he
    exact ⟨r, c, fz, hb, hob, hrel⟩
  | _ => exact hrel.elim
theorem cell_of_heap {w : World} {r : Nat} {c : Array Value} {e : TypeId} {fz : Nat × Nat} (h : w.heap[r]? = some (.cells c e fz)) (off : Nat) : w.cell? ⟨r, off, none⟩ = c[off]? := by
  simp [World.cell?, h]
theorem blt_lt {a b : Nat} (h : Nat.blt a b = true) : a < b := by simpa [Nat.blt_eq] using h
theorem ble_le {a b : Nat} (h : Nat.ble a b = true) : a ≤ b := Nat.le_of_ble_eq_true h
theorem beq_eq {a b : Nat} (h : Nat.beq a b = true) : a = b := Nat.eq_of_beq_eq_true h

theorem load1_sound {P : Program} {E : List LoopInfo} {η : Env} {H : Heap} {w : World} (hr : HRel P η E H w) {b off : Nat} {v : AV} (h : load1 H b off = some v) :
    ∃ r x, η.ρ b = some r ∧ w.cell? ⟨r, off, none⟩ = some x ∧ conc η v = some x := by
  unfold load1 at h
  split at h
  · rename_i t n e o lo hi mk hg
    cases hb : Nat.blt off n with
    | false => simp [hb] at h
    | true =>
      simp [hb] at h
      obtain ⟨r, c, fz, hρ, hh, hc⟩ := getC hr hg
      obtain ⟨x, hx, hcx⟩ := hc.get off v h (blt_lt hb)
      exact ⟨r, x, hρ, by rw [cell_of_heap hh]; exact hx, hcx⟩
  · simp at h
theorem loadN_sound {P : Program} {E : List LoopInfo} {η : Env} {H : Heap} {w : World} (hr : HRel P η E H w) {b off k : Nat} {l : List AV} (h : loadN H b off k = some l) :
    ∃ r xs, η.ρ b = some r ∧ concL η l = some xs ∧ xs.length = k ∧ l.length = k ∧ (∀ j x, xs[j]? = some x → w.cell? ⟨r, off + j, none⟩ = some x) ∧ (loadCells ⟨r, off, none⟩ k).run P w = .ok xs.toArray w := by
  unfold loadN at h
  split at h
  · rename_i t n e o lo hi mk hg
    cases hb : Nat.ble (off + k) n with
    | false => simp [hb] at h
    | true =>
      simp [hb] at h
      have hb := ble_le hb
      obtain ⟨r, c, fz, hρ, hh, hc⟩ := getC hr hg
      obtain ⟨hl, hk⟩ := Tr.getL_some _ _ _ _ h
      have hx : ∀ j, j < k → ∃ v x, l[j]? = some v ∧ c[off + j]? = some x ∧ conc η v = some x := fun j hj => by
        have hv : l[j]? = some l[j] := List.getElem?_eq_getElem (by omega)
        have h2 := hk j hj
        rw [hv] at h2
        obtain ⟨x, hx, hcx⟩ := hc.get (off + j) _ h2 (by omega)
        exact ⟨_, x, hv, hx, hcx⟩
      have hlen : (((List.range k).map fun j => (c[off + j]?).getD undef)).length = l.length := by simp [hl]
      refine ⟨r, (List.range k).map fun j => (c[off + j]?).getD undef, hρ, ?_, by simp, hl, ?_, ?_⟩
      · refine concL_of_get hlen fun i v hv => ?_
        have hi : i < k := by rw [← hl]; exact (List.getElem?_eq_some_iff.1 hv).1
        obtain ⟨v', x, hv', hx, hcx⟩ := hx i hi
        rw [hv] at hv'; cases hv'
        exact ⟨x, by simp [hi, hx], hcx⟩
      · intro j x hj
        have hi : j < k := by have := (List.getElem?_eq_some_iff.1 hj).1; simpa using this
        obtain ⟨v', x', hv', hx', hcx⟩ := hx j hi
        simp [hi, hx'] at hj; subst hj
        rw [cell_of_heap hh]; exact hx'
      · have := run_loadCells (P := P) w ⟨r, off, none⟩ k (fun j => (c[off + j]?).getD undef) (fun j hj => by
          obtain ⟨v', x', hv', hx', hcx⟩ := hx j hj
          have : (Addr.mk r off none).add j = ⟨r, off + j, none⟩ := by unfold Addr.add; by_cases h0 : j = 0 <;> simp [h0]
          rw [this, cell_of_heap hh, hx']; simp)
        simpa using this
  · simp at h

/-! writing -/
theorem modify_eq {α : Type} {a : Array α} {i : Nat} {x : α} (f : α → α) (h : a[i]? = some x) : a.modify i f = a.setIfInBounds i (f x) := by
  apply Array.ext_getElem?
  intro j
  rw [Array.getElem?_modify, Array.getElem?_setIfInBounds]
  by_cases hij : i = j
  · subst hij
    obtain ⟨h1, h2⟩ := Array.getElem?_eq_some_iff.1 h
    simp [h1, h2]
  · simp [hij]
theorem setCell_put {w : World} {r off : Nat} {c : Array Value} {e : TypeId} {fz : Nat × Nat} (h : w.heap[r]? = some (.cells c e fz)) (v : Value) :
    w.setCell ⟨r, off, none⟩ v = World.putBlock w r (.cells (c.setIfInBounds off v) e fz) := by
  unfold World.setCell World.putBlock
  rw [modify_eq _ h]; simp

def writeL (c : Array Value) (off : Nat) : List Value → Array Value
  | [] => c
  | x :: xs => writeL (c.setIfInBounds off x) (off + 1) xs
theorem writeL_size : ∀ (xs : List Value) (c : Array Value) (off : Nat), (writeL c off xs).size = c.size
  | [], _, _ => rfl
  | x :: xs, c, off => by simp [writeL, writeL_size xs]
theorem writeL_get : ∀ (xs : List Value) (c : Array Value) (off : Nat), off + xs.length ≤ c.size → ∀ j, (writeL c off xs)[j]? = if off ≤ j ∧ j < off + xs.length then xs[j - off]? else c[j]?
  | [], c, off, _, j => by simp only [writeL, List.length_nil]; rw [if_neg (by omega)]
  | x :: xs, c, off, h, j => by
    simp only [List.length_cons] at h ⊢
    simp only [writeL]
    rw [writeL_get xs _ _ (by simp; omega)]
    by_cases h1 : off + 1 ≤ j ∧ j < off + 1 + xs.length
    · rw [if_pos h1, if_pos (by omega), show j - off = (j - (off + 1)) + 1 from by omega, List.getElem?_cons_succ]
    · rw [if_neg h1, Array.getElem?_setIfInBounds]
      by_cases h2 : off = j
      · subst h2; rw [if_pos rfl, if_pos (by omega), if_pos (by omega)]; simp
      · rw [if_neg h2, if_neg (by omega)]
theorem putBlock_putBlock (w : World) (r : Nat) (a b : Obj) : World.putBlock (World.putBlock w r a) r b = World.putBlock w r b := by
  unfold World.putBlock; simp
theorem run_storeCells_go {P : Program} (r off : Nat) (e : TypeId) (fz : Nat × Nat) : ∀ (xs : List Value) (i : Nat) (w : World) (c : Array Value), w.heap[r]? = some (.cells c e fz) → off + i + xs.length ≤ c.size →
    (∀ x ∈ xs, x.oneCell' = true) → (∀ j, j < xs.length → ¬ (fz.1 ≤ off + i + j ∧ off + i + j < fz.2)) →
    (storeCells ⟨r, off, none⟩ xs i).run P w = .ok () (if xs = [] then w else World.putBlock w r (.cells (writeL c (off + i) xs) e fz))
  | [], _, _, _, _, _, _, _ => by simp [storeCells]
  | x :: xs, i, w, c, hw, hle, ho, hf => by
    have hlt := lt_of_get hw
    simp only [List.length_cons] at hle hf
    have hadd : (Addr.mk r off none).add i = ⟨r, off + i, none⟩ := by unfold Addr.add; by_cases h0 : i = 0 <;> simp [h0]
    have hcell : w.cell? ⟨r, off + i, none⟩ = some c[off + i] := by rw [cell_of_heap hw]; exact Array.getElem?_eq_getElem (by omega)
    have hfr : w.frozen? ⟨r, off + i, none⟩ = false := by
      simp only [World.frozen?, hw]
      have := hf 0 (by omega)
      simp at this ⊢; omega
    simp only [storeCells, Sem.run_bind, hadd, run_store P w _ x _ (ho x (by simp)), hcell, hfr]
    simp only [Bool.false_eq_true, if_false, Result.andThen_ok]
    rw [setCell_put hw]
    rw [run_storeCells_go r off e fz xs (i + 1) _ (c.setIfInBounds (off + i) x) (by rw [putBlock_get _ _ _ _ hlt]; simp) (by simp; omega) (fun y hy => ho y (by simp [hy])) (fun j hj => by have := hf (j + 1) (by omega); intro hh; exact this ⟨by omega, by omega⟩)]
    simp only [List.cons_ne_nil, if_false]
    cases xs with
    | nil => simp [writeL]
    | cons y ys =>
      simp only [List.cons_ne_nil, if_false, putBlock_putBlock]
      rfl

theorem storeL_sound {P : Program} {E : List LoopInfo} {η : Env} {H H' : Heap} {w : World} (hr : HRel P η E H w) {b off : Nat} {vs : List AV} (h : storeL H b off vs = some H') {xs : List Value} (hx : concL η vs = some xs) :
    ∃ r w', η.ρ b = some r ∧ (storeCells ⟨r, off, none⟩ xs 0).run P w = .ok () w' ∧ Trans P E η H w η H' w' ∧ H'.next = H.next := by
  unfold storeL at h
  split at h
  · rename_i t n e o lo hi mk hg
    cases hb : (Nat.ble (off + vs.length) n && (Nat.ble hi off || Nat.ble (off + vs.length) lo) && vs.all AV.oneCell) with
    | false => simp [hb] at h
    | true =>
      simp only [hb, cond_true, Option.some.injEq] at h
      subst h
      simp only [Bool.and_eq_true, Bool.or_eq_true, List.all_eq_true] at hb
      obtain ⟨⟨h1, h2⟩, h3⟩ := hb
      have h1 := ble_le h1
      obtain ⟨r, c, fz, hρ, hh, hc⟩ := getC hr hg
      have hxl := concL_length hx
      have hle := hc.le
      have hone : ∀ x ∈ xs, x.oneCell' = true := fun x hxm => by
        obtain ⟨i, hi, rfl⟩ := List.getElem_of_mem hxm
        obtain ⟨y, hy, hcy⟩ := concL_get hx i vs[i] (List.getElem?_eq_getElem (by omega))
        rw [List.getElem?_eq_getElem hi] at hy; cases hy
        exact oneCell_conc (h3 _ (List.getElem_mem _)) hcy
      have hnf : ∀ j, j < xs.length → ¬ (fz.1 ≤ off + 0 + j ∧ off + 0 + j < fz.2) := fun j hj hh => by
        rcases hc.cover (off + j) (by omega) (by omega) with ⟨p, q⟩ | ⟨_, p⟩
        · rcases h2 with h2 | h2 <;> have := ble_le h2 <;> omega
        · omega
      have hrun := run_storeCells_go (P := P) r off e fz xs 0 w c hh (by omega) hone hnf
      have hput : (if xs = [] then w else World.putBlock w r (.cells (writeL c (off + 0) xs) e fz)) = World.putBlock w r (.cells (writeL c off xs) e fz) := by
        by_cases hn : xs = []
        · subst hn; simp only [if_true, writeL]
          unfold World.putBlock
          have : w.heap.setIfInBounds r (.cells c e fz) = w.heap := by
            apply Array.ext_getElem?
            intro j; rw [Array.getElem?_setIfInBounds]
            by_cases hj : r = j
            · subst hj; rw [if_pos rfl, if_pos (lt_of_get hh), hh]
            · simp [hj]
          rw [this]
        · rw [if_neg hn]; rfl
      rw [hput] at hrun
      refine ⟨r, _, hρ, hrun, Trans.put hr hg hρ _ _ ?_ rfl, rfl⟩
      have hsz := writeL_size xs c off
      exact ⟨rfl, fun i v hv hi => by
        rw [Tr.get_setL] at hv
        rw [writeL_get xs c off (by omega)]
        by_cases hin : off ≤ i ∧ i < off + vs.length
        · rw [if_pos hin] at hv; rw [if_pos (by omega)]
          exact concL_get hx _ _ hv
        · rw [if_neg hin] at hv; rw [if_neg (by omega)]
          exact hc.get i v hv hi, by rw [hsz]; exact hc.le, fun hh => by rw [hsz]; exact hc.shut hh, fun hh => by rw [hsz]; exact hc.opened hh, hc.fzle, by rw [hsz]; exact hc.cover, by rw [hsz]; exact hc.small⟩
  · simp at h
end Go.VmK
