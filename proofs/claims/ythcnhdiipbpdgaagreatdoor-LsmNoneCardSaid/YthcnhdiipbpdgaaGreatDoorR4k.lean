/-
  A machine that runs the model with abstract blocks, and lemmas on it: whatever it answers of a call is what the model does (ProgOK, Base: the conditions).
-/
import Derived.Test.YthcnhdiipbpdgaaGreatDoorR4j
namespace Go.VmK
variable {P : Program} {C : Ctx} {E : List LoopInfo} {η : Env} {H : Heap} {w : World}

/-- a table holds a whole row -/
structure Rep (η : Env) (t : Tr AV) (n : Nat) (c : Array Value) : Prop where
  size : c.size = n
  get : ∀ i, i < n → ∃ v x, t.get i = some v ∧ c[i]? = some x ∧ conc η v = some x
theorem Rep.ofL {l : List AV} {xs : List Value} (h : concL η l = some xs) : Rep η (Tr.ofL l) l.length xs.toArray := by
  have hl := concL_length h
  refine ⟨by simp [hl], fun i hi => ?_⟩
  obtain ⟨x, hx, hc⟩ := concL_get h i l[i] (List.getElem?_eq_getElem hi)
  exact ⟨l[i], x, by rw [Tr.get_ofL]; exact List.getElem?_eq_getElem hi, by simpa using hx, hc⟩
theorem Rep.setL {t : Tr AV} {n : Nat} {c : Array Value} (h : Rep η t n c) {off : Nat} {l : List AV} {xs : List Value} (hx : concL η l = some xs) (hle : off + l.length ≤ n) : Rep η (t.setL off l) n (writeL c off xs) := by
  have hl := concL_length hx
  refine ⟨by rw [writeL_size]; exact h.size, fun i hi => ?_⟩
  rw [Tr.get_setL, writeL_get xs c off (by rw [h.size, hl]; exact hle)]
  by_cases hin : off ≤ i ∧ i < off + l.length
  · rw [if_pos hin, if_pos (by omega)]
    obtain ⟨x, hx', hc⟩ := concL_get hx (i - off) l[i - off] (List.getElem?_eq_getElem (by omega))
    exact ⟨_, x, List.getElem?_eq_getElem (by omega), hx', hc⟩
  · rw [if_neg hin, if_neg (by omega)]; exact h.get i hi
theorem zipIdx_writeL (off : Nat) : ∀ (xs : List Value) (k : Nat) (c : Array Value), (xs.zipIdx k).foldl (fun cs (x : Value × Nat) => cs.setIfInBounds (off + x.2) x.1) c = writeL c (off + k) xs
  | [], _, _ => rfl
  | x :: xs, k, c => by
    simp only [List.zipIdx_cons, List.foldl_cons, writeL]
    rw [zipIdx_writeL off xs (k + 1)]
    rfl

/-- parts of a build -/
inductive PartsRel (η : Env) : List (Nat × AV) → List (Nat × Value) → Prop
  | nil : PartsRel η [] []
  | cons {i : Nat} {v : AV} {x : Value} {r : List (Nat × AV)} {s : List (Nat × Value)} : conc η v = some x → PartsRel η r s → PartsRel η ((i, v) :: r) ((i, x) :: s)
theorem fillL_sound {place place' : Nat → Option (Nat × Nat)} (hp : ∀ i p, place i = some p → place' i = some p) : ∀ {ps : List (Nat × AV)} {qs : List (Nat × Value)} {t t' : Tr AV} {n : Nat} {c : Array Value},
    PartsRel η ps qs → Rep η t n c → fillL place t n ps = some t' → ∃ c', Instr.fill place' c qs = some c' ∧ Rep η t' n c'
  | [], _, t, t', n, c, .nil, hr, h => by simp [fillL] at h; subst h; exact ⟨c, rfl, hr⟩
  | (i, v) :: r, _, t, t', n, c, .cons (x := x) hx hps, hr, h => by
    simp only [fillL] at h
    split at h
    · cases h
    · rename_i off size hpl
      cases hq : (Nat.beq v.cells.length size && Nat.ble (off + size) n && v.cells.all AV.oneCell) with
      | false => rw [hq] at h; cases h
      | true =>
        rw [hq] at h; simp only [cond_true] at h
        simp only [Bool.and_eq_true] at hq
        obtain ⟨⟨q1, q2⟩, q3⟩ := hq
        have q1 := beq_eq q1; have q2 := ble_le q2
        have hs : ∀ j, v ≠ .sym j := fun j e => by subst e; simp [AV.cells, AV.oneCell] at q3
        have hc := cells_conc hs hx
        have hl : x.cells.size = v.cells.length := by rw [← concL_length hc]; simp
        obtain ⟨c', hc', hr'⟩ := fillL_sound hp hps (hr.setL hc (by omega)) h
        refine ⟨c', ?_, hr'⟩
        simp only [Instr.fill, hp i _ hpl]
        have hno : ¬ ((x.cells.size ≠ size || off + x.cells.size > c.size) = true) := by
          rw [hl, q1, hr.size]; simp; omega
        rw [if_neg hno]
        have hz := zipIdx_writeL off x.cells.toList 0 c
        simp only [Nat.add_zero] at hz
        rw [← hc', ← hz]
        congr 1
        rw [← Array.foldl_toList]
        simp

theorem aggOf_sound {tr : Tr AV} {n : Nat} {c : Array Value} (hr : Rep η tr n c) {v : AV} (h : aggOf tr n = some v) : conc η v = some (.agg c) := by
  unfold aggOf at h
  split at h
  · cases h
  · rename_i l hl
    cases h
    obtain ⟨h1, h2⟩ := Tr.getL_some _ _ _ _ hl
    have : concL η l = some c.toList := by
      refine concL_of_get (by simp [h1, hr.size]) fun i v hv => ?_
      have hi : i < n := by rw [← h1]; exact (List.getElem?_eq_some_iff.1 hv).1
      obtain ⟨v', x, hg, hx, hc⟩ := hr.get i hi
      have h3 := h2 i hi
      rw [Nat.zero_add, hg, hv] at h3; cases h3
      exact ⟨x, by simpa using hx, hc⟩
    simp [conc, this]

theorem zero_cells {t : TypeId} {ti' : TI} (hT : TypeOK P t ti') {z : AV} (hz : ti'.zero = some z) (w : World) : ∃ zv, (Go.zeroValue t).run P w = .ok zv w ∧ ∀ η, concL η z.cells = some zv.cells.toList := by
  obtain ⟨v, hv, hc⟩ := hT.zeroValue hz w
  have hs : ∀ j, z ≠ .sym j := fun j e => by
    subst e
    have h1 := hc ⟨fun _ => none, fun _ => none, fun _ => none⟩
    simp [conc] at h1
  exact ⟨v, hv, fun η => cells_conc hs (hc η)⟩

theorem mapM_places (hC : CtxOK P C) {fs : Array Field} (h : placesOk C fs.toList = true) (w : World) :
    ∃ ps : Array (Nat × Nat), (fs.mapM (fun f => do pure (f.offset, ← sizeOf f.type) : Field → Sem (Nat × Nat))).run P w = .ok ps w ∧ ∀ i p, placeOf C fs i = some p → ps[i]? = some p := by
  have go : ∀ (l : List Field), l.all (fun f => (ti C f.type).isSome) = true →
      ∃ ps : List (Nat × Nat), (l.mapM (fun f => do pure (f.offset, ← sizeOf f.type) : Field → Sem (Nat × Nat))).run P w = .ok ps w ∧ ps.length = l.length ∧ ∀ (i : Nat) (f : Field) (tf : TI), l[i]? = some f → ti C f.type = some tf → ps[i]? = some (f.offset, tf.size) := by
    intro l
    induction l with
    | nil => intro _; exact ⟨[], by simp, rfl, by simp⟩
    | cons f l ih =>
      intro hall
      simp only [List.all_cons, Bool.and_eq_true] at hall
      obtain ⟨ps, hrun, hlen, hget⟩ := ih hall.2
      cases htf : ti C f.type with
      | none => rw [htf] at hall; exact absurd hall.1 (by simp)
      | some tf =>
        refine ⟨(f.offset, tf.size) :: ps, ?_, by simp [hlen], ?_⟩
        · simp only [List.mapM_cons, Sem.run_bind, (ti_ok hC htf).sizeOf, Result.andThen_ok, Sem.run_pure, hrun]
        · intro i g tg hi hg
          cases i with
          | zero => simp at hi; subst hi; rw [htf] at hg; cases hg; simp
          | succ i => simp at hi ⊢; exact hget i g tg hi hg
  obtain ⟨ps, hrun, hlen, hget⟩ := go fs.toList h
  refine ⟨ps.toArray, ?_, ?_⟩
  · rw [Array.mapM_eq_mapM_toList]
    simp only [Sem.run_map, hrun, Result.andThen_ok]
  · intro i p hp
    unfold placeOf at hp
    split at hp
    · rename_i f hf
      split at hp
      · rename_i tf htf
        cases hp
        have := hget i f tf (by simpa using hf) htf
        simpa using this
      · cases hp
    · cases hp

theorem buildOp_sound (hC : CtxOK P C) {t : TypeId} {ps : List (Nat × AV)} {qs : Array (Nat × Value)} (hps : PartsRel η ps qs.toList) {v : AV} (h : buildOp C t ps = some v) :
    ∃ u, conc η v = some u ∧ (Instr.build t qs).run P w = .ok u w := by
  unfold buildOp at h
  split at h
  · cases h
  · rename_i i hi
    have hT := ti_ok hC hi
    split at h
    · rename_i fs z hu hz
      unfold buildS at h
      cases hq : placesOk C fs.toList with
      | false => rw [hq] at h; cases h
      | true =>
        rw [hq] at h; simp only [cond_true] at h
        split at h
        · rename_i tr htr
          obtain ⟨zv, hzv, hzc⟩ := zero_cells hT hz w
          obtain ⟨pl, hpl, hplace⟩ := mapM_places hC hq w
          obtain ⟨c', hfill, hrep⟩ := fillL_sound (place' := fun i => pl[i]?) hplace hps (Rep.ofL (hzc η)) htr
          have hc := aggOf_sound hrep h
          refine ⟨_, hc, ?_⟩
          have e1 : zv.cells.toList.toArray = zv.cells := by simp
          rw [e1] at hfill
          simp only [Instr.build, Sem.run_bind, hzv, Result.andThen_ok, hT.underlying, hu, hpl, hfill, Sem.run_pure]
        · cases h
    · rename_i m e z hu hz
      unfold buildA at h
      split at h
      · cases h
      · rename_i te hte
        split at h
        · rename_i tr htr
          obtain ⟨zv, hzv, hzc⟩ := zero_cells hT hz w
          obtain ⟨c', hfill, hrep⟩ := fillL_sound (place' := fun i => some (i * te.size, te.size)) (fun _ _ h => h) hps (Rep.ofL (hzc η)) htr
          have hc := aggOf_sound hrep h
          refine ⟨_, hc, ?_⟩
          have e1 : zv.cells.toList.toArray = zv.cells := by simp
          rw [e1] at hfill
          simp only [Instr.build, Sem.run_bind, hzv, Result.andThen_ok, hT.underlying, hu, (ti_ok hC hte).sizeOf, hfill, Sem.run_pure]
        · cases h
    · cases h

theorem repeatL_get {α : Type} (l : List α) : ∀ (n i : Nat), i < n * l.length → (repeatL l n)[i]? = l[i % l.length]?
  | 0, i, h => by omega
  | n + 1, i, h => by
    simp only [repeatL]
    by_cases hi : i < l.length
    · rw [List.getElem?_append_left hi, Nat.mod_eq_of_lt hi]
    · rw [List.getElem?_append_right (by omega), repeatL_get l n (i - l.length) (by rw [Nat.add_mul] at h; omega)]
      congr 1
      rw [Nat.mod_eq_sub_mod (by omega : l.length ≤ i)]
theorem repeatL_length {α : Type} (l : List α) : ∀ n, (repeatL l n).length = n * l.length
  | 0 => by simp [repeatL]
  | n + 1 => by simp [repeatL, repeatL_length l n, Nat.add_mul]; omega

theorem rowOf_sound (hr : HRel P η E H w) (hf : Fresh η H H.next) {e : TypeId} {z : AV} {zs : Array Value} {size n len cap : Nat} {ps : List (Nat × AV)} {qs : List (Nat × Value)} (hps : PartsRel η ps qs) (hz : concL η z.cells = some zs.toList) (hlc : len ≤ cap) {v : AV} {H' : Heap}
    (h : rowOf H e z size n len cap ps = some (v, H')) : ∃ c, Instr.fill (fun i => some (i * size, size)) ((Array.range (n * size)).map fun i => zs[i % zs.size]!) qs = some c ∧
      conc (η.bind H.next w.heap.size) v = some (.slice (some ⟨w.heap.size, 0, none⟩) len cap) ∧ Trans P E η H w (η.bind H.next w.heap.size) H' (w.alloc (.cells c e)) ∧ Grow η (η.bind H.next w.heap.size) H H' := by
  unfold rowOf at h
  cases hq : Nat.beq z.cells.length size with
  | false => rw [hq] at h; cases h
  | true =>
    rw [hq] at h; simp only [cond_true] at h
    have hsz := beq_eq hq
    split at h
    · rename_i tr htr
      simp only [Option.some.injEq, Prod.mk.injEq] at h
      obtain ⟨rfl, rfl⟩ := h
      have hzl : zs.size = size := by have := concL_length hz; simp at this; omega
      have hrep0 : Rep η (Tr.ofL (repeatL z.cells n)) (n * size) ((Array.range (n * size)).map fun i => zs[i % zs.size]!) := by
        refine ⟨by simp, fun i hi => ?_⟩
        have h0 : 0 < size := by rcases Nat.eq_zero_or_pos size with h | h; · rw [h] at hi; simp at hi
                                 · exact h
        have him : i % size < size := Nat.mod_lt _ h0
        obtain ⟨zc, hzc⟩ : ∃ zc, z.cells[i % size]? = some zc := ⟨z.cells[i % size], List.getElem?_eq_getElem (by omega)⟩
        obtain ⟨x, hx, hc⟩ := concL_get hz (i % size) zc hzc
        refine ⟨zc, x, ?_, ?_, hc⟩
        · rw [Tr.get_ofL, repeatL_get _ _ _ (by rw [hsz]; exact hi), hsz]; exact hzc
        · have hx' : zs[i % size]? = some x := by simpa using hx
          obtain ⟨hlt, he⟩ := Array.getElem?_eq_some_iff.1 hx'
          simp [hi, hzl, Array.getElem!_eq_getD, hx']
      obtain ⟨c, hfill, hrep⟩ := fillL_sound (fun _ _ h => h) hps hrep0 htr
      refine ⟨c, hfill, slice_conc (by simp [Env.bind]) rfl hlc, Trans.new hr hf _ _ (Env.le_bind hf.ρ) (fun i => rfl) ?_ (fun j => Heap.get_new _ _ _) rfl rfl rfl, Grow.new (Only.bind _ _ _) (fun j => Heap.get_new _ _ _) rfl⟩
      exact ⟨rfl, fun i v hv hi => by
          obtain ⟨v', x, hg, hx, hc⟩ := hrep.get i hi
          rw [hv] at hg; cases hg
          exact ⟨x, hx, conc_mono (Env.le_bind hf.ρ) _ _ hc⟩,
        by rw [hrep.size]; exact Nat.le_refl _, fun _ => hrep.size, (fun h => by cases h), Nat.le_refl _, (fun off h1 h2 => by simp at h2), (fun h => by cases h)⟩
    · cases h

theorem buildSlice_sound (hC : CtxOK P C) (hr : HRel P η E H w) (hf : Fresh η H H.next) {t : TypeId} {len : Nat} {ps : List (Nat × AV)} {qs : Array (Nat × Value)} (hps : PartsRel η ps qs.toList) {v : AV} {H' : Heap} (h : buildSlice C H t len ps = some (v, H')) :
    SimS P E η H w (Instr.buildSlice t len qs) v H' := by
  unfold buildSlice at h
  split at h
  · rename_i e hu
    split at h
    · cases h
    · rename_i te hte
      split at h
      · cases h
      · rename_i z hz
        cases hq : Nat.ble (len * te.size) 65536 with
        | false => rw [hq] at h; cases h
        | true =>
          rw [hq] at h; simp only [cond_true] at h
          have hle := ble_le hq
          have hT := ti_ok hC hte
          obtain ⟨zv, hzv, hzc⟩ := zero_cells hT hz w
          obtain ⟨c, hfill, hc, htr, hg⟩ := rowOf_sound (P := P) hr hf hps (hzc η) (Nat.le_refl len) h
          refine ⟨_, _, _, ?_, hc, htr, hg⟩
          have two24 : (2 : Nat) ^ 24 = 16777216 := by decide
          have hno : ¬ (len * te.size > 2 ^ 24) := by omega
          by_cases h0 : len * te.size = 0
          · have hzs : ((Array.range (len * te.size)).map fun i => zv.cells[i % zv.cells.size]!) = ((Array.range (len * te.size)).map fun i => (#[] : Array Value)[i % (#[] : Array Value).size]!) := by rw [h0]; simp
            rw [hzs] at hfill
            simp only [Instr.buildSlice, Sem.run_bind, run_und hC hu, Result.andThen_ok, hT.sizeOf]
            have e0 : ∀ f : Nat → Value, (Array.range 0).map f = #[] := fun f => by simp
            rw [h0, e0] at hfill
            rw [h0]
            simp only [gt_iff_lt, Nat.not_lt_zero, if_false, if_true, Sem.run_pure, Result.andThen_ok, e0, hfill, Sem.run_bind, newRow, run_newObj]
            rfl
          · simp only [Instr.buildSlice, Sem.run_bind, run_und hC hu, Result.andThen_ok, hT.sizeOf]
            simp [hno, h0, hzv, hfill, newRow]
  · cases h
end Go.VmK
