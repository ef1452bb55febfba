/-
  A machine that runs the model with abstract blocks, and lemmas on it: whatever it answers of a call is what the model does (ProgOK, Base: the conditions).
-/
import Derived.Test.YthcnhdiipbpdgaaGreatDoorR4g
namespace Go.VmK
variable {P : Program} {C : Ctx} {E : List LoopInfo} {η : Env} {H : Heap} {w : World}

/-! copy -/
theorem copyOp_sound (hC : CtxOK P C) (hr : HRel P η E H w) {ats : List TypeId} {t : TypeId} {r : List TypeId} (hat : ats = t :: r) {type : TypeId} {d s : AV} {x y : Value} (hx : conc η d = some x) (hy : conc η s = some y) {v : AV} {H' : Heap}
    (h : copyOp C H t d s = some (v, H')) : SimS P E η H w (Builtin.copy_ ats.toArray type #[x, y]) v H' := by
  subst hat
  unfold copyOp at h
  split at h
  · rename_i e b off dLen c s hu
    split at h
    · cases h
    · rename_i te hte
      cases hq : Nat.beq te.size 1 with
      | false => rw [hq] at h; cases h
      | true =>
        rw [hq] at h; simp only [cond_true] at h
        have hsz := beq_eq hq
        cases hs : storeL H b off (bytesAV (s.take (Nat.min s.length dLen))) with
        | none => rw [hs] at h; cases h
        | some H1 =>
          rw [hs] at h; simp only [Option.map_some, Option.some.injEq, Prod.mk.injEq] at h
          obtain ⟨rfl, rfl⟩ := h
          obtain ⟨r', n, hb, ⟨_, _⟩, rfl⟩ := conc_slice hx
          rw [conc_str hy]
          obtain ⟨r2, w', hb2, hrun, htr, hnext⟩ := storeL_sound (P := P) hr hs (bytesAV_conc η _)
          rw [hb] at hb2; cases hb2
          rw [List.map_take] at hrun
          have hlen : (ByteArray.mk s.toArray).size = s.length := by simp [ByteArray.size]
          have hex : (ByteArray.mk s.toArray).extract 0 (Nat.min s.length dLen) = ⟨(s.take (Nat.min s.length dLen)).toArray⟩ := by
            apply ByteArray.ext; simp
          refine ⟨η, _, w', ?_, rfl, htr, Grow.of_store hs hnext⟩
          simp [Builtin.copy_, run_und hC hu, Builtin.lenOf, hlen, (ti_ok hC hte).sizeOf, Builtin.firstCells, hrun, goInt]
  · cases h

/-! texts out of bytes -/
theorem bytes_push {s : List UInt8} {xs : List Value} (h1 : s.length = xs.length) (h2 : ∀ (i : Nat) (x : Value), xs[i]? = some x → ∃ b : UInt8, x = .int .u8 (b.toNat : Int) ∧ s[i]? = some b) :
    xs.all (fun x => match x with | .int .u8 _ => true | _ => false) = true ∧ (xs.map fun x => match x with | .int _ n => UInt8.ofNat n.toNat | _ => 0) = s := by
  constructor
  · rw [List.all_eq_true]
    intro x hx
    obtain ⟨i, hi, rfl⟩ := List.getElem_of_mem hx
    obtain ⟨n, hn, _⟩ := h2 i _ (List.getElem?_eq_getElem hi)
    rw [hn]
  · apply List.ext_getElem?
    intro i
    rw [List.getElem?_map]
    cases hx : xs[i]? with
    | none => rw [List.getElem?_eq_none_iff] at hx; rw [Option.map_none, List.getElem?_eq_none (by omega)]
    | some x => obtain ⟨n, hn, hs⟩ := h2 i x hx; rw [hs, hn]; simp

theorem bytesToString_run {xs : List Value} {s : List UInt8} {a : Addr} {len cap : Nat} (h1 : s.length = xs.length) (h2 : ∀ (i : Nat) (x : Value), xs[i]? = some x → ∃ b : UInt8, x = .int .u8 (b.toNat : Int) ∧ s[i]? = some b)
    (hl : (loadCells a len).run P w = .ok xs.toArray w) : (Conv.bytesToString (.slice (some a) len cap)).run P w = .ok (.string ⟨s.toArray⟩) w := by
  have go : ∀ (xs : List Value) (s : List UInt8) (acc : ByteArray), s.length = xs.length → (∀ (i : Nat) (x : Value), xs[i]? = some x → ∃ b : UInt8, x = .int .u8 (b.toNat : Int) ∧ s[i]? = some b) →
      (forIn xs acc (fun c (r : ByteArray) => match c with
        | .int .u8 n => pure (ForInStep.yield (r.push (UInt8.ofNat n.toNat)))
        | _ => do
          (stuck "bytesToString: byte expected" : Sem PUnit)
          pure (ForInStep.yield r)) : Sem ByteArray).run P w = .ok ⟨acc.data ++ s.toArray⟩ w := by
    intro xs
    induction xs with
    | nil => intro s acc h1 _; have : s = [] := by simpa using h1
             subst this; simp
    | cons x xs ih =>
      intro s acc h1 h2
      cases s with
      | nil => simp at h1
      | cons b s =>
        obtain ⟨n, hn, hb⟩ := h2 0 x (by simp)
        simp at hb; subst hn; subst hb
        have := ih s (acc.push b) (by simpa using h1) (fun i y hy => by
          obtain ⟨m, hm, hg⟩ := h2 (i + 1) y (by simpa using hy)
          exact ⟨m, hm, by simpa using hg⟩)
        simp only [List.forIn_cons, Sem.run_bind, Sem.run_pure, Result.andThen_ok]
        rw [show UInt8.ofNat ((b.toNat : Int)).toNat = b from by simp, this]
        congr 2
        simp
  simp only [Conv.bytesToString, Sem.run_bind, hl, Result.andThen_ok]
  have := go xs s .empty h1 h2
  simp only [List.forIn_toArray] at *
  have h3 := congrArg (fun (r : Result ByteArray) => r.andThen fun a w' => (Pure.pure (Value.string a) : Sem Value).run P w') this
  refine Eq.trans h3 ?_
  simp

end Go.VmK
