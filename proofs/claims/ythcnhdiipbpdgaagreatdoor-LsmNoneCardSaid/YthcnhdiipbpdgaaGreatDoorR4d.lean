/-
  A machine that runs the model with abstract blocks, and lemmas on it: whatever it answers of a call is what the model does (ProgOK, Base: the conditions).
-/
import Derived.Test.YthcnhdiipbpdgaaGreatDoorR4c
namespace Go.VmK
variable {P : Program} {C : Ctx} {E : List LoopInfo} {η : Env} {H : Heap} {w : World}

/-! bytes -/
theorem bytesAV_conc (η : Env) (l : List UInt8) : concL η (bytesAV l) = some (l.map fun b => Value.int .u8 (b.toNat : Int)) := by
  induction l with
  | nil => rfl
  | cons b l ih => simp only [bytesAV, List.map_cons] at ih ⊢; simp only [concL, conc]; rw [ih]; rfl
theorem bytesAV_one (l : List UInt8) : (bytesAV l).all AV.oneCell = true := by simp [bytesAV, AV.oneCell]
theorem bytesAV_length (l : List UInt8) : (bytesAV l).length = l.length := by simp [bytesAV]
theorem asBytes_sound {η : Env} : ∀ {l : List AV} {s : List UInt8} {xs : List Value}, asBytes l = some s → concL η l = some xs →
    s.length = xs.length ∧ ∀ (i : Nat) (x : Value), xs[i]? = some x → ∃ b : UInt8, x = .int .u8 (b.toNat : Int) ∧ s[i]? = some b
  | [], s, xs, h, hx => by simp [asBytes] at h; simp [concL] at hx; subst h; subst hx; simp
  | a :: l, s, xs, h, hx => by
    unfold asBytes at h
    split at h
    · rename_i heq; cases heq
    · rename_i n r heq
      cases heq
      split at h
      · rename_i s' hs
        cases hq : leNat 255 n with
        | false => rw [hq] at h; cases h
        | true =>
        rw [hq] at h; simp only [cond_true, Option.some.injEq] at h; subst h
        obtain ⟨n1, n2⟩ := leNat_le hq
        have hn : ((UInt8.ofNat n.toNat).toNat : Int) = n := by
          rw [UInt8.toNat_ofNat']; omega
        simp only [concL, conc] at hx
        split at hx
        · rename_i y ys hy hys
          cases hy; cases hx
          obtain ⟨h1, h2⟩ := asBytes_sound hs hys
          refine ⟨by simp [h1], fun i x hi => ?_⟩
          cases i with
          | zero => simp at hi; subst hi; exact ⟨UInt8.ofNat n.toNat, by rw [hn], by simp⟩
          | succ i => rw [List.getElem?_cons_succ] at hi; obtain ⟨m, hm, hg⟩ := h2 i x hi; exact ⟨m, hm, by rw [List.getElem?_cons_succ]; exact hg⟩
        · cases hx
      · cases h
    · cases h

/-! append -/
theorem growBy_le (n : Nat) : ∀ (r c : Nat), c ≤ n → Builtin.growBy n r c ≤ n + (n + 768) / 4
  | 0, c, h => by simp [Builtin.growBy]; omega
  | r + 1, c, h => by
    simp only [Builtin.growBy]
    split
    · omega
    · by_cases h2 : c + (c + 768) / 4 ≤ n
      · exact growBy_le n r _ h2
      · have : Builtin.growBy n r (c + (c + 768) / 4) = c + (c + 768) / 4 := by cases r <;> simp [Builtin.growBy]; omega
        rw [this]; omega
theorem nextcap_le {n c : Nat} (h : c < n) : Builtin.nextslicecap n c ≤ 2 * n + 400 := by
  unfold Builtin.nextslicecap
  split
  · omega
  · split
    · omega
    · have := growBy_le n 4 c (by omega); omega
theorem room_no {need bytes c : Nat} (h : roomOk need bytes = true) (hc : c < need) : ¬ (Builtin.nextslicecap need c * bytes > 2 ^ 48) := by
  have h := ble_le h
  have h2 := nextcap_le hc
  have h3 : Builtin.nextslicecap need c * bytes ≤ (2 * need + 400) * bytes := Nat.mul_le_mul_right _ h2
  have : (2 : Nat) ^ 48 = 281474976710656 := by decide
  omega

theorem appCells_sound (hr : HRel P η E H w) {size n : Nat} {x : AV} {y : Value} {l : List AV} (hy : conc η x = some y) (h : appCells H size x = some (n, l)) :
    (Builtin.lenOf y).run P w = .ok n w ∧ ∃ xs, concL η l = some xs ∧ l.length = n * size ∧ (Builtin.firstCells size n y).run P w = .ok xs.toArray w := by
  unfold appCells at h
  split at h
  · cases h; rw [conc_nils hy]; exact ⟨rfl, [], rfl, by simp, rfl⟩
  · rename_i i
    cases h
    simp only [conc] at hy
    split at hy
    · cases hy; exact ⟨rfl, [], rfl, by simp, by simp [Builtin.firstCells, loadCells, loadCellsFrom]⟩
    · cases hy
  · rename_i s
    cases hq : Nat.beq size 1 with
    | false => rw [hq] at h; cases h
    | true =>
    rw [hq] at h
    have := beq_eq hq; subst this
    cases h; rw [conc_str hy]
    refine ⟨by simp [Builtin.lenOf, ByteArray.size], _, bytesAV_conc η s, by simp [bytesAV_length], ?_⟩
    have : (ByteArray.mk s.toArray).extract 0 s.length = ⟨s.toArray⟩ := by
      apply ByteArray.ext; simp
    simp [Builtin.firstCells, this]
  · rename_i b off len c
    cases hl : loadN H b off (len * size) with
    | none => rw [hl] at h; cases h
    | some l' =>
      rw [hl] at h; simp only [Option.map_some, Option.some.injEq, Prod.mk.injEq] at h
      obtain ⟨rfl, rfl⟩ := h
      obtain ⟨r, m, hb, _, rfl⟩ := conc_slice hy
      obtain ⟨r', xs, hb', hx, h1, h2, _, hrun⟩ := loadN_sound (P := P) hr hl
      rw [hb] at hb'; cases hb'
      exact ⟨rfl, xs, hx, h2, by simp [Builtin.firstCells, hrun]⟩
  · cases h

theorem allOne_conc {η : Env} {l : List AV} {xs : List Value} (hx : concL η l = some xs) (h : l.all AV.oneCell = true) : ∀ x ∈ xs, x.oneCell' = true := by
  intro x hxm
  obtain ⟨i, hi, rfl⟩ := List.getElem_of_mem hxm
  have hl := concL_length hx
  obtain ⟨y, hy, hcy⟩ := concL_get hx i l[i] (List.getElem?_eq_getElem (by omega))
  rw [List.getElem?_eq_getElem hi] at hy; cases hy
  exact oneCell_conc (List.all_eq_true.1 h _ (List.getElem_mem _)) hcy

theorem zeroCells_size (z : Array Value) (n : Nat) : (Builtin.zeroCells z n).size = n * z.size := by simp [Builtin.zeroCells]

/-- a new row, its capacity drawn -/
theorem newOpen_sound (hr : HRel P η E H w) (hf : Fresh η H H.next) (e : TypeId) {te : TI} (hte : TypeOK P e te) {vs : List AV} {xs : List Value} {len : Nat} (hx : concL η vs = some xs) (hlen : vs.length = len * te.size) {k : Nat} (hk : len ≤ k) (hk2 : k < 2 ^ 63)
    {z : Array Value} (hz : z.size = te.size) :
    Trans P E η H w (η.bindK H.next w.heap.size k) (newOpen H e vs len).2 (w.drew.alloc (.cells (xs.toArray ++ Builtin.zeroCells z (k - len)) e)) ∧ Grow η (η.bindK H.next w.heap.size k) H (newOpen H e vs len).2 ∧
    conc (η.bindK H.next w.heap.size k) (newOpen H e vs len).1 = some (.slice (some ⟨w.heap.size, 0, none⟩) len k) := by
  have hl := concL_length hx
  have hsize : (xs.toArray ++ Builtin.zeroCells z (k - len)).size = k * te.size := by
    simp only [Array.size_append, zeroCells_size, hz, List.size_toArray, hl, hlen]
    rw [← Nat.add_mul]; congr 1; omega
  refine ⟨Trans.new hr hf (.cells (Tr.ofL vs) vs.length e true 0 0 false) (.cells (xs.toArray ++ Builtin.zeroCells z (k - len)) e) (Env.le_bindK hf.ρ hf.κ) (fun i => rfl) ?_ (fun j => Heap.get_new _ _ _) rfl rfl rfl, Grow.new (Only.bindK _ _ _ _) (fun j => Heap.get_new _ _ _) rfl, ?_⟩
  · exact ⟨rfl, fun i v hv _ => by
        rw [Tr.get_ofL] at hv
        obtain ⟨x, hx', hc⟩ := concL_get hx i v hv
        have hi : i < xs.length := (List.getElem?_eq_some_iff.1 hx').1
        exact ⟨x, by rw [Array.getElem?_append_left (by simpa using hi)]; simpa using hx', conc_mono (Env.le_bindK hf.ρ hf.κ) _ _ hc⟩,
      by rw [hsize, hlen]; exact Nat.mul_le_mul_right _ hk, (fun h => by cases h), fun _ => ⟨k, by simp [Env.bindK], hk2, by rw [hsize, hte.cellsOf]⟩, Nat.le_refl _, (fun off h1 h2 => by simp at h2), (fun h => by cases h)⟩
  · exact slice_conc (by simp [Env.bindK]) (by simp [capOf, Env.bindK]) (by omega)

theorem cut_cap (need old : Nat) (e : TypeId) (t : Nat) (h : need < 2 ^ 63) : need ≤ (Question.appendCap need old e).cut t ∧ (Question.appendCap need old e).cut t < 2 ^ 63 := by
  simp only [Question.cut]
  have : t % (2 ^ 63 - need) < 2 ^ 63 - need := Nat.mod_lt _ (by omega)
  omega
end Go.VmK
