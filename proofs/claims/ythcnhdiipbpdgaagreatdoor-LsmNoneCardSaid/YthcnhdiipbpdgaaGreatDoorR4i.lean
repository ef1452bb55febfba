/-
  A machine that runs the model with abstract blocks, and lemmas on it: whatever it answers of a call is what the model does (ProgOK, Base: the conditions).
-/
import Derived.Test.YthcnhdiipbpdgaaGreatDoorR4h
import Derived.Lib.UnsafeStr
namespace Go.VmK
variable {P : Program} {C : Ctx} {E : List LoopInfo} {η : Env} {H : Heap} {w : World}

/-! unsafe.String -/
theorem freeze_put {w : World} {r off n : Nat} {c : Array Value} {e : TypeId} {lo hi : Nat} (h : w.heap[r]? = some (.cells c e (lo, hi))) (hn : n ≠ 0) :
    w.freeze ⟨r, off, none⟩ n = World.putBlock w r (.cells c e (if lo == hi then (off, off + n) else (min lo off, max hi (off + n)))) := by
  unfold World.freeze World.putBlock
  rw [if_neg hn, modify_eq _ h]

theorem unsafeStr_sound (hC : CtxOK P C) (hr : HRel P η E H w) {t it : TypeId} {type : TypeId} {p n : AV} {x y : Value} (hx : conc η p = some x) (hy : conc η n = some y) {v : AV} {H' : Heap}
    (h : unsafeStr C H t p n = some (v, H')) : SimS P E η H w (Builtin.unsafeString_ #[t, it] type #[x, y]) v H' := by
  unfold unsafeStr at h
  split at h
  · rename_i k
    rw [conc_int hy]
    have zero : ∀ q, SimS P E η H w (Builtin.unsafeString_ #[t, it] type #[.pointer q, .int .i64 (Int.ofNat 0)]) (.str []) H := fun q =>
      SimS.pure hr rfl (Lib.run_unsafeString_none (P := P) (w := w) t it type q)
    unfold unsafeN at h
    split at h
    · rw [conc_nilp hx]
      cases hq : Nat.beq k 0 with
      | false => rw [hq] at h; cases h
      | true =>
        rw [hq] at h; simp only [cond_true, Option.some.injEq, Prod.mk.injEq] at h
        obtain ⟨rfl, rfl⟩ := h
        have := beq_eq hq; subst this
        exact zero none
    · rename_i b off
      obtain ⟨r', hb, rfl⟩ := conc_ptr hx
      cases hq : Nat.beq k 0 with
      | true =>
        rw [hq] at h; simp only [cond_true, Option.some.injEq, Prod.mk.injEq] at h
        obtain ⟨rfl, rfl⟩ := h
        have := beq_eq hq; subst this
        exact zero _
      | false =>
        rw [hq] at h; simp only [cond_false] at h
        have hk0 : k ≠ 0 := fun e => by rw [e] at hq; cases hq
        split at h
        · rename_i u hu
          cases hoff : Nat.beq off 0 with
          | false => rw [hoff] at h; cases h
          | true =>
            rw [hoff] at h; simp only [cond_true] at h
            have := beq_eq hoff; subst this
            unfold unsafeRow at h
            split at h
            · rename_i tr m e o lo hi mk te hg hte
              cases hq2 : (notB mk && Nat.beq e u && Nat.beq te.size 1 && Nat.ble k m && Nat.ble k 1099511627776) with
              | false => rw [hq2] at h; cases h
              | true =>
                rw [hq2] at h; simp only [cond_true] at h
                simp only [Bool.and_eq_true] at hq2
                obtain ⟨⟨⟨⟨q0, q1⟩, q2⟩, q3⟩, q4⟩ := hq2
                rw [notB_eq] at q0
                have hmk : mk = false := by cases mk <;> first | rfl | cases q0
                subst hmk
                have q1 := beq_eq q1; have q2 := beq_eq q2; have q3 := ble_le q3; have q4 := ble_le q4
                subst q1
                split at h
                · cases h
                · rename_i l hl
                  split at h
                  · rename_i s hs
                    simp only [Option.some.injEq, Prod.mk.injEq] at h
                    obtain ⟨rfl, rfl⟩ := h
                    have hloadN : loadN H b 0 k = some l := by
                      unfold loadN; rw [hg]; simp only []
                      rw [Nat.ble_eq_true_of_le (by omega)]; exact hl
                    obtain ⟨r2, xs, hb2, hxs, hxl, hll, hcell, _⟩ := loadN_sound (P := P) hr hloadN
                    rw [hb] at hb2; cases hb2
                    obtain ⟨a1, a2⟩ := asBytes_sound hs hxs
                    obtain ⟨r2, c, ⟨lo', hi'⟩, hb2, hh, hcr⟩ := getC hr hg
                    rw [hb] at hb2; cases hb2
                    have hsl : s.length = k := by omega
                    have hne : s ≠ [] := fun e => by subst e; simp at hsl; omega
                    have hrun := Lib.run_unsafeString_row (P := P) (w := w) t it type e (und_ok hC hu) (by rw [(ti_ok hC hte).cellsOf, q2]) r' c.size (by simp [World.shape?, hh]) s hne (by have := hcr.le; omega) (by omega) (fun j xb hj => by
                      rw [add_off]
                      have hjl : j < xs.length := by rw [← a1]; exact (List.getElem?_eq_some_iff.1 hj).1
                      obtain ⟨bb, hbb, hg2⟩ := a2 j _ (List.getElem?_eq_getElem hjl)
                      rw [hj] at hg2; cases hg2
                      have := hcell j _ (List.getElem?_eq_getElem hjl)
                      rw [this, hbb])
                    rw [hsl] at hrun
                    have hfz := freeze_put (off := 0) hh hk0
                    refine ⟨η, _, _, hrun, rfl, ?_, ?_⟩
                    · rw [hfz]
                      refine Trans.put hr hg hb _ _ ?_ rfl
                      have hcov := hcr.cover
                      have hle := hcr.fzle
                      simp only at hcov hle
                      refine ⟨rfl, hcr.get, hcr.le, hcr.shut, hcr.opened, ?_, ?_, (fun h => by cases h)⟩
                      · split
                        · simp
                        · simp only; omega
                      · intro off h1 h2
                        refine .inl ?_
                        by_cases hlh : hi ≤ lo
                        · have : ¬ lo' < hi' := fun hlt => by
                            rcases hcov lo' (Nat.le_refl _) hlt with ⟨p, q⟩ | ⟨p, _⟩
                            · omega
                            · cases p
                          have heq : lo' = hi' := by omega
                          rw [if_pos (by simp [heq])] at h1 h2
                          rw [Nat.ble_eq_true_of_le hlh]
                          simp at h1 h2 ⊢; omega
                        · have : Nat.ble hi lo = false := by cases hq9 : Nat.ble hi lo with | false => rfl | true => exact absurd (ble_le hq9) hlh
                          rw [this]; simp only [cond_false]
                          by_cases heq : lo' = hi'
                          · rw [if_pos (by simp [heq])] at h1 h2
                            simp at h1 h2 ⊢; omega
                          · rw [if_neg (by simp [heq])] at h1 h2
                            simp at h1 h2 ⊢
                            have hlt : lo' < hi' := by omega
                            rcases hcov (hi' - 1) (by omega) (by omega) with ⟨p, q⟩ | ⟨p, _⟩
                            · omega
                            · cases p
                    · refine ⟨Only.refl _ _, fun id _ hn => ?_, .inl ⟨rfl, rfl, fun hn => ?_⟩⟩
                      · rw [show freezeTo H b tr m e o lo hi k = H.put b _ from rfl, Heap.get_put, if_neg]; exact hn
                        intro e2; subst e2; rw [hg] at hn; cases hn
                      · rw [show freezeTo H b tr m e o lo hi k = H.put b _ from rfl, Heap.get_put, if_neg]; exact hn
                        intro e2; rw [e2, hg] at hn; cases hn
                  · cases h
            · cases h
        · cases h
    · cases h
  · cases h
end Go.VmK
