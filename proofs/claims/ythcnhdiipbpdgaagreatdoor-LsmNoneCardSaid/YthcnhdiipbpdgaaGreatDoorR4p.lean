/-
  A machine that runs the model with abstract blocks, and lemmas on it: whatever it answers of a call is what the model does (ProgOK, Base: the conditions).
-/
import Derived.Test.YthcnhdiipbpdgaaGreatDoorR4o
namespace Go.VmK
variable {P : Program} {C : Ctx} {E : List LoopInfo} {η : Env} {H : Heap} {w : World}

theorem doFunc_sound' {tmps : Tr AV} {ρ : Operand → Value} {fn : Fn} {first captured : Array Operand} (hev : EvOK η tmps (first.toList ++ captured.toList) ρ) {out : Out} (h : doFunc H tmps fn first.toList captured.toList = some out) :
    ∃ v, out = .val v H ∧ ∃ u, conc η v = some u ∧ (Instr.makeFunc fn (first.map ρ) (captured.map ρ)).run P w = .ok u w := by
  unfold doFunc at h
  split at h
  · rename_i f
    split at h
    · cases h
    · rename_i x hx
      split at h
      · cases h
      · rename_i y hy
        cases h
        have e1 := mapO_evo (fun z hz => hev z (by simp at hz ⊢; exact .inl hz)) hx
        have e2 := mapO_evo (fun z hz => hev z (by simp at hz ⊢; exact .inr hz)) hy
        refine ⟨_, rfl, .func (.func f) (first.map ρ) (captured.map ρ), ?_, rfl⟩
        simp [conc, e1, e2]
        constructor <;> (apply Array.ext'; simp)
  · cases h
theorem doMap_out {tmps : Tr AV} {t : TypeId} {r : Option Operand} {out : Out} (h : doMap C H tmps t r = some out) : ∃ v H', out = .val v H' := by
  unfold doMap at h
  split at h
  · cases h; exact ⟨_, _, rfl⟩
  · split at h <;> cases h

set_option maxHeartbeats 2000000 in
theorem wideEq_sound (hC : CtxOK P C) {t : TypeId} {a b : AV} {x y : Value} (hx : conc η a = some x) (hy : conc η b = some y) {r : Bool} (h : wideEq C t a b = some r) :
    (∀ w, (Op.equal t x y).run P w = .ok r w) ∧ (∀ op p q w, (eqGuard op t p q x y).run P w = .ok () w) ∧ (∃ xs, x = .agg xs) ∧ ∃ ys, y = .agg ys := by
  unfold wideEq at h
  split at h
  · rename_i m hm
    obtain ⟨⟨hm1, hk⟩, hg⟩ := hC.keys t m hm
    split at h
    · rename_i u hu
      cases hw : isWide u with
      | false => rw [hw] at h; cases h
      | true =>
        rw [hw] at h; simp only [cond_true] at h
        split at h
        · rename_i L L' h1 h2
          cases h
          have ht := und_ok hC hu
          obtain ⟨f1, f2, _, xs, _, rfl, _, _⟩ := litsOf_sound hC ht hw hk hx h1
          obtain ⟨g1, g2, _, ys, _, rfl, _, _⟩ := litsOf_sound hC ht hw hk hy h2
          refine ⟨fun w => ?_, fun op p q w => ?_, ⟨_, rfl⟩, ⟨_, rfl⟩⟩
          · obtain ⟨rb, hr, hiff⟩ := run_equalIn_deep (10000 - m) m t hk w m m _ _ _ _ f1 g1 f2 g2
            rw [show 10000 - m + m = 10000 by omega] at hr
            have : rb = eqKLs L L' := by
              cases hz : eqKLs L L' with
              | true => exact hiff.2 (by rw [eqKLs_eq _ _ hz])
              | false =>
                cases rb with
                | false => rfl
                | true => exact absurd (hiff.1 rfl) (eqKLs_ne _ _ hz)
            rw [← this]; exact hr
          · unfold eqGuard
            cases op <;> simp [hg, run_program]
        · cases h
    · cases h
  · cases h
theorem binWide_sound (hC : CtxOK P C) {op : BinOp} {t : TypeId} {a b : AV} {x y : Value} {p q : Operand} {v : AV} (hx : conc η a = some x) (hy : conc η b = some y) (h : binWide C op t a b = some v) :
    H = H ∧ ∃ u, conc η v = some u ∧ (do eqGuard op t p q x y; Go.binOp op t x y : Sem Value).run P w = .ok u w := by
  refine ⟨rfl, ?_⟩
  unfold binWide at h
  split at h
  · split at h
    · rename_i r hr
      cases h
      obtain ⟨h1, h2, ⟨xs, rfl⟩, ⟨ys, rfl⟩⟩ := wideEq_sound (P := P) hC hx hy hr
      exact ⟨.bool r, rfl, by simp [h2, Go.binOp, h1]⟩
    · cases h
  · split at h
    · rename_i r hr
      cases h
      obtain ⟨h1, h2, ⟨xs, rfl⟩, ⟨ys, rfl⟩⟩ := wideEq_sound (P := P) hC hx hy hr
      exact ⟨.bool (!r), by rw [notB_eq]; rfl, by simp [h2, Go.binOp, h1]⟩
    · cases h
  · cases h

set_option maxHeartbeats 1000000 in
theorem opStep_sound (hC : CtxOK P C) (hr : HRel P η E H w) (hf : Fresh η H H.next) {tmps : Tr AV} {ρ : Operand → Value} {o : Oper} (hev : EvOK η tmps o.op.operands.toList ρ) {out : Out} (h : opStep C H tmps o.op = some out) :
    OutOK P C E η H w ((execOp ρ o).run P w) out := by
  cases hop : o.op <;> rw [hop] at h hev <;> simp only [opStep] at h
  case move x =>
    obtain ⟨v, hv, rfl⟩ := valO_some h
    exact OutOK.same hr (hev x (by simp [Op.operands]) v hv) (by simp [execOp, hop])
  case assign x =>
    obtain ⟨v, hv, rfl⟩ := valO_some h
    exact OutOK.same hr (hev x (by simp [Op.operands]) v hv) (by simp [execOp, hop])
  case pick c a b =>
    unfold doPick at h
    split at h
    · rename_i hc
      obtain ⟨v, hv, rfl⟩ := valO_some h
      have h1 := conc_bool (hev c (by simp [Op.operands]) _ hc)
      exact OutOK.same hr (hev a (by simp [Op.operands]) v hv) (by simp [execOp, hop, h1, asBool])
    · rename_i hc
      obtain ⟨v, hv, rfl⟩ := valO_some h
      have h1 := conc_bool (hev c (by simp [Op.operands]) _ hc)
      exact OutOK.same hr (hev b (by simp [Op.operands]) v hv) (by simp [execOp, hop, h1, asBool])
    · cases h
  case alloc t =>
    have : ∃ v H', out = .val v H' := by
      unfold doAlloc at h
      split at h
      · split at h
        · cases h; exact ⟨_, _, rfl⟩
        · cases h
      · cases h
    obtain ⟨v, H', rfl⟩ := this
    simp only [execOp, hop]
    exact OutOK.sim (doAlloc_sound hC hr hf h)
  case box t x =>
    obtain ⟨a, ha, h⟩ := with1_some h
    have : ∃ v H', out = .val v H' := by
      unfold doBox at h
      split at h
      · cases h
      · cases h; exact ⟨_, _, rfl⟩
    obtain ⟨v, H', rfl⟩ := this
    simp only [execOp, hop]
    exact OutOK.sim (doBox_sound hr hf (hev x (by simp [Op.operands]) a ha) h)
  case build t ps =>
    unfold doBuild at h
    split at h
    · cases h
    · rename_i qs hqs
      obtain ⟨v, hv, rfl⟩ := valO_some h
      simp only [execOp, hop]
      have := evParts_sound (ρ := ρ) (by simpa [Op.operands] using hev) hqs
      exact OutOK.keep hr ⟨rfl, buildOp_sound (qs := ps.map fun (i, x) => (i, ρ x)) hC (by simpa using this) hv⟩
  case buildSlice t n ps =>
    unfold doBuildSlice at h
    split at h
    · cases h
    · rename_i qs hqs
      obtain ⟨v, H', hv, rfl⟩ := pairO_some h
      simp only [execOp, hop]
      have := evParts_sound (ρ := ρ) (by simpa [Op.operands] using hev) hqs
      exact OutOK.sim (buildSlice_sound (qs := ps.map fun (i, x) => (i, ρ x)) hC hr hf (by simpa using this) hv)
  case insert t m k x =>
    obtain ⟨a, b, ha, hb, h⟩ := with2_some h
    unfold doUpdate at h
    split at h
    · cases h
    · rename_i c hc
      obtain ⟨H', hq, rfl⟩ := skipO_some h
      simp only [execOp, hop]
      exact OutOK.simU (mapUpdate_sound hC hr (hev m (by simp [Op.operands]) a ha) (hev k (by simp [Op.operands]) b hb) (hev x (by simp [Op.operands]) c hc) hq)
  case load t a =>
    obtain ⟨v, hv, h⟩ := with1_some h
    obtain ⟨u, rfl⟩ := doLoad_val h
    simp only [execOp, hop]
    exact OutOK.sim (doLoad_sound hC hr (hev a (by simp [Op.operands]) v hv) h)
  case store t a x =>
    obtain ⟨u, v, hu, hv, h⟩ := with2_some h
    have : ∃ H', out = .skip H' := by
      unfold doStore at h
      split at h
      · obtain ⟨H', _, rfl⟩ := skipO_some h; exact ⟨H', rfl⟩
      · cases h
    obtain ⟨H', rfl⟩ := this
    simp only [execOp, hop]
    exact OutOK.simU (doStore_sound hC hr (hev a (by simp [Op.operands]) u hu) (hev x (by simp [Op.operands]) v hv) h)
  case ready => cases h
  case waits => cases h
  case nilCheck x =>
    obtain ⟨v, hv, h⟩ := with1_some h
    have : ∃ v H', out = .val v H' := by
      unfold doNil at h
      split at h <;> first | (cases h; exact ⟨_, _, rfl⟩) | cases h
    obtain ⟨u, H', rfl⟩ := this
    obtain ⟨rfl, rfl, hrun⟩ := doNil_sound (P := P) (w := w) hop rfl (hev x (by simp [Op.operands]) v hv) h
    exact OutOK.same hr (hev x (by simp [Op.operands]) _ hv) hrun
  case binOp op t x y yt =>
    obtain ⟨a, b, ha, hb, h⟩ := with2_some h
    simp only [execOp, hop]
    unfold doBin at h
    split at h
    · rename_i v hv
      cases h
      exact OutOK.keep hr (doBin_sound hC hr (p := x) (q := y) (hev x (by simp [Op.operands]) a ha) (hev y (by simp [Op.operands]) b hb) (by rw [hv]; rfl))
    · split at h
      · rename_i v hv
        cases h
        exact OutOK.keep hr (binWide_sound (H := H) hC (hev x (by simp [Op.operands]) a ha) (hev y (by simp [Op.operands]) b hb) hv)
      · cases hc : openCmp op a b with
        | false => rw [hc] at h; cases h
        | true =>
          rw [hc] at h; cases h
          obtain ⟨r, hrun⟩ := openCmp_sound hC hr (p := x) (q := y) (t := t) (hev x (by simp [Op.operands]) a ha) (hev y (by simp [Op.operands]) b hb) hc
          have hk := OutOK.keep (C := C) (E := E) (H := H) hr ⟨rfl, _, (show conc η (.bool r) = some (.bool r) from rfl), hrun⟩
          exact ⟨(.bool r, H), by cases r <;> simp, hk⟩
  case unOp op t x =>
    obtain ⟨a, ha, h⟩ := with1_some h
    obtain ⟨v, hv, rfl⟩ := valO_some h
    simp only [execOp, hop]
    exact OutOK.keep hr (doUn_sound (hev x (by simp [Op.operands]) a ha) (by unfold doUn; rw [hv]; rfl))
  case convert s d x =>
    obtain ⟨a, ha, h⟩ := with1_some h
    obtain ⟨v, H', hv, rfl⟩ := pairO_some h
    simp only [execOp, hop]
    exact OutOK.keep hr (convertOp_sound hC hr (hev x (by simp [Op.operands]) a ha) hv)
  case sliceToArrayPointer => cases h
  case makeInterface t x =>
    obtain ⟨a, ha, h⟩ := with1_some h
    have : ∃ v H', out = .val v H' := by
      unfold doIface at h
      split at h <;> first | (cases h; exact ⟨_, _, rfl⟩) | cases h
    obtain ⟨v, H', rfl⟩ := this
    simp only [execOp, hop]
    exact OutOK.keep hr (doIface_sound hC (hev x (by simp [Op.operands]) a ha) h)
  case makeFunc fn first captured =>
    obtain ⟨v, rfl, hq⟩ := doFunc_sound' (P := P) (w := w) (ρ := ρ) (by simpa [Op.operands] using hev) h
    simp only [execOp, hop]
    exact OutOK.keep hr ⟨rfl, hq⟩
  case makeMap t r =>
    obtain ⟨v, H', rfl⟩ := doMap_out h
    simp only [execOp, hop]
    exact OutOK.sim (doMap_sound hr hf h)
  case makeChan => cases h
  case makeSlice t l c =>
    obtain ⟨a, b, ha, hb, h⟩ := with2_some h
    obtain ⟨v, H', hv, rfl⟩ := pairO_some h
    simp only [execOp, hop]
    exact OutOK.sim (makeSlice_sound hC hr hf (hev l (by simp [Op.operands]) a ha) (hev c (by simp [Op.operands]) b hb) hv)
  case slice t x lo hi mx =>
    obtain ⟨a, ha, h⟩ := with1_some h
    unfold doSlice at h
    split at h
    · cases h
    · rename_i l hl
      split at h
      · cases h
      · rename_i hh hhi
        split at h
        · cases h
        · rename_i m hm
          obtain ⟨v, H', hv, rfl⟩ := pairO_some h
          simp only [execOp, hop]
          refine OutOK.keep hr (sliceOp_sound hC (hev x (by simp [Op.operands]) a ha) (evO_sound (ρ := ρ) (fun z hz => hev z ?_) hl) (evO_sound (ρ := ρ) (fun z hz => hev z ?_) hhi) (evO_sound (ρ := ρ) (fun z hz => hev z ?_) hm) hv) <;>
            (simp only [Option.mem_toList] at hz; simp [Op.operands, hz])
  case fieldAddr t x f =>
    obtain ⟨a, ha, h⟩ := with1_some h
    obtain ⟨v, hv, rfl⟩ := valO_some h
    simp only [execOp, hop]
    exact OutOK.keep hr ⟨rfl, fieldAddr_sound hC (hev x (by simp [Op.operands]) a ha) hv⟩
  case field t x f =>
    obtain ⟨a, ha, h⟩ := with1_some h
    obtain ⟨v, hv, rfl⟩ := valO_some h
    simp only [execOp, hop]
    exact OutOK.keep hr ⟨rfl, fieldOp_sound hC (hev x (by simp [Op.operands]) a ha) hv⟩
  case indexAddr t x ix =>
    obtain ⟨a, b, ha, hb, h⟩ := with2_some h
    obtain ⟨v, hv, rfl⟩ := valO_some h
    simp only [execOp, hop]
    exact OutOK.keep hr ⟨rfl, indexAddr_sound hC (hev x (by simp [Op.operands]) a ha) (hev ix (by simp [Op.operands]) b hb) hv⟩
  case index t x ix =>
    obtain ⟨a, b, ha, hb, h⟩ := with2_some h
    obtain ⟨v, hv, rfl⟩ := valO_some h
    simp only [execOp, hop]
    exact OutOK.keep hr ⟨rfl, indexOp_sound hC (hev x (by simp [Op.operands]) a ha) (hev ix (by simp [Op.operands]) b hb) hv⟩
  case lookup t x ix ok =>
    obtain ⟨a, b, ha, hb, h⟩ := with2_some h
    obtain ⟨v, hv, rfl⟩ := valO_some h
    simp only [execOp, hop]
    exact OutOK.keep hr ⟨rfl, mapLookup_sound hC hr (hev x (by simp [Op.operands]) a ha) (hev ix (by simp [Op.operands]) b hb) hv⟩
  case mapUpdate t m k x =>
    obtain ⟨a, b, ha, hb, h⟩ := with2_some h
    unfold doUpdate at h
    split at h
    · cases h
    · rename_i c hc
      obtain ⟨H', hq, rfl⟩ := skipO_some h
      simp only [execOp, hop]
      exact OutOK.simU (mapUpdate_sound hC hr (hev m (by simp [Op.operands]) a ha) (hev k (by simp [Op.operands]) b hb) (hev x (by simp [Op.operands]) c hc) hq)
  case mapEntry t m k =>
    obtain ⟨a, b, ha, hb, h⟩ := with2_some h
    obtain ⟨v, H', hv, rfl⟩ := pairO_some h
    simp only [execOp, hop]
    exact OutOK.sim (mapEntry_sound hC hr (hev m (by simp [Op.operands]) a ha) (hev k (by simp [Op.operands]) b hb) hv)
  case entryStore t m st x =>
    obtain ⟨a, b, ha, hb, h⟩ := with2_some h
    unfold doEntryStore at h
    split at h
    · cases h
    · rename_i c hc
      obtain ⟨H', hq, rfl⟩ := skipO_some h
      simp only [execOp, hop]
      exact OutOK.simU (entryStore_sound hr (hev m (by simp [Op.operands]) a ha) (hev st (by simp [Op.operands]) b hb) (hev x (by simp [Op.operands]) c hc) hq)
  case range t x =>
    obtain ⟨a, ha, h⟩ := with1_some h
    obtain ⟨v, H', hv, rfl⟩ := pairO_some h
    simp only [execOp, hop]
    exact OutOK.sim (rangeOp_sound hC hr hf (hev x (by simp [Op.operands]) a ha) hv)
  case next it s =>
    obtain ⟨a, ha, h⟩ := with1_some h
    unfold doNext at h
    split at h
    · cases h
    · rename_i l hl
      cases h
      simp only [execOp, hop]
      obtain ⟨p, hp, η', x, w', h1, h2, h3, h4⟩ := nextOp_sound hr (hev it (by simp [Op.operands]) a ha) hl o.type
      exact ⟨p, hp, η', x, w', by simp [h1], h2, h3, h4⟩
  case entry it =>
    obtain ⟨a, ha, h⟩ := with1_some h
    obtain ⟨v, hv, rfl⟩ := valO_some h
    simp only [execOp, hop]
    exact OutOK.keep hr ⟨rfl, entryOp_sound hr (hev it (by simp [Op.operands]) a ha) hv⟩
  case typeAssert x xt t ok =>
    obtain ⟨a, ha, h⟩ := with1_some h
    obtain ⟨v, hv, rfl⟩ := valO_some h
    simp only [execOp, hop]
    exact OutOK.keep hr (doAssert_sound hC (hev x (by simp [Op.operands]) a ha) (by unfold doAssert; rw [hv]; rfl))
  case extract x i =>
    obtain ⟨a, ha, h⟩ := with1_some h
    have : ∃ v H', out = .val v H' := by
      unfold doExtract at h
      split at h
      · obtain ⟨v, _, rfl⟩ := valO_some h; exact ⟨_, _, rfl⟩
      · cases h
    obtain ⟨v, H', rfl⟩ := this
    simp only [execOp, hop]
    exact OutOK.keep hr (doExtract_sound (hev x (by simp [Op.operands]) a ha) h)
  case call c =>
    simp only [execOp, hop]
    exact callOp_sound hC hr hf (by simpa [Op.operands] using hev) h
  all_goals cases h
end Go.VmK
