/-
  A machine that runs the model with abstract blocks, and lemmas on it: whatever it answers of a call is what the model does (ProgOK, Base: the conditions).
-/
import Derived.Test.YtbanldnjpnfgkaaGreatDoorV6
import Derived.WalkKit
import Derived.ProofKit
import Derived.OpenShut
import Derived.WideKeyArgs
import Derived.Laws.Externs
import Derived.MapKept
import Derived.Lib.Bytealg
import Derived.Lib.MakeNoZero
import GoSem.ClaimGoes
import Derived.Sort.Row
import Derived.Sort.Grow
import Derived.Sort.EncStr
import Derived.Laws.BitsLemmas
namespace Go.VmK
open Go.RowKit Go.ChangeShapes Go.WideShapes
variable {H : Type} {enc : TypeId × Value → H} {P : Program}

/-- a slice of structs: the texts in it -/
theorem open_rows {w : World} {base : Nat} {spare : Nat → Bool} {held : Bool} {t e : TypeId} {fs : Array Field} {fuel : Nat} {cs : List Value} {x : DataW H × List MemPlace} (ht : P.underlying t = some (.slice e)) (he : P.underlying e = some (.struct fs)) (hp : 0 < P.cellsOf e)
    (h : DataW.trod enc P w base spare held fuel t cs = some x) :
    (∃ ao cap, cs = [.slice ao 0 cap]) ∨ ∃ (bk off len cap : Nat), cs = [.slice (some ⟨bk, off, none⟩) len cap] ∧ len ≤ maxLen ∧
      ∀ (i : Nat) (f : Field), fs[i]? = some f → P.underlying f.type = some .string → P.cellsOf f.type = 1 → f.offset < P.cellsOf e → ∀ j, j < len → ∃ s, w.cell? ⟨bk, off + j * P.cellsOf e + f.offset, none⟩ = some (.string s) := by
  rcases DataW.trod_slice ht h with ⟨rfl, _⟩ | ⟨a, len, cap, elems, rest, n, _, rfl, rfl, hb, hl, hm, hlen, hel, hsp, hns⟩
  · exact .inl ⟨none, 0, rfl⟩
  · by_cases h0 : len = 0
    · subst h0; exact .inl ⟨some a, cap, rfl⟩
    · have key : ∀ j, j < len → ∃ cs' y, w.cells? base (a.add (j * P.cellsOf e)) (P.cellsOf e) = some cs' ∧ DataW.trod enc P w base spare held n e cs' = some y := by
        intro j hj
        have h1 := hel j hj
        rw [List.getElem?_eq_getElem (by omega), Option.bind_eq_some_iff] at h1
        obtain ⟨cs', h2, h3⟩ := h1
        exact ⟨cs', _, h2, h3⟩
      have hspot : a.spot = none := by
        obtain ⟨cs', y, h1, _⟩ := key 0 (by omega)
        obtain ⟨_, h3, h4⟩ := World.cells?_some h1
        have h5 := h4 0 hp
        have hz : (a.add (0 * P.cellsOf e)).add 0 = a := by simp [Addr.add]
        rw [hz] at h5
        cases hq : a.spot with
        | none => rfl
        | some s =>
          have : w.cell? a = none := by
            unfold World.cell?
            split <;> simp [hq]
          rw [this, List.getElem?_eq_getElem (by omega)] at h5
          cases h5
      obtain ⟨bk, off, sp⟩ := a
      cases hspot
      refine .inr ⟨bk, off, len, cap, rfl, by omega, fun i f hf hs hc1 hof j hj => ?_⟩
      obtain ⟨cs', y, h1, h2⟩ := key j hj
      obtain ⟨_, h3, h4⟩ := World.cells?_some h1
      obtain ⟨xs, m, _, _, h5, _, h6⟩ := DataW.trod_struct he h2
      have h7 := h6 i f hf
      have hxl : xs.length = fs.size := by assumption
      have hi : i < xs.length := by rw [hxl]; exact (Array.getElem?_eq_some_iff.1 hf).1
      rw [List.getElem?_eq_getElem hi] at h7
      obtain ⟨s, h8, _⟩ := DataW.trod_string hs h7
      refine ⟨s, ?_⟩
      have h9 := h4 f.offset hof
      have hadd : ((⟨bk, off, none⟩ : Addr).add (j * P.cellsOf e)).add f.offset = ⟨bk, off + j * P.cellsOf e + f.offset, none⟩ := by
        unfold Addr.add
        split <;> split <;> simp_all
      rw [hadd] at h9
      rw [h9]
      rw [hc1] at h8
      have := congrArg (·[0]?) h8
      simpa using this
theorem Stands.same {w w' : World} (h : Stands w w') {p : MemPlace} (hp : p.block < w.heap.size) : w.sameAt w' p := by
  cases p with
  | cell b o => simp only [World.sameAt, World.cell?]; rw [h.blocks b hp]
  | map b => exact h.blocks b hp
theorem Stands.kept {w w' : World} (h : Stands w w') (may : MemPlace → Prop) : w.keptBut w' may := by
  refine ⟨h.os, h.output, fun i hi => ?_⟩
  rw [h.blocks i hi]
  cases w.heap[i]? with
  | none => trivial
  | some o => cases o <;> simp
theorem trodAll_stays {W W' : World} {sp' : Nat → Bool} (hl : laidOutB P = true) : ∀ (ts : List TypeId) (vs : List Value) (ds : List (DataW H)) (ps : List MemPlace), (∀ t ∈ ts, P.readableRec t = true ∧ t < P.types.size) →
    DataW.TrodAll enc P W 0 (fun _ => true) true ts vs ds ps → (∀ p ∈ ps, W.sameAt W' p) → (∀ p ∈ ps, sp' p.block = true) → DataW.TrodAll enc P W' 0 sp' true ts vs ds ps
  | [], vs, ds, ps, _, h, _, _ => by
    obtain ⟨rfl, rfl, rfl⟩ := trodAll_nil h
    rfl
  | t :: ts, vs, ds, ps, ht, h, h1, h2 => by
    obtain ⟨v, vs', d, ds', p, q, rfl, rfl, rfl, hd, hr⟩ := trodAll_cons h
    refine ⟨p, q, WideElems.Trod_stays hl (ht t (by simp)).1 (ht t (by simp)).2 hd (fun x hx => h1 x (by simp [hx])) (fun x hx => h2 x (by simp [hx])), trodAll_stays hl ts vs' ds' q (fun t' h' => ht t' (by simp [h'])) hr (fun x hx => h1 x (by simp [hx])) (fun x hx => h2 x (by simp [hx])), rfl⟩
/-- what a statement says behind a call that answers yes and leaves what stood -/
theorem post_yes {f : Func} {s : ChangeSpec} {apart fresh handsOn : Bool} {W W' : World} {args : Array Value} {ds gs : List (DataW H)} {before : List MemPlace} {tb : TypeId} (hl : laidOutB P = true) (hr : ∀ t ∈ f.params.toList, P.readableRec t = true ∧ t < P.types.size)
    (hW : DataW.Whole enc P f.params.toList s.vars apart W args.toList ds gs before) (hv : s.vars = []) (hrt : f.resultTypes = #[tb]) (htb : P.underlying tb = some .bool)
    (hres : (s.fn H (ds ++ gs)).results = [.lit (.bool true)]) (hargs : (s.fn H (ds ++ gs)).args = ds) (hvars : (s.fn H (ds ++ gs)).vars = []) (st : Stands W W') :
    s.post enc P f apart fresh handsOn false W args (.bool true) W' := by
  have hlt := hW.lt
  have hW' := hW
  obtain ⟨p, q, hA, hV, rfl, hfz, hnd⟩ := hW
  rw [hv] at hV
  have hq : gs = [] ∧ q = [] := by
    cases gs with
    | nil => exact ⟨rfl, hV⟩
    | cons => exact hV.elim
  obtain ⟨rfl, rfl⟩ := hq
  refine ⟨ds, [], p ++ [], [], p, [], hW', ?_, ?_, ?_, st.kept _, fun h => by cases h⟩
  · rw [hres, hrt]
    exact trodAll_cons_mk (shut_bool htb _) trodAll_mk0
  · rw [hargs]
    exact trodAll_stays hl _ _ _ _ hr hA (fun x hx => st.same (hlt x (by simp [hx]))) (fun x hx => by simpa using hlt x (by simp [hx]))
  · rw [hv, hvars]; rfl
theorem ext_same_ok {f : FuncId} {fn : Func} (hf : P.funcs[f]? = some fn) (h1 : (fn.name == "runtime.NumGoroutine") = false) (h2 : fn.body.isNone = true) (h3 : Extern.findNext fn = none) (h4 : Extern.find fn = some Extern.AbiNoEscape.same) : ExtOK P f .same :=
  fun x w => by rw [run_callFunc_extern hf h1 h2 h3 h4]; rfl
theorem ext_clone_ok {f : FuncId} {fn : Func} (hf : P.funcs[f]? = some fn) (h1 : (fn.name == "runtime.NumGoroutine") = false) (h2 : fn.body.isNone = true) (h3 : Extern.findNext fn = none) (h4 : Extern.find fn = some Extern.MapsClone.clone) : ExtOK P f .mapsClone :=
  fun t b es c w hb => by
    rw [run_callFunc_extern hf h1 h2 h3 h4]
    have e : Extern.MapsClone.clone #[.iface t (.map (some b))] = (getObj b >>= fun o => match o with
      | .map entries clock => (newObj (.map entries clock) >>= fun n => pure (.iface t (.map (some n))))
      | _ => stuck "maps.clone: a map expected") := rfl
    rw [e]
    simp [MapKept.run_getObj_map hb, Result.andThen, go_sem]
end Go.VmK
namespace Go.VmK
variable {P : Program}
theorem cntByte_eq (c : UInt8) : ∀ s : List UInt8, cntByte c.toNat s = (s.filter (· == c)).length
  | [] => rfl
  | b :: r => by
    have e : Nat.beq b.toNat c.toNat = (b == c) := by rw [Bool.eq_iff_iff, Nat.beq_eq]; simp [UInt8.toNat_inj]
    unfold cntByte
    rw [e, List.filter_cons]
    cases b == c <;> simp [cntByte_eq c r]
theorem byte_mod (n : Nat) : Nat.mod n 256 = n.toUInt8.toNat := by
  show n % 256 = _
  simp [Nat.toUInt8, UInt8.toNat_ofNat']
theorem ext_count_ok {f : FuncId} {fn : Func} (hf : P.funcs[f]? = some fn) (h1 : (fn.name == "runtime.NumGoroutine") = false) (h2 : fn.body.isNone = true) (h3 : Extern.findNext fn = none) (h4 : Extern.find fn = some Extern.BytealgCount.count) : ExtOK P f .count :=
  fun s c w => by
    rw [run_callFunc_extern hf h1 h2 h3 h4, Lib.run_countString, byte_mod, cntByte_eq]
    simp [Result.andThen, Lib.countByte, List.count_eq_length_filter]
theorem compare_eq : ∀ x y : List UInt8, (bif ltL x y then Int.negSucc 0 else bif ltL y x then Int.ofNat 1 else Int.ofNat 0) = Lib.compareBytes x y
  | [], [] => rfl
  | [], _ :: _ => rfl
  | _ :: _, [] => rfl
  | a :: x, b :: y => by
    have ih := compare_eq x y
    have h1 : Nat.blt a.toNat b.toNat = decide (a < b) := by
      rw [Bool.eq_iff_iff]; simp [Nat.blt_eq, UInt8.lt_iff_toNat_lt]
    have h2 : Nat.blt b.toNat a.toNat = decide (b < a) := by
      rw [Bool.eq_iff_iff]; simp [Nat.blt_eq, UInt8.lt_iff_toNat_lt]
    have h3 : Nat.beq a.toNat b.toNat = decide (a = b) := by
      rw [Bool.eq_iff_iff, Nat.beq_eq]; simp [UInt8.toNat_inj]
    have h4 : Nat.beq b.toNat a.toNat = decide (a = b) := by
      rw [Bool.eq_iff_iff, Nat.beq_eq]; simp [UInt8.toNat_inj]; exact eq_comm
    simp only [ltL, h1, h2, h3, h4, Lib.compareBytes]
    by_cases hab : a < b
    · simp [hab]
    · by_cases hba : b < a
      · have hne : ¬ a = b := fun e => by subst e; exact hab hba
        simp [hab, hba, hne]
      · have he : a = b := by
          apply UInt8.toNat_inj.1
          rw [UInt8.lt_iff_toNat_lt] at hab hba
          omega
        subst he
        simpa [hab] using ih
theorem ext_compare_ok {f : FuncId} {fn : Func} (hf : P.funcs[f]? = some fn) (h1 : (fn.name == "runtime.NumGoroutine") = false) (h2 : fn.body.isNone = true) (h3 : Extern.findNext fn = none) (h4 : Extern.find fn = some Extern.BytealgCompare.compare) : ExtOK P f .compare :=
  fun x y w => by
    rw [run_callFunc_extern hf h1 h2 h3 h4, Lib.run_compareString, compare_eq]
    simp [Result.andThen]
theorem idxByte_eq (c : UInt8) : ∀ (s : List UInt8) (k : Nat), idxByte c.toNat s k = (if Lib.indexByte s c < 0 then -1 else Lib.indexByte s c + k)
  | [], k => by simp [idxByte, Lib.indexByte]
  | b :: r, k => by
    have e : Nat.beq b.toNat c.toNat = (b == c) := by rw [Bool.eq_iff_iff, Nat.beq_eq]; simp [UInt8.toNat_inj]
    have h1 := Lib.indexByte_ge r c
    have ih := idxByte_eq c r (k + 1)
    unfold idxByte
    rw [e]
    cases hb : b == c with
    | true => simp [Lib.indexByte, hb]
    | false =>
      simp only [cond_false, ih, Lib.indexByte, hb]
      simp
      by_cases hn : Lib.indexByte r c < 0
      · have : Lib.indexByte r c = -1 := by omega
        simp [this]
      · have h2 : ¬ Lib.indexByte r c = -1 := by omega
        simp [hn, h2]
        omega
theorem ext_indexByte_ok {f : FuncId} {fn : Func} (hf : P.funcs[f]? = some fn) (h1 : (fn.name == "runtime.NumGoroutine") = false) (h2 : fn.body.isNone = true) (h3 : Extern.findNext fn = none) (h4 : Extern.find fn = some Extern.BytealgIndexByte.indexByte) : ExtOK P f .indexByte :=
  fun s c w => by
    rw [run_callFunc_extern hf h1 h2 h3 h4, Lib.run_indexByteString, byte_mod, idxByte_eq]
    have h5 := Lib.indexByte_ge s c.toNat.toUInt8
    have h6 : (if Lib.indexByte s c.toNat.toUInt8 < 0 then (-1 : Int) else Lib.indexByte s c.toNat.toUInt8 + (0 : Nat)) = Lib.indexByte s c.toNat.toUInt8 := by
      split <;> omega
    rw [h6]
    rfl
theorem ext_makeNoZero_ok {f : FuncId} {fn : Func} {ps : Array TypeId} {t e : TypeId} (hf : P.funcs[f]? = some fn) (h1 : (fn.name == "runtime.NumGoroutine") = false) (h2 : fn.body.isNone = true) (h3 : Extern.findNext fn = none) (h4 : Extern.find fn = some (Extern.BytealgMakeNoZero.makeNoZero ps #[t])) (ht : P.underlying t = some (.slice e)) (hc : P.cellsOf e = 1) : ExtOK P f (.makeNoZero e) :=
  ⟨hc, fun n w hn => by
    obtain ⟨cs, r1, r2, r3⟩ := Lib.run_makeNoZero (P := P) w ps t e ht n (by omega)
    have hm : cs.size ≤ maxLen := r3 (by unfold maxLen; omega)
    refine ⟨cs, r2, by unfold maxLen at hm; omega, ?_⟩
    have r1' : (Extern.BytealgMakeNoZero.makeNoZero ps #[t] #[.int .i64 (Int.ofNat n)]).run P w = .ok (.slice (some ⟨w.heap.size, 0, none⟩) n cs.size) (w.drew.drew.alloc (.cells cs e)) := r1
    rw [run_callFunc_extern hf h1 h2 h3 h4, r1']
    simp [Result.andThen]⟩
/-- where no function at all starts a goroutine none that is called does -/
theorem goes_none (h : P.funcs.any Func.goes = false) (f : FuncId) : P.goes f = false := by
  unfold Program.goes
  rw [h, Bool.and_false, Bool.or_false, List.any_eq_false]
  intro g _
  cases hg : P.funcs[g]? with
  | none => simp
  | some fn =>
    have hm : fn ∈ P.funcs := Array.mem_of_getElem? hg
    rw [Array.any_eq_false'] at h
    simpa using h fn hm
theorem goesBy_none {c : OpenClaim} (hs : c.start = .entering) (h : P.funcs.any Func.goes = false) : false = c.goesBy P := by
  unfold OpenClaim.goesBy Program.goesAt Program.goesFrom
  rw [hs]
  simp only [Bool.or_false]
  cases P.funcNamed c.func with
  | none => rfl
  | some f => exact (goes_none h f).symm
end Go.VmK
/- A row of texts is sorted in its place: slices.Sort by its contract. -/
namespace Go.VmK
variable {P : Program} {O : Env → Heap → World → Prop}
open Go.Sort Go.Proofs

theorem bytesLess_iff : ∀ (x y : List UInt8), Op.bytesLess x y = decide (x < y)
  | [], [] => by simp [Op.bytesLess]
  | _ :: _, [] => by simp [Op.bytesLess]
  | [], _ :: _ => by simp [Op.bytesLess]
  | a :: x, b :: y => by
    rw [Op.bytesLess, bytesLess_iff x y]
    by_cases h : a < b
    · simp [h, List.cons_lt_cons_iff]
    · by_cases h2 : a = b
      · subst h2; simp [h]
      · simp [h, h2, List.cons_lt_cons_iff]
theorem insertL_perm (x : List UInt8) : ∀ l : List (List UInt8), (insertL x l).Perm (x :: l)
  | [] => List.Perm.refl _
  | y :: r => by
    unfold insertL
    cases ltL y x with
    | true => exact ((insertL_perm x r).cons y).trans (List.Perm.swap x y r)
    | false => exact List.Perm.refl _
theorem sortL_perm : ∀ l : List (List UInt8), (sortL l).Perm l
  | [] => List.Perm.refl _
  | x :: r => (insertL_perm x (sortL r)).trans ((sortL_perm r).cons x)
theorem insertL_sorted (x : List UInt8) : ∀ l : List (List UInt8), l.Pairwise (fun a b => a ≤ b) → (insertL x l).Pairwise (fun a b => a ≤ b)
  | [], _ => by simp [insertL]
  | y :: r, h => by
    unfold insertL
    have hy := List.pairwise_cons.1 h
    cases hb : ltL y x with
    | true =>
      refine List.pairwise_cons.2 ⟨fun z hz => ?_, insertL_sorted x r hy.2⟩
      rcases List.mem_cons.1 ((insertL_perm x r).mem_iff.1 hz) with rfl | hz
      · rw [ltL_eq, bytesLess_iff] at hb
        exact List.le_of_lt (of_decide_eq_true hb)
      · exact hy.1 z hz
    | false =>
      have hxy : x ≤ y := by
        rw [ltL_eq, bytesLess_iff] at hb
        exact List.not_lt.1 (of_decide_eq_false hb)
      refine List.pairwise_cons.2 ⟨fun z hz => ?_, h⟩
      rcases List.mem_cons.1 hz with rfl | hz
      · exact hxy
      · exact List.le_trans hxy (hy.1 z hz)
theorem sortL_sorted : ∀ l : List (List UInt8), (sortL l).Pairwise (fun a b => a ≤ b)
  | [] => List.Pairwise.nil
  | x :: r => insertL_sorted x _ (sortL_sorted r)
theorem sortL_eq (l : List (List UInt8)) : l.mergeSort (fun x y => decide (x ≤ y)) = sortL l := by
  have tr : ∀ a b c : List UInt8, decide (a ≤ b) = true → decide (b ≤ c) = true → decide (a ≤ c) = true := fun a b c h1 h2 => by simp only [decide_eq_true_eq] at *; exact List.le_trans h1 h2
  have to : ∀ a b : List UInt8, (decide (a ≤ b) || decide (b ≤ a)) = true := fun a b => by simp only [Bool.or_eq_true, decide_eq_true_eq]; exact List.le_total a b
  refine List.Perm.eq_of_pairwise (le := fun a b => decide (a ≤ b) = true) (fun a b _ _ h1 h2 => ?_) (List.pairwise_mergeSort tr to l) ((sortL_sorted l).imp fun h => decide_eq_true h) ((List.mergeSort_perm l _).trans (sortL_perm l).symm)
  simp only [decide_eq_true_eq] at h1 h2
  exact List.le_antisymm h1 h2
theorem strsOf_eq : ∀ (l : List AV) (ss : List (List UInt8)), strsOf l = some ss → l = ss.map .str
  | [], ss, h => by simp [strsOf] at h; subst h; rfl
  | x :: r, ss, h => by
    cases x <;> simp [strsOf] at h
    rename_i s
    cases hr : strsOf r with
    | none => simp [hr] at h
    | some l =>
      simp [hr] at h; subst h
      rw [strsOf_eq r l hr]; rfl
theorem concL_strs (η : Env) : ∀ ss : List (List UInt8), concL η (ss.map .str) = some (ss.map encStr)
  | [] => rfl
  | s :: r => by simp [concL, conc, concL_strs η r]

theorem putCells_write (xs : List (List UInt8)) (c : Array Value) (off : Nat) (h : off + xs.length ≤ c.size) : putCells encStr off xs.toArray c = writeL c off (xs.map encStr) := by
  apply Array.ext_getElem?
  intro k
  rw [writeL_get _ _ _ (by simpa using h)]
  simp only [putCells, Array.getElem?_mapIdx, List.length_map, List.size_toArray]
  by_cases hk : off ≤ k ∧ k < off + xs.length
  · rw [if_pos hk, Array.getElem?_eq_getElem (by omega)]
    simp only [Option.map_some, if_pos hk, List.getElem?_map]
    rw [List.getElem?_eq_getElem (by omega)]
    simp only [Option.map_some]
    rw [getElem!_pos _ _ (by simp; omega)]
    simp
  · rw [if_neg hk]
    cases c[k]? with
    | none => rfl
    | some y => simp [hk]
theorem putRow_put {w : World} {r : Nat} {c : Array Value} {e : TypeId} {fz : Nat × Nat} (h : w.heap[r]? = some (.cells c e fz)) (xs : List (List UInt8)) (off : Nat) (hle : off + xs.length ≤ c.size) :
    putRow encStr w r off xs.toArray = World.putBlock w r (.cells (writeL c off (xs.map encStr)) e fz) := by
  unfold putRow mapBlock World.putBlock
  rw [← putCells_write xs c off hle]
  congr 1
  apply Array.ext_getElem?
  intro k
  rw [Array.getElem?_modify, Array.getElem?_setIfInBounds]
  by_cases hk : r = k
  · subst hk
    rw [if_pos rfl, if_pos rfl, if_pos (lt_of_get h), h]
    rfl
  · rw [if_neg hk, if_neg hk]

theorem conOne_sort {H : Heap} {args : List AV} {p : AV × Heap} (h : conOne .sort H args = some p) : ∃ b off len cap, args = [.slice b off len cap] ∧ conSort H b off len = some p := by
  match args, h with
  | [.slice b off len cap], h => exact ⟨b, off, len, cap, rfl, h⟩
theorem conSort_some {H : Heap} {b off len : Nat} {p : AV × Heap} (h : conSort H b off len = some p) : ∃ ss H', 1 ≤ len ∧ len ≤ 4096 ∧ loadN H b off len = some (ss.map .str) ∧ storeL H b off ((sortL ss).map .str) = some H' ∧ p = (.tuple [], H') := by
  unfold conSort at h
  cases hb : (Nat.ble 1 len && Nat.ble len 4096) with
  | false => rw [hb] at h; cases h
  | true =>
    rw [hb] at h
    simp only [Bool.and_eq_true] at hb
    simp only [cond_true] at h
    split at h
    · cases h
    · rename_i vs hvs
      split at h
      · cases h
      · rename_i ss hss
        split at h
        · cases h
        · rename_i H' hH'
          cases h
          exact ⟨ss, H', ble_le hb.1, ble_le hb.2, by rw [hvs, strsOf_eq _ _ hss], hH', rfl⟩
theorem storeL_some {H H' : Heap} {b off : Nat} {vs : List AV} (h : storeL H b off vs = some H') : ∃ t n e o lo hi mk, H.get b = some (.cells t n e o lo hi mk) ∧ off + vs.length ≤ n ∧ (hi ≤ off ∨ off + vs.length ≤ lo) := by
  unfold storeL at h
  split at h
  · rename_i t n e o lo hi mk hg
    cases hb : (Nat.ble (off + vs.length) n && (Nat.ble hi off || Nat.ble (off + vs.length) lo) && vs.all AV.oneCell) with
    | false => simp [hb] at h
    | true =>
      simp only [Bool.and_eq_true, Bool.or_eq_true] at hb
      exact ⟨t, n, e, o, lo, hi, mk, hg, ble_le hb.1.1, hb.1.2.imp ble_le ble_le⟩
  · cases h

/-- SLICES.SORT OF TEXTS, BY ITS CONTRACT. -/
theorem sort_ok {f : FuncId} (h : ∀ (blk off cap : Nat) (ss : List (List UInt8)) (w : World), Holds encStr w blk off ss.toArray → blk < w.heap.size → ss.length < 4611686018427387904 →
    Calls P f #[.slice (some ⟨blk, off, none⟩) ss.length cap] w fun e w' => e = .returned (.tuple #[]) ∧ ∃ n os, w' = grow (putRow encStr (Sort.ahead w n) blk off (ss.mergeSort fun x y => decide (x ≤ y)).toArray) os) : ConOK P O f .sort := by
  intro E η H w args xs l bs hx hl cs
  simp only [conRun] at hl
  split at hl
  · rename_i p hp
    cases hl
    obtain ⟨b, off, len, cap, rfl, hp⟩ := conOne_sort hp
    obtain ⟨ss, H', hl1, hl2, hld, hst, rfl⟩ := conSort_some hp
    obtain ⟨t, n, e, o, lo, hi, mk, hg, hle, hfr⟩ := storeL_some hst
    have hlen : (sortL ss).length = ss.length := (sortL_perm ss).length_eq
    simp only [List.length_map, hlen] at hle hfr
    obtain ⟨r, c, fz, hρ, hh, hc⟩ := getC bs.rel hg
    obtain ⟨r1, vs, hρ1, hvs, hvl, hll, hcell, _⟩ := loadN_sound bs.rel hld
    obtain rfl : r1 = r := by rw [hρ] at hρ1; exact (Option.some.inj hρ1).symm
    obtain rfl : vs = ss.map encStr := by rw [concL_strs] at hvs; exact (Option.some.inj hvs).symm
    have hls : ss.length = len := by simpa using hll
    subst hls
    have hcs := hc.le
    have hH : Holds encStr w r1 off ss.toArray := fun j hj => by
      have hj : j < ss.length := by simpa using hj
      refine ⟨?_, ?_⟩
      · have := hcell j (encStr ss[j]) (by simp [hj])
        rw [this, getElem!_pos _ _ (by simpa using hj)]; simp
      · simp only [World.frozen?, hh]
        have hnf : ¬ (fz.1 ≤ off + j ∧ off + j < fz.2) := fun hq => by
          rcases hc.cover (off + j) hq.1 hq.2 with ⟨p, q⟩ | ⟨_, p⟩ <;> omega
        simp; omega
    simp only [concL, conc, hρ] at hx
    cases hk : capOf η cap with
    | none => simp [hk] at hx
    | some k =>
      simp only [hk] at hx
      by_cases hkl : ss.length ≤ k
      · simp [hkl] at hx
        subst hx
        have hsz : ss.length < 4611686018427387904 := by omega
        obtain ⟨ex, w', fr, ⟨rfl, nn, os, rfl⟩, h1, h2, h3⟩ := h r1 off k ss w hH (lt_of_get hh) hsz cs
        obtain ⟨r2, w2, hρ2, hrun, htr, hnx⟩ := storeL_sound bs.rel hst (concL_strs η (sortL ss))
        obtain rfl : r2 = r1 := by rw [hρ] at hρ2; exact (Option.some.inj hρ2).symm
        have hone : ∀ x ∈ (sortL ss).map encStr, x.oneCell' = true := fun x hx => by
          obtain ⟨s, _, rfl⟩ := List.mem_map.1 hx; rfl
        have hw2 := run_storeCells_go (P := P) r2 off e fz ((sortL ss).map encStr) 0 w c hh (by simp [hlen]; omega) hone (fun j hj hq => by
          simp [hlen] at hj
          rcases hc.cover (off + j) (by omega) (by omega) with ⟨p, q⟩ | ⟨_, p⟩ <;> omega)
        rw [hrun, if_neg (by intro hq; have := congrArg List.length hq; simp [hlen] at this; subst this; simp at hl1)] at hw2
        have hw2' : w2 = World.putBlock w r2 (.cells (writeL c off ((sortL ss).map encStr)) e fz) := by
          injection hw2
        have hrow : putRow encStr (Sort.ahead w nn) r2 off (ss.mergeSort fun x y => decide (x ≤ y)).toArray = Sort.ahead w2 nn := by
          rw [sortL_eq, putRow_put (w := Sort.ahead w nn) hh (sortL ss) off (by rw [hlen]; omega), hw2']
          rfl
        have hstd : Stands w2 (grow (putRow encStr (Sort.ahead w nn) r2 off (ss.mergeSort fun x y => decide (x ≤ y)).toArray) os) := by
          rw [hrow]
          refine ⟨rfl, rfl, by simp [grow], fun b hb => ?_⟩
          show (w2.heap ++ os)[b]? = w2.heap[b]?
          rw [Array.getElem?_append_left hb]
        have ht := htr.trans (Trans.stands htr.rel hstd)
        have hob := storeL_objs hst
        exact ⟨_, List.mem_cons_self, η, .tuple #[], _, ⟨fr, h1, h2, going_of h3⟩, rfl, ht,
          fun id hid => let f := bs.above id (by rw [hnx] at hid; exact hid); ⟨hob id f.get, f.ρ, f.κ, f.σ⟩,
          ⟨Only.refl _ _, fun id _ hn => hob id hn, Nat.le_of_eq hnx.symm⟩⟩
      · simp [hkl] at hx
  · cases hl
end Go.VmK
/- Facts on what is handed from outside. -/
namespace Go.VmK
variable {P : Program} {C : Ctx}
theorem fact_of' {op : BinOp} {a b r : AV} (h : ∀ (η : Env) (w : World), Fit C η w → ∃ x y z, conc η a = some x ∧ conc η b = some y ∧ conc η r = some z ∧ (∀ (t : TypeId) (p q : Operand), (do eqGuard op t p q x y; Go.binOp op t x y : Sem Value).run P w = .ok z w)) : FactOK P C (op, a, b, r) := by
  intro η w hf x y hx hy
  obtain ⟨x', y', z, h1, h2, h3, h4⟩ := h η w hf
  have e1 : x = x' := by rw [h1] at hx; exact (Option.some.inj hx).symm
  have e2 : y = y' := by rw [h2] at hy; exact (Option.some.inj hy).symm
  subst e1; subst e2
  exact ⟨z, h3, h4⟩
theorem fact_of {op : BinOp} {a b : AV} {r : Bool} (h : ∀ (η : Env) (w : World), Fit C η w → ∃ x y, conc η a = some x ∧ conc η b = some y ∧ (∀ (t : TypeId) (p q : Operand), (do eqGuard op t p q x y; Go.binOp op t x y : Sem Value).run P w = .ok (.bool r) w)) : FactOK P C (op, a, b, .bool r) :=
  fact_of' fun η w hf => by
    obtain ⟨x, y, h1, h2, h3⟩ := h η w hf
    exact ⟨x, y, .bool r, h1, h2, rfl, h3⟩
theorem conc_len {η : Env} {w : World} (hf : Fit C η w) {i : Nat} {s : ByteArray} (h : C.base i = some (.string s)) : conc η (.symLen i) = some (.int .i64 (Int.ofNat s.size)) := by
  simp only [conc, hf.base i _ h]
theorem conc_txt {η : Env} {w : World} (hf : Fit C η w) {i : Nat} {s : ByteArray} (h : C.base i = some (.string s)) : conc η (.symStr i) = some (.string s) := by
  simp only [conc, hf.base i _ h]
theorem conc_num {η : Env} {w : World} (hf : Fit C η w) {i : Nat} {n : Int} (h : C.base i = some (.int .i64 n)) : conc η (.symInt .i64 i) = some (.int .i64 n) := by
  simp [conc, hf.base i _ h]
theorem fact_leq_len {i : Nat} {s : ByteArray} {k : Int} {r : Bool} (h : C.base i = some (.string s)) (hr : r = decide ((s.size : Int) ≤ k)) : FactOK P C (.leq, .symLen i, .int .i64 k, .bool r) :=
  fact_of fun η w hf => ⟨_, _, conc_len hf h, rfl, fun t p q => by subst hr; simp [eqGuard, Go.binOp, Op.intCmp]⟩
theorem fact_geq_len {i : Nat} {s : ByteArray} {k : Int} {r : Bool} (h : C.base i = some (.string s)) (hr : r = decide (k ≤ (s.size : Int))) : FactOK P C (.geq, .symLen i, .int .i64 k, .bool r) :=
  fact_of fun η w hf => ⟨_, _, conc_len hf h, rfl, fun t p q => by subst hr; simp [eqGuard, Go.binOp, Op.intCmp]⟩
theorem fact_leq_int {i : Nat} {n k : Int} {r : Bool} (h : C.base i = some (.int .i64 n)) (hr : r = decide (n ≤ k)) : FactOK P C (.leq, .symInt .i64 i, .int .i64 k, .bool r) :=
  fact_of fun η w hf => ⟨_, _, conc_num hf h, rfl, fun t p q => by subst hr; simp [eqGuard, Go.binOp, Op.intCmp]⟩
theorem fact_geq_int {i : Nat} {n k : Int} {r : Bool} (h : C.base i = some (.int .i64 n)) (hr : r = decide (k ≤ n)) : FactOK P C (.geq, .symInt .i64 i, .int .i64 k, .bool r) :=
  fact_of fun η w hf => ⟨_, _, conc_num hf h, rfl, fun t p q => by subst hr; simp [eqGuard, Go.binOp, Op.intCmp]⟩
theorem fact_lss_int {i : Nat} {n k : Int} {r : Bool} (h : C.base i = some (.int .i64 n)) (hr : r = decide (n < k)) : FactOK P C (.lss, .symInt .i64 i, .int .i64 k, .bool r) :=
  fact_of fun η w hf => ⟨_, _, conc_num hf h, rfl, fun t p q => by subst hr; simp [eqGuard, Go.binOp, Op.intCmp]⟩
theorem fact_gtr_int {i : Nat} {n k : Int} {r : Bool} (h : C.base i = some (.int .i64 n)) (hr : r = decide (k < n)) : FactOK P C (.gtr, .symInt .i64 i, .int .i64 k, .bool r) :=
  fact_of fun η w hf => ⟨_, _, conc_num hf h, rfl, fun t p q => by subst hr; simp [eqGuard, Go.binOp, Op.intCmp]⟩
theorem fact_geq_txt {i j : Nat} {s s' : ByteArray} {r : Bool} (h : C.base i = some (.string s)) (h' : C.base j = some (.string s')) (hr : r = !Op.bytesLess s.toList s'.toList) : FactOK P C (.geq, .symStr i, .symStr j, .bool r) :=
  fact_of fun η w hf => ⟨_, _, conc_txt hf h, conc_txt hf h', fun t p q => by subst hr; simp [eqGuard, Go.binOp, Op.stringOp]⟩
theorem fact_neq_self {i : Nat} {s : ByteArray} (h : C.base i = some (.string s)) : FactOK P C (.neq, .symStr i, .symStr i, .bool false) :=
  fact_of fun η w hf => ⟨_, _, conc_txt hf h, conc_txt hf h, fun t p q => by simp [eqGuard, Go.binOp, Op.stringOp]⟩
theorem empty_size (n : ByteArray) : n.toList = [] ↔ n.size = 0 := by
  rw [ByteArray.toList_eq]
  constructor
  · intro h; have := congrArg List.length h; rw [Array.length_toList] at this; exact this
  · intro h; exact List.eq_nil_of_length_eq_zero (by rw [Array.length_toList]; exact h)
theorem fact_neq_empty {i : Nat} {s : ByteArray} {r : Bool} (h : C.base i = some (.string s)) (hr : r = decide (1 ≤ s.size)) : FactOK P C (.neq, .symStr i, .str [], .bool r) :=
  fact_of fun η w hf => ⟨_, _, conc_txt hf h, rfl, fun t p q => by
    have e0 : (ByteArray.mk ([] : List UInt8).toArray).toList = [] := (empty_size _).2 rfl
    have e : (s.toList == []) = decide (s.size = 0) := by
      rw [Bool.eq_iff_iff, decide_eq_true_iff, beq_iff_eq]
      exact empty_size s
    have e2 : (!decide (s.size = 0)) = decide (1 ≤ s.size) := by
      by_cases h0 : s.size = 0
      · simp [h0]
      · have : 1 ≤ s.size := by omega
        simp [h0, this]
    subst hr
    rw [← e2, ← e]
    have run : (Go.binOp .neq t (.string s) (.string (ByteArray.mk ([] : List UInt8).toArray))).run P w = .ok (.bool (!(s.toList == (ByteArray.mk ([] : List UInt8).toArray).toList))) w := by
      simp [Go.binOp, Op.stringOp]
    rw [e0] at run
    have g : (eqGuard .neq t p q (.string s) (.string (ByteArray.mk ([] : List UInt8).toArray))).run P w = .ok () w := by
      simp [eqGuard]
    rw [Sem.run_bind, g, Result.andThen_ok, run]⟩
theorem fact_sub_int {i j : Nat} {n k m : Int} (h : C.base i = some (.int .i64 n)) (hj : C.base j = some (.int .i64 m)) (hm : m = IntKind.i64.wrap (n - k)) : FactOK P C (.sub, .symInt .i64 i, .int .i64 k, .symInt .i64 j) :=
  fact_of' fun η w hf => ⟨_, _, _, conc_num hf h, rfl, conc_num hf hj, fun t p q => by subst hm; simp [eqGuard, Go.binOp, Op.intArith]⟩
theorem fact_gtr_lit {i : Nat} {n k : Int} {r : Bool} (h : C.base i = some (.int .i64 n)) (hr : r = decide (n < k)) : FactOK P C (.gtr, .int .i64 k, .symInt .i64 i, .bool r) :=
  fact_of fun η w hf => ⟨_, _, rfl, conc_num hf h, fun t p q => by subst hr; simp [eqGuard, Go.binOp, Op.intCmp]⟩
end Go.VmK
/- Facts on operations whose operands are handed from outside. -/
namespace Go.VmK
variable {P : Program} {C : Ctx}
theorem fit_le {η : Env} {w : World} (hf : Fit C η w) : (env0 C.base).le η := ⟨fun _ _ h => (by cases h), fun _ _ h => (by cases h), hf.base⟩
theorem ofact_mk {k : Nat × Nat × Nat} {xs : List AV} {r : AV} {ys : List Value} {z : Value} (hx : concL (env0 C.base) xs = some ys) (hz : conc (env0 C.base) r = some z)
    (h : ∀ (w : World) (o : Oper) (ρ : Operand → Value), (∀ b i x, C.mem b i = some x → w.cell? ⟨b, i, none⟩ = some x) → okey o.op = some k → o.op.operands.toList.map ρ = ys → (execOp ρ o).run P w = .ok (.value z) w) : OFactOK P C (k, xs, r) := by
  intro η w hf ys' hy
  have e : ys = ys' := by have := concL_mono (fit_le hf) _ _ hx; rw [this] at hy; exact Option.some.inj hy
  subst e
  exact ⟨z, conc_mono (fit_le hf) _ _ hz, fun o ρ hk ho => h w o ρ hf.mem hk ho⟩
theorem fact_mk {op : BinOp} {a b r : AV} {x y z : Value} (hx : conc (env0 C.base) a = some x) (hy : conc (env0 C.base) b = some y) (hz : conc (env0 C.base) r = some z)
    (h : ∀ (t : TypeId) (p q : Operand) (w : World), (do eqGuard op t p q x y; Go.binOp op t x y : Sem Value).run P w = .ok z w) : FactOK P C (op, a, b, r) := by
  intro η w hf x' y' hx' hy'
  have e1 : x = x' := by have := conc_mono (fit_le hf) _ _ hx; rw [this] at hx'; exact Option.some.inj hx'
  have e2 : y = y' := by have := conc_mono (fit_le hf) _ _ hy; rw [this] at hy'; exact Option.some.inj hy'
  subst e1; subst e2
  exact ⟨z, conc_mono (fit_le hf) _ _ hz, fun t p q => h t p q w⟩
/-- whole numbers -/
theorem fact_ints {op : BinOp} {a b r : AV} {k k' : IntKind} {n m : Int} {v : AV} (hx : conc (env0 C.base) a = some (.int k n)) (hy : conc (env0 C.base) b = some (.int k' m)) (hv : intOp2 op k n k' m = some v)
    (hz : conc (env0 C.base) r = conc (env0 C.base) v) : FactOK P C (op, a, b, r) := by
  obtain ⟨z, hf, _⟩ := intOp2_sound P default (t := 0) hv
  refine fact_mk hx hy (hz.trans (hf.conc _)) fun t p q w => ?_
  obtain ⟨z', hf', hr⟩ := intOp2_sound P w (t := t) hv
  have e : z = z' := by have := (hf.conc (env0 C.base)).symm.trans (hf'.conc (env0 C.base)); exact Option.some.inj this
  subst e
  simp [eqGuard_ok (P := P) (x := .int k n) (y := .int k' m) trivial, hr]
theorem fact_lss {a b : AV} {k : IntKind} {n m : Int} {c : Bool} (hx : conc (env0 C.base) a = some (.int k n)) (hy : conc (env0 C.base) b = some (.int k m)) (h : c = decide (n < m)) : FactOK P C (.lss, a, b, .bool c) :=
  fact_mk hx hy rfl fun t p q w => by subst h; simp [eqGuard, Go.binOp, Op.intCmp]
theorem fact_gtr {a b : AV} {k : IntKind} {n m : Int} {c : Bool} (hx : conc (env0 C.base) a = some (.int k n)) (hy : conc (env0 C.base) b = some (.int k m)) (h : c = decide (m < n)) : FactOK P C (.gtr, a, b, .bool c) :=
  fact_mk hx hy rfl fun t p q w => by subst h; simp [eqGuard, Go.binOp, Op.intCmp]
theorem fact_leq {a b : AV} {k : IntKind} {n m : Int} {c : Bool} (hx : conc (env0 C.base) a = some (.int k n)) (hy : conc (env0 C.base) b = some (.int k m)) (h : c = decide (n ≤ m)) : FactOK P C (.leq, a, b, .bool c) :=
  fact_mk hx hy rfl fun t p q w => by subst h; simp [eqGuard, Go.binOp, Op.intCmp]
theorem fact_geq {a b : AV} {k : IntKind} {n m : Int} {c : Bool} (hx : conc (env0 C.base) a = some (.int k n)) (hy : conc (env0 C.base) b = some (.int k m)) (h : c = decide (m ≤ n)) : FactOK P C (.geq, a, b, .bool c) :=
  fact_mk hx hy rfl fun t p q w => by subst h; simp [eqGuard, Go.binOp, Op.intCmp]
theorem fact_eql {a b : AV} {k : IntKind} {n m : Int} {c : Bool} (hx : conc (env0 C.base) a = some (.int k n)) (hy : conc (env0 C.base) b = some (.int k m)) (h : c = decide (n = m)) : FactOK P C (.eql, a, b, .bool c) :=
  fact_mk hx hy rfl fun t p q w => by subst h; simp [eqGuard, Go.binOp, Op.intCmp]; rw [Bool.eq_iff_iff]; simp
theorem fact_neq {a b : AV} {k : IntKind} {n m : Int} {c : Bool} (hx : conc (env0 C.base) a = some (.int k n)) (hy : conc (env0 C.base) b = some (.int k m)) (h : c = decide (¬ n = m)) : FactOK P C (.neq, a, b, .bool c) :=
  fact_mk hx hy rfl fun t p q w => by subst h; simp [eqGuard, Go.binOp, Op.intCmp]; rw [Bool.eq_iff_iff]; simp
theorem fact_add {a b r : AV} {k : IntKind} {n m l : Int} (hx : conc (env0 C.base) a = some (.int k n)) (hy : conc (env0 C.base) b = some (.int k m)) (hz : conc (env0 C.base) r = some (.int k l)) (h : k.wrap (n + m) = l) : FactOK P C (.add, a, b, r) :=
  fact_mk hx hy hz fun t p q w => by subst h; simp [eqGuard, Go.binOp, Op.intArith]
theorem fact_sub {a b r : AV} {k : IntKind} {n m l : Int} (hx : conc (env0 C.base) a = some (.int k n)) (hy : conc (env0 C.base) b = some (.int k m)) (hz : conc (env0 C.base) r = some (.int k l)) (h : k.wrap (n - m) = l) : FactOK P C (.sub, a, b, r) :=
  fact_mk hx hy hz fun t p q w => by subst h; simp [eqGuard, Go.binOp, Op.intArith]
/-- texts -/
theorem fact_cat {a b r : AV} {s t u : ByteArray} (hx : conc (env0 C.base) a = some (.string s)) (hy : conc (env0 C.base) b = some (.string t)) (hz : conc (env0 C.base) r = some (.string u)) (h : s ++ t = u) (hs : s.size + t.size ≤ 9223372036854775807) : FactOK P C (.add, a, b, r) :=
  fact_mk hx hy hz fun t' p q w => by
    subst h
    have hs' : ¬ ((s.size + t.size : Nat) : Int) > IntKind.i64.max := by
      have : IntKind.i64.max = 9223372036854775807 := by decide
      rw [this]; omega
    simp only [eqGuard, Go.binOp, Op.stringOp]
    rw [if_neg hs']
    simp
theorem fact_eqs {a b : AV} {s t : ByteArray} {c : Bool} (hx : conc (env0 C.base) a = some (.string s)) (hy : conc (env0 C.base) b = some (.string t)) (h : c = decide (s = t)) : FactOK P C (.eql, a, b, .bool c) :=
  fact_mk hx hy rfl fun t' p q w => by
    subst h
    have e : (s.toList == t.toList) = decide (s = t) := by
      rw [Bool.eq_iff_iff, beq_iff_eq, decide_eq_true_iff]
      constructor
      · intro h; rw [ByteArray.toList_eq, ByteArray.toList_eq] at h; exact ByteArray.ext (Array.toList_inj.1 h)
      · rintro rfl; rfl
    simp [eqGuard, Go.binOp, Op.stringOp, e]
theorem fact_nes {a b : AV} {s t : ByteArray} {c : Bool} (hx : conc (env0 C.base) a = some (.string s)) (hy : conc (env0 C.base) b = some (.string t)) (h : c = decide (¬ s = t)) : FactOK P C (.neq, a, b, .bool c) :=
  fact_mk hx hy rfl fun t' p q w => by
    subst h
    have e : (s.toList == t.toList) = decide (s = t) := by
      rw [Bool.eq_iff_iff, beq_iff_eq, decide_eq_true_iff]
      constructor
      · intro h; rw [ByteArray.toList_eq, ByteArray.toList_eq] at h; exact ByteArray.ext (Array.toList_inj.1 h)
      · rintro rfl; rfl
    have run : (Go.binOp .neq t' (.string s) (.string t)).run P w = .ok (.bool (!(s.toList == t.toList))) w := by simp [Go.binOp, Op.stringOp]
    rw [e] at run
    have g : (eqGuard .neq t' p q (.string s) (.string t)).run P w = .ok () w := by simp [eqGuard]
    rw [Sem.run_bind, g, Result.andThen_ok, run]
    simp
/-- operations, by their kind -/
theorem run_slice_hi {o : Oper} {ρ : Operand → Value} {t : TypeId} {s : ByteArray} {h : Nat} {w : World} (hu : P.underlying t = some .string) (hh : h ≤ s.size) (hk : okey o.op = some (6, t, 2)) (ho : o.op.operands.toList.map ρ = [.string s, .int .i64 h]) :
    (execOp ρ o).run P w = .ok (.value (.string (s.extract 0 h))) w := by
  cases hop : o.op <;> rw [hop] at hk ho <;> simp [okey] at hk <;> try ((split at hk <;> simp at hk); done)
  rename_i t' x lo hi mx
  obtain ⟨rfl, hk⟩ := hk
  cases lo <;> cases hi <;> cases mx <;> simp [one01] at hk
  rename_i y
  simp [Op.operands] at ho
  obtain ⟨h1, h2⟩ := ho
  have hh' : (h : Int) ≤ s.size := by omega
  simp [execOp, hop, Instr.sliceAt, Go.underlying, hu, Instr.slice, Instr.sliceBounds, Instr.sliceBound, h1, h2, asIntOf]
  intro h'; omega
theorem run_slice_lo {o : Oper} {ρ : Operand → Value} {t : TypeId} {s : ByteArray} {l : Nat} {w : World} (hu : P.underlying t = some .string) (hh : l ≤ s.size) (hk : okey o.op = some (6, t, 1)) (ho : o.op.operands.toList.map ρ = [.string s, .int .i64 l]) :
    (execOp ρ o).run P w = .ok (.value (.string (s.extract l s.size))) w := by
  cases hop : o.op <;> rw [hop] at hk ho <;> simp [okey] at hk <;> try ((split at hk <;> simp at hk); done)
  rename_i t' x lo hi mx
  obtain ⟨rfl, hk⟩ := hk
  cases lo <;> cases hi <;> cases mx <;> simp [one01] at hk
  rename_i y
  simp [Op.operands] at ho
  obtain ⟨h1, h2⟩ := ho
  have hh' : (l : Int) ≤ s.size := by omega
  simp [execOp, hop, Instr.sliceAt, Go.underlying, hu, Instr.slice, Instr.sliceBounds, Instr.sliceBound, h1, h2, asIntOf]
  intro h'; omega
theorem run_index {o : Oper} {ρ : Operand → Value} {t : TypeId} {s : ByteArray} {i : Nat} {w : World} (hu : P.underlying t = some .string) (hi : i < s.size) (hk : okey o.op = some (5, t, 0)) (ho : o.op.operands.toList.map ρ = [.string s, .int .i64 i]) :
    (execOp ρ o).run P w = .ok (.value (.int .u8 s[i].toNat)) w := by
  cases hop : o.op <;> rw [hop] at hk ho <;> simp [okey] at hk <;> try ((split at hk <;> simp at hk); done)
  rename_i t' x y
  obtain rfl := hk
  simp [Op.operands] at ho
  obtain ⟨h1, h2⟩ := ho
  have e : s[i]? = some s[i] := by simp [hi]
  simp [execOp, hop, Instr.index, Go.underlying, hu, h1, h2, asIntOf, e]
theorem run_conv {o : Oper} {ρ : Operand → Value} {a b : TypeId} {j j' k : IntKind} {n : Int} {w : World} (ha : P.underlying a = some (.int j)) (hb : P.underlying b = some (.int k)) (hk : okey o.op = some (7, a, b)) (ho : o.op.operands.toList.map ρ = [.int j' n]) :
    (execOp ρ o).run P w = .ok (.value (.int k (k.wrap n))) w := by
  cases hop : o.op <;> rw [hop] at hk ho <;> simp [okey] at hk <;> try ((split at hk <;> simp at hk); done)
  rename_i a' b' x
  obtain ⟨rfl, rfl⟩ := hk
  simp [Op.operands] at ho
  simp [execOp, hop, Go.convert, Go.underlying, ha, hb, ho, Conv.intToInt]
theorem ofact_slice_hi {t : TypeId} {a b r : AV} {s : ByteArray} {h : Nat} (hu : P.underlying t = some .string) (ha : conc (env0 C.base) a = some (.string s)) (hb : conc (env0 C.base) b = some (.int .i64 h)) (hr : conc (env0 C.base) r = some (.string (s.extract 0 h))) (hh : h ≤ s.size) : OFactOK P C ((6, t, 2), [a, b], r) :=
  ofact_mk (by simp [concL, ha, hb]) hr fun _ _ _ _ hk ho => run_slice_hi hu hh hk ho
theorem ofact_slice_lo {t : TypeId} {a b r : AV} {s : ByteArray} {l : Nat} (hu : P.underlying t = some .string) (ha : conc (env0 C.base) a = some (.string s)) (hb : conc (env0 C.base) b = some (.int .i64 l)) (hr : conc (env0 C.base) r = some (.string (s.extract l s.size))) (hh : l ≤ s.size) : OFactOK P C ((6, t, 1), [a, b], r) :=
  ofact_mk (by simp [concL, ha, hb]) hr fun _ _ _ _ hk ho => run_slice_lo hu hh hk ho
theorem ofact_index {t : TypeId} {a b r : AV} {s : ByteArray} {i : Nat} (hu : P.underlying t = some .string) (ha : conc (env0 C.base) a = some (.string s)) (hb : conc (env0 C.base) b = some (.int .i64 i)) (hi : i < s.size) (hr : conc (env0 C.base) r = some (.int .u8 s[i].toNat)) : OFactOK P C ((5, t, 0), [a, b], r) :=
  ofact_mk (by simp [concL, ha, hb]) hr fun _ _ _ _ hk ho => run_index hu hi hk ho
theorem ofact_conv {a b : TypeId} {j j' k : IntKind} {x r : AV} {n m : Int} (hua : P.underlying a = some (.int j)) (hub : P.underlying b = some (.int k)) (hx : conc (env0 C.base) x = some (.int j' n)) (hr : conc (env0 C.base) r = some (.int k m)) (h : k.wrap n = m) : OFactOK P C ((7, a, b), [x], r) := by
  subst h
  exact ofact_mk (by simp [concL, hx]; rfl) hr fun _ _ _ _ hk ho => run_conv hua hub hk ho
end Go.VmK
/- Functions that answer this of a row that holds that; calls that end in just one value. -/
namespace Go.VmK
variable {P : Program}
theorem rowFn_ok {w0 : World} {σ0 : Nat → Option Value} {f : FuncId} {rs : List (List AV × AV)}
    (h : ∀ r ∈ rs, ∃ ys z, concL (env0 σ0) r.1 = some ys ∧ conc (env0 σ0) r.2 = some z ∧ ∀ (w : World) (bk off cap : Nat), Stands w0 w → bk < w.heap.size → (∀ (j : Nat) y, ys[j]? = some y → w.cell? ⟨bk, off + j, none⟩ = some y) →
      Calls P f #[.slice (some ⟨bk, off, none⟩) ys.length cap] w fun e w' => e = .returned z ∧ Stands w w') : ConOK P (Outer w0 σ0 fun b => b < w0.heap.size) f (.fn (rowFn rs)) := by
  intro E η H w args ys l b hy hl cs
  simp only [conRun] at hl
  unfold rowFn at hl
  split at hl
  · rename_i bk off len cap
    split at hl
    · rename_i la hla
      split at hl
      · rename_i v hv
        cases hl
        obtain ⟨zs, z, h1, h2, h3⟩ := h _ (answerOf_some rs hv)
        have hle : (env0 σ0).le η := ⟨fun _ _ h => (by cases h), fun _ _ h => (by cases h), b.inv.σ⟩
        obtain ⟨r, cells, g1, g2, g3⟩ := loadN_sound b.rel hla
        have hz : zs = cells := by have := concL_mono hle _ _ h1; rw [this] at g2; exact Option.some.inj g2
        subst hz
        cases hcs : conc η (.slice bk off len cap) with
        | none => rw [concL, hcs] at hy; cases hy
        | some x =>
          rw [concL, hcs] at hy
          obtain rfl : [x] = ys := Option.some.inj hy
          simp only [conc, g1] at hcs
          cases hcp : capOf η cap with
          | none => simp [hcp] at hcs
          | some c =>
            rw [hcp] at hcs
            simp only at hcs
            split at hcs
            · cases hcs
              obtain ⟨k1, _, k2, _⟩ := g3
              have hlt : r < w.heap.size := by
                unfold loadN at hla
                split at hla
                · rename_i hg
                  obtain ⟨b', ob, e1, e2, _⟩ := b.rel.obj _ _ hg
                  rw [g1] at e1; cases e1
                  exact lt_of_get e2
                · cases hla
              have := h3 w r off c ⟨b.inv.os, b.inv.output, b.inv.size, fun b' hb' => (b.inv.blocks b' hb').2.1⟩ hlt k2
              rw [k1] at this
              obtain ⟨e, w', fr, ⟨rfl, hs⟩, q1, q2, q3⟩ := this cs
              exact ⟨(v, H), List.mem_cons_self, η, z, w', ⟨fr, q1, q2, going_of q3⟩, conc_mono hle _ _ h2, Trans.stands b.rel hs, b.above, Below.refl _ _ _⟩
            · cases hcs
      · cases hl
    · cases hl
  · cases hl
def allVal (v : AV) (l : List (AV × Heap)) : Bool := l.all fun p => eqAV p.1 v
def saysVal (v : AV) (o : Option (List (AV × Heap))) : Bool := match o with | some l => allVal v l | none => false
/-- A RUN THAT ENDS IN THAT VALUE ON ALL ITS WAYS IS A CALL THAT ANSWERS IT AND LEAVES WHAT STOOD. -/
theorem calls_val {C : Ctx} {w0 : World} {σ0 : Nat → Option Value} (hC : ProgOK P C (Outer w0 σ0 fun b => b < w0.heap.size)) (hmix : P.follows .mixedOrders = true) {n k : Nat} {f : FuncId} {args : List AV} {xs : List Value} {v : AV} {y : Value}
    (hr : saysVal v (runCall C n f args (heap0 k)) = true) (hσ : ∀ i, k ≤ i → σ0 i = none) (hx : concL (env0 σ0) args = some xs) (hy : conc (env0 σ0) v = some y) :
    Calls P f xs.toArray w0 fun e w' => e = .returned y ∧ Stands w0 w' := by
  cases ho : runCall C n f args (heap0 k) with
  | none => rw [ho] at hr; cases hr
  | some outs =>
    rw [ho] at hr
    refine (runCall_sound hC hmix ho (Base.start w0 σ0 _ k (fun _ h => h) hσ) hx).mono fun e w' ⟨p, hp, η', x, he, hc, ht⟩ => ?_
    have hb := eqAV_eq _ _ (List.all_eq_true.1 hr p hp)
    rw [hb] at hc
    have hle : (env0 σ0).le η' := ⟨fun _ _ h => (by cases h), fun _ _ h => (by cases h), ht.le.σ⟩
    have : x = y := by have := conc_mono hle _ _ hy; rw [this] at hc; exact (Option.some.inj hc).symm
    subst this
    exact ⟨he, ht.keeps.os, ht.keeps.output, ht.keeps.size, fun b hb => ht.frame b hb fun ⟨id, o, h, _⟩ => by simp [heap0, Heap.get, Tr.get_lf] at h⟩
end Go.VmK
/- A function that says how two rows of bytes stand. -/
namespace Go.VmK
variable {P : Program}
def bytesL : List AV → Option (List UInt8)
  | [] => some []
  | .int .u8 (.ofNat z) :: r => match bytesL r with
    | some l => some (UInt8.ofNat z :: l)
    | none => none
  | _ :: _ => none
theorem bytesL_conc {η : Env} : ∀ {l : List AV} {x : List UInt8} {xs : List Value}, bytesL l = some x → concL η l = some xs → ∃ ns : List Nat, xs = ns.map (fun n => Value.int .u8 (Int.ofNat n)) ∧ x = ns.map UInt8.ofNat
  | [], x, xs, h, hc => by
    simp [bytesL] at h; simp [concL] at hc; subst h; subst hc; exact ⟨[], rfl, rfl⟩
  | v :: r, x, xs, h, hc => by
    unfold bytesL at h
    split at h
    · rename_i e; simp at e
    · rename_i z r' e
      obtain ⟨rfl, rfl⟩ := List.cons.inj e
      split at h
      · rename_i l hl
        simp only [concL, conc] at hc
        cases hr : concL η r with
        | none => rw [hr] at hc; cases hc
        | some ys =>
          rw [hr] at hc
          obtain ⟨ns, rfl, rfl⟩ := bytesL_conc hl hr
          exact ⟨z :: ns, (Option.some.inj hc).symm, (Option.some.inj h).symm⟩
      · cases h
    · cases h
noncomputable def cmpRows (H : Heap) : List AV → Option (List (AV × Heap))
  | [.slice b1 o1 n1 _, .slice b2 o2 n2 _] => match loadN H b1 o1 n1, loadN H b2 o2 n2 with
    | some l1, some l2 => match bytesL l1, bytesL l2 with
      | some x, some y => some [(.int .i64 (bif ltL x y then Int.negSucc 0 else bif ltL y x then Int.ofNat 1 else Int.ofNat 0), H)]
      | _, _ => none
    | _, _ => none
  | _ => none
theorem slice_inv {P : Program} {E : List LoopInfo} {η : Env} {H : Heap} {w : World} (hr : HRel P η E H w) {b off k : Nat} {cap : Cap} {l : List AV} {x : List UInt8} {y : Value} (h : loadN H b off k = some l) (hb : bytesL l = some x) (hc : conc η (.slice b off k cap) = some y) :
    ∃ (r c : Nat) (ns : List Nat), y = .slice (some ⟨r, off, none⟩) ns.length c ∧ x = ns.map UInt8.ofNat ∧ r < w.heap.size ∧ ∀ (j n : Nat), ns[j]? = some n → w.cell? ⟨r, off + j, none⟩ = some (.int .u8 (Int.ofNat n)) := by
  obtain ⟨r, cells, g1, g2, g3, g4, g5, _⟩ := loadN_sound hr h
  obtain ⟨ns, rfl, rfl⟩ := bytesL_conc hb g2
  have hlt : r < w.heap.size := by
    unfold loadN at h
    split at h
    · rename_i hg
      obtain ⟨b', ob, e1, e2, _⟩ := hr.obj _ _ hg
      rw [g1] at e1; cases e1
      exact lt_of_get e2
    · cases h
  simp only [conc, g1] at hc
  cases hcp : capOf η cap with
  | none => simp [hcp] at hc
  | some c =>
    rw [hcp] at hc
    simp only at hc
    split at hc
    · cases hc
      have hk : ns.length = k := by simpa using g3
      refine ⟨r, c, ns, by rw [hk], rfl, hlt, fun j n hn => g5 j _ (by rw [List.getElem?_map, hn]; rfl)⟩
    · cases hc
theorem cmpRows_ok {O : Env → Heap → World → Prop} {f : FuncId}
    (h : ∀ (w : World) (b1 o1 c1 b2 o2 c2 : Nat) (x y : List Nat), b1 < w.heap.size → b2 < w.heap.size → (∀ (j n : Nat), x[j]? = some n → w.cell? ⟨b1, o1 + j, none⟩ = some (.int .u8 (Int.ofNat n))) → (∀ (j n : Nat), y[j]? = some n → w.cell? ⟨b2, o2 + j, none⟩ = some (.int .u8 (Int.ofNat n))) →
      Calls P f #[.slice (some ⟨b1, o1, none⟩) x.length c1, .slice (some ⟨b2, o2, none⟩) y.length c2] w fun e w' => e = .returned (.int .i64 (Lib.compareBytes (x.map UInt8.ofNat) (y.map UInt8.ofNat))) ∧ Stands w w') : ConOK P O f (.fn cmpRows) := by
  intro E η H w args ys l b hy hl cs
  simp only [conRun] at hl
  unfold cmpRows at hl
  split at hl
  · rename_i b1 o1 n1 k1 b2 o2 n2 k2
    split at hl
    · rename_i l1 l2 h1 h2
      split at hl
      · rename_i x y hx hyy
        cases hl
        simp only [concL] at hy
        cases q1 : conc η (.slice b1 o1 n1 k1) with
        | none => rw [q1] at hy; cases hy
        | some v1 =>
          cases q2 : conc η (.slice b2 o2 n2 k2) with
          | none => rw [q1, q2] at hy; cases hy
          | some v2 =>
            rw [q1, q2] at hy
            obtain rfl : [v1, v2] = ys := Option.some.inj hy
            obtain ⟨r1, c1, m1, rfl, rfl, s1, t1⟩ := slice_inv b.rel h1 hx q1
            obtain ⟨r2, c2, m2, rfl, rfl, s2, t2⟩ := slice_inv b.rel h2 hyy q2
            obtain ⟨e, w', fr, ⟨rfl, hs⟩, p1, p2, p3⟩ := h w r1 o1 c1 r2 o2 c2 m1 m2 s1 s2 t1 t2 cs
            exact ⟨(_, H), List.mem_cons_self, η, _, w', ⟨fr, p1, p2, going_of p3⟩, by rw [← compare_eq]; rfl, Trans.stands b.rel hs, b.above, Below.refl _ _ _⟩
      · cases hl
    · cases hl
  · cases hl
end Go.VmK
/- Runs of the machine as steps of a walk by hand: what is known of a world, carried from call to call. -/
namespace Go.VmK
variable {P : Program}
/-- what is known of a world: the memory H under η; the blocks of w0 stand, and none is the memory's own -/
structure St (P : Program) (w0 : World) (η : Env) (H : Heap) (w : World) : Prop where
  rel : HRel P η [] H w
  above : Above η H
  stands : Stands w0 w
  apart : ∀ b, b < w0.heap.size → ¬ Live η H b
theorem St.start (w : World) (n : Nat) : St P w (env0 fun _ => none) (heap0 n) w :=
  ⟨empty_rel P _ _ n w, fun _ _ => ⟨rfl, rfl, rfl, rfl⟩, ⟨rfl, rfl, Nat.le_refl _, fun _ _ => rfl⟩, fun b _ ⟨id, o, h, _⟩ => by simp [heap0, Heap.get, Tr.get_lf] at h⟩
theorem St.start' {w0 w : World} (h : Stands w0 w) (n : Nat) : St P w0 (env0 fun _ => none) (heap0 n) w :=
  ⟨empty_rel P _ _ n w, fun _ _ => ⟨rfl, rfl, rfl, rfl⟩, h, fun b _ ⟨id, o, h, _⟩ => by simp [heap0, Heap.get, Tr.get_lf] at h⟩
theorem St.live_lt {w0 w : World} {η : Env} {H : Heap} (s : St P w0 η H w) {b : Nat} (h : Live η H b) : b < w.heap.size := by
  obtain ⟨id, o, h1, h2⟩ := h
  obtain ⟨b', ob, h3, h4, _⟩ := s.rel.obj id o h1
  rw [h2] at h3
  cases h3
  exact (Array.getElem?_eq_some_iff.1 h4).1
/-- a world that parts from another at blocks alone that are not the memory's own -/
theorem St.off {w0 w w' : World} {η : Env} {H : Heap} (s : St P w0 η H w) (hos : w'.os = w.os) (hout : w'.output = w.output) (hs : w.heap.size ≤ w'.heap.size) (hl : ∀ b, Live η H b → w'.heap[b]? = w.heap[b]?) (h0 : ∀ b, b < w0.heap.size → w'.heap[b]? = w.heap[b]?) : St P w0 η H w' :=
  ⟨⟨fun id o ho => by
      obtain ⟨b, ob, h1, h2, h3⟩ := s.rel.obj id o ho
      exact ⟨b, ob, h1, (hl b ⟨id, o, ho, h1⟩).trans h2, h3⟩, s.rel.inj⟩, s.above,
    ⟨hos.trans s.stands.os, hout.trans s.stands.output, Nat.le_trans s.stands.size hs, fun b hb => (h0 b hb).trans (s.stands.blocks b hb)⟩, s.apart⟩
/-- what is not the memory's own stays, and stays apart -/
def Kept (η : Env) (H : Heap) (w : World) (η' : Env) (H' : Heap) (w' : World) : Prop := ∀ b, b < w.heap.size → ¬ Live η H b → w'.heap[b]? = w.heap[b]? ∧ ¬ Live η' H' b ∧ b < w'.heap.size
theorem kept_of_trans {E : List LoopInfo} {η η' : Env} {H H' : Heap} {w w' : World} (t : Trans P E η H w η' H' w') : Kept η H w η' H' w' := fun b hb hl =>
  ⟨t.frame b hb hl, fun x => hl (t.shr b hb x), Nat.lt_of_lt_of_le hb t.keeps.size⟩
theorem St.grown {w0 w w' : World} {η : Env} {H : Heap} (s : St P w0 η H w) (g : Stands w w') : St P w0 η H w' :=
  ⟨s.rel.stands g, s.above, ⟨g.os.trans s.stands.os, g.output.trans s.stands.output, Nat.le_trans s.stands.size g.size, fun b hb => (g.blocks b (Nat.lt_of_lt_of_le hb s.stands.size)).trans (s.stands.blocks b hb)⟩, s.apart⟩
/-- a block that is not the memory's own -/
def Free (η : Env) (H : Heap) (w : World) (b : Nat) : Prop := b < w.heap.size ∧ ¬ Live η H b
theorem St.call {w0 w : World} {η : Env} {H : Heap} (s : St P w0 η H w) {C : Ctx} (hC : ProgOK P C (Outer w η.σ (Free η H w))) (hmix : P.follows .mixedOrders = true) {n : Nat} {f : FuncId} {args : List AV} {xs : List Value} {outs : List (AV × Heap)}
    (hr : runCall C n f args H = some outs) (hx : concL η args = some xs) :
    Calls P f xs.toArray w fun e w' => ∃ p ∈ outs, ∃ η' x, e = .returned x ∧ conc η' p.1 = some x ∧ St P w0 η' p.2 w' ∧ Trans P [] η H w η' p.2 w' := by
  have b : Base P (Outer w η.σ (Free η H w)) [] η H w := ⟨s.rel, s.above, fun _ _ => rfl, Outer.stable _ _ _, ⟨fun _ _ h => h, rfl, rfl, Nat.le_refl _, fun b hb => ⟨hb.1, rfl, hb.2⟩⟩⟩
  intro cs
  obtain ⟨p, hp, η', x, w', ⟨fr, h1, h2, h3, h6⟩, h4, t, a, _⟩ := callIn_sound hC (exec_ok hC hmix n) hr b hx cs
  refine ⟨.returned x, w', fr, ⟨p, hp, η', x, rfl, h4, ⟨t.rel, a, ⟨t.keeps.os.trans s.stands.os, t.keeps.output.trans s.stands.output, Nat.le_trans s.stands.size t.keeps.size, fun b hb => ?_⟩, fun b hb hl => ?_⟩, t⟩, h1, h2, leaving_of h3 h6⟩
  · exact (t.frame b (Nat.lt_of_lt_of_le hb s.stands.size) (s.apart b hb)).trans (s.stands.blocks b hb)
  · exact s.apart b hb (t.shr b (Nat.lt_of_lt_of_le hb s.stands.size) hl)
/-- a call of one end -/
theorem St.call1 {w0 w : World} {η : Env} {H H' : Heap} {v : AV} (s : St P w0 η H w) {C : Ctx} (hC : ProgOK P C (Outer w η.σ (Free η H w))) (hmix : P.follows .mixedOrders = true) {n : Nat} {f : FuncId} {args : List AV} {xs : List Value}
    (hr : runCall C n f args H = some [(v, H')]) (hx : concL η args = some xs) :
    Calls P f xs.toArray w fun e w' => ∃ η' x, e = .returned x ∧ conc η' v = some x ∧ St P w0 η' H' w' ∧ Trans P [] η H w η' H' w' :=
  (s.call hC hmix hr hx).mono fun _ _ ⟨p, hp, η', x, h1, h2, h3, h4⟩ => by
    obtain rfl : p = (v, H') := by simpa using hp
    exact ⟨η', x, h1, h2, h3, h4⟩
/-- a row that the walk lays -/
theorem St.row {w0 w : World} {η : Env} {H : Heap} (s : St P w0 η H w) {l : List AV} {xs : List Value} {t : TypeId} (hx : concL η l = some xs) :
    St P w0 (η.bind H.next w.heap.size) (H.new (.cells (Tr.ofL l) l.length t false 0 0 false)) (w.alloc (.cells xs.toArray t)) ∧ η.le (η.bind H.next w.heap.size) ∧ Kept η H w (η.bind H.next w.heap.size) (H.new (.cells (Tr.ofL l) l.length t false 0 0 false)) (w.alloc (.cells xs.toArray t)) := by
  have hf := s.above H.next (Nat.le_refl _)
  have hlen := concL_length hx
  have hle := Env.le_bind (b := w.heap.size) hf.ρ
  obtain ⟨t1, g⟩ := newObj_sound (P := P) (E := []) s.rel hf (.cells (Tr.ofL l) l.length t false 0 0 false) (.cells xs.toArray t) ⟨rfl, fun i v hv hi => by
      rw [Tr.get_ofL] at hv
      obtain ⟨y, hy, hc⟩ := concL_get hx i v hv
      exact ⟨y, by simpa using hy, conc_mono hle _ _ hc⟩, by simp [hlen], fun _ => by simp [hlen], fun h => (by cases h), Nat.le_refl _, fun off h1 h2 => (by omega), fun h => (by cases h)⟩
  obtain ⟨a, _⟩ := s.above.grow g
  refine ⟨⟨t1.rel, a, ⟨t1.keeps.os.trans s.stands.os, t1.keeps.output.trans s.stands.output, Nat.le_trans s.stands.size t1.keeps.size, fun b hb => ?_⟩, fun b hb hl => ?_⟩, hle, kept_of_trans t1⟩
  · exact (t1.frame b (Nat.lt_of_lt_of_le hb s.stands.size) (s.apart b hb)).trans (s.stands.blocks b hb)
  · exact s.apart b hb (t1.shr b (Nat.lt_of_lt_of_le hb s.stands.size) hl)
end Go.VmK
/- Functions that say yes or no of a row that holds that; functions that answer a text of what is handed, or of a block that holds nil at a place. -/
namespace Go.VmK
variable {P : Program}
noncomputable def rowFlag (es : List AV) (n : Nat) (H : Heap) : List AV → Option (List (AV × Heap))
  | [.slice bk off len _] => match loadN H bk off es.length with
    | some la => bif Nat.beq len n && eqAVs la es then some [(.bool true, H), (.bool false, H)] else none
    | none => none
  | _ => none
theorem rowFlag_ok {w0 : World} {σ0 : Nat → Option Value} {f : FuncId} {es : List AV} {n : Nat} {xs : List Value} (hx : concL (env0 σ0) es = some xs)
    (h : ∀ (w : World) (bk off cap : Nat), Stands w0 w → (∀ (j : Nat) y, xs[j]? = some y → w.cell? ⟨bk, off + j, none⟩ = some y) →
      Calls P f #[.slice (some ⟨bk, off, none⟩) n cap] w fun e w' => (∃ b, e = .returned (.bool b)) ∧ Stands w w') : ConOK P (Outer w0 σ0 fun b => b < w0.heap.size) f (.fn (rowFlag es n)) := by
  intro E η H w args ys l b hy hl cs
  simp only [conRun] at hl
  unfold rowFlag at hl
  split at hl
  · rename_i bk off len cap
    split at hl
    · rename_i la hla
      cases hq : Nat.beq len n && eqAVs la es with
      | false => rw [hq] at hl; cases hl
      | true =>
        rw [hq] at hl
        simp only [cond_true, Option.some.injEq] at hl
        subst hl
        simp only [Bool.and_eq_true] at hq
        have hn := Nat.eq_of_beq_eq_true hq.1
        have he := eqAVs_eq _ _ hq.2
        subst hn
        subst he
        have hle : (env0 σ0).le η := ⟨fun _ _ h => (by cases h), fun _ _ h => (by cases h), b.inv.σ⟩
        obtain ⟨r, cells, g1, g2, _, _, g5, _⟩ := loadN_sound b.rel hla
        have hz : xs = cells := by have := concL_mono hle _ _ hx; rw [this] at g2; exact Option.some.inj g2
        subst hz
        cases hcs : conc η (.slice bk off len cap) with
        | none => rw [concL, hcs] at hy; cases hy
        | some x =>
          rw [concL, hcs] at hy
          obtain rfl : [x] = ys := Option.some.inj hy
          simp only [conc, g1] at hcs
          cases hcp : capOf η cap with
          | none => simp [hcp] at hcs
          | some c =>
            rw [hcp] at hcs
            simp only at hcs
            split at hcs
            · cases hcs
              obtain ⟨e, w', fr, ⟨⟨v, rfl⟩, hs⟩, q1, q2, q3⟩ := h w r off c ⟨b.inv.os, b.inv.output, b.inv.size, fun b' hb' => (b.inv.blocks b' hb').2.1⟩ g5 cs
              exact ⟨(.bool v, H), by cases v <;> simp, η, .bool v, w', ⟨fr, q1, q2, going_of q3⟩, rfl, Trans.stands b.rel hs, b.above, Below.refl _ _ _⟩
            · cases hcs
    · cases hl
  · cases hl
/-- answers that of nil, or of a block that holds nil at a place -/
noncomputable def nilFn (k : Nat) (es : List AV) (v : AV) (H : Heap) : List AV → Option (List (AV × Heap))
  | [.nilp, .agg l] => bif eqAVs l es then some [(v, H)] else none
  | [.ptr b 0, .agg l] => match loadN H b k 1 with
    | some [.nilp] => bif eqAVs l es then some [(v, H)] else none
    | _ => none
  | _ => none
theorem nilFn_ok {w0 : World} {σ0 : Nat → Option Value} {f : FuncId} {k : Nat} {es : List AV} {v : AV} {xs : List Value} {y : Value} (hx : concL (env0 σ0) es = some xs) (hv : conc (env0 σ0) v = some y)
    (h0 : ∀ (w : World), Stands w0 w → Calls P f #[.pointer none, .agg xs.toArray] w fun e w' => e = .returned y ∧ Stands w w')
    (h1 : ∀ (w : World) (r : Nat), Stands w0 w → w.cell? ⟨r, k, none⟩ = some (.pointer none) → Calls P f #[.pointer (some ⟨r, 0, none⟩), .agg xs.toArray] w fun e w' => e = .returned y ∧ Stands w w') : ConOK P (Outer w0 σ0 fun b => b < w0.heap.size) f (.fn (nilFn k es v)) := by
  intro E η H w args ys l b hy hl cs
  have hle : (env0 σ0).le η := ⟨fun _ _ h => (by cases h), fun _ _ h => (by cases h), b.inv.σ⟩
  have hs0 : Stands w0 w := ⟨b.inv.os, b.inv.output, b.inv.size, fun b' hb' => (b.inv.blocks b' hb').2.1⟩
  have hxm := concL_mono hle _ _ hx
  have hvm := conc_mono hle _ _ hv
  simp only [conRun] at hl
  unfold nilFn at hl
  split at hl
  · rename_i l'
    cases hq : eqAVs l' es with
    | false => rw [hq] at hl; cases hl
    | true =>
      rw [hq] at hl
      simp only [cond_true, Option.some.injEq] at hl
      subst hl
      have he := eqAVs_eq _ _ hq
      subst he
      simp only [concL, conc, hxm, Option.some.injEq] at hy
      subst hy
      obtain ⟨e, w', fr, ⟨rfl, hs⟩, q1, q2, q3⟩ := h0 w hs0 cs
      exact ⟨(v, H), List.mem_cons_self, η, y, w', ⟨fr, q1, q2, going_of q3⟩, hvm, Trans.stands b.rel hs, b.above, Below.refl _ _ _⟩
  · rename_i bb l'
    split at hl
    · rename_i hld
      cases hq : eqAVs l' es with
      | false => rw [hq] at hl; cases hl
      | true =>
        rw [hq] at hl
        simp only [cond_true, Option.some.injEq] at hl
        subst hl
        have he := eqAVs_eq _ _ hq
        subst he
        obtain ⟨r, cells, g1, g2, _, _, g5, _⟩ := loadN_sound b.rel hld
        simp only [concL, conc, Option.some.injEq] at g2
        subst g2
        simp only [concL, conc, hxm, g1, Option.some.injEq] at hy
        subst hy
        obtain ⟨e, w', fr, ⟨rfl, hs⟩, q1, q2, q3⟩ := h1 w r hs0 (by simpa using g5 0 _ rfl) cs
        exact ⟨(v, H), List.mem_cons_self, η, y, w', ⟨fr, q1, q2, going_of q3⟩, hvm, Trans.stands b.rel hs, b.above, Below.refl _ _ _⟩
    · cases hl
  · cases hl
end Go.VmK
/- Functions that answer this of what is handed when that lies in the rows that it names; sorting of rows whose order is known. -/
namespace Go.VmK
variable {P : Program}
/-- what is handed, as far as a law speaks of it: just that, or n elements whose cells hold that -/
inductive PA where
  | v (a : AV)
  | row (n : Nat) (es : List AV)
inductive PArg where
  | one (p : PA)
  | agg (l : List PA)
noncomputable def fitP (H : Heap) : PA → AV → Bool
  | .v a, x => eqAV x a
  | .row n es, x => match x with
    | .slice b o len _ => Nat.beq len n && (match loadN H b o es.length with | some la => eqAVs la es | none => false)
    | _ => false
noncomputable def fitPs (H : Heap) : List PA → List AV → Bool
  | [], [] => true
  | p :: l, x :: xs => fitP H p x && fitPs H l xs
  | _, _ => false
noncomputable def fitArg (H : Heap) : PArg → AV → Bool
  | .one p, x => fitP H p x
  | .agg l, x => match x with
    | .agg xs => fitPs H l xs
    | _ => false
noncomputable def fitArgs (H : Heap) : List PArg → List AV → Bool
  | [], [] => true
  | p :: l, x :: xs => fitArg H p x && fitArgs H l xs
  | _, _ => false
noncomputable def patOf (H : Heap) (args : List AV) : List (List PArg × AV) → Option AV
  | [] => none
  | r :: l => bif fitArgs H r.1 args then some r.2 else patOf H args l
noncomputable def patFn (rs : List (List PArg × AV)) (H : Heap) (args : List AV) : Option (List (AV × Heap)) := match patOf H args rs with | some v => some [(v, H)] | none => none
/-- all that a pattern names is known -/
def okP (σ0 : Nat → Option Value) : PA → Prop
  | .v a => (conc (env0 σ0) a).isSome
  | .row _ es => (concL (env0 σ0) es).isSome
def okArg (σ0 : Nat → Option Value) : PArg → Prop
  | .one p => okP σ0 p
  | .agg l => ∀ p ∈ l, okP σ0 p
def HoldP (σ0 : Nat → Option Value) (w : World) : PA → Value → Prop
  | .v a, y => conc (env0 σ0) a = some y
  | .row n es, y => ∃ bk off cap xs, y = .slice (some ⟨bk, off, none⟩) n cap ∧ bk < w.heap.size ∧ concL (env0 σ0) es = some xs ∧ ∀ (j : Nat) z, xs[j]? = some z → w.cell? ⟨bk, off + j, none⟩ = some z
def HoldPs (σ0 : Nat → Option Value) (w : World) : List PA → List Value → Prop
  | [], ys => ys = []
  | p :: l, ys => ∃ y zs, ys = y :: zs ∧ HoldP σ0 w p y ∧ HoldPs σ0 w l zs
def HoldArg (σ0 : Nat → Option Value) (w : World) : PArg → Value → Prop
  | .one p, y => HoldP σ0 w p y
  | .agg l, y => ∃ ys, y = .agg ys.toArray ∧ HoldPs σ0 w l ys
def HoldArgs (σ0 : Nat → Option Value) (w : World) : List PArg → List Value → Prop
  | [], ys => ys = []
  | p :: l, ys => ∃ y zs, ys = y :: zs ∧ HoldArg σ0 w p y ∧ HoldArgs σ0 w l zs
theorem patOf_some {H : Heap} {args : List AV} {v : AV} : ∀ (rs : List (List PArg × AV)), patOf H args rs = some v → ∃ r ∈ rs, r.2 = v ∧ fitArgs H r.1 args = true
  | [], h => by cases h
  | r :: l, h => by
    unfold patOf at h
    cases hb : fitArgs H r.1 args with
    | true => rw [hb] at h; exact ⟨r, List.mem_cons_self, Option.some.inj h, hb⟩
    | false =>
      rw [hb] at h
      obtain ⟨r', h1, h2⟩ := patOf_some l h
      exact ⟨r', List.mem_cons_of_mem _ h1, h2⟩
section
variable {E : List LoopInfo} {η : Env} {H : Heap} {w : World} {σ0 : Nat → Option Value}
theorem fitP_hold (hr : HRel P η E H w) (hle : (env0 σ0).le η) {p : PA} {x : AV} {y : Value} (ok : okP σ0 p) (h : fitP H p x = true) (hc : conc η x = some y) : HoldP σ0 w p y := by
  cases p with
  | v a =>
    obtain rfl := eqAV_eq _ _ h
    obtain ⟨z, hz⟩ := Option.isSome_iff_exists.1 ok
    have := conc_mono hle _ _ hz
    rw [hc] at this
    obtain rfl := Option.some.inj this
    exact hz
  | row n es =>
    unfold fitP at h
    dsimp only at h
    split at h
    · rename_i b o len cap
      simp only [Bool.and_eq_true] at h
      obtain ⟨h1, h2⟩ := h
      split at h2
      · rename_i la hla
        obtain rfl := eqAVs_eq _ _ h2
        obtain rfl := Nat.eq_of_beq_eq_true h1
        obtain ⟨xs, hxs⟩ := Option.isSome_iff_exists.1 ok
        obtain ⟨r, cells, g1, g2, g3, g4, g5, _⟩ := loadN_sound hr hla
        have hz : xs = cells := by have := concL_mono hle _ _ hxs; rw [this] at g2; exact Option.some.inj g2
        subst hz
        have hlt : r < w.heap.size := by
          unfold loadN at hla
          split at hla
          · rename_i hg
            obtain ⟨b', ob, e1, e2, _⟩ := hr.obj _ _ hg
            rw [g1] at e1; cases e1
            exact lt_of_get e2
          · cases hla
        simp only [conc, g1] at hc
        cases hcp : capOf η cap with
        | none => simp [hcp] at hc
        | some c =>
          rw [hcp] at hc
          simp only at hc
          split at hc
          · cases hc
            exact ⟨r, o, c, xs, rfl, hlt, hxs, g5⟩
          · cases hc
      · cases h2
    · cases h
theorem fitPs_hold (hr : HRel P η E H w) (hle : (env0 σ0).le η) : ∀ {l : List PA} {xs : List AV} {ys : List Value}, (∀ p ∈ l, okP σ0 p) → fitPs H l xs = true → concL η xs = some ys → HoldPs σ0 w l ys
  | [], [], ys, _, _, hc => by simp only [concL] at hc; exact (Option.some.inj hc).symm
  | [], _ :: _, _, _, h, _ => by simp [fitPs] at h
  | _ :: _, [], _, _, h, _ => by simp [fitPs] at h
  | p :: l, x :: xs, ys, ok, h, hc => by
    simp only [fitPs, Bool.and_eq_true] at h
    simp only [concL] at hc
    cases h1 : conc η x with
    | none => rw [h1] at hc; cases hc
    | some y =>
      cases h2 : concL η xs with
      | none => rw [h1, h2] at hc; cases hc
      | some zs =>
        rw [h1, h2] at hc
        exact ⟨y, zs, (Option.some.inj hc).symm, fitP_hold hr hle (ok p List.mem_cons_self) h.1 h1, fitPs_hold hr hle (fun q hq => ok q (List.mem_cons_of_mem _ hq)) h.2 h2⟩
theorem fitArg_hold (hr : HRel P η E H w) (hle : (env0 σ0).le η) {p : PArg} {x : AV} {y : Value} (ok : okArg σ0 p) (h : fitArg H p x = true) (hc : conc η x = some y) : HoldArg σ0 w p y := by
  cases p with
  | one p => exact fitP_hold hr hle ok h hc
  | agg l =>
    unfold fitArg at h
    dsimp only at h
    split at h
    · rename_i xs
      simp only [conc] at hc
      cases h2 : concL η xs with
      | none => rw [h2] at hc; cases hc
      | some zs =>
        rw [h2] at hc
        exact ⟨zs, (Option.some.inj hc).symm, fitPs_hold hr hle ok h h2⟩
    · cases h
theorem fitArgs_hold (hr : HRel P η E H w) (hle : (env0 σ0).le η) : ∀ {l : List PArg} {xs : List AV} {ys : List Value}, (∀ p ∈ l, okArg σ0 p) → fitArgs H l xs = true → concL η xs = some ys → HoldArgs σ0 w l ys
  | [], [], ys, _, _, hc => by simp only [concL] at hc; exact (Option.some.inj hc).symm
  | [], _ :: _, _, _, h, _ => by simp [fitArgs] at h
  | _ :: _, [], _, _, h, _ => by simp [fitArgs] at h
  | p :: l, x :: xs, ys, ok, h, hc => by
    simp only [fitArgs, Bool.and_eq_true] at h
    simp only [concL] at hc
    cases h1 : conc η x with
    | none => rw [h1] at hc; cases hc
    | some y =>
      cases h2 : concL η xs with
      | none => rw [h1, h2] at hc; cases hc
      | some zs =>
        rw [h1, h2] at hc
        exact ⟨y, zs, (Option.some.inj hc).symm, fitArg_hold hr hle (ok p List.mem_cons_self) h.1 h1, fitArgs_hold hr hle (fun q hq => ok q (List.mem_cons_of_mem _ hq)) h.2 h2⟩
end
theorem patFn_ok {w0 : World} {σ0 : Nat → Option Value} {f : FuncId} {rs : List (List PArg × AV)}
    (h : ∀ r ∈ rs, (∀ p ∈ r.1, okArg σ0 p) ∧ ∃ z, conc (env0 σ0) r.2 = some z ∧ ∀ (w : World) (ys : List Value), Stands w0 w → HoldArgs σ0 w r.1 ys → Calls P f ys.toArray w fun e w' => e = .returned z ∧ Stands w w') :
    ConOK P (Outer w0 σ0 fun b => b < w0.heap.size) f (.fn (patFn rs)) := by
  intro E η H w args ys l b hy hl cs
  simp only [conRun] at hl
  unfold patFn at hl
  split at hl
  · rename_i v hv
    cases hl
    obtain ⟨r, hr, rfl, hf⟩ := patOf_some rs hv
    obtain ⟨ok, z, hz, hcall⟩ := h r hr
    have hle : (env0 σ0).le η := ⟨fun _ _ h => (by cases h), fun _ _ h => (by cases h), b.inv.σ⟩
    have hh := fitArgs_hold b.rel hle ok hf hy
    obtain ⟨e, w', fr, ⟨rfl, hs⟩, q1, q2, q3⟩ := hcall w ys ⟨b.inv.os, b.inv.output, b.inv.size, fun b' hb' => (b.inv.blocks b' hb').2.1⟩ hh cs
    exact ⟨(r.2, H), List.mem_cons_self, η, z, w', ⟨fr, q1, q2, going_of q3⟩, conc_mono hle _ _ hz, Trans.stands b.rel hs, b.above, Below.refl _ _ _⟩
  · cases hl
end Go.VmK
/- Rows of texts from outside are sorted as it is told; how texts stand; the lesser of two numbers. -/
namespace Go.VmK
variable {P : Program}
open Go.Sort Go.Proofs
noncomputable def rowTo (l : List AV) : List (List AV × List AV) → Option (List AV)
  | [] => none
  | r :: rs => bif eqAVs l r.1 then some r.2 else rowTo l rs
theorem rowTo_some {l m : List AV} : ∀ (rs : List (List AV × List AV)), rowTo l rs = some m → (l, m) ∈ rs
  | [], h => by cases h
  | r :: rs, h => by
    unfold rowTo at h
    cases hb : eqAVs l r.1 with
    | true =>
      rw [hb] at h
      obtain rfl := eqAVs_eq _ _ hb
      obtain rfl := Option.some.inj h
      exact List.mem_cons_self
    | false => rw [hb] at h; exact List.mem_cons_of_mem _ (rowTo_some rs h)
/-- a row that is just one of these becomes the other; a row of known texts is sorted -/
noncomputable def sortFn (rs : List (List AV × List AV)) (H : Heap) (args : List AV) : Option (List (AV × Heap)) :=
  match conOne .sort H args with
  | some p => some [p]
  | none => match args with
    | [.slice b off n _] => bif Nat.ble 1 n && Nat.ble n 4096 then (match loadN H b off n with
      | some l => match rowTo l rs with
        | some m => bif Nat.beq m.length n then (match storeL H b off m with
          | some H' => some [(.tuple [], H')]
          | none => none) else none
        | none => none
      | none => none) else none
    | _ => none
theorem concL_enc {η : Env} {l : List AV} {ss : List (List UInt8)} {σ0 : Nat → Option Value} (hle : (env0 σ0).le η) (h : concL (env0 σ0) l = some (ss.map encStr)) : concL η l = some (ss.map encStr) := concL_mono hle _ _ h
theorem sortFn_ok {w0 : World} {σ0 : Nat → Option Value} {f : FuncId} {rs : List (List AV × List AV)}
    (hr : ∀ r ∈ rs, ∃ ss ss' : List (List UInt8), concL (env0 σ0) r.1 = some (ss.map encStr) ∧ concL (env0 σ0) r.2 = some (ss'.map encStr) ∧ ss.mergeSort (fun x y => decide (x ≤ y)) = ss')
    (h : ∀ (blk off cap : Nat) (ss : List (List UInt8)) (w : World), Holds encStr w blk off ss.toArray → blk < w.heap.size → ss.length < 4611686018427387904 →
    Calls P f #[.slice (some ⟨blk, off, none⟩) ss.length cap] w fun e w' => e = .returned (.tuple #[]) ∧ ∃ n os, w' = grow (putRow encStr (Sort.ahead w n) blk off (ss.mergeSort fun x y => decide (x ≤ y)).toArray) os) : ConOK P (Outer w0 σ0 fun b => b < w0.heap.size) f (.fn (sortFn rs)) := by
  intro E η H w args xs l bs hx hl cs
  simp only [conRun] at hl
  unfold sortFn at hl
  split at hl
  · rename_i p hp
    cases hl
    exact sort_ok h E η H w args xs [p] bs hx (by simp only [conRun, hp]) cs
  · split at hl
    · rename_i b off n cap _
      cases hb1 : (Nat.ble 1 n && Nat.ble n 4096) with
      | false => rw [hb1] at hl; cases hl
      | true =>
        rw [hb1] at hl
        simp only [cond_true] at hl
        simp only [Bool.and_eq_true] at hb1
        have hn1 := ble_le hb1.1
        have hn2 := ble_le hb1.2
        split at hl
        · rename_i la hld
          split at hl
          · rename_i m hm
            cases hb2 : Nat.beq m.length n with
            | false => rw [hb2] at hl; cases hl
            | true =>
              rw [hb2] at hl
              simp only [cond_true] at hl
              split at hl
              · rename_i H' hst
                cases hl
                obtain ⟨ss, ss', hs1, hs2, hs3⟩ := hr _ (rowTo_some rs hm)
                have hle : (env0 σ0).le η := ⟨fun _ _ h => (by cases h), fun _ _ h => (by cases h), bs.inv.σ⟩
                have hs1 := concL_mono hle _ _ hs1
                have hs2 := concL_mono hle _ _ hs2
                have hml := concL_length hs2
                have hmn := Nat.eq_of_beq_eq_true hb2
                have hlen : ss'.length = ss.length := by rw [← hs3]; exact (List.mergeSort_perm ss _).length_eq
                obtain ⟨t, nn, e, o, lo, hi, mk, hg, hle2, hfr⟩ := storeL_some hst
                obtain ⟨r, c, fz, hρ, hh, hc⟩ := getC bs.rel hg
                obtain ⟨r1, vs, hρ1, hvs, hvl, hll, hcell, _⟩ := loadN_sound bs.rel hld
                obtain rfl : r1 = r := by rw [hρ] at hρ1; exact (Option.some.inj hρ1).symm
                obtain rfl : vs = ss.map encStr := by rw [hs1] at hvs; exact (Option.some.inj hvs).symm
                have hls : ss.length = n := by have := concL_length hs1; simp at this; omega
                subst hls
                have hm' : m.length = ss.length := hmn
                simp only [hm'] at hle2 hfr
                have hcs := hc.le
                have hH : Holds encStr w r1 off ss.toArray := fun j hj => by
                  have hj : j < ss.length := by simpa using hj
                  refine ⟨?_, ?_⟩
                  · have := hcell j (encStr ss[j]) (by simp [hj])
                    rw [this, getElem!_pos _ _ (by simpa using hj)]; simp
                  · simp only [World.frozen?, hh]
                    have hnf : ¬ (fz.1 ≤ off + j ∧ off + j < fz.2) := fun hq => by
                      rcases hc.cover (off + j) hq.1 hq.2 with ⟨p, q⟩ | ⟨_, p⟩ <;> omega
                    simp; omega
                simp only [concL, conc, hρ] at hx
                cases hk : capOf η cap with
                | none => simp [hk] at hx
                | some k =>
                  simp only [hk] at hx
                  by_cases hkl : ss.length ≤ k
                  · simp [hkl] at hx
                    subst hx
                    have hsz : ss.length < 4611686018427387904 := by omega
                    obtain ⟨ex, w', fr, ⟨rfl, n2, os, rfl⟩, h1, h2, h3⟩ := h r1 off k ss w hH (lt_of_get hh) hsz cs
                    obtain ⟨r2, w2, hρ2, hrun, htr, hnx⟩ := storeL_sound bs.rel hst hs2
                    obtain rfl : r2 = r1 := by rw [hρ] at hρ2; exact (Option.some.inj hρ2).symm
                    have hone : ∀ x ∈ ss'.map encStr, x.oneCell' = true := fun x hx => by
                      obtain ⟨s, _, rfl⟩ := List.mem_map.1 hx; rfl
                    have hw2 := run_storeCells_go (P := P) r2 off e fz (ss'.map encStr) 0 w c hh (by simp [hlen]; omega) hone (fun j hj hq => by
                      simp [hlen] at hj
                      rcases hc.cover (off + j) (by omega) (by omega) with ⟨p, q⟩ | ⟨_, p⟩ <;> omega)
                    rw [hrun, if_neg (by intro hq; have := congrArg List.length hq; simp [hlen] at this; subst this; simp at hn1)] at hw2
                    have hw2' : w2 = World.putBlock w r2 (.cells (writeL c off (ss'.map encStr)) e fz) := by
                      injection hw2
                    have hrow : putRow encStr (Sort.ahead w n2) r2 off (ss.mergeSort fun x y => decide (x ≤ y)).toArray = Sort.ahead w2 n2 := by
                      rw [hs3, putRow_put (w := Sort.ahead w n2) hh ss' off (by rw [hlen]; omega), hw2']
                      rfl
                    have hstd : Stands w2 (grow (putRow encStr (Sort.ahead w n2) r2 off (ss.mergeSort fun x y => decide (x ≤ y)).toArray) os) := by
                      rw [hrow]
                      refine ⟨rfl, rfl, by simp [grow], fun b hb => ?_⟩
                      show (w2.heap ++ os)[b]? = w2.heap[b]?
                      rw [Array.getElem?_append_left hb]
                    have ht := htr.trans (Trans.stands htr.rel hstd)
                    have hob := storeL_objs hst
                    exact ⟨_, List.mem_cons_self, η, .tuple #[], _, ⟨fr, h1, h2, going_of h3⟩, rfl, ht,
                      fun id hid => let f := bs.above id (by rw [hnx] at hid; exact hid); ⟨hob id f.get, f.ρ, f.κ, f.σ⟩,
                      ⟨Only.refl _ _, fun id _ hn => hob id hn, Nat.le_of_eq hnx.symm⟩⟩
                  · simp [hkl] at hx
              · cases hl
          · cases hl
        · cases hl
    · cases hl
section
variable {C : Ctx}
theorem toList_data (s : ByteArray) : s.toList = s.data.toList := ByteArray.toList_eq s
theorem fact_lssS {a b : AV} {s t : ByteArray} {c : Bool} (hx : conc (env0 C.base) a = some (.string s)) (hy : conc (env0 C.base) b = some (.string t)) (h : ltL s.data.toList t.data.toList = c) : FactOK P C (.lss, a, b, .bool c) :=
  fact_mk hx hy rfl fun t' p q w => by
    rw [ltL_eq, ← toList_data, ← toList_data] at h
    simp [eqGuard, Go.binOp, Op.stringOp, h]
theorem fact_gtrS {a b : AV} {s t : ByteArray} {c : Bool} (hx : conc (env0 C.base) a = some (.string s)) (hy : conc (env0 C.base) b = some (.string t)) (h : ltL t.data.toList s.data.toList = c) : FactOK P C (.gtr, a, b, .bool c) :=
  fact_mk hx hy rfl fun t' p q w => by
    rw [ltL_eq, ← toList_data, ← toList_data] at h
    have e := bytesLess_total s.toList t.toList
    rw [h] at e
    simp [eqGuard, Go.binOp, Op.stringOp]
    first | (rw [← Bool.not_or, e]; simp; done) | (rw [e]; simp; done)
theorem fact_leqS {a b : AV} {s t : ByteArray} {c : Bool} (hx : conc (env0 C.base) a = some (.string s)) (hy : conc (env0 C.base) b = some (.string t)) (h : ltL t.data.toList s.data.toList = !c) : FactOK P C (.leq, a, b, .bool c) :=
  fact_mk hx hy rfl fun t' p q w => by
    rw [ltL_eq, ← toList_data, ← toList_data] at h
    have e := bytesLess_total s.toList t.toList
    rw [h] at e
    simp [eqGuard, Go.binOp, Op.stringOp]
    first | (rw [← Bool.not_or, e]; simp; done) | (rw [e]; simp; done)
theorem fact_geqS {a b : AV} {s t : ByteArray} {c : Bool} (hx : conc (env0 C.base) a = some (.string s)) (hy : conc (env0 C.base) b = some (.string t)) (h : ltL s.data.toList t.data.toList = !c) : FactOK P C (.geq, a, b, .bool c) :=
  fact_mk hx hy rfl fun t' p q w => by
    rw [ltL_eq, ← toList_data, ← toList_data] at h
    simp [eqGuard, Go.binOp, Op.stringOp, h]
theorem run_min_key {o : Oper} {ρ : Operand → Value} {n m : Int} {w : World} (hk : okey o.op = some (12, 0, 0)) (ho : o.op.operands.toList.map ρ = [.int .i64 n, .int .i64 m]) :
    (execOp ρ o).run P w = .ok (.value (.int .i64 (if m < n then m else n))) w := by
  cases hop : o.op <;> rw [hop] at hk ho <;> simp [okey] at hk
  rename_i c
  cases hc : c.callee <;> rw [hc] at hk <;> try (simp at hk; done)
  rename_i bb
  cases bb <;> try (simp at hk; done)
  simp [Op.operands, Call.operands, hc] at ho
  unfold execOp
  simp only [hop, resolve, invoke, builtin, hc, Sem.run_bind, Sem.run_pure, Result.andThen_ok]
  simp [Builtin.min_, ho, Builtin.min2]
theorem ofact_min {a b r : AV} {n m l : Int} (hx : conc (env0 C.base) a = some (.int .i64 n)) (hy : conc (env0 C.base) b = some (.int .i64 m)) (hr : conc (env0 C.base) r = some (.int .i64 l)) (h : (if m < n then m else n) = l) : OFactOK P C ((12, 0, 0), [a, b], r) := by
  subst h
  exact ofact_mk (ys := [.int .i64 n, .int .i64 m]) (by simp [concL, hx, hy]) hr fun _ _ _ _ hk ho => run_min_key hk ho
end
end Go.VmK
/-! The machine once more, typed so that the kernel copies less: each function is proved to be the first one's equal. -/
namespace Go.VmK

noncomputable def evCF (v : Value) : Option AV :=
  Value.rec (motive_1 := fun _ => Value → Option AV) (motive_2 := fun _ => Unit) (motive_3 := fun _ => Unit)
    (fun b _ => some (.bool b)) (fun k n _ => some (.int k n)) (fun _ _ _ => none) (fun _ _ _ _ => none) (fun s _ => some (.str s.data.toList))
    (fun _ v => ofVal 4 v) (fun _ _ _ v => ofVal 4 v) (fun _ v => ofVal 4 v) (fun _ _ => none) (fun _ _ _ _ _ v => ofVal 4 v) (fun v => ofVal 4 v) (fun _ _ _ v => ofVal 4 v) (fun v => ofVal 4 v) (fun _ _ v => ofVal 4 v) (fun _ _ v => ofVal 4 v)
    (fun _ _ => ()) () (fun _ _ _ _ => ()) v v
theorem evCF_eq : evCF = evC := by funext v; cases v <;> rfl
noncomputable def evF (tmps : Tr AV) (x : Operand) : Option AV :=
  Operand.rec (motive := fun _ => Tr AV → Option AV) (fun t tmps => Tr.get tmps t) (fun v _ => evCF v) (fun g _ => some (.gptr g 0)) (fun f _ => some (.func f [] [])) x tmps
theorem evF_eq : evF = ev := by funext t x; cases x <;> first | rfl | (simp only [evF, evCF_eq]; rfl)
noncomputable def valF (H : Heap) (o : Option AV) : Option Out := Option.rec (motive := fun _ => Heap → Option Out) (fun _ => none) (fun v H => some (.val v H)) o H
theorem valF_eq : valF = valO := by funext H o; cases o <;> rfl
noncomputable def skipF (o : Option Heap) : Option Out := Option.rec (motive := fun _ => Option Out) none (fun H => some (.skip H)) o
theorem skipF_eq : skipF = skipO := by funext o; cases o <;> rfl
noncomputable def w1F (f : AV → Option Out) (o : Option AV) : Option Out := Option.rec (motive := fun _ => (AV → Option Out) → Option Out) (fun _ => none) (fun a f => f a) o f
theorem w1F_eq : w1F = with1 := by funext f o; cases o <;> rfl
noncomputable def w2F (f : AV → AV → Option Out) (o p : Option AV) : Option Out := Option.rec (motive := fun _ => (AV → AV → Option Out) → Option AV → Option Out) (fun _ _ => none) (fun a f p => w1F (f a) p) o f p
theorem w2F_eq : w2F = with2 := by funext f o p; cases o <;> cases p <;> rfl
noncomputable def putOF (n : Nat) (tmps : Tr AV) (d : Option Tmp) (v : AV) : Option (Tr AV) :=
  Option.rec (motive := fun _ => Nat → Tr AV → AV → Option (Tr AV)) (fun _ tmps _ => some tmps) (fun t n tmps v => Bool.rec (motive := fun _ => Option (Tr AV)) none (some (tmps.set t v)) (Nat.blt t n)) d n tmps v
theorem putOF_eq : putOF = putO := by
  funext n t d v
  cases d with
  | none => rfl
  | some d => show Bool.rec (motive := fun _ => Option (Tr AV)) _ _ _ = Bool.casesOn (motive := fun _ => Option (Tr AV)) _ _ _; cases Nat.blt d n <;> rfl
noncomputable def putKF {β : Type} (n : Nat) (tmps : Tr AV) (d : Option Tmp) (K : Knt β) (v : AV) (H : Heap) : Option (List β) := Option.rec (motive := fun _ => Knt β → Heap → Option (List β)) (fun _ _ => none) (fun t K H => K t H) (putOF n tmps d v) K H
theorem putKF_eq {β : Type} : @putKF β = @putK β := by
  funext n t d K v H
  unfold putKF putK
  rw [putOF_eq]
  cases putO n t d v <;> rfl
noncomputable def putPF {β : Type} (n : Nat) (tmps : Tr AV) (d : Option Tmp) (K : Knt β) (p : AV × Heap) : Option (List β) := putKF n tmps d K p.1 p.2
theorem putPF_eq {β : Type} : @putPF β = @putP β := by funext n t d K p; unfold putPF putP; rw [putKF_eq]

noncomputable def asPtr (v : AV) : Option (Nat × Nat) := AV.rec (motive_1 := fun _ => Option (Nat × Nat)) (motive_2 := fun _ => Unit) (fun _ => none) (fun _ _ => none) (fun _ => none) none (fun a0 a1 => some (a0, a1)) (fun _ _ => none) none (fun _ _ _ _ => none) none (fun _ => none) (fun _ _ _ _ _ => none) (fun _ => none) none (fun _ _ _ => none) none (fun _ _ => none) (fun _ _ => none) (fun _ => none) (fun _ _ _ _ _ => none) (fun _ => none) (fun _ => none) (fun _ _ => none) (fun _ => none) () (fun _ _ _ _ => ()) v
noncomputable def asInt (v : AV) : Option (IntKind × Int) := AV.rec (motive_1 := fun _ => Option (IntKind × Int)) (motive_2 := fun _ => Unit) (fun _ => none) (fun a0 a1 => some (a0, a1)) (fun _ => none) none (fun _ _ => none) (fun _ _ => none) none (fun _ _ _ _ => none) none (fun _ => none) (fun _ _ _ _ _ => none) (fun _ => none) none (fun _ _ _ => none) none (fun _ _ => none) (fun _ _ => none) (fun _ => none) (fun _ _ _ _ _ => none) (fun _ => none) (fun _ => none) (fun _ _ => none) (fun _ => none) () (fun _ _ _ _ => ()) v
noncomputable def asSlice (v : AV) : Option (Nat × Nat × Nat) := AV.rec (motive_1 := fun _ => Option (Nat × Nat × Nat)) (motive_2 := fun _ => Unit) (fun _ => none) (fun _ _ => none) (fun _ => none) none (fun _ _ => none) (fun _ _ => none) none (fun a0 a1 a2 _a3 => some (a0, a1, a2)) none (fun _ => none) (fun _ _ _ _ _ => none) (fun _ => none) none (fun _ _ _ => none) none (fun _ _ => none) (fun _ _ => none) (fun _ => none) (fun _ _ _ _ _ => none) (fun _ => none) (fun _ => none) (fun _ _ => none) (fun _ => none) () (fun _ _ _ _ => ()) v
noncomputable def aggD (u : TypeDesc) : Bool := TypeDesc.rec (motive := fun _ => Bool) false false (fun _ => false) (fun _ => false) (fun _ => false) false false (fun _ => false) (fun _ => false) (fun _a0 _a1 => true) (fun _ _ => false) (fun _ _ => false) (fun _a0 => true) (fun _ _ _ => false) (fun _ => false) (fun _ => false) (fun _ _ => false) u
theorem aggD_eq (u : TypeDesc) : aggD u = isAggD u := by cases u <;> rfl
noncomputable def fieldsD (u : TypeDesc) : Option (Array Field) := TypeDesc.rec (motive := fun _ => Option (Array Field)) none none (fun _ => none) (fun _ => none) (fun _ => none) none none (fun _ => none) (fun _ => none) (fun _ _ => none) (fun _ _ => none) (fun _ _ => none) (fun a0 => some a0) (fun _ _ _ => none) (fun _ => none) (fun _ => none) (fun _ _ => none) u
noncomputable def elemD (u : TypeDesc) : Option (Option Nat × TypeId) := TypeDesc.rec (motive := fun _ => Option (Option Nat × TypeId)) none none (fun _ => none) (fun _ => none) (fun _ => none) none none (fun _ => none) (fun a0 => some (none, a0)) (fun a0 a1 => some (some a0, a1)) (fun _ _ => none) (fun _ _ => none) (fun _ => none) (fun _ _ _ => none) (fun _ => none) (fun _ => none) (fun _ _ => none) u
noncomputable def cellsO (o : AObj) : Option (Tr AV × Nat) := AObj.rec (motive := fun _ => Option (Tr AV × Nat)) (fun t n _ _ _ _ _ => some (t, n)) (fun _ _ => none) (fun _ _ _ _ => none) (fun _ _ => none) (fun _ _ => none) (fun _ => none) o
noncomputable def bindF {α β : Type} (o : Option α) (f : α → Option β) : Option β := Option.rec (motive := fun _ => (α → Option β) → Option β) (fun _ => none) (fun a f => f a) o f
noncomputable def iteF {α : Type} (b : Bool) (x y : α) : α := Bool.rec (motive := fun _ => α → α → α) (fun _ y => y) (fun x _ => x) b x y
noncomputable def load1F (H : Heap) (b off : Nat) : Option AV := bindF (H.get b) fun o => bindF (cellsO o) fun p => iteF (Nat.blt off p.2) (p.1.get off) none
theorem load1F_eq : load1F = load1 := by
  funext H b off
  unfold load1F load1
  cases H.get b with
  | none => rfl
  | some o => cases o <;> first | rfl | (simp only [bindF, cellsO, iteF]; cases Nat.blt off _ <;> rfl)
noncomputable def loadVarF (C : Ctx) (H : Heap) (t : TypeId) (b off : Nat) : Option AV :=
  bindF (C.types.get t) fun i => iteF (aggD i.und) ((loadN H b off i.size).map .agg) (load1F H b off)
theorem loadVarF_eq : loadVarF = loadVar := by
  funext C H t b off
  unfold loadVarF loadVar ti
  cases C.types.get t with
  | none => rfl
  | some i => simp only [bindF, iteF, aggD_eq, load1F_eq]; cases isAggD i.und <;> rfl
noncomputable def doLoadF (C : Ctx) (H : Heap) (t : TypeId) (a : AV) : Option Out := bindF (asPtr a) fun p => valF H (loadVarF C H t p.1 p.2)
theorem doLoadF_eq : doLoadF = doLoad := by funext C H t a; cases a <;> first | rfl | (simp only [doLoadF, doLoad, valF_eq, loadVarF_eq]; rfl)
noncomputable def doStoreF (C : Ctx) (H : Heap) (t : TypeId) (a v : AV) : Option Out := bindF (asPtr a) fun p => skipF (storeVar C H t p.1 p.2 v)
theorem doStoreF_eq : doStoreF = doStore := by funext C H t a v; cases a <;> first | rfl | (simp only [doStoreF, doStore, skipF_eq]; rfl)
noncomputable def fieldAddrF (C : Ctx) (t : TypeId) (x : AV) (f : Nat) : Option AV :=
  bindF (C.types.get t) fun i => bindF (fieldsD i.und) fun fs => bindF (asPtr x) fun p => bindF fs[f]? fun fd => bindF (C.types.get fd.type) fun tf => iteF (Nat.beq tf.size 0) none (some (.ptr p.1 (p.2 + fd.offset)))
theorem fieldAddrF_eq : fieldAddrF = fieldAddr := by
  funext C t x f
  unfold fieldAddrF fieldAddr und ti
  cases C.types.get t with
  | none => rfl
  | some i =>
    obtain ⟨u, a, b, c⟩ := i
    cases u with
    | struct fs =>
      cases x with
      | ptr b off =>
        simp only [bindF, fieldsD, asPtr, Option.map_some]
        cases fs[f]? with
        | none => rfl
        | some fd =>
          simp only
          cases C.types.get fd.type with
          | none => rfl
          | some tf => simp only [iteF]; cases Nat.beq tf.size 0 <;> rfl
      | _ => rfl
    | _ => cases x <;> rfl
noncomputable def doFieldAddrF (C : Ctx) (H : Heap) (t : TypeId) (f : Nat) (a : AV) : Option Out := valF H (fieldAddrF C t a f)
theorem doFieldAddrF_eq : doFieldAddrF = doFieldAddr := by funext C H t f a; unfold doFieldAddrF doFieldAddr; rw [valF_eq, fieldAddrF_eq]
noncomputable def opMulK (k : IntKind) (x y : Int) : Option AV := opMul k x y
noncomputable def intOpF (op : BinOp) (k : IntKind) (x y : Int) : Option AV :=
  BinOp.rec (motive := fun _ => IntKind → Int → Int → Option AV) opAdd opSub opMul opQuo opRem (bitOp Nat.land .and) (bitOp Nat.lor .or) (bitOp Nat.xor .xor) opShl opShr (fun _ _ _ => none)
    (fun _ x y => opB (eqI x y)) (fun _ x y => opB (notB (eqI x y))) (fun _ x y => opB (ltI x y)) (fun _ x y => opB (notB (ltI y x))) (fun _ x y => opB (ltI y x)) (fun _ x y => opB (notB (ltI x y))) op k x y
theorem intOpF_eq : intOpF = intOp := by funext op k x y; cases op <;> rfl
noncomputable def kindNoF (k : IntKind) : Nat := IntKind.rec 0 1 2 3 4 5 6 7 k
theorem kindNoF_eq (k : IntKind) : kindNoF k = kindNo k := by cases k <;> rfl
noncomputable def isShiftF (op : BinOp) : Bool := BinOp.rec (motive := fun _ => Bool) false false false false false false false false true true false false false false false false false op
theorem isShiftF_eq (op : BinOp) : isShiftF op = isShift op := by cases op <;> rfl
noncomputable def intOp2F (op : BinOp) (k : IntKind) (x : Int) (k' : IntKind) (y : Int) : Option AV :=
  iteF (Nat.beq (kindNoF k) (kindNoF k')) (intOpF op k x y) (iteF (isShiftF op) (intOpF op k x y) none)
theorem intOp2F_eq : intOp2F = intOp2 := by
  funext op k x k' y
  unfold intOp2F intOp2
  rw [kindNoF_eq, kindNoF_eq, isShiftF_eq, intOpF_eq]
  cases Nat.beq (kindNo k) (kindNo k') <;> cases isShift op <;> rfl
noncomputable def binOpF (C : Ctx) (op : BinOp) (t : TypeId) (x y : AV) : Option AV :=
  Option.rec (motive := fun _ => Ctx → BinOp → TypeId → AV → AV → Option AV) (fun C op t x y => binOp C op t x y)
    (fun p _C op _t _x y => bindF (asInt y) fun q => intOp2F op p.1 p.2 q.1 q.2) (asInt x) C op t x y
theorem binOpF_eq : binOpF = binOp := by
  funext C op t x y
  cases x with
  | int k a => cases y <;> first | rfl | (simp only [binOpF, asInt, bindF, intOp2F_eq]; rfl)
  | _ => rfl
noncomputable def doBinF (C : Ctx) (H : Heap) (op : BinOp) (t : TypeId) (a b : AV) : Option Out :=
  Option.rec (motive := fun _ => Ctx → Heap → BinOp → TypeId → AV → AV → Option Out) (fun C H op t a b => doBin C H op t a b) (fun v _ H _ _ _ _ => some (.val v H)) (binOpF C op t a b) C H op t a b
theorem doBinF_eq : doBinF = doBin := by
  funext C H op t a b
  unfold doBinF
  rw [binOpF_eq]
  cases h : binOp C op t a b with
  | none => rfl
  | some v => simp only [doBin, h]
noncomputable def indexAddrF (C : Ctx) (t : TypeId) (x ix : AV) : Option AV :=
  Option.rec (motive := fun _ => Ctx → TypeId → AV → AV → Option AV) (fun C t x ix => indexAddr C t x ix)
    (fun s C t _x ix => bindF (C.types.get t) fun i => bindF (elemD i.und) fun e => bindF (asInt ix) fun j => Option.rec (motive := fun _ => Option AV)
      (bindF (C.types.get e.2) fun te => iteF (decide (0 ≤ j.2) && Nat.blt j.2.toNat s.2.2) (some (.ptr s.1 (s.2.1 + j.2.toNat * te.size))) none) (fun _ => none) e.1) (asSlice x) C t x ix
theorem indexAddrF_eq : indexAddrF = indexAddr := by
  funext C t x ix
  cases x with
  | slice b off len cap =>
    simp only [indexAddrF, asSlice, bindF]
    unfold indexAddr und ti
    cases C.types.get t with
    | none => rfl
    | some i =>
      obtain ⟨u, a, b', c⟩ := i
      cases u <;> cases ix <;> first | rfl | skip
      rename_i e k j
      simp only [elemD, asInt, asIdx, Option.map_some]
      cases C.types.get e with
      | none => rfl
      | some te =>
        simp only [iteF]
        cases hb : (decide (0 ≤ j) && Nat.blt j.toNat len) <;> rfl
  | _ => rfl
noncomputable def doIndexAddrF (C : Ctx) (H : Heap) (t : TypeId) (a b : AV) : Option Out := valF H (indexAddrF C t a b)
theorem doIndexAddrF_eq : doIndexAddrF = doIndexAddr := by funext C H t a b; unfold doIndexAddrF doIndexAddr; rw [valF_eq, indexAddrF_eq]
noncomputable def opStepF0 (C : Ctx) (H : Heap) (tmps : Tr AV) (op : Op) : Option Out :=
  Op.rec (motive := fun _ => Ctx → Heap → Tr AV → Option Out)
    (fun x _C H tmps => valF H (evF tmps x)) -- move
    (fun x _C H tmps => valF H (evF tmps x)) -- assign
    (fun c a b _C H tmps => doPick H tmps a b (evF tmps c))
    (fun t C H _tmps => doAlloc C H t)
    (fun t x _C H tmps => w1F (doBox H t) (evF tmps x))
    (fun t ps C H tmps => doBuild C H t (evParts tmps ps.toList))
    (fun t n ps C H tmps => doBuildSlice C H t n (evParts tmps ps.toList))
    (fun t m k x C H tmps => w2F (doUpdate C H tmps t x) (evF tmps m) (evF tmps k)) -- insert
    (fun t a C H tmps => w1F (doLoadF C H t) (evF tmps a))
    (fun t a x C H tmps => w2F (doStoreF C H t) (evF tmps a) (evF tmps x))
    (fun _ _C _H _tmps => none) -- ready
    (fun _ _C _H _tmps => none) -- waits
    (fun x _C H tmps => w1F (doNil H) (evF tmps x))
    (fun op t x y _ C H tmps => w2F (doBinF C H op t) (evF tmps x) (evF tmps y))
    (fun op _ x _C H tmps => w1F (doUn H op) (evF tmps x))
    (fun s d x C H tmps => w1F (doConv C H s d) (evF tmps x))
    (fun _ _ _C _H _tmps => none) -- sliceToArrayPointer
    (fun t x C H tmps => w1F (doIface C H t) (evF tmps x))
    (fun fn a b _C H tmps => doFunc H tmps fn a.toList b.toList)
    (fun t r C H tmps => doMap C H tmps t r)
    (fun _ _ _C _H _tmps => none) -- makeChan
    (fun t l c C H tmps => w2F (doMakeSlice C H t) (evF tmps l) (evF tmps c))
    (fun t x lo hi mx C H tmps => w1F (doSlice C H tmps t lo hi mx) (evF tmps x))
    (fun t x f C H tmps => w1F (doFieldAddrF C H t f) (evF tmps x))
    (fun t x f C H tmps => w1F (doField C H t f) (evF tmps x))
    (fun t x i C H tmps => w2F (doIndexAddrF C H t) (evF tmps x) (evF tmps i))
    (fun t x i C H tmps => w2F (doIndex C H t) (evF tmps x) (evF tmps i))
    (fun t x i ok C H tmps => w2F (doLookup C H t ok) (evF tmps x) (evF tmps i))
    (fun t m k x C H tmps => w2F (doUpdate C H tmps t x) (evF tmps m) (evF tmps k))
    (fun t m k C H tmps => w2F (doEntryOf C H t) (evF tmps m) (evF tmps k)) -- mapEntry
    (fun _ m st x _C H tmps => w2F (doEntryStore H tmps x) (evF tmps m) (evF tmps st)) -- entryStore
    (fun t x C H tmps => w1F (doRange C H t) (evF tmps x))
    (fun it s _C H tmps => w1F (doNext H s) (evF tmps it))
    (fun it _C H tmps => w1F (doEntry H) (evF tmps it))
    (fun x _ t ok C H tmps => w1F (doAssert C H t ok) (evF tmps x))
    (fun x i _C H tmps => w1F (doExtract H i) (evF tmps x))
    (fun c C H tmps => callOp C H tmps c)
    (fun _ _C _H _tmps => none) (fun _ _C _H _tmps => none) (fun _ _C _H _tmps => none) (fun _ _ _C _H _tmps => none) (fun _ _ _ _C _H _tmps => none) (fun _ _ _C _H _tmps => none) op C H tmps
theorem opStepF0_eq : opStepF0 = opStep0 := by
  funext C H tmps op
  cases op <;> simp only [opStepF0, evF_eq, valF_eq, w1F_eq, w2F_eq, doLoadF_eq, doStoreF_eq, doFieldAddrF_eq, doBinF_eq, doIndexAddrF_eq] <;> rfl
noncomputable def opStepF (C : Ctx) (H : Heap) (tmps : Tr AV) (op : Op) : Option Out := Option.rec (motive := fun _ => Ctx → Heap → Tr AV → Op → Option Out) (fun C H tmps op => orFact C H tmps op none) (fun r _ _ _ _ => some r) (opStepF0 C H tmps op) C H tmps op
theorem opStepF_eq : opStepF = opStep := by
  funext C H tmps op
  unfold opStepF opStep
  rw [opStepF0_eq]
  cases opStep0 C H tmps op <;> rfl
noncomputable def outF {β : Type} (C : Ctx) (self : Self) (E : List LoopInfo) (n : Nat) (H : Heap) (tmps : Tr AV) (d : Option Tmp) (K : Knt β) (o : Out) : Option (List β) :=
  Out.rec (motive := fun _ => Ctx → Self → List LoopInfo → Nat → Heap → Tr AV → Option Tmp → Knt β → Option (List β))
    (fun v H' _ _ _ n _ tmps d K => putKF n tmps d K v H')
    (fun H' _ _ _ n _ tmps d K => putKF n tmps d K undefV H')
    (fun f args C self E n H tmps d K => afterCall (elemB C.apart f) n tmps d K (callIn C self E H f args))
    (fun l args _ self E n H tmps d K => afterCall true n tmps d K (roundIn self E H l args))
    (fun l _ _ _ n _ tmps d K => bindL (putP n tmps d K) l) o C self E n H tmps d K
theorem outF_eq {β : Type} : @outF β = @outK β := by
  funext C self E n H tmps d K o
  cases o <;> simp only [outF, outK, putKF_eq]
noncomputable def operF {β : Type} (C : Ctx) (self : Self) (E : List LoopInfo) (n : Nat) (H : Heap) (tmps : Tr AV) (o : Oper) (K : Knt β) : Option (List β) :=
  Option.rec (motive := fun _ => Ctx → Self → List LoopInfo → Nat → Heap → Tr AV → Oper → Knt β → Option (List β)) (fun _ _ _ _ _ _ _ _ => none) (fun out C self E n H tmps o K => outF C self E n H tmps o.dst K out) (opStepF C H tmps o.op) C self E n H tmps o K
theorem operF_eq {β : Type} : @operF β = @operK β := by
  funext C self E n H tmps o K
  unfold operF operK
  rw [opStepF_eq]
  cases opStep C H tmps o.op with
  | none => rfl
  | some out => simp only [outF_eq]
noncomputable def guardF {β : Type} (C : Ctx) (self : Self) (E : List LoopInfo) (n : Nat) (ops : List Oper) (H : Heap) (tmps : Tr AV) (o : Oper) (K : Knt β) (g : Option (Nat × Bool)) : Option (List β) :=
  Option.rec (motive := fun _ => Ctx → Self → List LoopInfo → Nat → List Oper → Heap → Tr AV → Oper → Knt β → Option (List β)) (fun C self E n _ H tmps o K => operF C self E n H tmps o K)
    (fun _g C self E n ops H tmps o K => bindF (wantedG ops tmps o) fun b => iteF b (operF C self E n H tmps o K) (putKF n tmps o.dst K undefV H)) g C self E n ops H tmps o K
theorem guardF_eq {β : Type} : @guardF β = @guardK β := by
  funext C self E n ops H tmps o K g
  cases g with
  | none => simp only [guardF, operF_eq]; rfl
  | some g =>
    simp only [guardF, guardK, operF_eq, putKF_eq]
    cases wantedG ops tmps o with
    | none => rfl
    | some b => cases b <;> rfl
noncomputable def regF {β : Type} (C : Ctx) (self : Self) (E : List LoopInfo) (n : Nat) (ops : List Oper) (K : Knt β) (l : List Oper) : Knt β :=
  List.rec (motive := fun _ => Knt β) K (fun o _ ih tmps H => guardF C self E n ops H tmps o ih o.guard) l
theorem regF_eq {β : Type} : @regF β = @regGo β := by
  funext C self E n ops K l tmps H
  induction l generalizing tmps H with
  | nil => rfl
  | cons o r ih =>
    have h : regF C self E n ops K r = regGo C self E n ops K r := by funext t h; exact ih t h
    show guardF C self E n ops H tmps o (regF C self E n ops K r) o.guard = regGo C self E n ops K (o :: r) tmps H
    rw [h, guardF_eq]
    rfl
noncomputable def endsF (l : List Oper) : Bool := List.rec (motive := fun _ => Bool) false (fun o r ih => List.rec (motive := fun _ => Bool) (opDefer o.op) (fun _ _ _ => ih) r) l
theorem endsF_eq : endsF = endsDefer := by
  funext l
  induction l with
  | nil => rfl
  | cons o r ih => cases r with
    | nil => rfl
    | cons o' r => exact ih
noncomputable def regionF (C : Ctx) (self : Self) (E : List LoopInfo) (I : FInfo) (k : List AItem) (tmps : Tr AV) (H : Heap) (ops : List Oper) (draw : Bool) : Option (List (AV × Heap)) :=
  Bool.rec (motive := fun _ => Ctx → Self → List LoopInfo → FInfo → List AItem → Tr AV → Heap → List Oper → Option (List (AV × Heap))) (fun C self E I k tmps H ops => Bool.rec (motive := fun _ => Option (List (AV × Heap))) (regF C self E I.n ops (self E I k) ops tmps H) (deferRegion C self E I k tmps H ops) (endsF ops))
    (fun C self E I k tmps H ops => doRegion C self E I k tmps H ops true) draw C self E I k tmps H ops
theorem regionF_eq : regionF = doRegion := by
  funext C self E I k tmps H ops draw
  cases draw with
  | false => simp only [regionF, regF_eq, endsF_eq]; unfold doRegion plainRegion; cases endsDefer ops <;> rfl
  | true => rfl
noncomputable def codeF (C : Ctx) (self : Self) (E : List LoopInfo) (I : FInfo) (k : List AItem) (tmps : Tr AV) (H : Heap) (c : Code) : Option (List (AV × Heap)) :=
  Code.rec (motive := fun _ => Ctx → Self → List LoopInfo → FInfo → List AItem → Tr AV → Heap → Option (List (AV × Heap)))
    (fun _ self E I k tmps H => self E I k tmps H)
    (fun _ ops draw C self E I k tmps H => regionF C self E I k tmps H ops.toList draw)
    (fun a b _ _ _ self E I k tmps H => self E I (.code a :: .code b :: k) tmps H)
    (fun x thn els _ _ _ self E I k tmps H => doCond self E I k tmps H thn els (evF tmps x))
    (fun id body _ _ self E I k tmps H => self E I (.code body :: .inBlock id :: k) tmps H)
    (fun body _ _ self E I k tmps H => self E I (.code body :: .inLoop body :: k) tmps H)
    (fun f params assign body _ _ C self E I k tmps H => doRangeFunc C self E I k tmps H f params.toList assign body)
    (fun id C self E I k tmps H => doExit C self E I tmps H (.exit id) (exitTo id k))
    (fun body _ _ self E I k tmps H => self E I (.code body :: .inScope body :: k) tmps H)
    (fun _ _ self E I k tmps H => self E I k tmps H)
    (fun l C self E I k tmps H => doExit C self E I tmps H (.goto l) (gotoIn l k))
    (fun C self E I _ tmps H => leave C self E I tmps H (some .ret))
    (fun _ _ _ _ _ _ _ _ => none) c C self E I k tmps H
theorem codeF_eq : codeF = stepC := by
  funext C self E I k tmps H c
  cases c <;> simp only [codeF, regionF_eq, evF_eq] <;> rfl
noncomputable def itemF (C : Ctx) (self : Self) (E : List LoopInfo) (I : FInfo) (k : List AItem) (tmps : Tr AV) (H : Heap) (it : AItem) : Option (List (AV × Heap)) :=
  AItem.rec (motive := fun _ => Ctx → Self → List LoopInfo → FInfo → List AItem → Tr AV → Heap → Option (List (AV × Heap)))
    (fun c C self E I k tmps H => codeF C self E I k tmps H c)
    (fun _ _ self E I k tmps H => self E I k tmps H)
    (fun body _ self E I k tmps H => self E I (.code body :: .inLoop body :: k) tmps H)
    (fun _ _ self E I k tmps H => self E I k tmps H)
    (fun l _ self E I k tmps H => doEnd self E I k tmps H l)
    (fun _ self E I k tmps H => doBegin self E I k tmps H) it C self E I k tmps H
theorem itemF_eq : itemF = stepI := by
  funext C self E I k tmps H it
  cases it <;> simp only [itemF, codeF_eq] <;> rfl
noncomputable def stepF (C : Ctx) (self : Self) : Self := fun E I todo tmps H =>
  List.rec (motive := fun _ => Ctx → Self → List LoopInfo → FInfo → Tr AV → Heap → Option (List (AV × Heap))) (fun C self E I tmps H => leave C self E I tmps H none) (fun it k _ C self E I tmps H => itemF C self E I k tmps H it) todo C self E I tmps H
theorem stepF_eq : stepF = step := by
  funext C self E I todo tmps H
  cases todo <;> simp only [stepF, itemF_eq] <;> rfl
noncomputable def execF (C : Ctx) (n : Nat) : Self := Nat.rec (motive := fun _ => Self) (fun _ _ _ _ _ => none) (fun _ ih => stepF C ih) n
theorem execF_eq (C : Ctx) (n : Nat) : execF C n = exec C n := by
  induction n with
  | zero => rfl
  | succ n ih =>
    show stepF C (execF C n) = exec C (n + 1)
    rw [ih, stepF_eq]
    rfl
noncomputable def runF (C : Ctx) (fuel : Nat) (f : FuncId) (args : List AV) (H : Heap) : Option (List (AV × Heap)) := callIn C (execF C fuel) [] H f args
theorem runF_eq : runF = runCall := by
  funext C n f args H
  unfold runF runCall
  rw [execF_eq]
end Go.VmK
