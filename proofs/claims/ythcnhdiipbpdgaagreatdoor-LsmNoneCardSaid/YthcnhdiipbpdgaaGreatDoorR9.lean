/-
  A machine that runs the model with abstract blocks, and lemmas on it: whatever it answers of a call is what the model does (ProgOK, Base: the conditions).
-/
import Derived.Test.YthcnhdiipbpdgaaGreatDoorR7c
import Derived.Sort.Row
import Derived.Sort.Grow
import Derived.Sort.EncStr
/- A row of texts is sorted in its place: slices.Sort by its contract. -/
namespace Go.VmK
variable {P : Program} {O : Env → Heap → World → Prop}
open Go.Sort Go.Proofs

theorem bytesLess_iff : ∀ (x y : List UInt8), Op.bytesLess x y = decide (x < y)
  | [], [] => by simp [Op.bytesLess]
  | _ :: _, [] => by simp [Op.bytesLess]
  | [], _ :: _ => by simp [Op.bytesLess]
  | a :: x, b :: y => by
    rw [Op.bytesLess, bytesLess_iff x y]
    by_cases h : a < b
    · simp [h, List.cons_lt_cons_iff]
    · by_cases h2 : a = b
      · subst h2; simp [h]
      · simp [h, h2, List.cons_lt_cons_iff]
theorem insertL_perm (x : List UInt8) : ∀ l : List (List UInt8), (insertL x l).Perm (x :: l)
  | [] => List.Perm.refl _
  | y :: r => by
    unfold insertL
    cases ltL y x with
    | true => exact ((insertL_perm x r).cons y).trans (List.Perm.swap x y r)
    | false => exact List.Perm.refl _
theorem sortL_perm : ∀ l : List (List UInt8), (sortL l).Perm l
  | [] => List.Perm.refl _
  | x :: r => (insertL_perm x (sortL r)).trans ((sortL_perm r).cons x)
theorem insertL_sorted (x : List UInt8) : ∀ l : List (List UInt8), l.Pairwise (fun a b => a ≤ b) → (insertL x l).Pairwise (fun a b => a ≤ b)
  | [], _ => by simp [insertL]
  | y :: r, h => by
    unfold insertL
    have hy := List.pairwise_cons.1 h
    cases hb : ltL y x with
    | true =>
      refine List.pairwise_cons.2 ⟨fun z hz => ?_, insertL_sorted x r hy.2⟩
      rcases List.mem_cons.1 ((insertL_perm x r).mem_iff.1 hz) with rfl | hz
      · rw [ltL_eq, bytesLess_iff] at hb
        exact List.le_of_lt (of_decide_eq_true hb)
      · exact hy.1 z hz
    | false =>
      have hxy : x ≤ y := by
        rw [ltL_eq, bytesLess_iff] at hb
        exact List.not_lt.1 (of_decide_eq_false hb)
      refine List.pairwise_cons.2 ⟨fun z hz => ?_, h⟩
      rcases List.mem_cons.1 hz with rfl | hz
      · exact hxy
      · exact List.le_trans hxy (hy.1 z hz)
theorem sortL_sorted : ∀ l : List (List UInt8), (sortL l).Pairwise (fun a b => a ≤ b)
  | [] => List.Pairwise.nil
  | x :: r => insertL_sorted x _ (sortL_sorted r)
theorem sortL_eq (l : List (List UInt8)) : l.mergeSort (fun x y => decide (x ≤ y)) = sortL l := by
  have tr : ∀ a b c : List UInt8, decide (a ≤ b) = true → decide (b ≤ c) = true → decide (a ≤ c) = true := fun a b c h1 h2 => by simp only [decide_eq_true_eq] at *; exact List.le_trans h1 h2
  have to : ∀ a b : List UInt8, (decide (a ≤ b) || decide (b ≤ a)) = true := fun a b => by simp only [Bool.or_eq_true, decide_eq_true_eq]; exact List.le_total a b
  refine List.Perm.eq_of_pairwise (le := fun a b => decide (a ≤ b) = true) (fun a b _ _ h1 h2 => ?_) (List.pairwise_mergeSort tr to l) ((sortL_sorted l).imp fun h => decide_eq_true h) ((List.mergeSort_perm l _).trans (sortL_perm l).symm)
  simp only [decide_eq_true_eq] at h1 h2
  exact List.le_antisymm h1 h2
theorem strsOf_eq : ∀ (l : List AV) (ss : List (List UInt8)), strsOf l = some ss → l = ss.map .str
  | [], ss, h => by simp [strsOf] at h; subst h; rfl
  | x :: r, ss, h => by
    cases x <;> simp [strsOf] at h
    rename_i s
    cases hr : strsOf r with
    | none => simp [hr] at h
    | some l =>
      simp [hr] at h; subst h
      rw [strsOf_eq r l hr]; rfl
theorem concL_strs (η : Env) : ∀ ss : List (List UInt8), concL η (ss.map .str) = some (ss.map encStr)
  | [] => rfl
  | s :: r => by simp [concL, conc, concL_strs η r]

theorem putCells_write (xs : List (List UInt8)) (c : Array Value) (off : Nat) (h : off + xs.length ≤ c.size) : putCells encStr off xs.toArray c = writeL c off (xs.map encStr) := by
  apply Array.ext_getElem?
  intro k
  rw [writeL_get _ _ _ (by simpa using h)]
  simp only [putCells, Array.getElem?_mapIdx, List.length_map, List.size_toArray]
  by_cases hk : off ≤ k ∧ k < off + xs.length
  · rw [if_pos hk, Array.getElem?_eq_getElem (by omega)]
    simp only [Option.map_some, if_pos hk, List.getElem?_map]
    rw [List.getElem?_eq_getElem (by omega)]
    simp only [Option.map_some]
    rw [getElem!_pos _ _ (by simp; omega)]
    simp
  · rw [if_neg hk]
    cases c[k]? with
    | none => rfl
    | some y => simp [hk]
theorem putRow_put {w : World} {r : Nat} {c : Array Value} {e : TypeId} {fz : Nat × Nat} (h : w.heap[r]? = some (.cells c e fz)) (xs : List (List UInt8)) (off : Nat) (hle : off + xs.length ≤ c.size) :
    putRow encStr w r off xs.toArray = World.putBlock w r (.cells (writeL c off (xs.map encStr)) e fz) := by
  unfold putRow mapBlock World.putBlock
  rw [← putCells_write xs c off hle]
  congr 1
  apply Array.ext_getElem?
  intro k
  rw [Array.getElem?_modify, Array.getElem?_setIfInBounds]
  by_cases hk : r = k
  · subst hk
    rw [if_pos rfl, if_pos rfl, if_pos (lt_of_get h), h]
    rfl
  · rw [if_neg hk, if_neg hk]

theorem conOne_sort {H : Heap} {args : List AV} {p : AV × Heap} (h : conOne .sort H args = some p) : ∃ b off len cap, args = [.slice b off len cap] ∧ conSort H b off len = some p := by
  match args, h with
  | [.slice b off len cap], h => exact ⟨b, off, len, cap, rfl, h⟩
theorem conSort_some {H : Heap} {b off len : Nat} {p : AV × Heap} (h : conSort H b off len = some p) : ∃ ss H', 1 ≤ len ∧ len ≤ 4096 ∧ loadN H b off len = some (ss.map .str) ∧ storeL H b off ((sortL ss).map .str) = some H' ∧ p = (.tuple [], H') := by
  unfold conSort at h
  cases hb : (Nat.ble 1 len && Nat.ble len 4096) with
  | false => rw [hb] at h; cases h
  | true =>
    rw [hb] at h
    simp only [Bool.and_eq_true] at hb
    simp only [cond_true] at h
    split at h
    · cases h
    · rename_i vs hvs
      split at h
      · cases h
      · rename_i ss hss
        split at h
        · cases h
        · rename_i H' hH'
          cases h
          exact ⟨ss, H', ble_le hb.1, ble_le hb.2, by rw [hvs, strsOf_eq _ _ hss], hH', rfl⟩
theorem storeL_some {H H' : Heap} {b off : Nat} {vs : List AV} (h : storeL H b off vs = some H') : ∃ t n e o lo hi mk, H.get b = some (.cells t n e o lo hi mk) ∧ off + vs.length ≤ n ∧ (hi ≤ off ∨ off + vs.length ≤ lo) := by
  unfold storeL at h
  split at h
  · rename_i t n e o lo hi mk hg
    cases hb : (Nat.ble (off + vs.length) n && (Nat.ble hi off || Nat.ble (off + vs.length) lo) && vs.all AV.oneCell) with
    | false => simp [hb] at h
    | true =>
      simp only [Bool.and_eq_true, Bool.or_eq_true] at hb
      exact ⟨t, n, e, o, lo, hi, mk, hg, ble_le hb.1.1, hb.1.2.imp ble_le ble_le⟩
  · cases h

/-- SLICES.SORT OF TEXTS, BY ITS CONTRACT. -/
theorem sort_ok {f : FuncId} (h : ∀ (blk off cap : Nat) (ss : List (List UInt8)) (w : World), Holds encStr w blk off ss.toArray → blk < w.heap.size → ss.length < 4611686018427387904 →
    Calls P f #[.slice (some ⟨blk, off, none⟩) ss.length cap] w fun e w' => e = .returned (.tuple #[]) ∧ ∃ n os, w' = grow (putRow encStr (Sort.ahead w n) blk off (ss.mergeSort fun x y => decide (x ≤ y)).toArray) os) : ConOK P O f .sort := by
  intro E η H w args xs l bs hx hl cs
  simp only [conRun] at hl
  split at hl
  · rename_i p hp
    cases hl
    obtain ⟨b, off, len, cap, rfl, hp⟩ := conOne_sort hp
    obtain ⟨ss, H', hl1, hl2, hld, hst, rfl⟩ := conSort_some hp
    obtain ⟨t, n, e, o, lo, hi, mk, hg, hle, hfr⟩ := storeL_some hst
    have hlen : (sortL ss).length = ss.length := (sortL_perm ss).length_eq
    simp only [List.length_map, hlen] at hle hfr
    obtain ⟨r, c, fz, hρ, hh, hc⟩ := getC bs.rel hg
    obtain ⟨r1, vs, hρ1, hvs, hvl, hll, hcell, _⟩ := loadN_sound bs.rel hld
    obtain rfl : r1 = r := by rw [hρ] at hρ1; exact (Option.some.inj hρ1).symm
    obtain rfl : vs = ss.map encStr := by rw [concL_strs] at hvs; exact (Option.some.inj hvs).symm
    have hls : ss.length = len := by simpa using hll
    subst hls
    have hcs := hc.le
    have hH : Holds encStr w r1 off ss.toArray := fun j hj => by
      have hj : j < ss.length := by simpa using hj
      refine ⟨?_, ?_⟩
      · have := hcell j (encStr ss[j]) (by simp [hj])
        rw [this, getElem!_pos _ _ (by simpa using hj)]; simp
      · simp only [World.frozen?, hh]
        have hnf : ¬ (fz.1 ≤ off + j ∧ off + j < fz.2) := fun hq => by
          rcases hc.cover (off + j) hq.1 hq.2 with ⟨p, q⟩ | ⟨_, p⟩ <;> omega
        simp; omega
    simp only [concL, conc, hρ] at hx
    cases hk : capOf η cap with
    | none => simp [hk] at hx
    | some k =>
      simp only [hk] at hx
      by_cases hkl : ss.length ≤ k
      · simp [hkl] at hx
        subst hx
        have hsz : ss.length < 4611686018427387904 := by omega
        obtain ⟨ex, w', fr, ⟨rfl, nn, os, rfl⟩, h1, h2, h3⟩ := h r1 off k ss w hH (lt_of_get hh) hsz cs
        obtain ⟨r2, w2, hρ2, hrun, htr, hnx⟩ := storeL_sound bs.rel hst (concL_strs η (sortL ss))
        obtain rfl : r2 = r1 := by rw [hρ] at hρ2; exact (Option.some.inj hρ2).symm
        have hone : ∀ x ∈ (sortL ss).map encStr, x.oneCell' = true := fun x hx => by
          obtain ⟨s, _, rfl⟩ := List.mem_map.1 hx; rfl
        have hw2 := run_storeCells_go (P := P) r2 off e fz ((sortL ss).map encStr) 0 w c hh (by simp [hlen]; omega) hone (fun j hj hq => by
          simp [hlen] at hj
          rcases hc.cover (off + j) (by omega) (by omega) with ⟨p, q⟩ | ⟨_, p⟩ <;> omega)
        rw [hrun, if_neg (by intro hq; have := congrArg List.length hq; simp [hlen] at this; subst this; simp at hl1)] at hw2
        have hw2' : w2 = World.putBlock w r2 (.cells (writeL c off ((sortL ss).map encStr)) e fz) := by
          injection hw2
        have hrow : putRow encStr (Sort.ahead w nn) r2 off (ss.mergeSort fun x y => decide (x ≤ y)).toArray = Sort.ahead w2 nn := by
          rw [sortL_eq, putRow_put (w := Sort.ahead w nn) hh (sortL ss) off (by rw [hlen]; omega), hw2']
          rfl
        have hstd : Stands w2 (grow (putRow encStr (Sort.ahead w nn) r2 off (ss.mergeSort fun x y => decide (x ≤ y)).toArray) os) := by
          rw [hrow]
          refine ⟨rfl, rfl, by simp [grow], fun b hb => ?_⟩
          show (w2.heap ++ os)[b]? = w2.heap[b]?
          rw [Array.getElem?_append_left hb]
        have ht := htr.trans (Trans.stands htr.rel hstd)
        have hob := storeL_objs hst
        exact ⟨_, List.mem_cons_self, η, .tuple #[], _, ⟨fr, h1, h2, h3⟩, rfl, ht,
          fun id hid => let f := bs.above id (by rw [hnx] at hid; exact hid); ⟨hob id f.get, f.ρ, f.κ, f.σ⟩,
          ⟨Only.refl _ _, fun id _ hn => hob id hn, Nat.le_of_eq hnx.symm⟩⟩
      · simp [hkl] at hx
  · cases hl
end Go.VmK
