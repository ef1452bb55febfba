/-
  Part of the proof of a statement of this seat: walks of its functions and the closed run; no condition but those written in each theorem.
-/
import Derived.Test.YtckjnglhbjiklaaGreatDoorK0
import Derived.Test.YtckjnglhbjiklaaGreatDoorV7
import Derived.Test.YtckjnglhbjiklaaGreatDoorPA
import Derived.Test.YtckjnglhbjiklaaGreatDoorQT
import Derived.Test.YtckjnglhbjiklaaGreatDoorQB
import Derived.Test.YtckjnglhbjiklaaGreatDoorPV
import Derived.Test.YtckjnglhbjiklaaGreatDoorQI2
import Derived.Test.YtckjnglhbjiklaaGreatDoorQM
/- The texts of a set's and a map's first keys: what they are, how long, how they stand. -/
namespace Go.Proofs.YtckjnglhbjiklaaGreatDoor.Wk
set_option maxRecDepth 100000
open Go.RowKit Go.VmK Go.NumPure Go.Shelf
def dot1 : List UInt8 := [0, 0, 0, 1, 0, 0, 0, 0, 0, 0, 0, 1]
def ckb : ByteArray := ⟨#[1, 0, 0, 0, 1, 1, 0]⟩
def cl1 : List UInt8 := [7, 1, 0, 0, 0, 1, 1, 0, 1, 0]
def key (a s : List UInt8) : List UInt8 := 111 :: (ok a ++ s)
def sE (e : List UInt8) : List UInt8 := 3 :: ok e
def sD (e : List UInt8) : List UInt8 := 3 :: (ok e ++ dot1)
def sC (e : List UInt8) : List UInt8 := 3 :: (esc e ++ [0])
def sN (e : List UInt8) : List UInt8 := 3 :: (esc e ++ [0, 2])
/-- the other name -/
def otr (name : ByteArray) : ByteArray := name.extract 1 name.size ++ txt [120]
theorem ltL_irr (x : List UInt8) : ltL x x = false := by rw [ltL_eq, bytesLess_iff]; exact decide_eq_false (List.lt_irrefl x)
theorem ltL_asym {x y : List UInt8} (h : ltL x y = true) : ltL y x = false := by
  rw [ltL_eq, bytesLess_iff] at h ⊢
  exact decide_eq_false (List.lt_asymm (of_decide_eq_true h))
theorem ltL_tri {x y : List UInt8} (h : ltL x y = false) (h2 : ltL y x = false) : x = y := by
  rw [ltL_eq, bytesLess_iff] at h h2
  exact List.le_antisymm (List.not_lt.1 (of_decide_eq_false h2)) (List.not_lt.1 (of_decide_eq_false h))
theorem ne_txt {x y : List UInt8} (h : ltL x y = true) : ¬ txt x = txt y := by
  intro e
  have : x = y := by rw [← txt_list x, ← txt_list y, e]
  subst this
  rw [ltL_irr] at h; cases h
theorem ne_txt' {x y : List UInt8} (h : ltL x y = true) : ¬ txt y = txt x := fun e => ne_txt h e.symm
theorem ne_empty {s : ByteArray} (h : 1 ≤ s.size) : ¬ s = ⟨([] : List UInt8).toArray⟩ := by rintro rfl; exact absurd h (by decide)
theorem key_lt (a : List UInt8) {s t : List UInt8} (h : ltL s t = true) : ltL (key a s) (key a t) = true := (ltL_pre (111 :: ok a) s t).trans h
theorem key_lt2 {a b : List UInt8} (s t : List UInt8) (h : ltL a b = true) : ltL (key a s) (key b t) = true := (ltL_pre [111] _ _).trans (ok_ltL a b s t h)
theorem sE_sD (e : List UInt8) : ltL (sE e) (sD e) = true := by
  have := ltL_pre (3 :: ok e) [] dot1
  rw [List.append_nil] at this
  exact this.trans rfl
theorem sE_sN (e : List UInt8) : ltL (sE e) (sN e) = true := by
  have := ltL_pre (3 :: (esc e ++ [0])) [1] [2]
  simp only [List.cons_append, List.append_assoc, List.nil_append] at this
  exact this.trans rfl
theorem sD_sN (e : List UInt8) : ltL (sD e) (sN e) = true := by
  have := ltL_pre (3 :: (esc e ++ [0])) (1 :: dot1) [2]
  simp only [List.cons_append, List.append_assoc, List.nil_append] at this
  unfold sD sN ok
  rw [List.append_assoc]
  exact this.trans rfl
theorem key_cat (a s t : List UInt8) : txt (key a s) ++ txt t = txt (key a (s ++ t)) := by rw [txt_append, key, List.cons_append, List.append_assoc]; rfl
theorem sC_two (e : List UInt8) : sC e ++ [2] = sN e := by simp [sC, sN]
theorem nil_cat (s : ByteArray) : (⟨([] : List UInt8).toArray⟩ : ByteArray) ++ s = s := by apply ByteArray.ext; simp
theorem ok_size (a : List UInt8) : a.length + 2 ≤ (ok a).length ∧ (ok a).length ≤ 2 * a.length + 2 := by
  have := esc_len a
  simp only [ok, List.length_append, List.length_cons, List.length_nil]; omega
theorem key_size (a s : List UInt8) : (txt (key a s)).size = 1 + (ok a).length + s.length := by
  rw [txt_size]; simp only [key, List.length_cons, List.length_append]; omega
theorem wrap_small {x : Int} (h1 : 0 ≤ x) (h2 : x ≤ 1000000000) : IntKind.i64.wrap x = x := by rw [wrap_i64']; omega
theorem bt_size {first : Nat} {ws : List (ByteArray × ByteArray)} (hf : first < 18446744073709551616) (hn : ws.length ≤ 100) (hx : ∀ p ∈ ws, p.1.size ≤ 300 ∧ p.2.size ≤ 1000) : (bt first ws).length ≤ 22 + 1331 * ws.length := by
  have h1 := vb_short hf
  have h2 := vb_short (n := ws.length) (by omega)
  have h3 := bb_len ws hx
  simp only [bt, List.length_append]; omega
theorem fr_size (l : List UInt8) : (txt (fr l)).size = 8 + l.length := by
  have h : ∀ v, (be4s v).data.toList.length = 4 := be4s_size
  rw [txt_size]; simp only [fr, List.length_append, h]
section
variable {P : Program} {C : Ctx}
theorem ofact_byte {t : TypeId} {a b r : AV} {s : ByteArray} {i : Nat} {p q : List UInt8} {c : UInt8} (hu : P.underlying t = some .string) (ha : conc (env0 C.base) a = some (.string s)) (hb : conc (env0 C.base) b = some (.int .i64 i)) (h : s.data.toList = p ++ c :: q) (hi : i = p.length) (hr : conc (env0 C.base) r = some (.int .u8 c.toNat)) : OFactOK P C ((5, t, 0), [a, b], r) := by
  subst hi
  obtain ⟨h1, h2⟩ := byte_at h
  exact ofact_index hu ha hb h1 (by rw [hr, h2])
theorem ofact_hi {t : TypeId} {a b r : AV} {s : ByteArray} {i : Nat} {p q : List UInt8} (hu : P.underlying t = some .string) (ha : conc (env0 C.base) a = some (.string s)) (hb : conc (env0 C.base) b = some (.int .i64 i)) (h : s.data.toList = p ++ q) (hi : i = p.length) (hr : conc (env0 C.base) r = some (.string (txt p))) : OFactOK P C ((6, t, 2), [a, b], r) := by
  subst hi
  have hs : s.size = (p ++ q).length := by rw [← h]; rfl
  refine ofact_slice_hi hu ha hb ?_ (by rw [hs, List.length_append]; omega)
  rw [hr]
  congr 2
  apply ByteArray.ext
  apply Array.toList_inj.1
  rw [ByteArray.data_extract, Array.toList_extract, h]
  simp [List.extract, txt]
theorem ofact_lo {t : TypeId} {a b r : AV} {s : ByteArray} {i : Nat} {p q : List UInt8} (hu : P.underlying t = some .string) (ha : conc (env0 C.base) a = some (.string s)) (hb : conc (env0 C.base) b = some (.int .i64 i)) (h : s.data.toList = p ++ q) (hi : i = p.length) (hr : conc (env0 C.base) r = some (.string (txt q))) : OFactOK P C ((6, t, 1), [a, b], r) := by
  have hs : s.size = (p ++ q).length := by rw [← h]; rfl
  refine ofact_slice_lo hu ha hb ?_ (by rw [hs, List.length_append]; omega)
  rw [hr, extract_at h hi]
end
/-- a row of texts is sorted as it is told -/
theorem sort_row {ss ss' : List (List UInt8)} (hp : ss.Perm ss') (hs : ss'.Pairwise fun x y => ltL x y = true) : ss.mergeSort (fun x y => decide (x ≤ y)) = ss' := by
  have tr : ∀ a b c : List UInt8, decide (a ≤ b) = true → decide (b ≤ c) = true → decide (a ≤ c) = true := fun a b c h1 h2 => by simp only [decide_eq_true_eq] at *; exact List.le_trans h1 h2
  have tot : ∀ a b : List UInt8, (decide (a ≤ b) || decide (b ≤ a)) = true := fun a b => by simp only [Bool.or_eq_true, decide_eq_true_eq]; exact List.le_total a b
  refine List.Perm.eq_of_pairwise (le := fun a b => decide (a ≤ b) = true) (fun a b _ _ h1 h2 => ?_) (List.pairwise_mergeSort tr tot ss) (hs.imp fun {x y} h => ?_) ((List.mergeSort_perm ss _).trans hp)
  · simp only [decide_eq_true_eq] at h1 h2
    exact List.le_antisymm h1 h2
  · rw [ltL_eq, bytesLess_iff] at h
    exact decide_eq_true (List.le_of_lt (of_decide_eq_true h))
/-- PutMsg by its law: calls of it whose memory is known, by what delta.Put does there -/
theorem msg_known {O : Env → Heap → World → Prop} {rs : List (List AV × Heap × List (AV × Heap))}
    (h : ∀ r ∈ rs, ∃ (told : List UInt8) (okind : Int) (nm : AV) (name : ByteArray) (put seen gone : AV) (v t : AV) (H' : Heap) (σ0 : Nat → Option Value), told.length ≤ 100000 ∧
      r.1 = [.agg [.int .i64 1, .int .i64 1, .int .i64 2, .int .i64 0, .int .i64 okind, nm, put, seen, gone, .str [], .str [], .str [], .bool false, .int .i64 0, .nils, .nils, .nils, .nils]] ∧ r.2.2 = [(v, H')] ∧
      (∀ (η : Env) (H : Heap) (w : World), O η H w → (env0 σ0).le η) ∧ conc (env0 σ0) nm = some (.string name) ∧ conc (env0 σ0) t = some (.string (txt told)) ∧ conc (env0 σ0) v = some (.string (pm told)) ∧
      ∃ (C : Ctx) (n : Nat), ProgOK Tryz.prog C O ∧ runCall C n 299 [.agg [.int .i64 okind, nm, put, seen, gone]] r.2.1 = some [(.tuple [t, .int .i64 0], H')]) :
    ConOK Tryz.prog O 229 (.known rs) := by
  intro E η H w args xs l b hx hl cs
  simp only [conRun] at hl
  cases E with
  | cons => cases hl
  | nil =>
    obtain ⟨told, okind, nm, name, put, seen, gone, v, t, H', σ0, hlen, ha, ho, hle, hnm, ht, hv, C, n, hC, hr⟩ := h _ (knownIn_some rs hl)
    simp only at ha ho hr
    subst ha
    subst ho
    have hle := hle η H w b.inv
    have hnm := conc_mono hle _ _ hnm
    simp only [concL, conc, hnm] at hx
    cases hp : conc η put with
    | none => rw [hp] at hx; simp at hx
    | some p =>
      cases hs : conc η seen with
      | none => rw [hp, hs] at hx; simp at hx
      | some s =>
        cases hg : conc η gone with
        | none => rw [hp, hs, hg] at hx; simp at hx
        | some g =>
          rw [hp, hs, hg] at hx
          simp only [Option.some.injEq] at hx
          subst hx
          let W := w.alloc (.cells #[.int .i64 1, .int .i64 1, .int .i64 2, .int .i64 0, .int .i64 okind, .string name, p, s, g, .string ⟨#[]⟩, .string ⟨#[]⟩, .string ⟨#[]⟩, .bool false, .int .i64 0, .slice none 0 0, .slice none 0 0, .slice none 0 0, .slice none 0 0] 273)
          have stW : Stands w W := st_alloc (st_refl w)
          have t1 : Trans Tryz.prog [] η H w η H W := Trans.stands b.rel stW
          have b1 : Base Tryz.prog O [] η H W := b.step t1 b.above (Nat.le_refl _)
          have hX : ¬ Live η H w.heap.size := by
            rintro ⟨id, o, h1, h2⟩
            obtain ⟨b', ob, h3, h4, _⟩ := b.rel.obj id o h1
            rw [h2] at h3; cases h3
            exact absurd (lt_of_get h4) (Nat.lt_irrefl _)
          have hput : Calls Tryz.prog 299 #[.agg #[.int .i64 okind, .string name, p, s, g]] W fun e w' => e = .returned (.tuple #[.string (txt told), .int .i64 0]) ∧ w'.heap[w.heap.size]? = W.heap[w.heap.size]? ∧ w.heap.size < w'.heap.size ∧
              ∃ η', Trans Tryz.prog [] η H W η' H' w' ∧ Above η' H' ∧ Go.VmK.Below H.next η η' H H' := by
            intro cs'
            obtain ⟨q, hq, η', x, w', ⟨fr, h1, h2, h3, h6⟩, h4, t, a, bl⟩ := callIn_sound hC (exec_ok hC mixed n) hr b1 (xs := [.agg #[.int .i64 okind, .string name, p, s, g]]) (by simp [concL, conc, hnm, hp, hs, hg]) cs'
            obtain rfl : q = _ := by simpa using hq
            have hx2 : x = .tuple #[.string (txt told), .int .i64 0] := by
              have ht := conc_mono (hle.trans t.le) _ _ ht
              simp only [conc, concL, ht] at h4
              exact (Option.some.inj h4).symm
            subst hx2
            refine ⟨.returned _, w', fr, ⟨rfl, t.frame _ (by simp [W]) hX, ?_, η', t, a, bl⟩, h1, h2, leaving_of h3 h6⟩
            have := t.keeps.size
            simp [W] at this; omega
          obtain ⟨e, w', fr, ⟨rfl, w2, ⟨η', t2, a2, bl2⟩, st2⟩, q1, q2, q3⟩ := putMsg_gen told hlen okind name p s g w hput cs
          have t3 := Trans.stands t2.rel st2
          exact ⟨(v, H'), List.mem_cons_self, η', .string (pm told), w', ⟨fr, q1, q2, going_of q3⟩, conc_mono (hle.trans t2.le) _ _ hv, t1.trans (t2.trans t3), a2, bl2⟩
end Go.Proofs.YtckjnglhbjiklaaGreatDoor.Wk
namespace Go.Proofs.YtckjnglhbjiklaaGreatDoor.Wk
set_option maxRecDepth 100000
open Go.RowKit Go.VmK Go.NumPure Go.Shelf
/-- the sizes that are let in -/
structure Sm (name elem value : ByteArray) : Prop where
  n1 : 1 ≤ name.size
  n2 : name.size ≤ 40
  e1 : 1 ≤ elem.size
  e2 : elem.size ≤ 60
  v : value.size ≤ 300
theorem otr_size {name : ByteArray} (h : 1 ≤ name.size) : (otr name).size = name.size := by
  have : (txt [120]).size = 1 := rfl
  rw [otr, ByteArray.size_append, ByteArray.size_extract]; omega
theorem tx1_len (s : ByteArray) (h : s.size ≤ 1000) : (tx [s]).length ≤ 11 + s.size := by
  have := vr_short (n := s.size) (by omega); have e3 : s.data.toList.length = s.size := rfl; simp [tx, vb]; omega
theorem itm_len (e v : ByteArray) (h1 : e.size ≤ 60) (h2 : v.size ≤ 300) : (itm e (txt dot1) v).length ≤ 500 := by
  have a := tx1_len e (by omega)
  have b := tx1_len v (by omega)
  have c : (vb 1).length ≤ 11 := by have := vr_short (n := 1) (by omega); simpa [vb] using this
  have d : (txt dot1).data.toList.length = 12 := rfl
  simp only [itm, List.length_append, d]; omega
section
variable {name elem value : ByteArray}
theorem z2 (hs : Sm name elem value) : 0 ≤ (value).size ∧ (value).size ≤ 300 := by
  obtain ⟨h1, h2, h3, h4, h5⟩ := hs
  have a1 := ok_size name.data.toList
  have a2 := ok_size elem.data.toList
  have a3 := ok_size (otr name).data.toList
  have b1 : name.data.toList.length = name.size := rfl
  have b2 : elem.data.toList.length = elem.size := rfl
  have b3 : (otr name).data.toList.length = name.size := otr_size h1
  have c2 := esc_len elem.data.toList
  have d1 : dot1.length = 12 := rfl
  omega
theorem z4 (hs : Sm name elem value) : 1 ≤ (otr name).size ∧ (otr name).size ≤ 40 := by
  obtain ⟨h1, h2, h3, h4, h5⟩ := hs
  have a1 := ok_size name.data.toList
  have a2 := ok_size elem.data.toList
  have a3 := ok_size (otr name).data.toList
  have b1 : name.data.toList.length = name.size := rfl
  have b2 : elem.data.toList.length = elem.size := rfl
  have b3 : (otr name).data.toList.length = name.size := otr_size h1
  have c2 := esc_len elem.data.toList
  have d1 : dot1.length = 12 := rfl
  have := otr_size h1
  omega
theorem z10 (hs : Sm name elem value) : 2 ≤ (txt (ok name.data.toList)).size ∧ (txt (ok name.data.toList)).size ≤ 82 := by
  obtain ⟨h1, h2, h3, h4, h5⟩ := hs
  have a1 := ok_size name.data.toList
  have a2 := ok_size elem.data.toList
  have a3 := ok_size (otr name).data.toList
  have b1 : name.data.toList.length = name.size := rfl
  have b2 : elem.data.toList.length = elem.size := rfl
  have b3 : (otr name).data.toList.length = name.size := otr_size h1
  have c2 := esc_len elem.data.toList
  have d1 : dot1.length = 12 := rfl
  simp only [txt_size]
  omega
theorem z11 (hs : Sm name elem value) : 2 ≤ (txt (ok elem.data.toList)).size ∧ (txt (ok elem.data.toList)).size ≤ 122 := by
  obtain ⟨h1, h2, h3, h4, h5⟩ := hs
  have a1 := ok_size name.data.toList
  have a2 := ok_size elem.data.toList
  have a3 := ok_size (otr name).data.toList
  have b1 : name.data.toList.length = name.size := rfl
  have b2 : elem.data.toList.length = elem.size := rfl
  have b3 : (otr name).data.toList.length = name.size := otr_size h1
  have c2 := esc_len elem.data.toList
  have d1 : dot1.length = 12 := rfl
  simp only [txt_size]
  omega
theorem z14 (hs : Sm name elem value) : 2 ≤ (txt (ok (otr name).data.toList)).size ∧ (txt (ok (otr name).data.toList)).size ≤ 82 := by
  obtain ⟨h1, h2, h3, h4, h5⟩ := hs
  have a1 := ok_size name.data.toList
  have a2 := ok_size elem.data.toList
  have a3 := ok_size (otr name).data.toList
  have b1 : name.data.toList.length = name.size := rfl
  have b2 : elem.data.toList.length = elem.size := rfl
  have b3 : (otr name).data.toList.length = name.size := otr_size h1
  have c2 := esc_len elem.data.toList
  have d1 : dot1.length = 12 := rfl
  simp only [txt_size]
  omega
theorem z20 (hs : Sm name elem value) : 3 ≤ (txt (111 :: ok name.data.toList)).size ∧ (txt (111 :: ok name.data.toList)).size ≤ 83 := by
  obtain ⟨h1, h2, h3, h4, h5⟩ := hs
  have a1 := ok_size name.data.toList
  have a2 := ok_size elem.data.toList
  have a3 := ok_size (otr name).data.toList
  have b1 : name.data.toList.length = name.size := rfl
  have b2 : elem.data.toList.length = elem.size := rfl
  have b3 : (otr name).data.toList.length = name.size := otr_size h1
  have c2 := esc_len elem.data.toList
  have d1 : dot1.length = 12 := rfl
  simp only [txt_size, List.length_cons]
  omega
theorem z24 (hs : Sm name elem value) : 3 ≤ (txt (111 :: ok (otr name).data.toList)).size ∧ (txt (111 :: ok (otr name).data.toList)).size ≤ 83 := by
  obtain ⟨h1, h2, h3, h4, h5⟩ := hs
  have a1 := ok_size name.data.toList
  have a2 := ok_size elem.data.toList
  have a3 := ok_size (otr name).data.toList
  have b1 : name.data.toList.length = name.size := rfl
  have b2 : elem.data.toList.length = elem.size := rfl
  have b3 : (otr name).data.toList.length = name.size := otr_size h1
  have c2 := esc_len elem.data.toList
  have d1 : dot1.length = 12 := rfl
  simp only [txt_size, List.length_cons]
  omega
theorem z30 (hs : Sm name elem value) : 4 ≤ (txt (key name.data.toList [0])).size ∧ (txt (key name.data.toList [0])).size ≤ 84 := by
  obtain ⟨h1, h2, h3, h4, h5⟩ := hs
  have a1 := ok_size name.data.toList
  have a2 := ok_size elem.data.toList
  have a3 := ok_size (otr name).data.toList
  have b1 : name.data.toList.length = name.size := rfl
  have b2 : elem.data.toList.length = elem.size := rfl
  have b3 : (otr name).data.toList.length = name.size := otr_size h1
  have c2 := esc_len elem.data.toList
  have d1 : dot1.length = 12 := rfl
  simp only [txt_size, key, List.length_cons, List.length_append, List.length_nil]
  omega
theorem z31 (hs : Sm name elem value) : 4 ≤ (txt (key name.data.toList [1])).size ∧ (txt (key name.data.toList [1])).size ≤ 84 := by
  obtain ⟨h1, h2, h3, h4, h5⟩ := hs
  have a1 := ok_size name.data.toList
  have a2 := ok_size elem.data.toList
  have a3 := ok_size (otr name).data.toList
  have b1 : name.data.toList.length = name.size := rfl
  have b2 : elem.data.toList.length = elem.size := rfl
  have b3 : (otr name).data.toList.length = name.size := otr_size h1
  have c2 := esc_len elem.data.toList
  have d1 : dot1.length = 12 := rfl
  simp only [txt_size, key, List.length_cons, List.length_append, List.length_nil]
  omega
theorem z32 (hs : Sm name elem value) : 4 ≤ (txt (key name.data.toList [2])).size ∧ (txt (key name.data.toList [2])).size ≤ 84 := by
  obtain ⟨h1, h2, h3, h4, h5⟩ := hs
  have a1 := ok_size name.data.toList
  have a2 := ok_size elem.data.toList
  have a3 := ok_size (otr name).data.toList
  have b1 : name.data.toList.length = name.size := rfl
  have b2 : elem.data.toList.length = elem.size := rfl
  have b3 : (otr name).data.toList.length = name.size := otr_size h1
  have c2 := esc_len elem.data.toList
  have d1 : dot1.length = 12 := rfl
  simp only [txt_size, key, List.length_cons, List.length_append, List.length_nil]
  omega
theorem z33 (hs : Sm name elem value) : 4 ≤ (txt (key name.data.toList [3])).size ∧ (txt (key name.data.toList [3])).size ≤ 84 := by
  obtain ⟨h1, h2, h3, h4, h5⟩ := hs
  have a1 := ok_size name.data.toList
  have a2 := ok_size elem.data.toList
  have a3 := ok_size (otr name).data.toList
  have b1 : name.data.toList.length = name.size := rfl
  have b2 : elem.data.toList.length = elem.size := rfl
  have b3 : (otr name).data.toList.length = name.size := otr_size h1
  have c2 := esc_len elem.data.toList
  have d1 : dot1.length = 12 := rfl
  simp only [txt_size, key, List.length_cons, List.length_append, List.length_nil]
  omega
theorem z40 (hs : Sm name elem value) : 4 ≤ (txt (key (otr name).data.toList [0])).size ∧ (txt (key (otr name).data.toList [0])).size ≤ 84 := by
  obtain ⟨h1, h2, h3, h4, h5⟩ := hs
  have a1 := ok_size name.data.toList
  have a2 := ok_size elem.data.toList
  have a3 := ok_size (otr name).data.toList
  have b1 : name.data.toList.length = name.size := rfl
  have b2 : elem.data.toList.length = elem.size := rfl
  have b3 : (otr name).data.toList.length = name.size := otr_size h1
  have c2 := esc_len elem.data.toList
  have d1 : dot1.length = 12 := rfl
  simp only [txt_size, key, List.length_cons, List.length_append, List.length_nil]
  omega
theorem z41 (hs : Sm name elem value) : 4 ≤ (txt (key (otr name).data.toList [1])).size ∧ (txt (key (otr name).data.toList [1])).size ≤ 84 := by
  obtain ⟨h1, h2, h3, h4, h5⟩ := hs
  have a1 := ok_size name.data.toList
  have a2 := ok_size elem.data.toList
  have a3 := ok_size (otr name).data.toList
  have b1 : name.data.toList.length = name.size := rfl
  have b2 : elem.data.toList.length = elem.size := rfl
  have b3 : (otr name).data.toList.length = name.size := otr_size h1
  have c2 := esc_len elem.data.toList
  have d1 : dot1.length = 12 := rfl
  simp only [txt_size, key, List.length_cons, List.length_append, List.length_nil]
  omega
theorem z42 (hs : Sm name elem value) : 4 ≤ (txt (key (otr name).data.toList [2])).size ∧ (txt (key (otr name).data.toList [2])).size ≤ 84 := by
  obtain ⟨h1, h2, h3, h4, h5⟩ := hs
  have a1 := ok_size name.data.toList
  have a2 := ok_size elem.data.toList
  have a3 := ok_size (otr name).data.toList
  have b1 : name.data.toList.length = name.size := rfl
  have b2 : elem.data.toList.length = elem.size := rfl
  have b3 : (otr name).data.toList.length = name.size := otr_size h1
  have c2 := esc_len elem.data.toList
  have d1 : dot1.length = 12 := rfl
  simp only [txt_size, key, List.length_cons, List.length_append, List.length_nil]
  omega
theorem z43 (hs : Sm name elem value) : 4 ≤ (txt (key (otr name).data.toList [3])).size ∧ (txt (key (otr name).data.toList [3])).size ≤ 84 := by
  obtain ⟨h1, h2, h3, h4, h5⟩ := hs
  have a1 := ok_size name.data.toList
  have a2 := ok_size elem.data.toList
  have a3 := ok_size (otr name).data.toList
  have b1 : name.data.toList.length = name.size := rfl
  have b2 : elem.data.toList.length = elem.size := rfl
  have b3 : (otr name).data.toList.length = name.size := otr_size h1
  have c2 := esc_len elem.data.toList
  have d1 : dot1.length = 12 := rfl
  simp only [txt_size, key, List.length_cons, List.length_append, List.length_nil]
  omega
theorem z50 (hs : Sm name elem value) : 5 ≤ (txt (key name.data.toList (sE elem.data.toList))).size ∧ (txt (key name.data.toList (sE elem.data.toList))).size ≤ 206 := by
  obtain ⟨h1, h2, h3, h4, h5⟩ := hs
  have a1 := ok_size name.data.toList
  have a2 := ok_size elem.data.toList
  have a3 := ok_size (otr name).data.toList
  have b1 : name.data.toList.length = name.size := rfl
  have b2 : elem.data.toList.length = elem.size := rfl
  have b3 : (otr name).data.toList.length = name.size := otr_size h1
  have c2 := esc_len elem.data.toList
  have d1 : dot1.length = 12 := rfl
  simp only [txt_size, key, sE, List.length_cons, List.length_append]
  omega
theorem z51 (hs : Sm name elem value) : 5 ≤ (txt (key (otr name).data.toList (sE elem.data.toList))).size ∧ (txt (key (otr name).data.toList (sE elem.data.toList))).size ≤ 206 := by
  obtain ⟨h1, h2, h3, h4, h5⟩ := hs
  have a1 := ok_size name.data.toList
  have a2 := ok_size elem.data.toList
  have a3 := ok_size (otr name).data.toList
  have b1 : name.data.toList.length = name.size := rfl
  have b2 : elem.data.toList.length = elem.size := rfl
  have b3 : (otr name).data.toList.length = name.size := otr_size h1
  have c2 := esc_len elem.data.toList
  have d1 : dot1.length = 12 := rfl
  simp only [txt_size, key, sE, List.length_cons, List.length_append]
  omega
theorem z52 (hs : Sm name elem value) : 5 ≤ (txt (key name.data.toList (sN elem.data.toList))).size ∧ (txt (key name.data.toList (sN elem.data.toList))).size ≤ 206 := by
  obtain ⟨h1, h2, h3, h4, h5⟩ := hs
  have a1 := ok_size name.data.toList
  have a2 := ok_size elem.data.toList
  have a3 := ok_size (otr name).data.toList
  have b1 : name.data.toList.length = name.size := rfl
  have b2 : elem.data.toList.length = elem.size := rfl
  have b3 : (otr name).data.toList.length = name.size := otr_size h1
  have c2 := esc_len elem.data.toList
  have d1 : dot1.length = 12 := rfl
  simp only [txt_size, key, sN, List.length_cons, List.length_append, List.length_nil]
  omega
theorem z53 (hs : Sm name elem value) : 4 ≤ (txt (key name.data.toList (sC elem.data.toList))).size ∧ (txt (key name.data.toList (sC elem.data.toList))).size ≤ 205 := by
  obtain ⟨h1, h2, h3, h4, h5⟩ := hs
  have a1 := ok_size name.data.toList
  have a2 := ok_size elem.data.toList
  have a3 := ok_size (otr name).data.toList
  have b1 : name.data.toList.length = name.size := rfl
  have b2 : elem.data.toList.length = elem.size := rfl
  have b3 : (otr name).data.toList.length = name.size := otr_size h1
  have c2 := esc_len elem.data.toList
  have d1 : dot1.length = 12 := rfl
  simp only [txt_size, key, sC, List.length_cons, List.length_append, List.length_nil]
  omega
theorem z60 (hs : Sm name elem value) : 5 ≤ (txt (key name.data.toList (sD elem.data.toList))).size ∧ (txt (key name.data.toList (sD elem.data.toList))).size ≤ 218 := by
  obtain ⟨h1, h2, h3, h4, h5⟩ := hs
  have a1 := ok_size name.data.toList
  have a2 := ok_size elem.data.toList
  have a3 := ok_size (otr name).data.toList
  have b1 : name.data.toList.length = name.size := rfl
  have b2 : elem.data.toList.length = elem.size := rfl
  have b3 : (otr name).data.toList.length = name.size := otr_size h1
  have c2 := esc_len elem.data.toList
  have d1 : dot1.length = 12 := rfl
  simp only [txt_size, key, sD, List.length_cons, List.length_append, d1]
  omega
theorem z61 (hs : Sm name elem value) : 5 ≤ (txt (key (otr name).data.toList (sD elem.data.toList))).size ∧ (txt (key (otr name).data.toList (sD elem.data.toList))).size ≤ 218 := by
  obtain ⟨h1, h2, h3, h4, h5⟩ := hs
  have a1 := ok_size name.data.toList
  have a2 := ok_size elem.data.toList
  have a3 := ok_size (otr name).data.toList
  have b1 : name.data.toList.length = name.size := rfl
  have b2 : elem.data.toList.length = elem.size := rfl
  have b3 : (otr name).data.toList.length = name.size := otr_size h1
  have c2 := esc_len elem.data.toList
  have d1 : dot1.length = 12 := rfl
  simp only [txt_size, key, sD, List.length_cons, List.length_append, d1]
  omega
theorem wx1 (hs : Sm name elem value) : ∀ p ∈ ([(txt (key name.data.toList [0]), ⟨#[1]⟩), (txt (key name.data.toList [1]), ckb), (txt (key name.data.toList (sD elem.data.toList)), ⟨#[]⟩)] : List (ByteArray × ByteArray)), p.1.size ≤ 300 ∧ p.2.size ≤ 1000 := by
  intro p hp
  simp only [List.mem_cons, List.mem_nil_iff, or_false] at hp
  rcases hp with rfl | rfl | rfl
  · exact ⟨Nat.le_trans (z30 hs).2 (by decide), (by decide : (⟨#[1]⟩ : ByteArray).size ≤ 1000)⟩
  · exact ⟨Nat.le_trans (z31 hs).2 (by decide), (by decide : ckb.size ≤ 1000)⟩
  · exact ⟨Nat.le_trans (z60 hs).2 (by decide), (by decide : (⟨#[]⟩ : ByteArray).size ≤ 1000)⟩
theorem wx2 (hs : Sm name elem value) : ∀ p ∈ ([(txt (key (otr name).data.toList [0]), ⟨#[2]⟩), (txt (key (otr name).data.toList [1]), ckb), (txt (key (otr name).data.toList (sD elem.data.toList)), value)] : List (ByteArray × ByteArray)), p.1.size ≤ 300 ∧ p.2.size ≤ 1000 := by
  intro p hp
  simp only [List.mem_cons, List.mem_nil_iff, or_false] at hp
  rcases hp with rfl | rfl | rfl
  · exact ⟨Nat.le_trans (z40 hs).2 (by decide), (by decide : (⟨#[2]⟩ : ByteArray).size ≤ 1000)⟩
  · exact ⟨Nat.le_trans (z41 hs).2 (by decide), (by decide : ckb.size ≤ 1000)⟩
  · exact ⟨Nat.le_trans (z61 hs).2 (by decide), Nat.le_trans hs.v (by decide)⟩
theorem z70 (hs : Sm name elem value) : 0 ≤ (txt (bt 1 [(txt (key name.data.toList [0]), ⟨#[1]⟩), (txt (key name.data.toList [1]), ckb), (txt (key name.data.toList (sD elem.data.toList)), ⟨#[]⟩)])).size ∧ (txt (bt 1 [(txt (key name.data.toList [0]), ⟨#[1]⟩), (txt (key name.data.toList [1]), ckb), (txt (key name.data.toList (sD elem.data.toList)), ⟨#[]⟩)])).size ≤ 4100 := by
  have := bt_size (first := 1) (by omega) (by simp) (wx1 hs)
  rw [txt_size]
  simp only [List.length_cons, List.length_nil] at this
  omega
theorem z72 (hs : Sm name elem value) : 0 ≤ (txt (bt 4 [(txt (key (otr name).data.toList [0]), ⟨#[2]⟩), (txt (key (otr name).data.toList [1]), ckb), (txt (key (otr name).data.toList (sD elem.data.toList)), value)])).size ∧ (txt (bt 4 [(txt (key (otr name).data.toList [0]), ⟨#[2]⟩), (txt (key (otr name).data.toList [1]), ckb), (txt (key (otr name).data.toList (sD elem.data.toList)), value)])).size ≤ 4100 := by
  have := bt_size (first := 4) (by omega) (by simp) (wx2 hs)
  rw [txt_size]
  simp only [List.length_cons, List.length_nil] at this
  omega
theorem z71 (hs : Sm name elem value) : 0 ≤ (txt (fr (bt 1 [(txt (key name.data.toList [0]), ⟨#[1]⟩), (txt (key name.data.toList [1]), ckb), (txt (key name.data.toList (sD elem.data.toList)), ⟨#[]⟩)]))).size ∧ (txt (fr (bt 1 [(txt (key name.data.toList [0]), ⟨#[1]⟩), (txt (key name.data.toList [1]), ckb), (txt (key name.data.toList (sD elem.data.toList)), ⟨#[]⟩)]))).size ≤ 4200 := by
  have h := z70 hs
  rw [txt_size] at h
  rw [fr_size]
  omega
theorem z73 (hs : Sm name elem value) : 0 ≤ (txt (fr (bt 4 [(txt (key (otr name).data.toList [0]), ⟨#[2]⟩), (txt (key (otr name).data.toList [1]), ckb), (txt (key (otr name).data.toList (sD elem.data.toList)), value)]))).size ∧ (txt (fr (bt 4 [(txt (key (otr name).data.toList [0]), ⟨#[2]⟩), (txt (key (otr name).data.toList [1]), ckb), (txt (key (otr name).data.toList (sD elem.data.toList)), value)]))).size ≤ 4200 := by
  have h := z72 hs
  rw [txt_size] at h
  rw [fr_size]
  omega
theorem z84 (hs : Sm name elem value) : 0 ≤ (txt (tx [name])).size ∧ (txt (tx [name])).size ≤ 60 := by
  obtain ⟨h1, h2, h3, h4, h5⟩ := hs
  have h6 := otr_size h1
  have a := tx1_len name (by omega)
  have b := itm_len elem ⟨#[]⟩ h4 (by decide)
  have c : cl1.length = 10 := rfl
  simp only [txt_size]
  omega
theorem z85 (hs : Sm name elem value) : 0 ≤ (txt (1 :: tx [name])).size ∧ (txt (1 :: tx [name])).size ≤ 61 := by
  obtain ⟨h1, h2, h3, h4, h5⟩ := hs
  have h6 := otr_size h1
  have a := tx1_len name (by omega)
  have b := itm_len elem ⟨#[]⟩ h4 (by decide)
  have c : cl1.length = 10 := rfl
  simp only [txt_size, List.length_cons]
  omega
theorem z86 (hs : Sm name elem value) : 0 ≤ (txt (itm elem (txt dot1) ⟨#[]⟩)).size ∧ (txt (itm elem (txt dot1) ⟨#[]⟩)).size ≤ 500 := by
  obtain ⟨h1, h2, h3, h4, h5⟩ := hs
  have h6 := otr_size h1
  have a := tx1_len name (by omega)
  have b := itm_len elem ⟨#[]⟩ h4 (by decide)
  have c : cl1.length = 10 := rfl
  simp only [txt_size]
  omega
theorem z87 (hs : Sm name elem value) : 0 ≤ (txt ((1 :: tx [name]) ++ itm elem (txt dot1) ⟨#[]⟩)).size ∧ (txt ((1 :: tx [name]) ++ itm elem (txt dot1) ⟨#[]⟩)).size ≤ 600 := by
  obtain ⟨h1, h2, h3, h4, h5⟩ := hs
  have h6 := otr_size h1
  have a := tx1_len name (by omega)
  have b := itm_len elem ⟨#[]⟩ h4 (by decide)
  have c : cl1.length = 10 := rfl
  simp only [txt_size, List.length_cons, List.length_append]
  omega
theorem z82 (hs : Sm name elem value) : 0 ≤ (txt ((((1 :: tx [name]) ++ itm elem (txt dot1) ⟨#[]⟩)) ++ cl1)).size ∧ (txt ((((1 :: tx [name]) ++ itm elem (txt dot1) ⟨#[]⟩)) ++ cl1)).size ≤ 700 := by
  obtain ⟨h1, h2, h3, h4, h5⟩ := hs
  have h6 := otr_size h1
  have a := tx1_len name (by omega)
  have b := itm_len elem ⟨#[]⟩ h4 (by decide)
  have c : cl1.length = 10 := rfl
  simp only [txt_size, List.length_cons, List.length_append, c]
  omega
theorem z184 (hs : Sm name elem value) : 0 ≤ (txt (tx [otr name])).size ∧ (txt (tx [otr name])).size ≤ 60 := by
  obtain ⟨h1, h2, h3, h4, h5⟩ := hs
  have h6 := otr_size h1
  have a := tx1_len (otr name) (by omega)
  have b := itm_len elem value h4 (h5)
  have c : cl1.length = 10 := rfl
  simp only [txt_size]
  omega
theorem z185 (hs : Sm name elem value) : 0 ≤ (txt (2 :: tx [otr name])).size ∧ (txt (2 :: tx [otr name])).size ≤ 61 := by
  obtain ⟨h1, h2, h3, h4, h5⟩ := hs
  have h6 := otr_size h1
  have a := tx1_len (otr name) (by omega)
  have b := itm_len elem value h4 (h5)
  have c : cl1.length = 10 := rfl
  simp only [txt_size, List.length_cons]
  omega
theorem z186 (hs : Sm name elem value) : 0 ≤ (txt (itm elem (txt dot1) value)).size ∧ (txt (itm elem (txt dot1) value)).size ≤ 500 := by
  obtain ⟨h1, h2, h3, h4, h5⟩ := hs
  have h6 := otr_size h1
  have a := tx1_len (otr name) (by omega)
  have b := itm_len elem value h4 (h5)
  have c : cl1.length = 10 := rfl
  simp only [txt_size]
  omega
theorem z187 (hs : Sm name elem value) : 0 ≤ (txt ((2 :: tx [otr name]) ++ itm elem (txt dot1) value)).size ∧ (txt ((2 :: tx [otr name]) ++ itm elem (txt dot1) value)).size ≤ 600 := by
  obtain ⟨h1, h2, h3, h4, h5⟩ := hs
  have h6 := otr_size h1
  have a := tx1_len (otr name) (by omega)
  have b := itm_len elem value h4 (h5)
  have c : cl1.length = 10 := rfl
  simp only [txt_size, List.length_cons, List.length_append]
  omega
theorem z83 (hs : Sm name elem value) : 0 ≤ (txt ((((2 :: tx [otr name]) ++ itm elem (txt dot1) value)) ++ cl1)).size ∧ (txt ((((2 :: tx [otr name]) ++ itm elem (txt dot1) value)) ++ cl1)).size ≤ 700 := by
  obtain ⟨h1, h2, h3, h4, h5⟩ := hs
  have h6 := otr_size h1
  have a := tx1_len (otr name) (by omega)
  have b := itm_len elem value h4 (h5)
  have c : cl1.length = 10 := rfl
  simp only [txt_size, List.length_cons, List.length_append, c]
  omega
theorem z92 (hs : Sm name elem value) : 3 ≤ (txt (ok name.data.toList ++ 3 :: (ok elem.data.toList ++ dot1))).size ∧ (txt (ok name.data.toList ++ 3 :: (ok elem.data.toList ++ dot1))).size ≤ 300 := by
  obtain ⟨h1, h2, h3, h4, h5⟩ := hs
  have a1 := ok_size name.data.toList
  have a2 := ok_size elem.data.toList
  have a3 := ok_size (otr name).data.toList
  have b1 : name.data.toList.length = name.size := rfl
  have b2 : elem.data.toList.length = elem.size := rfl
  have b3 : (otr name).data.toList.length = name.size := otr_size h1
  have c2 := esc_len elem.data.toList
  have d1 : dot1.length = 12 := rfl
  simp only [txt_size, List.length_cons, List.length_append, d1]
  omega
theorem z93 (hs : Sm name elem value) : 3 ≤ (txt (3 :: (ok elem.data.toList ++ dot1))).size ∧ (txt (3 :: (ok elem.data.toList ++ dot1))).size ≤ 200 := by
  obtain ⟨h1, h2, h3, h4, h5⟩ := hs
  have a1 := ok_size name.data.toList
  have a2 := ok_size elem.data.toList
  have a3 := ok_size (otr name).data.toList
  have b1 : name.data.toList.length = name.size := rfl
  have b2 : elem.data.toList.length = elem.size := rfl
  have b3 : (otr name).data.toList.length = name.size := otr_size h1
  have c2 := esc_len elem.data.toList
  have d1 : dot1.length = 12 := rfl
  simp only [txt_size, List.length_cons, List.length_append, d1]
  omega
theorem z94 (hs : Sm name elem value) : 2 ≤ (txt (ok elem.data.toList ++ dot1)).size ∧ (txt (ok elem.data.toList ++ dot1)).size ≤ 200 := by
  obtain ⟨h1, h2, h3, h4, h5⟩ := hs
  have a1 := ok_size name.data.toList
  have a2 := ok_size elem.data.toList
  have a3 := ok_size (otr name).data.toList
  have b1 : name.data.toList.length = name.size := rfl
  have b2 : elem.data.toList.length = elem.size := rfl
  have b3 : (otr name).data.toList.length = name.size := otr_size h1
  have c2 := esc_len elem.data.toList
  have d1 : dot1.length = 12 := rfl
  simp only [txt_size, List.length_append, d1]
  omega
end
/-- what the symbols stand for -/
noncomputable def sg (name elem value : ByteArray) : Nat → Option Value := fun i => ([
  .string (name),
  .string (elem),
  .string (value),
  .string (name.extract 1 name.size),
  .string (otr name),
  .string (txt (ok name.data.toList)),
  .string (txt (ok elem.data.toList)),
  .string (txt (ok (otr name).data.toList)),
  .string (txt (111 :: ok name.data.toList)),
  .string (txt (111 :: ok (otr name).data.toList)),
  .string (txt (key name.data.toList [0])),
  .string (txt (key name.data.toList [1])),
  .string (txt (key name.data.toList [2])),
  .string (txt (key name.data.toList [3])),
  .string (txt (key (otr name).data.toList [0])),
  .string (txt (key (otr name).data.toList [1])),
  .string (txt (key (otr name).data.toList [2])),
  .string (txt (key (otr name).data.toList [3])),
  .string (txt (key name.data.toList (sE elem.data.toList))),
  .string (txt (key (otr name).data.toList (sE elem.data.toList))),
  .string (txt (key name.data.toList (sN elem.data.toList))),
  .string (txt (key name.data.toList (sC elem.data.toList))),
  .string (txt (key name.data.toList (sD elem.data.toList))),
  .string (txt (key (otr name).data.toList (sD elem.data.toList))),
  .string (txt (bt 1 [(txt (key name.data.toList [0]), ⟨#[1]⟩), (txt (key name.data.toList [1]), ckb), (txt (key name.data.toList (sD elem.data.toList)), ⟨#[]⟩)])),
  .string (txt (fr (bt 1 [(txt (key name.data.toList [0]), ⟨#[1]⟩), (txt (key name.data.toList [1]), ckb), (txt (key name.data.toList (sD elem.data.toList)), ⟨#[]⟩)]))),
  .string (txt (bt 4 [(txt (key (otr name).data.toList [0]), ⟨#[2]⟩), (txt (key (otr name).data.toList [1]), ckb), (txt (key (otr name).data.toList (sD elem.data.toList)), value)])),
  .string (txt (fr (bt 4 [(txt (key (otr name).data.toList [0]), ⟨#[2]⟩), (txt (key (otr name).data.toList [1]), ckb), (txt (key (otr name).data.toList (sD elem.data.toList)), value)]))),
  .string (txt (fr (bt 1 [(txt (key name.data.toList [0]), ⟨#[1]⟩), (txt (key name.data.toList [1]), ckb), (txt (key name.data.toList (sD elem.data.toList)), ⟨#[]⟩)])) ++ txt (fr (bt 4 [(txt (key (otr name).data.toList [0]), ⟨#[2]⟩), (txt (key (otr name).data.toList [1]), ckb), (txt (key (otr name).data.toList (sD elem.data.toList)), value)]))),
  .string (pm ((((1 :: tx [name]) ++ itm elem (txt dot1) ⟨#[]⟩)) ++ cl1)),
  .string (pm ((((2 :: tx [otr name]) ++ itm elem (txt dot1) value)) ++ cl1)),
  .string (txt ((((1 :: tx [name]) ++ itm elem (txt dot1) ⟨#[]⟩)) ++ cl1)),
  .string (txt ((((2 :: tx [otr name]) ++ itm elem (txt dot1) value)) ++ cl1)),
  .string (txt (tx [name])),
  .string (txt (1 :: tx [name])),
  .string (txt (itm elem (txt dot1) ⟨#[]⟩)),
  .string (txt ((1 :: tx [name]) ++ itm elem (txt dot1) ⟨#[]⟩)),
  .string (txt (ok name.data.toList ++ 3 :: (ok elem.data.toList ++ dot1))),
  .string (txt (3 :: (ok elem.data.toList ++ dot1))),
  .string (txt (ok elem.data.toList ++ dot1)),
  .string (txt (tx [otr name])),
  .string (txt (2 :: tx [otr name])),
  .string (txt (itm elem (txt dot1) value)),
  .string (txt ((2 :: tx [otr name]) ++ itm elem (txt dot1) value)),
  .int .i64 ((0 : Int) + Int.ofNat (txt (fr (bt 1 [(txt (key name.data.toList [0]), ⟨#[1]⟩), (txt (key name.data.toList [1]), ckb), (txt (key name.data.toList (sD elem.data.toList)), ⟨#[]⟩)]))).size),
  .int .i64 (((0 : Int) + Int.ofNat (txt (fr (bt 1 [(txt (key name.data.toList [0]), ⟨#[1]⟩), (txt (key name.data.toList [1]), ckb), (txt (key name.data.toList (sD elem.data.toList)), ⟨#[]⟩)]))).size) + Int.ofNat (txt (fr (bt 4 [(txt (key (otr name).data.toList [0]), ⟨#[2]⟩), (txt (key (otr name).data.toList [1]), ckb), (txt (key (otr name).data.toList (sD elem.data.toList)), value)]))).size),
  .int .i64 ((((txt (key name.data.toList (sE elem.data.toList))).size - 1 : Nat) : Int)),
  .int .i64 (((0 : Int)) + Int.ofNat (txt (key name.data.toList [0])).size),
  .int .i64 ((((0 : Int)) + Int.ofNat (txt (key name.data.toList [0])).size) + 1),
  .int .i64 (((((0 : Int)) + Int.ofNat (txt (key name.data.toList [0])).size) + 1) + 16),
  .int .i64 ((((((0 : Int)) + Int.ofNat (txt (key name.data.toList [0])).size) + 1) + 16) + Int.ofNat (txt (key name.data.toList [1])).size),
  .int .i64 (((((((0 : Int)) + Int.ofNat (txt (key name.data.toList [0])).size) + 1) + 16) + Int.ofNat (txt (key name.data.toList [1])).size) + 7),
  .int .i64 ((((((((0 : Int)) + Int.ofNat (txt (key name.data.toList [0])).size) + 1) + 16) + Int.ofNat (txt (key name.data.toList [1])).size) + 7) + 16),
  .int .i64 (((((((((0 : Int)) + Int.ofNat (txt (key name.data.toList [0])).size) + 1) + 16) + Int.ofNat (txt (key name.data.toList [1])).size) + 7) + 16) + Int.ofNat (txt (key name.data.toList (sD elem.data.toList))).size),
  .int .i64 ((((((((((0 : Int)) + Int.ofNat (txt (key name.data.toList [0])).size) + 1) + 16) + Int.ofNat (txt (key name.data.toList [1])).size) + 7) + 16) + Int.ofNat (txt (key name.data.toList (sD elem.data.toList))).size) + 0),
  .int .i64 (((((((((((0 : Int)) + Int.ofNat (txt (key name.data.toList [0])).size) + 1) + 16) + Int.ofNat (txt (key name.data.toList [1])).size) + 7) + 16) + Int.ofNat (txt (key name.data.toList (sD elem.data.toList))).size) + 0) + 16),
  .int .i64 ((((((((((((0 : Int)) + Int.ofNat (txt (key name.data.toList [0])).size) + 1) + 16) + Int.ofNat (txt (key name.data.toList [1])).size) + 7) + 16) + Int.ofNat (txt (key name.data.toList (sD elem.data.toList))).size) + 0) + 16) + Int.ofNat (txt (key (otr name).data.toList [0])).size),
  .int .i64 (((((((((((((0 : Int)) + Int.ofNat (txt (key name.data.toList [0])).size) + 1) + 16) + Int.ofNat (txt (key name.data.toList [1])).size) + 7) + 16) + Int.ofNat (txt (key name.data.toList (sD elem.data.toList))).size) + 0) + 16) + Int.ofNat (txt (key (otr name).data.toList [0])).size) + 1),
  .int .i64 ((((((((((((((0 : Int)) + Int.ofNat (txt (key name.data.toList [0])).size) + 1) + 16) + Int.ofNat (txt (key name.data.toList [1])).size) + 7) + 16) + Int.ofNat (txt (key name.data.toList (sD elem.data.toList))).size) + 0) + 16) + Int.ofNat (txt (key (otr name).data.toList [0])).size) + 1) + 16),
  .int .i64 (((((((((((((((0 : Int)) + Int.ofNat (txt (key name.data.toList [0])).size) + 1) + 16) + Int.ofNat (txt (key name.data.toList [1])).size) + 7) + 16) + Int.ofNat (txt (key name.data.toList (sD elem.data.toList))).size) + 0) + 16) + Int.ofNat (txt (key (otr name).data.toList [0])).size) + 1) + 16) + Int.ofNat (txt (key (otr name).data.toList [1])).size),
  .int .i64 ((((((((((((((((0 : Int)) + Int.ofNat (txt (key name.data.toList [0])).size) + 1) + 16) + Int.ofNat (txt (key name.data.toList [1])).size) + 7) + 16) + Int.ofNat (txt (key name.data.toList (sD elem.data.toList))).size) + 0) + 16) + Int.ofNat (txt (key (otr name).data.toList [0])).size) + 1) + 16) + Int.ofNat (txt (key (otr name).data.toList [1])).size) + 7),
  .int .i64 (((((((((((((((((0 : Int)) + Int.ofNat (txt (key name.data.toList [0])).size) + 1) + 16) + Int.ofNat (txt (key name.data.toList [1])).size) + 7) + 16) + Int.ofNat (txt (key name.data.toList (sD elem.data.toList))).size) + 0) + 16) + Int.ofNat (txt (key (otr name).data.toList [0])).size) + 1) + 16) + Int.ofNat (txt (key (otr name).data.toList [1])).size) + 7) + 16),
  .int .i64 ((((((((((((((((((0 : Int)) + Int.ofNat (txt (key name.data.toList [0])).size) + 1) + 16) + Int.ofNat (txt (key name.data.toList [1])).size) + 7) + 16) + Int.ofNat (txt (key name.data.toList (sD elem.data.toList))).size) + 0) + 16) + Int.ofNat (txt (key (otr name).data.toList [0])).size) + 1) + 16) + Int.ofNat (txt (key (otr name).data.toList [1])).size) + 7) + 16) + Int.ofNat (txt (key (otr name).data.toList (sD elem.data.toList))).size),
  .int .i64 (((((((((((((((((((0 : Int)) + Int.ofNat (txt (key name.data.toList [0])).size) + 1) + 16) + Int.ofNat (txt (key name.data.toList [1])).size) + 7) + 16) + Int.ofNat (txt (key name.data.toList (sD elem.data.toList))).size) + 0) + 16) + Int.ofNat (txt (key (otr name).data.toList [0])).size) + 1) + 16) + Int.ofNat (txt (key (otr name).data.toList [1])).size) + 7) + 16) + Int.ofNat (txt (key (otr name).data.toList (sD elem.data.toList))).size) + Int.ofNat value.size),
  .int .i64 ((((((((((((((((((((0 : Int)) + Int.ofNat (txt (key name.data.toList [0])).size) + 1) + 16) + Int.ofNat (txt (key name.data.toList [1])).size) + 7) + 16) + Int.ofNat (txt (key name.data.toList (sD elem.data.toList))).size) + 0) + 16) + Int.ofNat (txt (key (otr name).data.toList [0])).size) + 1) + 16) + Int.ofNat (txt (key (otr name).data.toList [1])).size) + 7) + 16) + Int.ofNat (txt (key (otr name).data.toList (sD elem.data.toList))).size) + Int.ofNat value.size) + 16)] : List Value)[i]?
theorem sg_none (name elem value : ByteArray) (i : Nat) (h : 65 ≤ i) : sg name elem value i = none := by
  obtain ⟨k, rfl⟩ : ∃ k, i = k + 65 := ⟨i - 65, by omega⟩
  rfl
end Go.Proofs.YtckjnglhbjiklaaGreatDoor.Wk
