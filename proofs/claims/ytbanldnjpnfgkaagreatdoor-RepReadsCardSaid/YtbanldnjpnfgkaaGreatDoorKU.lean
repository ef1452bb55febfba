/-
  Part of the proof of a statement of this seat: walks of its functions and the closed run; no condition but those written in each theorem.
-/
import Derived.Test.YtbanldnjpnfgkaaGreatDoorK0
import Derived.Test.YtbanldnjpnfgkaaGreatDoorV7
import Derived.Test.YtbanldnjpnfgkaaGreatDoorPA
import Derived.Test.YtbanldnjpnfgkaaGreatDoorQT
import Derived.Test.YtbanldnjpnfgkaaGreatDoorQB
import Derived.Test.YtbanldnjpnfgkaaGreatDoorPV
/- The texts of a set's and a map's first keys: what they are, how long, how they stand. -/
namespace Go.Proofs.YtbanldnjpnfgkaaGreatDoor.Wk
set_option maxRecDepth 100000
open Go.RowKit Go.VmK Go.NumPure Go.Shelf
def dot1 : List UInt8 := [0, 0, 0, 1, 0, 0, 0, 0, 0, 0, 0, 1]
def ckb : ByteArray := ⟨#[1, 0, 0, 0, 1, 1, 0]⟩
def cl1 : List UInt8 := [7, 1, 0, 0, 0, 1, 1, 0, 1, 0]
def key (a s : List UInt8) : List UInt8 := 111 :: (ok a ++ s)
def sE (e : List UInt8) : List UInt8 := 3 :: ok e
def sD (e : List UInt8) : List UInt8 := 3 :: (ok e ++ dot1)
def sC (e : List UInt8) : List UInt8 := 3 :: (esc e ++ [0])
def sN (e : List UInt8) : List UInt8 := 3 :: (esc e ++ [0, 2])
/-- the other name -/
def otr (name : ByteArray) : ByteArray := name.extract 1 name.size ++ txt [120]
theorem ltL_irr (x : List UInt8) : ltL x x = false := by rw [ltL_eq, bytesLess_iff]; exact decide_eq_false (List.lt_irrefl x)
theorem ltL_asym {x y : List UInt8} (h : ltL x y = true) : ltL y x = false := by
  rw [ltL_eq, bytesLess_iff] at h ⊢
  exact decide_eq_false (List.lt_asymm (of_decide_eq_true h))
theorem ltL_tri {x y : List UInt8} (h : ltL x y = false) (h2 : ltL y x = false) : x = y := by
  rw [ltL_eq, bytesLess_iff] at h h2
  exact List.le_antisymm (List.not_lt.1 (of_decide_eq_false h2)) (List.not_lt.1 (of_decide_eq_false h))
theorem ne_txt {x y : List UInt8} (h : ltL x y = true) : ¬ txt x = txt y := by
  intro e
  have : x = y := by rw [← txt_list x, ← txt_list y, e]
  subst this
  rw [ltL_irr] at h; cases h
theorem ne_txt' {x y : List UInt8} (h : ltL x y = true) : ¬ txt y = txt x := fun e => ne_txt h e.symm
theorem ne_empty {s : ByteArray} (h : 1 ≤ s.size) : ¬ s = ⟨([] : List UInt8).toArray⟩ := by rintro rfl; exact absurd h (by decide)
theorem key_lt (a : List UInt8) {s t : List UInt8} (h : ltL s t = true) : ltL (key a s) (key a t) = true := (ltL_pre (111 :: ok a) s t).trans h
theorem key_lt2 {a b : List UInt8} (s t : List UInt8) (h : ltL a b = true) : ltL (key a s) (key b t) = true := (ltL_pre [111] _ _).trans (ok_ltL a b s t h)
theorem sE_sD (e : List UInt8) : ltL (sE e) (sD e) = true := by
  have := ltL_pre (3 :: ok e) [] dot1
  rw [List.append_nil] at this
  exact this.trans rfl
theorem sE_sN (e : List UInt8) : ltL (sE e) (sN e) = true := by
  have := ltL_pre (3 :: (esc e ++ [0])) [1] [2]
  simp only [List.cons_append, List.append_assoc, List.nil_append] at this
  exact this.trans rfl
theorem sD_sN (e : List UInt8) : ltL (sD e) (sN e) = true := by
  have := ltL_pre (3 :: (esc e ++ [0])) (1 :: dot1) [2]
  simp only [List.cons_append, List.append_assoc, List.nil_append] at this
  unfold sD sN ok
  rw [List.append_assoc]
  exact this.trans rfl
theorem key_cat (a s t : List UInt8) : txt (key a s) ++ txt t = txt (key a (s ++ t)) := by rw [txt_append, key, List.cons_append, List.append_assoc]; rfl
theorem sC_two (e : List UInt8) : sC e ++ [2] = sN e := by simp [sC, sN]
theorem nil_cat (s : ByteArray) : (⟨([] : List UInt8).toArray⟩ : ByteArray) ++ s = s := by apply ByteArray.ext; simp
theorem ok_size (a : List UInt8) : a.length + 2 ≤ (ok a).length ∧ (ok a).length ≤ 2 * a.length + 2 := by
  have := esc_len a
  simp only [ok, List.length_append, List.length_cons, List.length_nil]; omega
theorem key_size (a s : List UInt8) : (txt (key a s)).size = 1 + (ok a).length + s.length := by
  rw [txt_size]; simp only [key, List.length_cons, List.length_append]; omega
theorem wrap_small {x : Int} (h1 : 0 ≤ x) (h2 : x ≤ 1000000000) : IntKind.i64.wrap x = x := by rw [wrap_i64']; omega
theorem bt_size {first : Nat} {ws : List (ByteArray × ByteArray)} (hf : first < 18446744073709551616) (hn : ws.length ≤ 100) (hx : ∀ p ∈ ws, p.1.size ≤ 300 ∧ p.2.size ≤ 1000) : (bt first ws).length ≤ 22 + 1331 * ws.length := by
  have h1 := vb_short hf
  have h2 := vb_short (n := ws.length) (by omega)
  have h3 := bb_len ws hx
  simp only [bt, List.length_append]; omega
theorem fr_size (l : List UInt8) : (txt (fr l)).size = 8 + l.length := by
  have h : ∀ v, (be4s v).data.toList.length = 4 := be4s_size
  rw [txt_size]; simp only [fr, List.length_append, h]
section
variable {P : Program} {C : Ctx}
theorem ofact_byte {t : TypeId} {a b r : AV} {s : ByteArray} {i : Nat} {p q : List UInt8} {c : UInt8} (hu : P.underlying t = some .string) (ha : conc (env0 C.base) a = some (.string s)) (hb : conc (env0 C.base) b = some (.int .i64 i)) (h : s.data.toList = p ++ c :: q) (hi : i = p.length) (hr : conc (env0 C.base) r = some (.int .u8 c.toNat)) : OFactOK P C ((5, t, 0), [a, b], r) := by
  subst hi
  obtain ⟨h1, h2⟩ := byte_at h
  exact ofact_index hu ha hb h1 (by rw [hr, h2])
theorem ofact_hi {t : TypeId} {a b r : AV} {s : ByteArray} {i : Nat} {p q : List UInt8} (hu : P.underlying t = some .string) (ha : conc (env0 C.base) a = some (.string s)) (hb : conc (env0 C.base) b = some (.int .i64 i)) (h : s.data.toList = p ++ q) (hi : i = p.length) (hr : conc (env0 C.base) r = some (.string (txt p))) : OFactOK P C ((6, t, 2), [a, b], r) := by
  subst hi
  have hs : s.size = (p ++ q).length := by rw [← h]; rfl
  refine ofact_slice_hi hu ha hb ?_ (by rw [hs, List.length_append]; omega)
  rw [hr]
  congr 2
  apply ByteArray.ext
  apply Array.toList_inj.1
  rw [ByteArray.data_extract, Array.toList_extract, h]
  simp [List.extract, txt]
theorem ofact_lo {t : TypeId} {a b r : AV} {s : ByteArray} {i : Nat} {p q : List UInt8} (hu : P.underlying t = some .string) (ha : conc (env0 C.base) a = some (.string s)) (hb : conc (env0 C.base) b = some (.int .i64 i)) (h : s.data.toList = p ++ q) (hi : i = p.length) (hr : conc (env0 C.base) r = some (.string (txt q))) : OFactOK P C ((6, t, 1), [a, b], r) := by
  have hs : s.size = (p ++ q).length := by rw [← h]; rfl
  refine ofact_slice_lo hu ha hb ?_ (by rw [hs, List.length_append]; omega)
  rw [hr, extract_at h hi]
end
/-- a row of texts is sorted as it is told -/
theorem sort_row {ss ss' : List (List UInt8)} (hp : ss.Perm ss') (hs : ss'.Pairwise fun x y => ltL x y = true) : ss.mergeSort (fun x y => decide (x ≤ y)) = ss' := by
  have tr : ∀ a b c : List UInt8, decide (a ≤ b) = true → decide (b ≤ c) = true → decide (a ≤ c) = true := fun a b c h1 h2 => by simp only [decide_eq_true_eq] at *; exact List.le_trans h1 h2
  have tot : ∀ a b : List UInt8, (decide (a ≤ b) || decide (b ≤ a)) = true := fun a b => by simp only [Bool.or_eq_true, decide_eq_true_eq]; exact List.le_total a b
  refine List.Perm.eq_of_pairwise (le := fun a b => decide (a ≤ b) = true) (fun a b _ _ h1 h2 => ?_) (List.pairwise_mergeSort tr tot ss) (hs.imp fun {x y} h => ?_) ((List.mergeSort_perm ss _).trans hp)
  · simp only [decide_eq_true_eq] at h1 h2
    exact List.le_antisymm h1 h2
  · rw [ltL_eq, bytesLess_iff] at h
    exact decide_eq_true (List.le_of_lt (of_decide_eq_true h))

end Go.Proofs.YtbanldnjpnfgkaaGreatDoor.Wk
