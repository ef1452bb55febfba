/-
  Part of the proof of a statement of this seat: walks of its functions and the closed run; no condition but those written in each theorem.
-/
import Derived.Test.YtckjnglhbjiklaaGreatDoorProg
import Derived.WalkKit
import Derived.Lib.Hide
import Derived.Lib.Bytealg
import Derived.Lib.BytesEntry
import Derived.KernelRfl
import Derived.Test.YtckjnglhbjiklaaGreatDoorV7
import Derived.Test.YtckjnglhbjiklaaGreatDoorPA
import Derived.Test.YtckjnglhbjiklaaGreatDoorQI2
import Derived.Test.YtckjnglhbjiklaaGreatDoorKU
import Derived.Test.YtckjnglhbjiklaaGreatDoorKS
/- bytes.Compare of two rows. -/
namespace Go.Proofs.YtckjnglhbjiklaaGreatDoor.Wk
set_option maxRecDepth 100000
open Go.RowKit Go.VmK Go.NumPure Go.Shelf
theorem bytesOf_row (b o c : Nat) (x : List Nat) (w : World) (h : ∀ (j n : Nat), x[j]? = some n → w.cell? ⟨b, o + j, none⟩ = some (.int .u8 (Int.ofNat n))) :
    (Extern.Bytes.bytesOf (.slice (some ⟨b, o, none⟩) x.length c)).run Tryz.prog w = .ok (txt (x.map UInt8.ofNat)) w := by
  have hl := Lib.run_loadBytesX (P := Tryz.prog) w (x.map Int.ofNat) ⟨b, o, none⟩ .empty (fun j v hv => by
    have hadd : (⟨b, o, none⟩ : Addr).add j = ⟨b, o + j, none⟩ := by unfold Addr.add; split <;> simp_all
    rw [hadd]
    simp only [List.getElem?_map, Option.map_eq_some_iff] at hv
    obtain ⟨n, hn, rfl⟩ := hv
    exact h j n hn)
  rw [List.length_map] at hl
  simp only [Extern.Bytes.bytesOf]
  rw [hl]
  congr 1
  apply ByteArray.ext
  simp [txt, Lib.bytesOf, Function.comp_def]
/-- bytes.Compare, as the machine takes it -/
theorem conBytes {w0 : World} {σ0 : Nat → Option Value} : ConOK Tryz.prog (Outer w0 σ0 fun b => b < w0.heap.size) 206 (.fn cmpRows) := by
  refine cmpRows_ok fun w b1 o1 c1 b2 o2 c2 x y hb1 hb2 h1 h2 => ?_
  have hr : (Extern.BytealgCompare.compare #[.slice (some ⟨b1, o1, none⟩) x.length c1, .slice (some ⟨b2, o2, none⟩) y.length c2]).run Tryz.prog w = .ok (.int .i64 (Lib.compareBytes (x.map UInt8.ofNat) (y.map UInt8.ofNat))) w := by
    change Sem.run Tryz.prog (do pure (goInt (Extern.BytealgCompare.cmp (← Extern.Bytes.bytesOf (.slice (some ⟨b1, o1, none⟩) x.length c1)) (← Extern.Bytes.bytesOf (.slice (some ⟨b2, o2, none⟩) y.length c2))))) w = _
    simp only [Sem.run_bind, bytesOf_row b1 o1 c1 x w h1, bytesOf_row b2 o2 c2 y w h2, Sem.run_pure, Result.andThen]
    rw [Lib.cmp_eq]
    rfl
  have hc : (callFunc 269 #[.slice (some ⟨b1, o1, none⟩) x.length c1, .slice (some ⟨b2, o2, none⟩) y.length c2]).run Tryz.prog w = .ok (.value (.int .i64 (Lib.compareBytes (x.map UInt8.ofNat) (y.map UInt8.ofNat)))) w := by
    rw [run_callFunc_extern Tryz.func269 (by kernel_rfl) (by kernel_rfl) (by kernel_rfl) (show Extern.find _ = some Extern.BytealgCompare.compare by kernel_rfl), hr]
    simp [Result.andThen]
  go_enter Tryz.func206, Tryz.ntmps206
  go_wp2
  go_ret
  exact ⟨rfl, st_refl _⟩
end Go.Proofs.YtckjnglhbjiklaaGreatDoor.Wk
namespace Go.Proofs.YtckjnglhbjiklaaGreatDoor.Wk
set_option maxRecDepth 100000
open Go.RowKit Go.VmK Go.NumPure Go.Shelf
def dotk (k : UInt8) : List UInt8 := [0, 0, 0, 1, 0, 0, 0, 0, 0, 0, 0, k]
def sf (e : List UInt8) (c : UInt8) (x : List UInt8) : List UInt8 := 3 :: (esc e ++ 0 :: c :: x)
theorem sf_lt (e : List UInt8) {c d : UInt8} {x y : List UInt8} (h : ltL (c :: x) (d :: y) = true) : ltL (sf e c x) (sf e d y) = true := by
  have := ltL_pre (3 :: (esc e ++ [0])) (c :: x) (d :: y)
  simp only [List.cons_append, List.append_assoc, List.nil_append] at this
  exact this.trans h
theorem okc_lt (c d : UInt8) (hc : c < 255) : ∀ (a b x y : List UInt8), ltB a b = true → ltB (esc a ++ 0 :: c :: x) (esc b ++ 0 :: d :: y) = true
  | [], [], _, _, h => by simp [ltB] at h
  | [], b :: m, x, y, _ => by
    by_cases hb : b = 0
    · subst hb; simp [esc, ltB, hc]
    · have : (0 : UInt8) < b := by
        have : b.toNat ≠ 0 := fun e => hb (UInt8.toNat_inj.1 e)
        show (0 : UInt8).toNat < b.toNat
        have : (0 : UInt8).toNat = 0 := rfl
        omega
      simp [esc, hb, ltB, this]
  | _ :: _, [], _, _, h => by simp [ltB] at h
  | a :: l, b :: m, x, y, h => by
    unfold ltB at h
    by_cases hab : a < b
    · have hb : b ≠ 0 := fun e => by subst e; exact absurd hab (by simp)
      by_cases ha : a = 0
      · subst ha; simp [esc, hb, ltB, hab]
      · simp [esc, ha, hb, ltB, hab]
    · rw [if_neg hab] at h
      by_cases he : a = b
      · subst he
        rw [if_pos rfl] at h
        have ih := okc_lt c d hc l m x y h
        by_cases ha : a = 0
        · subst ha; simpa [esc, ltB] using ih
        · simpa [esc, ha, ltB] using ih
      · rw [if_neg he] at h; cases h
theorem sf_lt2 {e r : List UInt8} (c d : UInt8) (x y : List UInt8) (hc : c < 255) (h : ltL e r = true) : ltL (sf e c x) (sf r d y) = true := by
  rw [← ltB_eq] at h
  have := okc_lt c d hc e r x y h
  rw [ltB_eq] at this
  exact (ltL_pre [3] _ _).trans this
theorem sf_cat (a e : List UInt8) (c : UInt8) (x y : List UInt8) : txt (key a (sf e c x)) ++ txt y = txt (key a (sf e c (x ++ y))) := by
  rw [key_cat]; simp [sf]
theorem sC_cat (a e : List UInt8) (c : UInt8) : txt (key a (sC e)) ++ txt [c] = txt (key a (sf e c [])) := by
  rw [key_cat]; simp [sf, sC]
theorem cmp_lt {a b : List UInt8} (h : ltL a b = true) (w : World) : Calls Tryz.prog 261 #[.string (txt a), .string (txt b)] w fun e w' => e = .returned (.int .i64 (-1)) ∧ Stands w w' := by
  refine (cmp_any (txt a) (txt b) w).mono ?_
  rintro e w' ⟨rfl, rfl⟩
  refine ⟨?_, st_refl _⟩
  rw [txt_list, txt_list, h]; rfl
theorem cmp_gt {a b : List UInt8} (h : ltL b a = true) (w : World) : Calls Tryz.prog 261 #[.string (txt a), .string (txt b)] w fun e w' => e = .returned (.int .i64 1) ∧ Stands w w' := by
  refine (cmp_any (txt a) (txt b) w).mono ?_
  rintro e w' ⟨rfl, rfl⟩
  refine ⟨?_, st_refl _⟩
  rw [txt_list, txt_list, h, ltL_asym h]; rfl
theorem cmp_eq {a : List UInt8} (w : World) : Calls Tryz.prog 261 #[.string (txt a), .string (txt a)] w fun e w' => e = .returned (.int .i64 0) ∧ Stands w w' := by
  refine (cmp_any (txt a) (txt a) w).mono ?_
  rintro e w' ⟨rfl, rfl⟩
  refine ⟨?_, st_refl _⟩
  rw [txt_list, ltL_irr]; rfl
theorem ac {α : Type} {p : α → Prop} {a : α} {l : List α} (h : p a) (t : ∀ x ∈ l, p x) : ∀ x ∈ a :: l, p x := List.forall_mem_cons.2 ⟨h, t⟩
theorem an {α : Type} {p : α → Prop} : ∀ x ∈ ([] : List α), p x := fun _ h => by cases h
theorem sz0 : (⟨([] : List UInt8).toArray⟩ : ByteArray).size = 0 := rfl
theorem szn (l : List UInt8) (k : Nat) (h : l.length = k) : (⟨l.toArray⟩ : ByteArray).size = k := h
theorem dle {a k m : Nat} (h : a ≤ k) (g : k ≤ m) : true = decide (Int.ofNat a ≤ Int.ofNat m) := (decide_eq_true (Int.ofNat_le.2 (Nat.le_trans h g))).symm
theorem dgt {a k m : Nat} (h : a ≤ k) (g : k ≤ m) : false = decide (Int.ofNat m < Int.ofNat a) := (decide_eq_false (by have := Nat.le_trans h g; simp only [Int.ofNat_eq_natCast]; omega)).symm
theorem dge {a k m : Nat} (h : k ≤ a) (g : m ≤ k) : true = decide (Int.ofNat m ≤ Int.ofNat a) := (decide_eq_true (Int.ofNat_le.2 (Nat.le_trans g h))).symm
theorem dlt {a k m : Nat} (h : k ≤ a) (g : m ≤ k) : false = decide (Int.ofNat a < Int.ofNat m) := (decide_eq_false (by have := Nat.le_trans g h; simp only [Int.ofNat_eq_natCast]; omega)).symm
theorem pw3 {a b c : List UInt8} (h1 : ltL a b = true) (h2 : ltL a c = true) (h3 : ltL b c = true) : [a, b, c].Pairwise fun x y => ltL x y = true := by
  simp [List.pairwise_cons, h1, h2, h3]
theorem pw2 {a b : List UInt8} (h1 : ltL a b = true) : [a, b].Pairwise fun x y => ltL x y = true := by
  simp [List.pairwise_cons, h1]
theorem pm1 (a b c : List UInt8) : [a, c, b].Perm [a, b, c] := (List.Perm.swap b c []).cons a
theorem pm2 (a b c : List UInt8) : [b, a, c].Perm [a, b, c] := List.Perm.swap a b [c]
theorem pm3 (a b c : List UInt8) : [b, c, a].Perm [a, b, c] := ((List.Perm.swap a c []).cons b).trans (pm2 a b c)
theorem pm4 (a b c : List UInt8) : [c, a, b].Perm [a, b, c] := (List.Perm.swap a c [b]).trans (pm1 a b c)
theorem pm5 (a b c : List UInt8) : [c, b, a].Perm [a, b, c] := ((List.Perm.swap a b []).cons c).trans (pm4 a b c)
theorem dot1_any (w : World) : Calls Tryz.prog 364 #[.agg #[.int .u8 0, .int .u8 0, .int .u8 0, .int .u8 1, .int .u64 1]] w fun e w' => e = .returned (.string (txt (dotk 1))) ∧ Stands w w' :=
  calls_val (C := ctx [] []) (σ0 := fun _ => none) (v := .str (dotk 1)) (args := [.agg [.int .u8 0, .int .u8 0, .int .u8 0, .int .u8 1, .int .u64 1]]) (xs := [.agg #[.int .u8 0, .int .u8 0, .int .u8 0, .int .u8 1, .int .u64 1]]) (k := 0) (n := 1000) (ctx_ok [] no_cons) mixed (by rw [← runF_eq]; kernel_rfl) (fun _ _ => rfl) rfl rfl
theorem dot2_any (w : World) : Calls Tryz.prog 364 #[.agg #[.int .u8 0, .int .u8 0, .int .u8 0, .int .u8 1, .int .u64 2]] w fun e w' => e = .returned (.string (txt (dotk 2))) ∧ Stands w w' :=
  calls_val (C := ctx [] []) (σ0 := fun _ => none) (v := .str (dotk 2)) (args := [.agg [.int .u8 0, .int .u8 0, .int .u8 0, .int .u8 1, .int .u64 2]]) (xs := [.agg #[.int .u8 0, .int .u8 0, .int .u8 0, .int .u8 1, .int .u64 2]]) (k := 0) (n := 1000) (ctx_ok [] no_cons) mixed (by rw [← runF_eq]; kernel_rfl) (fun _ _ => rfl) rfl rfl
theorem dot3_any (w : World) : Calls Tryz.prog 364 #[.agg #[.int .u8 0, .int .u8 0, .int .u8 0, .int .u8 1, .int .u64 3]] w fun e w' => e = .returned (.string (txt (dotk 3))) ∧ Stands w w' :=
  calls_val (C := ctx [] []) (σ0 := fun _ => none) (v := .str (dotk 3)) (args := [.agg [.int .u8 0, .int .u8 0, .int .u8 0, .int .u8 1, .int .u64 3]]) (xs := [.agg #[.int .u8 0, .int .u8 0, .int .u8 0, .int .u8 1, .int .u64 3]]) (k := 0) (n := 1000) (ctx_ok [] no_cons) mixed (by rw [← runF_eq]; kernel_rfl) (fun _ _ => rfl) rfl rfl
/-- the sizes that are let in -/
structure Sc (n e r : List UInt8) : Prop where
  n1 : 1 ≤ n.length
  n2 : n.length ≤ 40
  e1 : 1 ≤ e.length
  e2 : e.length ≤ 60
  r1 : 1 ≤ r.length
  r2 : r.length ≤ 60
theorem tx1_len (s : ByteArray) (h : s.size ≤ 1000) : (tx [s]).length ≤ 11 + s.size := by
  have := vr_short (n := s.size) (by omega); have e3 : s.data.toList.length = s.size := rfl; simp [tx, vb]; omega
theorem itm_len (e : List UInt8) (k : UInt8) (h1 : e.length ≤ 60) : (itm (txt e) (txt (dotk k)) ⟨#[]⟩).length ≤ 500 := by
  have a := tx1_len (txt e) (by rw [txt_size]; omega)
  have b := tx1_len ⟨#[]⟩ (by decide)
  rw [txt_size] at a
  have b' : (⟨#[]⟩ : ByteArray).size = 0 := rfl
  have c : (vb 1).length ≤ 11 := by have := vr_short (n := 1) (by omega); simpa [vb] using this
  have d : (txt (dotk k)).data.toList.length = 12 := rfl
  simp only [itm, List.length_append, d]; omega
section
variable {n e r : List UInt8}
theorem z0 (hs : Sc n e r) : 1 ≤ (txt n).size ∧ (txt n).size ≤ 40 := by
  obtain ⟨h1, h2, h3, h4, h5, h6⟩ := hs
  have a1 := ok_size n
  have a2 := ok_size e
  have a3 := ok_size r
  have c2 := esc_len e
  have c3 := esc_len r
  simp only [txt_size]
  omega
theorem z1 (hs : Sc n e r) : 1 ≤ (txt e).size ∧ (txt e).size ≤ 60 := by
  obtain ⟨h1, h2, h3, h4, h5, h6⟩ := hs
  have a1 := ok_size n
  have a2 := ok_size e
  have a3 := ok_size r
  have c2 := esc_len e
  have c3 := esc_len r
  simp only [txt_size]
  omega
theorem z2 (hs : Sc n e r) : 1 ≤ (txt r).size ∧ (txt r).size ≤ 60 := by
  obtain ⟨h1, h2, h3, h4, h5, h6⟩ := hs
  have a1 := ok_size n
  have a2 := ok_size e
  have a3 := ok_size r
  have c2 := esc_len e
  have c3 := esc_len r
  simp only [txt_size]
  omega
theorem z10 (hs : Sc n e r) : 2 ≤ (txt (ok n)).size ∧ (txt (ok n)).size ≤ 82 := by
  obtain ⟨h1, h2, h3, h4, h5, h6⟩ := hs
  have a1 := ok_size n
  have a2 := ok_size e
  have a3 := ok_size r
  have c2 := esc_len e
  have c3 := esc_len r
  simp only [txt_size]
  omega
theorem z11 (hs : Sc n e r) : 2 ≤ (txt (ok e)).size ∧ (txt (ok e)).size ≤ 122 := by
  obtain ⟨h1, h2, h3, h4, h5, h6⟩ := hs
  have a1 := ok_size n
  have a2 := ok_size e
  have a3 := ok_size r
  have c2 := esc_len e
  have c3 := esc_len r
  simp only [txt_size]
  omega
theorem z12 (hs : Sc n e r) : 2 ≤ (txt (ok r)).size ∧ (txt (ok r)).size ≤ 122 := by
  obtain ⟨h1, h2, h3, h4, h5, h6⟩ := hs
  have a1 := ok_size n
  have a2 := ok_size e
  have a3 := ok_size r
  have c2 := esc_len e
  have c3 := esc_len r
  simp only [txt_size]
  omega
theorem z20 (hs : Sc n e r) : 3 ≤ (txt (111 :: ok n)).size ∧ (txt (111 :: ok n)).size ≤ 83 := by
  obtain ⟨h1, h2, h3, h4, h5, h6⟩ := hs
  have a1 := ok_size n
  have a2 := ok_size e
  have a3 := ok_size r
  have c2 := esc_len e
  have c3 := esc_len r
  simp only [txt_size, List.length_cons]
  omega
theorem z30 (hs : Sc n e r) : 4 ≤ (txt (key n [0])).size ∧ (txt (key n [0])).size ≤ 84 := by
  obtain ⟨h1, h2, h3, h4, h5, h6⟩ := hs
  have a1 := ok_size n
  have a2 := ok_size e
  have a3 := ok_size r
  have c2 := esc_len e
  have c3 := esc_len r
  simp only [txt_size, key, List.length_cons, List.length_append, List.length_nil]
  omega
theorem z31 (hs : Sc n e r) : 4 ≤ (txt (key n [1])).size ∧ (txt (key n [1])).size ≤ 84 := by
  obtain ⟨h1, h2, h3, h4, h5, h6⟩ := hs
  have a1 := ok_size n
  have a2 := ok_size e
  have a3 := ok_size r
  have c2 := esc_len e
  have c3 := esc_len r
  simp only [txt_size, key, List.length_cons, List.length_append, List.length_nil]
  omega
theorem z32 (hs : Sc n e r) : 4 ≤ (txt (key n [2])).size ∧ (txt (key n [2])).size ≤ 84 := by
  obtain ⟨h1, h2, h3, h4, h5, h6⟩ := hs
  have a1 := ok_size n
  have a2 := ok_size e
  have a3 := ok_size r
  have c2 := esc_len e
  have c3 := esc_len r
  simp only [txt_size, key, List.length_cons, List.length_append, List.length_nil]
  omega
theorem z33 (hs : Sc n e r) : 4 ≤ (txt (key n [3])).size ∧ (txt (key n [3])).size ≤ 84 := by
  obtain ⟨h1, h2, h3, h4, h5, h6⟩ := hs
  have a1 := ok_size n
  have a2 := ok_size e
  have a3 := ok_size r
  have c2 := esc_len e
  have c3 := esc_len r
  simp only [txt_size, key, List.length_cons, List.length_append, List.length_nil]
  omega
theorem z50 (hs : Sc n e r) : 4 ≤ (txt (key n (sf e 1 []))).size ∧ (txt (key n (sf e 1 []))).size ≤ 230 := by
  obtain ⟨h1, h2, h3, h4, h5, h6⟩ := hs
  have a1 := ok_size n
  have a2 := ok_size e
  have a3 := ok_size r
  have c2 := esc_len e
  have c3 := esc_len r
  simp only [txt_size, key, sf, List.length_cons, List.length_append, List.length_nil]
  omega
theorem z51 (hs : Sc n e r) : 4 ≤ (txt (key n (sf r 1 []))).size ∧ (txt (key n (sf r 1 []))).size ≤ 230 := by
  obtain ⟨h1, h2, h3, h4, h5, h6⟩ := hs
  have a1 := ok_size n
  have a2 := ok_size e
  have a3 := ok_size r
  have c2 := esc_len e
  have c3 := esc_len r
  simp only [txt_size, key, sf, List.length_cons, List.length_append, List.length_nil]
  omega
theorem z52 (hs : Sc n e r) : 4 ≤ (txt (key n (sf e 2 []))).size ∧ (txt (key n (sf e 2 []))).size ≤ 230 := by
  obtain ⟨h1, h2, h3, h4, h5, h6⟩ := hs
  have a1 := ok_size n
  have a2 := ok_size e
  have a3 := ok_size r
  have c2 := esc_len e
  have c3 := esc_len r
  simp only [txt_size, key, sf, List.length_cons, List.length_append, List.length_nil]
  omega
theorem z53 (hs : Sc n e r) : 4 ≤ (txt (key n (sC e))).size ∧ (txt (key n (sC e))).size ≤ 230 := by
  obtain ⟨h1, h2, h3, h4, h5, h6⟩ := hs
  have a1 := ok_size n
  have a2 := ok_size e
  have a3 := ok_size r
  have c2 := esc_len e
  have c3 := esc_len r
  simp only [txt_size, key, sC, List.length_cons, List.length_append, List.length_nil]
  omega
theorem z54 (hs : Sc n e r) : 4 ≤ (txt (key n (sf r 2 []))).size ∧ (txt (key n (sf r 2 []))).size ≤ 230 := by
  obtain ⟨h1, h2, h3, h4, h5, h6⟩ := hs
  have a1 := ok_size n
  have a2 := ok_size e
  have a3 := ok_size r
  have c2 := esc_len e
  have c3 := esc_len r
  simp only [txt_size, key, sf, List.length_cons, List.length_append, List.length_nil]
  omega
theorem z55 (hs : Sc n e r) : 4 ≤ (txt (key n (sC r))).size ∧ (txt (key n (sC r))).size ≤ 230 := by
  obtain ⟨h1, h2, h3, h4, h5, h6⟩ := hs
  have a1 := ok_size n
  have a2 := ok_size e
  have a3 := ok_size r
  have c2 := esc_len e
  have c3 := esc_len r
  simp only [txt_size, key, sC, List.length_cons, List.length_append, List.length_nil]
  omega
theorem z60 (hs : Sc n e r) : 4 ≤ (txt (key n (sf e 1 (dotk 1)))).size ∧ (txt (key n (sf e 1 (dotk 1)))).size ≤ 230 := by
  obtain ⟨h1, h2, h3, h4, h5, h6⟩ := hs
  have a1 := ok_size n
  have a2 := ok_size e
  have a3 := ok_size r
  have c2 := esc_len e
  have c3 := esc_len r
  simp only [txt_size, key, sf, dotk, List.length_cons, List.length_append, List.length_nil]
  omega
theorem z61 (hs : Sc n e r) : 4 ≤ (txt (key n (sf r 1 (dotk 2)))).size ∧ (txt (key n (sf r 1 (dotk 2)))).size ≤ 230 := by
  obtain ⟨h1, h2, h3, h4, h5, h6⟩ := hs
  have a1 := ok_size n
  have a2 := ok_size e
  have a3 := ok_size r
  have c2 := esc_len e
  have c3 := esc_len r
  simp only [txt_size, key, sf, dotk, List.length_cons, List.length_append, List.length_nil]
  omega
theorem z62 (hs : Sc n e r) : 4 ≤ (txt (key n (sf e 1 (dotk 3)))).size ∧ (txt (key n (sf e 1 (dotk 3)))).size ≤ 230 := by
  obtain ⟨h1, h2, h3, h4, h5, h6⟩ := hs
  have a1 := ok_size n
  have a2 := ok_size e
  have a3 := ok_size r
  have c2 := esc_len e
  have c3 := esc_len r
  simp only [txt_size, key, sf, dotk, List.length_cons, List.length_append, List.length_nil]
  omega
theorem z63 (hs : Sc n e r) : 4 ≤ (txt (key n (sf e 1 (dotk 2)))).size ∧ (txt (key n (sf e 1 (dotk 2)))).size ≤ 230 := by
  obtain ⟨h1, h2, h3, h4, h5, h6⟩ := hs
  have a1 := ok_size n
  have a2 := ok_size e
  have a3 := ok_size r
  have c2 := esc_len e
  have c3 := esc_len r
  simp only [txt_size, key, sf, dotk, List.length_cons, List.length_append, List.length_nil]
  omega
theorem z100 (hs : Sc n e r) : 3 ≤ (txt (ok n ++ sf e 1 (dotk 1))).size ∧ (txt (ok n ++ sf e 1 (dotk 1))).size ≤ 300 := by
  obtain ⟨h1, h2, h3, h4, h5, h6⟩ := hs
  have a1 := ok_size n
  have a2 := ok_size e
  have a3 := ok_size r
  have c2 := esc_len e
  have c3 := esc_len r
  simp only [txt_size, sf, dotk, List.length_cons, List.length_append, List.length_nil]
  omega
theorem z101 (hs : Sc n e r) : 3 ≤ (txt (ok n ++ sf r 1 (dotk 2))).size ∧ (txt (ok n ++ sf r 1 (dotk 2))).size ≤ 300 := by
  obtain ⟨h1, h2, h3, h4, h5, h6⟩ := hs
  have a1 := ok_size n
  have a2 := ok_size e
  have a3 := ok_size r
  have c2 := esc_len e
  have c3 := esc_len r
  simp only [txt_size, sf, dotk, List.length_cons, List.length_append, List.length_nil]
  omega
theorem z102 (hs : Sc n e r) : 3 ≤ (txt (ok n ++ sf e 1 (dotk 3))).size ∧ (txt (ok n ++ sf e 1 (dotk 3))).size ≤ 300 := by
  obtain ⟨h1, h2, h3, h4, h5, h6⟩ := hs
  have a1 := ok_size n
  have a2 := ok_size e
  have a3 := ok_size r
  have c2 := esc_len e
  have c3 := esc_len r
  simp only [txt_size, sf, dotk, List.length_cons, List.length_append, List.length_nil]
  omega
theorem z103 (hs : Sc n e r) : 3 ≤ (txt (ok n ++ sf e 1 (dotk 2))).size ∧ (txt (ok n ++ sf e 1 (dotk 2))).size ≤ 300 := by
  obtain ⟨h1, h2, h3, h4, h5, h6⟩ := hs
  have a1 := ok_size n
  have a2 := ok_size e
  have a3 := ok_size r
  have c2 := esc_len e
  have c3 := esc_len r
  simp only [txt_size, sf, dotk, List.length_cons, List.length_append, List.length_nil]
  omega
theorem z110 (hs : Sc n e r) : 3 ≤ (txt (sf e 1 (dotk 1))).size ∧ (txt (sf e 1 (dotk 1))).size ≤ 200 := by
  obtain ⟨h1, h2, h3, h4, h5, h6⟩ := hs
  have a1 := ok_size n
  have a2 := ok_size e
  have a3 := ok_size r
  have c2 := esc_len e
  have c3 := esc_len r
  simp only [txt_size, sf, dotk, List.length_cons, List.length_append, List.length_nil]
  omega
theorem z111 (hs : Sc n e r) : 3 ≤ (txt (sf r 1 (dotk 2))).size ∧ (txt (sf r 1 (dotk 2))).size ≤ 200 := by
  obtain ⟨h1, h2, h3, h4, h5, h6⟩ := hs
  have a1 := ok_size n
  have a2 := ok_size e
  have a3 := ok_size r
  have c2 := esc_len e
  have c3 := esc_len r
  simp only [txt_size, sf, dotk, List.length_cons, List.length_append, List.length_nil]
  omega
theorem z112 (hs : Sc n e r) : 3 ≤ (txt (sf e 1 (dotk 3))).size ∧ (txt (sf e 1 (dotk 3))).size ≤ 200 := by
  obtain ⟨h1, h2, h3, h4, h5, h6⟩ := hs
  have a1 := ok_size n
  have a2 := ok_size e
  have a3 := ok_size r
  have c2 := esc_len e
  have c3 := esc_len r
  simp only [txt_size, sf, dotk, List.length_cons, List.length_append, List.length_nil]
  omega
theorem z113 (hs : Sc n e r) : 3 ≤ (txt (sf e 1 (dotk 2))).size ∧ (txt (sf e 1 (dotk 2))).size ≤ 200 := by
  obtain ⟨h1, h2, h3, h4, h5, h6⟩ := hs
  have a1 := ok_size n
  have a2 := ok_size e
  have a3 := ok_size r
  have c2 := esc_len e
  have c3 := esc_len r
  simp only [txt_size, sf, dotk, List.length_cons, List.length_append, List.length_nil]
  omega
theorem z120 (hs : Sc n e r) : 2 ≤ (txt (esc e ++ 0 :: 1 :: (dotk 1))).size ∧ (txt (esc e ++ 0 :: 1 :: (dotk 1))).size ≤ 200 := by
  obtain ⟨h1, h2, h3, h4, h5, h6⟩ := hs
  have a1 := ok_size n
  have a2 := ok_size e
  have a3 := ok_size r
  have c2 := esc_len e
  have c3 := esc_len r
  simp only [txt_size, dotk, List.length_cons, List.length_append, List.length_nil]
  omega
theorem z121 (hs : Sc n e r) : 2 ≤ (txt (esc r ++ 0 :: 1 :: (dotk 2))).size ∧ (txt (esc r ++ 0 :: 1 :: (dotk 2))).size ≤ 200 := by
  obtain ⟨h1, h2, h3, h4, h5, h6⟩ := hs
  have a1 := ok_size n
  have a2 := ok_size e
  have a3 := ok_size r
  have c2 := esc_len e
  have c3 := esc_len r
  simp only [txt_size, dotk, List.length_cons, List.length_append, List.length_nil]
  omega
theorem z122 (hs : Sc n e r) : 2 ≤ (txt (esc e ++ 0 :: 1 :: (dotk 3))).size ∧ (txt (esc e ++ 0 :: 1 :: (dotk 3))).size ≤ 200 := by
  obtain ⟨h1, h2, h3, h4, h5, h6⟩ := hs
  have a1 := ok_size n
  have a2 := ok_size e
  have a3 := ok_size r
  have c2 := esc_len e
  have c3 := esc_len r
  simp only [txt_size, dotk, List.length_cons, List.length_append, List.length_nil]
  omega
theorem z123 (hs : Sc n e r) : 2 ≤ (txt (esc e ++ 0 :: 1 :: (dotk 2))).size ∧ (txt (esc e ++ 0 :: 1 :: (dotk 2))).size ≤ 200 := by
  obtain ⟨h1, h2, h3, h4, h5, h6⟩ := hs
  have a1 := ok_size n
  have a2 := ok_size e
  have a3 := ok_size r
  have c2 := esc_len e
  have c3 := esc_len r
  simp only [txt_size, dotk, List.length_cons, List.length_append, List.length_nil]
  omega
theorem z104 (hs : Sc n e r) : 0 ≤ (txt (tx [txt n])).size ∧ (txt (tx [txt n])).size ≤ 60 := by
  have a := tx1_len (txt n) (by rw [txt_size]; have := hs.n2; omega)
  have h2 := hs.n2
  rw [txt_size] at a
  simp only [txt_size]
  omega
theorem z105 (hs : Sc n e r) : 0 ≤ (txt (1 :: tx [txt n])).size ∧ (txt (1 :: tx [txt n])).size ≤ 61 := by
  have a := tx1_len (txt n) (by rw [txt_size]; have := hs.n2; omega)
  have h2 := hs.n2
  rw [txt_size] at a
  simp only [txt_size, List.length_cons]
  omega
end
end Go.Proofs.YtckjnglhbjiklaaGreatDoor.Wk
